/- Values: what they are over plain cells; how two stand. -/
import Derived.Test.YtinojffgmgjblaaGreatDoorBytes
set_option linter.unusedVariables false
set_option linter.unusedSimpArgs false
namespace Go.Proofs.YtinojffgmgjblaaGreatDoor
open Go Go.AM Go.RowKit
inductive Val where
  | mk (kind n : Int) (s : List UInt8) (l : List Val)
def Val.kind : Val → Int
  | .mk k _ _ _ => k
def Val.n : Val → Int
  | .mk _ n _ _ => n
def Val.s : Val → List UInt8
  | .mk _ _ s _ => s
def Val.l : Val → List Val
  | .mk _ _ _ l => l
def I64 (x : Int) : Prop := -9223372036854775808 ≤ x ∧ x ≤ 9223372036854775807
inductive VC : Val → List PV → Prop
  | nil (k n : Int) (s : List UInt8) (hk : I64 k) (hn : I64 n) (hs : s.length ≤ 140737488355328) : VC (.mk k n s []) [.int .i64 k, .int .i64 n, .str s, .nilSl]
  | sl (k n : Int) (s : List UInt8) (l : List Val) (xs : List (List PV)) (full : Bool) (hk : I64 k) (hn : I64 n) (hs : s.length ≤ 140737488355328) (hb : l.length ≤ 140737488355328) (hl : xs.length = l.length)
      (h : ∀ (j : Nat) (v : Val) (cs : List PV), l[j]? = some v → xs[j]? = some cs → VC v cs) : VC (.mk k n s l) [.int .i64 k, .int .i64 n, .str s, .sl xs full]
theorem VC.pl {v : Val} {cs : List PV} (h : VC v cs) : ∀ c ∈ cs, Pl c := by
  induction h with
  | nil k n s => exact pl_cons (.int _ _) (pl_cons (.int _ _) (pl_cons (.str _) (pl_cons .nilSl pl_nil)))
  | sl k n s l xs full hk hn hs hb hl h ih =>
    refine pl_cons (.int _ _) (pl_cons (.int _ _) (pl_cons (.str _) (pl_cons (.sl _ _ fun cs hcs c hc => ?_) pl_nil)))
    obtain ⟨j, hj⟩ := List.getElem?_of_mem hcs
    have hlt : j < l.length := by have := (List.getElem?_eq_some_iff.1 hj).1; omega
    exact ih j l[j] cs (List.getElem?_eq_getElem hlt) hj c hc
def cmpI (a b : Int) : Int := if a < b then -1 else if b < a then 1 else 0
theorem run_num2 (a b : Int) : T.R (.call n_rambleref02_num [.int .i64 a, .int .i64 b] (.int .i64 (cmpI a b))) := by
  refine call_V rfl rfl ?_
  repeat' first | refine V_O rfl ?_ | refine O_step rfl ?_ | refine O_nil' ?_ | refine V_cT rfl rfl ?_ | refine V_cF rfl rfl ?_ | refine V_cEq rfl rfl ?_ | refine V_cNe rfl rfl ?_ | refine V_cB rfl rfl (fun _ => ?_) (fun _ => ?_) | refine O_gT' rfl ?_ | refine O_gU' rfl ?_ | refine O_gF' rfl rfl ?_ | refine O_gEq rfl ?_ | refine O_gNe rfl ?_ | refine O_gS rfl (fun _ => ?_) (fun _ => ?_) | refine V_fA rfl rfl ?_ | refine V_fAN rfl rfl ?_ | refine V_D rfl ?_ | refine D_step rfl ?_ | refine D_nil' ?_ | refine D_gT' rfl ?_ | refine D_gU' rfl ?_ | refine D_gF' rfl rfl ?_ | refine D_gS rfl (fun _ => ?_) (fun _ => ?_)
  all_goals simp only [decide_eq_true_eq, decide_eq_false_iff_not] at *
  all_goals unfold cmpI
  all_goals simp [*]
def cmpS : List UInt8 → List UInt8 → Int
  | [], [] => 0
  | [], _ :: _ => -1
  | _ :: _, [] => 1
  | a :: x, b :: y => if a = b then cmpS x y else cmpI a.toNat b.toNat
theorem cmpS_pre : ∀ (p x y : List UInt8), cmpS (p ++ x) (p ++ y) = cmpS x y
  | [], x, y => rfl
  | a :: p, x, y => by simp only [List.cons_append, cmpS, if_true]; exact cmpS_pre p x y
def textP (a b : List UInt8) : EX → EC → St → Prop := fun x e' st' => st' = emptySt ∧ ((x = .exit 0 ∧ e' = .put 0 (.str a) (.put 1 (.str b) .nil) ∧ cmpI a.length b.length = cmpS a b) ∨ (x = .ret ∧ e' = .put 4 (.int .i64 (cmpS a b)) .nil))
theorem text_loop (a b : List UInt8) (hla : a.length ≤ 9223372036854775806) : ∀ (ra rb pre : List UInt8) (e : EC), a = pre ++ ra → b = pre ++ rb → e.get 0 = some (.str a) → e.get 1 = some (.str b) → e.get 5 = some (.int .i64 pre.length) →
    V T (PE (textP a b)) [.code (.loop lp_rambleref02_text_0)] .normal e emptySt := by
  have out : ∀ (ra rb pre : List UInt8) (k : List Fr) (x : EX) (e' : EC), a = pre ++ ra → b = pre ++ rb → ra = [] ∨ rb = [] → adv 200 k x = ([], .exit 0) → e'.get 0 = some (.str a) → e'.get 1 = some (.str b) → V T (PE (textP a b)) k x e' emptySt := fun ra rb pre k x e' ha hb hn hadv g0 g1 =>
    V_less (.put 0 (.str a) (.put 1 (.str b) .nil)) (less_put g0 (less_put g1 less_nil)) (V_endP hadv ⟨rfl, .inl ⟨rfl, rfl, by
      rw [ha, hb, cmpS_pre]
      rcases hn with rfl | rfl
      · cases rb <;> simp [cmpS, cmpI] <;> omega
      · cases ra <;> simp [cmpS, cmpI] <;> omega⟩⟩)
  intro ra
  induction ra with
  | nil =>
    intro rb pre e ha hb h0 h1 h5
    refine V_less (.put 0 (.str a) (.put 1 (.str b) (.put 5 (.int .i64 pre.length) .nil))) (less_put h0 (less_put h1 (less_put h5 less_nil))) (V_unroll ?_)
    repeat' first | refine out [] rb pre _ _ _ ha hb (.inl rfl) rfl rfl rfl | refine V_O rfl ?_ | refine O_step rfl ?_ | refine O_nil' ?_ | refine V_cT rfl rfl ?_ | refine V_cF rfl rfl ?_ | refine V_cEq rfl rfl ?_ | refine V_cNe rfl rfl ?_ | refine V_cB rfl rfl (fun _ => ?_) (fun _ => ?_) | refine O_gT' rfl ?_ | refine O_gU' rfl ?_ | refine O_gF' rfl rfl ?_ | refine O_gEq rfl ?_ | refine O_gNe rfl ?_ | refine O_gS rfl (fun _ => ?_) (fun _ => ?_) | refine V_fA rfl rfl ?_ | refine V_fAN rfl rfl ?_ | refine V_D rfl ?_ | refine D_step rfl ?_ | refine D_nil' ?_ | refine D_gT' rfl ?_ | refine D_gU' rfl ?_ | refine D_gF' rfl rfl ?_ | refine D_gS rfl (fun _ => ?_) (fun _ => ?_)
    all_goals (exfalso; subst ha; simp at *)
  | cons y ra ih =>
    intro rb pre e ha hb h0 h1 h5
    refine V_less (.put 0 (.str a) (.put 1 (.str b) (.put 5 (.int .i64 pre.length) .nil))) (less_put h0 (less_put h1 (less_put h5 less_nil))) (V_unroll ?_)
    cases rb with
    | nil =>
      repeat' first | refine out (y :: ra) [] pre _ _ _ ha hb (.inr rfl) rfl rfl rfl | refine V_O rfl ?_ | refine O_step rfl ?_ | refine O_nil' ?_ | refine V_cT rfl rfl ?_ | refine V_cF rfl rfl ?_ | refine V_cEq rfl rfl ?_ | refine V_cNe rfl rfl ?_ | refine V_cB rfl rfl (fun _ => ?_) (fun _ => ?_) | refine O_gT' rfl ?_ | refine O_gU' rfl ?_ | refine O_gF' rfl rfl ?_ | refine O_gEq rfl ?_ | refine O_gNe rfl ?_ | refine O_gS rfl (fun _ => ?_) (fun _ => ?_) | refine V_fA rfl rfl ?_ | refine V_fAN rfl rfl ?_ | refine V_D rfl ?_ | refine D_step rfl ?_ | refine D_nil' ?_ | refine D_gT' rfl ?_ | refine D_gU' rfl ?_ | refine D_gF' rfl rfl ?_ | refine D_gS rfl (fun _ => ?_) (fun _ => ?_)
      all_goals (exfalso; subst hb; simp at *)
    | cons z rb =>
      have hy : a[(pre.length : Int).toNat]? = some y := by subst ha; simp
      have hz : b[(pre.length : Int).toNat]? = some z := by subst hb; simp
      by_cases hyz : y = z
      · subst hyz
        have fin : ∀ (k : List Fr) (x : EX) (e' : EC), adv 200 k x = ([.code (.loop lp_rambleref02_text_0)], .normal) → e'.get 0 = some (.str a) → e'.get 1 = some (.str b) → e'.get 5 = some (.int .i64 (IntKind.i64.wrap (pre.length + 1))) → V T (PE (textP a b)) k x e' emptySt := fun k x e' hadv g0 g1 g5 => V_adv hadv (by
          have hlt : pre.length < a.length := by subst ha; simp
          have hw : IntKind.i64.wrap (pre.length + 1) = ((pre ++ [y]).length : Int) := by rw [wrap_i64]; simp; omega
          rw [hw] at g5
          exact ih rb (pre ++ [y]) e' (by rw [ha]; simp) (by rw [hb]; simp) g0 g1 g5)
        repeat' first | refine D_chr y rfl rfl (by omega) hy ?_ | refine D_chr y rfl rfl (by omega) hz ?_ | refine fin _ _ _ rfl rfl rfl rfl | refine V_O rfl ?_ | refine O_step rfl ?_ | refine O_nil' ?_ | refine V_cT rfl rfl ?_ | refine V_cF rfl rfl ?_ | refine V_cEq rfl rfl ?_ | refine V_cNe rfl rfl ?_ | refine V_cB rfl rfl (fun _ => ?_) (fun _ => ?_) | refine O_gT' rfl ?_ | refine O_gU' rfl ?_ | refine O_gF' rfl rfl ?_ | refine O_gEq rfl ?_ | refine O_gNe rfl ?_ | refine O_gS rfl (fun _ => ?_) (fun _ => ?_) | refine V_fA rfl rfl ?_ | refine V_fAN rfl rfl ?_ | refine V_D rfl ?_ | refine D_step rfl ?_ | refine D_nil' ?_ | refine D_gT' rfl ?_ | refine D_gU' rfl ?_ | refine D_gF' rfl rfl ?_ | refine D_gS rfl (fun _ => ?_) (fun _ => ?_)
        all_goals (exfalso; subst ha hb; simp at *; omega)
      · have hne : ((y.toNat : Int) = z.toNat) = False := by
          refine eq_false fun h => hyz ?_
          exact UInt8.toNat_inj.1 (by omega)
        have hcm : cmpS a b = cmpI y.toNat z.toNat := by rw [ha, hb, cmpS_pre]; simp [cmpS, hyz]
        have h8 : ∀ c : UInt8, IntKind.i64.wrap (c.toNat : Int) = c.toNat := fun c => by have := c.toNat_lt; rw [wrap_i64]; omega
        have hnum := run_num2 (IntKind.i64.wrap y.toNat) (IntKind.i64.wrap z.toNat)
        rw [h8 y, h8 z, ← hcm] at hnum
        have hnum' : T.R (.call n_rambleref02_num [.int .i64 (IntKind.i64.wrap y.toNat), .int .i64 (IntKind.i64.wrap z.toNat)] (.int .i64 (cmpS a b))) := by rw [h8 y, h8 z]; exact hnum
        repeat' first | refine D_chr y rfl rfl (by omega) hy ?_ | refine D_chr z rfl rfl (by omega) hz ?_ | refine D_cA rfl rfl hnum' ?_ | exact V_less (.put 4 (.int .i64 (cmpS a b)) .nil) (less_put rfl less_nil) (V_endP rfl ⟨rfl, .inr ⟨rfl, rfl⟩⟩) | refine V_O rfl ?_ | refine O_step rfl ?_ | refine O_nil' ?_ | refine V_cT rfl rfl ?_ | refine V_cF rfl rfl ?_ | refine V_cEq rfl rfl ?_ | refine V_cNe rfl rfl ?_ | refine V_cB rfl rfl (fun _ => ?_) (fun _ => ?_) | refine O_gT' rfl ?_ | refine O_gU' rfl ?_ | refine O_gF' rfl rfl ?_ | refine O_gEq rfl ?_ | refine O_gNe rfl ?_ | refine O_gS rfl (fun _ => ?_) (fun _ => ?_) | refine V_fA rfl rfl ?_ | refine V_fAN rfl rfl ?_ | refine V_D rfl ?_ | refine D_step rfl ?_ | refine D_nil' ?_ | refine D_gT' rfl ?_ | refine D_gU' rfl ?_ | refine D_gF' rfl rfl ?_ | refine D_gS rfl (fun _ => ?_) (fun _ => ?_)
        all_goals clear ih out hnum hnum'
        all_goals (exfalso; subst ha hb; simp at *; omega)
theorem run_text2 (a b : List UInt8) (hla : a.length ≤ 9223372036854775806) : T.R (.call n_rambleref02_text [.str a, .str b] (.int .i64 (cmpS a b))) := by
  have hnum := run_num2 (a.length : Int) (b.length : Int)
  refine call_V rfl rfl ?_
  repeat' first | refine V_O rfl ?_ | refine O_step rfl ?_ | refine O_nil' ?_ | refine V_cT rfl rfl ?_ | refine V_cF rfl rfl ?_ | refine V_cEq rfl rfl ?_ | refine V_cNe rfl rfl ?_ | refine V_cB rfl rfl (fun _ => ?_) (fun _ => ?_) | refine O_gT' rfl ?_ | refine O_gU' rfl ?_ | refine O_gF' rfl rfl ?_ | refine O_gEq rfl ?_ | refine O_gNe rfl ?_ | refine O_gS rfl (fun _ => ?_) (fun _ => ?_) | refine V_fA rfl rfl ?_ | refine V_fAN rfl rfl ?_ | refine V_D rfl ?_ | refine D_step rfl ?_ | refine D_nil' ?_ | refine D_gT' rfl ?_ | refine D_gU' rfl ?_ | refine D_gF' rfl rfl ?_ | refine D_gS rfl (fun _ => ?_) (fun _ => ?_)
  refine V_cutA rfl (text_loop a b hla a b [] _ rfl rfl rfl rfl rfl) ?_
  rintro x e' st' ⟨rfl, ⟨rfl, rfl, hc⟩ | ⟨rfl, rfl⟩⟩
  · repeat' first | refine O_cA rfl rfl hnum ?_ | refine V_O rfl ?_ | refine O_step rfl ?_ | refine O_nil' ?_ | refine V_cT rfl rfl ?_ | refine V_cF rfl rfl ?_ | refine V_cEq rfl rfl ?_ | refine V_cNe rfl rfl ?_ | refine V_cB rfl rfl (fun _ => ?_) (fun _ => ?_) | refine O_gT' rfl ?_ | refine O_gU' rfl ?_ | refine O_gF' rfl rfl ?_ | refine O_gEq rfl ?_ | refine O_gNe rfl ?_ | refine O_gS rfl (fun _ => ?_) (fun _ => ?_) | refine V_fA rfl rfl ?_ | refine V_fAN rfl rfl ?_ | refine V_D rfl ?_ | refine D_step rfl ?_ | refine D_nil' ?_ | refine D_gT' rfl ?_ | refine D_gU' rfl ?_ | refine D_gF' rfl rfl ?_ | refine D_gS rfl (fun _ => ?_) (fun _ => ?_)
    rw [hc]
  · repeat' first | refine V_O rfl ?_ | refine O_step rfl ?_ | refine O_nil' ?_ | refine V_cT rfl rfl ?_ | refine V_cF rfl rfl ?_ | refine V_cEq rfl rfl ?_ | refine V_cNe rfl rfl ?_ | refine V_cB rfl rfl (fun _ => ?_) (fun _ => ?_) | refine O_gT' rfl ?_ | refine O_gU' rfl ?_ | refine O_gF' rfl rfl ?_ | refine O_gEq rfl ?_ | refine O_gNe rfl ?_ | refine O_gS rfl (fun _ => ?_) (fun _ => ?_) | refine V_fA rfl rfl ?_ | refine V_fAN rfl rfl ?_ | refine V_D rfl ?_ | refine D_step rfl ?_ | refine D_nil' ?_ | refine D_gT' rfl ?_ | refine D_gU' rfl ?_ | refine D_gF' rfl rfl ?_ | refine D_gS rfl (fun _ => ?_) (fun _ => ?_)
    rfl
end Go.Proofs.YtinojffgmgjblaaGreatDoor
