/- slices.IndexFunc and ContainsFunc, over elements of any size. -/
import Derived.Test.YtinojffgmgjblaaGreatDoorAmZ
set_option linter.unusedVariables false
set_option linter.unusedSimpArgs false
namespace Go.Proofs.YtinojffgmgjblaaGreatDoor
open Go Go.AM Go.RowKit
def ixLoop (sz : Nat) (agg : Bool) : PC := (.seq (.ops [(.mk (some 9) none (.bin .lss (.t 8) (.t 7)))] []) (.seq (.cond (.t 9) .skip (.exit 0)) (.seq (.block 1 (.seq (.ops [(.mk (some 10) none (.move (.t 8))), (.mk (some 5) none (.move (.t 10)))] [10]) (.seq (.ops [(.mk (some 11) none (.move (.t 1))), (.mk (some 12) none (.move (.t 0))), (.mk (some 13) none (.move (.t 5))), (.mk (some 14) none (.indexS (.t 12) (.t 13) sz)), (.mk (some 15) none (.load sz agg (.t 14))), (.mk (some 16) none (.call (.t 11) [(.t 15)]))] [11, 12, 13, 14, 15]) (.cond (.t 16) (.seq (.ops [(.mk (some 17) none (.move (.t 5))), (.mk (some 4) none (.move (.t 17)))] [17]) .ret) .skip)))) (.ops [(.mk (some 18) none (.bin .add (.t 8) (.c (.int .i64 (1))))), (.mk (some 8) none (.move (.t 18)))] [18]))))
def ixPF (sz : Nat) (agg : Bool) : PF := ⟨19, [(.tmp 4)], (.seq (.ops [(.mk (some 4) none (.move (.c (.int .i64 (0)))))] []) (.seq (.seq (.ops [(.mk (some 6) none (.move (.t 0))), (.mk (some 7) none (.len false (.t 6))), (.mk (some 8) none (.move (.c (.int .i64 (0)))))] [6]) (.block 0 (.loop (ixLoop sz agg)))) (.seq (.ops [(.mk (some 4) none (.move (.c (.int .i64 (-1)))))] []) .ret)))⟩
def ctPF (f : Nat) : PF := ⟨9, [(.tmp 4)], (.seq (.ops [(.mk (some 4) none (.move (.c (.bool false))))] []) (.seq (.ops [(.mk (some 5) none (.move (.t 0))), (.mk (some 6) none (.move (.t 1))), (.mk (some 7) none (.call (.c (.func f [])) [(.t 5), (.t 6)])), (.mk (some 8) none (.bin .geq (.t 7) (.c (.int .i64 (0))))), (.mk (some 4) none (.move (.t 8)))] [5, 6, 7, 8]) .ret))⟩
def idxG {α : Type} (P : α → Bool) : List α → Nat → Int
  | [], _ => -1
  | v :: r, i => if P v then i else idxG P r (i + 1)
theorem idxG_any {α : Type} (P : α → Bool) : ∀ (l : List α) (i : Nat), decide (0 ≤ idxG P l i) = l.any P
  | [], i => by simp [idxG]
  | v :: r, i => by
    unfold idxG
    have := idxG_any P r (i + 1)
    cases h : P v with
    | true => simp [h]
    | false => simp [h, this]
section
variable {T : Tb} {Q : Post} {k : List Fr} {ρ : EC} {st : St} {l : List POp} {kill : List Nat}
theorem O_loadG {d : Option Nat} {x : Opd} {n : Nat} {agg : Bool} {p v : PV} (hx : x.get ρ = some p) (hl : loadAt st.get n agg p = some v) (h : VO T Q l kill k (ρ.sets d v) st) : VO T Q (⟨d, none, .load n agg x⟩ :: l) kill k ρ st :=
  O_step (by simp only [stepQ, get1, hx]; exact hl) h
end
section
variable {T : Tb} {Q : Post} {k : List Fr} {ρ : EC} {st : St}
theorem V_cS {x : EX} {k' : List Fr} {n : Nat} {a b : PC} {t : Bool} (ha : adv 200 k x = (.code (.cond (.t n) a b) :: k', .normal)) (hc : ρ.get n = some (.bool t)) (h1 : t = true → V T Q (.code a :: k') .normal (.put n (.bool true) ρ) st) (h2 : t = false → V T Q (.code b :: k') .normal (.put n (.bool false) ρ) st) : V T Q k x ρ st := by
  have up : ∀ r, Sub ρ r → Sub (.put n (.bool t) ρ) r := fun r hr m p hm => by
    simp only [EC.get] at hm
    split at hm
    · rename_i e
      have e' := Nat.eq_of_beq_eq_true e
      subst e'
      rw [← hm]
      exact hr _ _ hc
    · exact hr _ _ hm
  cases t with
  | true => exact V_cT ha hc (fun r hr => h1 rfl r (up r hr))
  | false => exact V_cF ha hc (fun r hr => h2 rfl r (up r hr))
end
section
variable {T : Tb} {α : Type} {R : α → List PV → Prop} {P : α → Bool} {sz : Nat} {agg : Bool} {val : List PV → PV} {g : Nat} {caps : List PV} {l : List α} {p : PV}
theorem ix_loop (hp : LR R p l) (hs : ∀ a cs, R a cs → cs.length = sz) (hld : ∀ a cs, R a cs → loadAt emptySt.get sz agg (.iptr cs 0) = some (val cs)) (hpv : ∀ a cs, R a cs → Pl (val cs)) (plc : ∀ c ∈ caps, Pl c)
    (hm : ∀ a ∈ l, ∀ cs, R a cs → T.R (.call g (val cs :: caps) (.bool (P a)))) :
    ∀ (ra pre : List α), l = pre ++ ra →
    V T (PE fun x e st' => st' = emptySt ∧ ((x = .exit 0 ∧ idxG P ra pre.length = -1) ∨ (x = .ret ∧ e = ecOf [(4, .int .i64 (idxG P ra pre.length))]))) [.code (.loop (ixLoop sz agg))] .normal (ecOf [(0, p), (1, .func g caps), (7, .int .i64 l.length), (8, .int .i64 pre.length)]) emptySt := by
  obtain ⟨lp1, lp2, lp3⟩ := hp.len
  intro ra
  induction ra with
  | nil =>
    intro pre ha
    have hlt : ¬ (pre.length : Int) < l.length := by subst ha; simp
    refine V_unroll ?_
    repeat' first | refine V_cHF rfl rfl hlt ?_ | refine V_out [] rfl trivial ⟨rfl, .inl ⟨rfl, rfl⟩⟩ | refine V_O rfl ?_ | refine O_step rfl ?_ | refine O_nil' ?_ | refine V_cT rfl rfl ?_ | refine V_cF rfl rfl ?_ | refine V_cEq rfl rfl ?_ | refine V_cNe rfl rfl ?_ | refine V_cB rfl rfl (fun _ => ?_) (fun _ => ?_) | refine O_gT' rfl ?_ | refine O_gU' rfl ?_ | refine O_gF' rfl rfl ?_ | refine O_gEq rfl ?_ | refine O_gNe rfl ?_ | refine O_gS rfl (fun _ => ?_) (fun _ => ?_) | refine V_fA rfl rfl ?_ | refine V_fAN rfl rfl ?_ | refine V_D rfl ?_ | refine D_step rfl ?_ | refine D_nil' ?_ | refine D_gT' rfl ?_ | refine D_gU' rfl ?_ | refine D_gF' rfl rfl ?_ | refine D_gS rfl (fun _ => ?_) (fun _ => ?_)
  | cons y ra ihr =>
    intro pre ha
    have hlt : (pre.length : Int) < l.length := by subst ha; simp; omega
    have hll : pre.length < l.length := by subst ha; simp
    have hy : l[pre.length]? = some y := by subst ha; simp
    obtain ⟨cy, ay, vy⟩ := hp.at hs hy
    have hcall := hm y (by subst ha; simp) cy vy
    have hvl : ViewL false emptySt.get ([val cy] ++ caps) (val cy :: caps) := viewL_pl (pl_cons (hpv _ _ vy) plc)
    have hw : IntKind.i64.wrap ((pre.length : Int) + 1) = ((pre ++ [y]).length : Int) := by rw [wrap_i64]; simp; omega
    have hi := ihr (pre ++ [y]) (by rw [ha]; simp)
    refine V_unroll ?_
    rw [idxG]
    cases hyP : P y with
    | false =>
      rw [hyP] at hcall
      have e1 : (pre ++ [y]).length = pre.length + 1 := by simp
      rw [e1] at hi hw
      rw [if_neg (by simp)]
      repeat' first | refine V_cHY rfl rfl hlt ?_ | refine O_at rfl rfl ay ?_ | refine O_loadG rfl (hld _ _ vy) ?_ | refine O_callP rfl rfl hvl hcall ?_ | refine V_re rfl hi ⟨rfl, rfl, rfl, some_int hw, trivial⟩ | refine V_O rfl ?_ | refine O_step rfl ?_ | refine O_nil' ?_ | refine V_cT rfl rfl ?_ | refine V_cF rfl rfl ?_ | refine V_cEq rfl rfl ?_ | refine V_cNe rfl rfl ?_ | refine V_cB rfl rfl (fun _ => ?_) (fun _ => ?_) | refine O_gT' rfl ?_ | refine O_gU' rfl ?_ | refine O_gF' rfl rfl ?_ | refine O_gEq rfl ?_ | refine O_gNe rfl ?_ | refine O_gS rfl (fun _ => ?_) (fun _ => ?_) | refine V_fA rfl rfl ?_ | refine V_fAN rfl rfl ?_ | refine V_D rfl ?_ | refine D_step rfl ?_ | refine D_nil' ?_ | refine D_gT' rfl ?_ | refine D_gU' rfl ?_ | refine D_gF' rfl rfl ?_ | refine D_gS rfl (fun _ => ?_) (fun _ => ?_)
    | true =>
      rw [hyP] at hcall
      rw [if_pos rfl]
      repeat' first | refine V_cHY rfl rfl hlt ?_ | refine O_at rfl rfl ay ?_ | refine O_loadG rfl (hld _ _ vy) ?_ | refine O_callP rfl rfl hvl hcall ?_ | refine V_out [(4, .int .i64 pre.length)] rfl ⟨rfl, trivial⟩ ⟨rfl, .inr ⟨rfl, rfl⟩⟩ | refine V_O rfl ?_ | refine O_step rfl ?_ | refine O_nil' ?_ | refine V_cT rfl rfl ?_ | refine V_cF rfl rfl ?_ | refine V_cEq rfl rfl ?_ | refine V_cNe rfl rfl ?_ | refine V_cB rfl rfl (fun _ => ?_) (fun _ => ?_) | refine O_gT' rfl ?_ | refine O_gU' rfl ?_ | refine O_gF' rfl rfl ?_ | refine O_gEq rfl ?_ | refine O_gNe rfl ?_ | refine O_gS rfl (fun _ => ?_) (fun _ => ?_) | refine V_fA rfl rfl ?_ | refine V_fAN rfl rfl ?_ | refine V_D rfl ?_ | refine D_step rfl ?_ | refine D_nil' ?_ | refine D_gT' rfl ?_ | refine D_gU' rfl ?_ | refine D_gF' rfl rfl ?_ | refine D_gS rfl (fun _ => ?_) (fun _ => ?_)
theorem run_IndexG {f : Nat} (hf : T.tbl f = some (ixPF sz agg)) (hp : LR R p l) (hs : ∀ a cs, R a cs → cs.length = sz) (hld : ∀ a cs, R a cs → loadAt emptySt.get sz agg (.iptr cs 0) = some (val cs)) (hpv : ∀ a cs, R a cs → Pl (val cs)) (plc : ∀ c ∈ caps, Pl c)
    (hm : ∀ a ∈ l, ∀ cs, R a cs → T.R (.call g (val cs :: caps) (.bool (P a)))) : T.R (.call f [p, .func g caps] (.int .i64 (idxG P l 0))) := by
  obtain ⟨lp1, lp2, lp3⟩ := hp.len
  have hl := ix_loop hp hs hld hpv plc hm l [] rfl
  refine call_V hf rfl ?_
  repeat' first | refine O_lenO rfl lp1 lp2 ?_ | refine V_cutTo rfl hl ⟨rfl, rfl, rfl, rfl, trivial⟩ ?_ | refine V_O rfl ?_ | refine O_step rfl ?_ | refine O_nil' ?_ | refine V_cT rfl rfl ?_ | refine V_cF rfl rfl ?_ | refine V_cEq rfl rfl ?_ | refine V_cNe rfl rfl ?_ | refine V_cB rfl rfl (fun _ => ?_) (fun _ => ?_) | refine O_gT' rfl ?_ | refine O_gU' rfl ?_ | refine O_gF' rfl rfl ?_ | refine O_gEq rfl ?_ | refine O_gNe rfl ?_ | refine O_gS rfl (fun _ => ?_) (fun _ => ?_) | refine V_fA rfl rfl ?_ | refine V_fAN rfl rfl ?_ | refine V_D rfl ?_ | refine D_step rfl ?_ | refine D_nil' ?_ | refine D_gT' rfl ?_ | refine D_gU' rfl ?_ | refine D_gF' rfl rfl ?_ | refine D_gS rfl (fun _ => ?_) (fun _ => ?_)
  rintro x e' st' ⟨rfl, ⟨rfl, h⟩ | ⟨rfl, rfl⟩⟩
  · repeat' first | refine V_O rfl ?_ | refine O_step rfl ?_ | refine O_nil' ?_ | refine V_cT rfl rfl ?_ | refine V_cF rfl rfl ?_ | refine V_cEq rfl rfl ?_ | refine V_cNe rfl rfl ?_ | refine V_cB rfl rfl (fun _ => ?_) (fun _ => ?_) | refine O_gT' rfl ?_ | refine O_gU' rfl ?_ | refine O_gF' rfl rfl ?_ | refine O_gEq rfl ?_ | refine O_gNe rfl ?_ | refine O_gS rfl (fun _ => ?_) (fun _ => ?_) | refine V_fA rfl rfl ?_ | refine V_fAN rfl rfl ?_ | refine V_D rfl ?_ | refine D_step rfl ?_ | refine D_nil' ?_ | refine D_gT' rfl ?_ | refine D_gU' rfl ?_ | refine D_gF' rfl rfl ?_ | refine D_gS rfl (fun _ => ?_) (fun _ => ?_)
    exact congrArg _ (Eq.symm h)
  · repeat' first | refine V_O rfl ?_ | refine O_step rfl ?_ | refine O_nil' ?_ | refine V_cT rfl rfl ?_ | refine V_cF rfl rfl ?_ | refine V_cEq rfl rfl ?_ | refine V_cNe rfl rfl ?_ | refine V_cB rfl rfl (fun _ => ?_) (fun _ => ?_) | refine O_gT' rfl ?_ | refine O_gU' rfl ?_ | refine O_gF' rfl rfl ?_ | refine O_gEq rfl ?_ | refine O_gNe rfl ?_ | refine O_gS rfl (fun _ => ?_) (fun _ => ?_) | refine V_fA rfl rfl ?_ | refine V_fAN rfl rfl ?_ | refine V_D rfl ?_ | refine D_step rfl ?_ | refine D_nil' ?_ | refine D_gT' rfl ?_ | refine D_gU' rfl ?_ | refine D_gF' rfl rfl ?_ | refine D_gS rfl (fun _ => ?_) (fun _ => ?_)
    rfl
theorem run_ContainsG {f f' : Nat} (hf : T.tbl f = some (ctPF f')) (hf' : T.tbl f' = some (ixPF sz agg)) (hp : LR R p l) (hs : ∀ a cs, R a cs → cs.length = sz) (hld : ∀ a cs, R a cs → loadAt emptySt.get sz agg (.iptr cs 0) = some (val cs)) (hpv : ∀ a cs, R a cs → Pl (val cs)) (plp : Pl p) (plc : ∀ c ∈ caps, Pl c)
    (hm : ∀ a ∈ l, ∀ cs, R a cs → T.R (.call g (val cs :: caps) (.bool (P a)))) : T.R (.call f [p, .func g caps] (.bool (l.any P))) := by
  have h := run_IndexG hf' hp hs hld hpv plc hm
  have plf : Pl (.func g caps) := .func _ _ plc
  rw [← idxG_any P l 0]
  generalize idxG P l 0 = r at h ⊢
  refine call_V hf rfl ?_
  repeat' first | refine O_cA rfl rfl h ?_ | refine V_O rfl ?_ | refine O_step rfl ?_ | refine O_nil' ?_ | refine V_cT rfl rfl ?_ | refine V_cF rfl rfl ?_ | refine V_cEq rfl rfl ?_ | refine V_cNe rfl rfl ?_ | refine V_cB rfl rfl (fun _ => ?_) (fun _ => ?_) | refine O_gT' rfl ?_ | refine O_gU' rfl ?_ | refine O_gF' rfl rfl ?_ | refine O_gEq rfl ?_ | refine O_gNe rfl ?_ | refine O_gS rfl (fun _ => ?_) (fun _ => ?_) | refine V_fA rfl rfl ?_ | refine V_fAN rfl rfl ?_ | refine V_D rfl ?_ | refine D_step rfl ?_ | refine D_nil' ?_ | refine D_gT' rfl ?_ | refine D_gU' rfl ?_ | refine D_gF' rfl rfl ?_ | refine D_gS rfl (fun _ => ?_) (fun _ => ?_)
  rfl
theorem load_agg {sz : Nat} {cs : List PV} (h : cs.length = sz) (look : Nat → Option Tok) : loadAt look sz true (.iptr cs 0) = some (.agg cs) := by
  subst h
  simp [loadAt, behind, slice?]
end
end Go.Proofs.YtinojffgmgjblaaGreatDoor
