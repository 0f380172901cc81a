/- value.may, one step. · value.may, one step; slices.ContainsFunc over it. · rambleref02.may, one step. · value.may, one step. · rambleref02.all, rises; both may, both Check. · A value out of a key's bytes: what is told; codec.made, codec.none, rambleref03.checked. -/
import Derived.Test.YtgdjnlopdpjnaaaGreatDoorOrdToNTake
import Derived.Test.YtgdjnlopdpjnaaaGreatDoorAmZ
set_option linter.unusedVariables false
set_option linter.unusedSimpArgs false
namespace Go.Proofs.YtgdjnlopdpjnaaaGreatDoor
open Go Go.AM Go.RowKit
def stM (cs : List PV) (d : Int) : St := ⟨0, 2, [(0, .var cs), (1, .var [.int .i64 d])]⟩
def riseP (S : St) (l : List Val) : EX → EC → St → Prop := fun x e' st' => st' = S ∧ ((x = .exit 1 ∧ e' = .put 2 (.ptr 0 0) (.put 3 (.ptr 1 0) .nil) ∧ risesV l = true) ∨ (x = .ret ∧ e' = .put 4 (.bool false) .nil ∧ risesV l = false))
theorem rise_loop (k n d : Int) (s : List UInt8) (l : List Val) (p : PV) (hp : LC l p) :
    ∀ (m : Nat) (ra pre : List Val) (e : EC), ra.length ≤ m → l = pre ++ ra → risesV l = risesV ra → (ra ≠ [] ∨ l = []) → e.get 2 = some (.ptr 0 0) → e.get 3 = some (.ptr 1 0) → e.get 6 = some (.int .i64 (pre.length + 2)) →
    V T (PE (riseP (stM [.int .i64 k, .int .i64 n, .str s, p] d) l)) [.code (.loop lp_value_may_0)] .normal e (stM [.int .i64 k, .int .i64 n, .str s, p] d) := by
  obtain ⟨lp1, lp2, lp3⟩ := hp.len
  intro m
  induction m with
  | zero =>
    intro ra pre e hm hl hr hne h2 h3 h6
    have hra : ra = [] := by cases ra with
      | nil => rfl
      | cons y ra => simp at hm
    have hl0 : l = [] := by rcases hne with h | h
                            · exact absurd hra h
                            · exact h
    have hpre : pre = [] := by rw [hl0] at hl; simp at hl; exact hl.1
    have out : ∀ (fr : List Fr) (x : EX) (e' : EC), adv 200 fr x = ([], .exit 1) → e'.get 2 = some (.ptr 0 0) → e'.get 3 = some (.ptr 1 0) → V T (PE (riseP (stM [.int .i64 k, .int .i64 n, .str s, p] d) l)) fr x e' (stM [.int .i64 k, .int .i64 n, .str s, p] d) := fun fr x e' hadv g2 g3 =>
      V_less (.put 2 _ (.put 3 _ .nil)) (less_put g2 (less_put g3 less_nil)) (V_endP hadv ⟨rfl, .inl ⟨rfl, rfl, by rw [hl0]; rfl⟩⟩)
    refine V_less (.put 2 _ (.put 3 _ (.put 6 _ .nil))) (less_put h2 (less_put h3 (less_put h6 less_nil))) (V_unroll ?_)
    repeat' first | ((with_reducible show Go.AM.V _ _ _ _ _ _); first | refine V_O rfl ?_ | refine V_cB rfl rfl (fun _ => ?_) (fun _ => ?_) | refine V_D rfl ?_) | ((with_reducible show Go.AM.VO _ _ _ _ _ _ _); first | refine O_lenO rfl lp1 lp2 ?_ | refine O_step rfl ?_ | refine O_nil' ?_) | ((with_reducible show Go.AM.VD _ _ _ _ _ _ _); first | refine D_step rfl ?_) | refine out _ _ _ rfl rfl rfl
    all_goals (exfalso; clear out; subst hl0 hpre; simp at *)
  | succ m ihr =>
    intro ra pre e hm hl hr hne h2 h3 h6
    match ra, hm, hl, hr, hne with
    | [], hm, hl, hr, hne => exact ihr [] pre e (by simp) hl hr hne h2 h3 h6
    | [y], hm, hl, hr, hne =>
      have out : ∀ (fr : List Fr) (x : EX) (e' : EC), adv 200 fr x = ([], .exit 1) → e'.get 2 = some (.ptr 0 0) → e'.get 3 = some (.ptr 1 0) → V T (PE (riseP (stM [.int .i64 k, .int .i64 n, .str s, p] d) l)) fr x e' (stM [.int .i64 k, .int .i64 n, .str s, p] d) := fun fr x e' hadv g2 g3 =>
        V_less (.put 2 _ (.put 3 _ .nil)) (less_put g2 (less_put g3 less_nil)) (V_endP hadv ⟨rfl, .inl ⟨rfl, rfl, by rw [hr]; rfl⟩⟩)
      refine V_less (.put 2 _ (.put 3 _ (.put 6 _ .nil))) (less_put h2 (less_put h3 (less_put h6 less_nil))) (V_unroll ?_)
      repeat' first | ((with_reducible show Go.AM.V _ _ _ _ _ _); first | refine V_O rfl ?_ | refine V_cB rfl rfl (fun _ => ?_) (fun _ => ?_) | refine V_D rfl ?_) | ((with_reducible show Go.AM.VO _ _ _ _ _ _ _); first | refine O_lenO rfl lp1 lp2 ?_ | refine O_step rfl ?_ | refine O_nil' ?_) | ((with_reducible show Go.AM.VD _ _ _ _ _ _ _); first | refine D_step rfl ?_) | refine out _ _ _ rfl rfl rfl
      all_goals (exfalso; clear out; subst hl; simp at *; try omega)
    | [y, z], hm, hl, hr, hne =>
      have out : ∀ (fr : List Fr) (x : EX) (e' : EC), adv 200 fr x = ([], .exit 1) → e'.get 2 = some (.ptr 0 0) → e'.get 3 = some (.ptr 1 0) → V T (PE (riseP (stM [.int .i64 k, .int .i64 n, .str s, p] d) l)) fr x e' (stM [.int .i64 k, .int .i64 n, .str s, p] d) := fun fr x e' hadv g2 g3 =>
        V_less (.put 2 _ (.put 3 _ .nil)) (less_put g2 (less_put g3 less_nil)) (V_endP hadv ⟨rfl, .inl ⟨rfl, rfl, by rw [hr]; rfl⟩⟩)
      refine V_less (.put 2 _ (.put 3 _ (.put 6 _ .nil))) (less_put h2 (less_put h3 (less_put h6 less_nil))) (V_unroll ?_)
      repeat' first | ((with_reducible show Go.AM.V _ _ _ _ _ _); first | refine V_O rfl ?_ | refine V_cB rfl rfl (fun _ => ?_) (fun _ => ?_) | refine V_D rfl ?_) | ((with_reducible show Go.AM.VO _ _ _ _ _ _ _); first | refine O_lenO rfl lp1 lp2 ?_ | refine O_step rfl ?_ | refine O_nil' ?_) | ((with_reducible show Go.AM.VD _ _ _ _ _ _ _); first | refine D_step rfl ?_) | refine out _ _ _ rfl rfl rfl
      all_goals (exfalso; clear out; subst hl; simp at *)
    | y :: z :: w :: ra, hm, hl, hr, hne =>
      have hlt : pre.length + 2 < l.length := by subst hl; simp
      have hy : l[pre.length]? = some y := by subst hl; simp
      have hw : l[pre.length + 2]? = some w := by subst hl; simp
      obtain ⟨cy, ay, vy⟩ := hp.at hy
      obtain ⟨cw, aw, vw⟩ := hp.at hw
      have ply := vy.pl
      have plw := vw.pl
      have hcall := run_Compare vy w cw vw
      have ay' : At 4 p (IntKind.i64.wrap ((pre.length : Int) + 2 - 2)) cy := by
        have : IntKind.i64.wrap ((pre.length : Int) + 2 - 2) = (pre.length : Int) := by rw [wrap_i64]; omega
        rw [this]; exact ay
      have aw' : At 4 p ((pre.length : Int) + 2) cw := by
        have : ((pre.length + 2 : Nat) : Int) = (pre.length : Int) + 2 := by omega
        rw [← this]; exact aw
      have hr' : risesV l = (decide (cmpV y w < 0) && risesV (w :: ra)) := by rw [hr]; rfl
      generalize cmpV y w = r at hcall hr'
      by_cases hrr : r < 0
      · have fin : ∀ (fr : List Fr) (x : EX) (e' : EC), adv 200 fr x = ([.code (.loop lp_value_may_0)], .normal) → e'.get 2 = some (.ptr 0 0) → e'.get 3 = some (.ptr 1 0) → e'.get 6 = some (.int .i64 (IntKind.i64.wrap ((pre.length : Int) + 2 + 2))) → V T (PE (riseP (stM [.int .i64 k, .int .i64 n, .str s, p] d) l)) fr x e' (stM [.int .i64 k, .int .i64 n, .str s, p] d) := fun fr x e' hadv g2 g3 g6 => V_adv hadv (by
          have hw : IntKind.i64.wrap ((pre.length : Int) + 2 + 2) = ((pre ++ [y, z]).length : Int) + 2 := by rw [wrap_i64]; simp; omega
          rw [hw] at g6
          exact ihr (w :: ra) (pre ++ [y, z]) e' (by simp at hm ⊢; omega) (by rw [hl]; simp) (by rw [hr', decide_eq_true hrr]; rfl) (.inl (by simp)) g2 g3 g6)
        refine V_less (.put 2 _ (.put 3 _ (.put 6 _ .nil))) (less_put h2 (less_put h3 (less_put h6 less_nil))) (V_unroll ?_)
        repeat' first | ((with_reducible show Go.AM.V _ _ _ _ _ _); first | refine V_O rfl ?_ | refine V_cB rfl rfl (fun _ => ?_) (fun _ => ?_) | refine V_D rfl ?_) | ((with_reducible show Go.AM.VO _ _ _ _ _ _ _); first | refine O_lenO rfl lp1 lp2 ?_ | refine O_step rfl ?_ | refine O_nil' ?_) | ((with_reducible show Go.AM.VD _ _ _ _ _ _ _); first | refine D_at rfl rfl ay' ?_ | refine D_at rfl rfl aw' ?_ | refine D_loadA rfl vy.len4 ?_ | refine D_loadA rfl vw.len4 ?_ | refine D_cA rfl rfl hcall ?_ | refine D_step rfl ?_ | refine D_nil' ?_) | refine fin _ _ _ rfl rfl rfl rfl
        all_goals (exfalso; clear fin ihr hcall; simp at *; try omega)
      · have ret : ∀ (fr : List Fr) (x : EX) (e' : EC), adv 200 fr x = ([], .ret) → e'.get 4 = some (.bool false) → V T (PE (riseP (stM [.int .i64 k, .int .i64 n, .str s, p] d) l)) fr x e' (stM [.int .i64 k, .int .i64 n, .str s, p] d) := fun fr x e' hadv g0 =>
          V_less (.put 4 _ .nil) (less_put g0 less_nil) (V_endP hadv ⟨rfl, .inr ⟨rfl, rfl, by rw [hr', decide_eq_false hrr]; rfl⟩⟩)
        refine V_less (.put 2 _ (.put 3 _ (.put 6 _ .nil))) (less_put h2 (less_put h3 (less_put h6 less_nil))) (V_unroll ?_)
        repeat' first | ((with_reducible show Go.AM.V _ _ _ _ _ _); first | refine V_O rfl ?_ | refine V_cB rfl rfl (fun _ => ?_) (fun _ => ?_) | refine V_D rfl ?_) | ((with_reducible show Go.AM.VO _ _ _ _ _ _ _); first | refine O_lenO rfl lp1 lp2 ?_ | refine O_step rfl ?_ | refine O_nil' ?_) | ((with_reducible show Go.AM.VD _ _ _ _ _ _ _); first | refine D_at rfl rfl ay' ?_ | refine D_at rfl rfl aw' ?_ | refine D_loadA rfl vy.len4 ?_ | refine D_loadA rfl vw.len4 ?_ | refine D_cA rfl rfl hcall ?_ | refine D_step rfl ?_ | refine D_nil' ?_) | refine ret _ _ _ rfl rfl
        all_goals (exfalso; clear ihr ret hcall; simp at *; try omega)
end Go.Proofs.YtgdjnlopdpjnaaaGreatDoor
set_option linter.unusedVariables false
set_option linter.unusedSimpArgs false
namespace Go.Proofs.YtgdjnlopdpjnaaaGreatDoor
open Go Go.AM Go.RowKit
def idxV (P : Val → Bool) : List Val → Nat → Int
  | [], _ => -1
  | v :: r, i => if P v then i else idxV P r (i + 1)
theorem idxV_any (P : Val → Bool) : ∀ (l : List Val) (i : Nat), decide (0 ≤ idxV P l i) = l.any P
  | [], i => by simp [idxV]
  | v :: r, i => by
    unfold idxV
    have := idxV_any P r (i + 1)
    cases h : P v with
    | true => simp [h]
    | false => simp [h, this]
theorem run_may1 (f : Nat) (d : Int) (hd : d + f = 8 ∧ 0 ≤ d) (v : Val) (cs : List PV) (hv : VC v cs) (hm : T.R (.call n_value_may [.agg cs, .int .i64 (d + 1)] (.bool (mayV f v)))) :
    T.R (.call n_value_may_1 [.agg cs, .iptr [.int .i64 d] 0] (.bool (!mayV f v))) := by
  have hw : IntKind.i64.wrap (d + 1) = d + 1 := by rw [wrap_i64]; omega
  rw [← hw] at hm
  obtain ⟨k, n, s, l⟩ := v
  generalize mayV f _ = r at hm ⊢
  obtain ⟨hk, hn, hs, p, rfl, hp⟩ := hv.open
  have plp := hp.pl
  refine call_V rfl rfl ?_
  repeat' first | ((with_reducible show Go.AM.V _ _ _ _ _ _); first | refine V_O rfl ?_ | refine V_fA rfl rfl ?_) | ((with_reducible show Go.AM.VO _ _ _ _ _ _ _); first | refine O_stepL rfl ?_ | refine O_cA rfl rfl hm ?_ | refine O_step rfl ?_ | refine O_nil' ?_)
  all_goals rfl
def idxP (P : Val → Bool) (l : List Val) : EX → EC → St → Prop := fun x e' st' => st' = emptySt ∧ ((x = .exit 0 ∧ idxV P l 0 = -1) ∨ (x = .ret ∧ e' = .put 4 (.int .i64 (idxV P l 0)) .nil))
theorem idx_loop (P : Val → Bool) (g : Nat) (caps : List PV) (plc : ∀ c ∈ caps, Pl c) (l : List Val) (p : PV) (hp : LC l p)
    (hm : ∀ (j : Nat) (v : Val) (cs : List PV), l[j]? = some v → At 4 p j cs → T.R (.call g (.agg cs :: caps) (.bool (P v)))) :
    ∀ (ra pre : List Val) (e : EC), l = pre ++ ra → idxV P l 0 = idxV P ra pre.length → e.get 0 = some p → e.get 1 = some (.func g caps) → e.get 7 = some (.int .i64 l.length) → e.get 8 = some (.int .i64 pre.length) →
    V T (PE (idxP P l)) [.code (.loop lp_slices_IndexFunc_api_Value_0)] .normal e emptySt := by
  obtain ⟨lp1, lp2, lp3⟩ := hp.len
  intro ra
  induction ra with
  | nil =>
    intro pre e ha hi h0 h1 h7 h8
    have out : ∀ (fr : List Fr) (x : EX) (e' : EC), adv 200 fr x = ([], .exit 0) → V T (PE (idxP P l)) fr x e' emptySt := fun fr x e' hadv => V_endP hadv ⟨rfl, .inl ⟨rfl, by rw [hi]; rfl⟩⟩
    refine V_less (.put 0 p (.put 1 (.func g caps) (.put 7 _ (.put 8 _ .nil)))) (less_put h0 (less_put h1 (less_put h7 (less_put h8 less_nil)))) (V_unroll ?_)
    repeat' first | ((with_reducible show Go.AM.V _ _ _ _ _ _); first | refine V_O rfl ?_ | refine V_cB rfl rfl (fun _ => ?_) (fun _ => ?_)) | ((with_reducible show Go.AM.VO _ _ _ _ _ _ _); first | refine O_step rfl ?_ | refine O_nil' ?_) | refine out _ _ _ rfl
    all_goals (exfalso; clear out; subst ha; simp at *)
  | cons y ra ihr =>
    intro pre e ha hi h0 h1 h7 h8
    refine V_less (.put 0 p (.put 1 (.func g caps) (.put 7 _ (.put 8 _ .nil)))) (less_put h0 (less_put h1 (less_put h7 (less_put h8 less_nil)))) (V_unroll ?_)
    have hy : l[pre.length]? = some y := by subst ha; simp
    obtain ⟨cy, ay, vy⟩ := hp.at hy
    have ply := vy.pl
    have hcall := hm _ y cy hy ay
    have hvl : ViewL false emptySt.get ([PV.agg cy] ++ caps) (.agg cy :: caps) := viewL_pl (pl_cons (.agg _ ply) plc)
    cases hyP : P y with
    | false =>
      rw [hyP] at hcall
      have fin : ∀ (fr : List Fr) (x : EX) (e' : EC), adv 200 fr x = ([.code (.loop lp_slices_IndexFunc_api_Value_0)], .normal) → e'.get 0 = some p → e'.get 1 = some (.func g caps) → e'.get 7 = some (.int .i64 l.length) → e'.get 8 = some (.int .i64 (IntKind.i64.wrap (pre.length + 1))) → V T (PE (idxP P l)) fr x e' emptySt := fun fr x e' hadv g0 g1 g7 g8 => V_adv hadv (by
        have hlt : pre.length < l.length := by subst ha; simp
        have hw : IntKind.i64.wrap (pre.length + 1) = ((pre ++ [y]).length : Int) := by rw [wrap_i64]; simp; omega
        rw [hw] at g8
        exact ihr (pre ++ [y]) e' (by rw [ha]; simp) (by rw [hi]; simp [idxV, hyP]) g0 g1 g7 g8)
      repeat' first | ((with_reducible show Go.AM.V _ _ _ _ _ _); first | refine V_O rfl ?_ | refine V_cF rfl rfl ?_ | refine V_cB rfl rfl (fun _ => ?_) (fun _ => ?_)) | ((with_reducible show Go.AM.VO _ _ _ _ _ _ _); first | refine O_at rfl rfl ay ?_ | refine O_loadA rfl vy.len4 ?_ | refine O_callP rfl rfl hvl hcall ?_ | refine O_step rfl ?_ | refine O_nil' ?_) | refine fin _ _ _ rfl rfl rfl rfl rfl
      all_goals (exfalso; clear fin ihr hcall hm; subst ha; simp at *; try omega)
    | true =>
      rw [hyP] at hcall
      have ret : ∀ (fr : List Fr) (x : EX) (e' : EC), adv 200 fr x = ([], .ret) → e'.get 4 = some (.int .i64 pre.length) → V T (PE (idxP P l)) fr x e' emptySt := fun fr x e' hadv g0 =>
        V_less (.put 4 _ .nil) (less_put g0 less_nil) (V_endP hadv ⟨rfl, .inr ⟨rfl, by rw [hi]; simp [idxV, hyP]⟩⟩)
      repeat' first | ((with_reducible show Go.AM.V _ _ _ _ _ _); first | refine V_O rfl ?_ | refine V_cT rfl rfl ?_ | refine V_cB rfl rfl (fun _ => ?_) (fun _ => ?_)) | ((with_reducible show Go.AM.VO _ _ _ _ _ _ _); first | refine O_at rfl rfl ay ?_ | refine O_loadA rfl vy.len4 ?_ | refine O_callP rfl rfl hvl hcall ?_ | refine O_step rfl ?_ | refine O_nil' ?_) | refine ret _ _ _ rfl rfl
      all_goals (exfalso; clear ihr ret hcall hm; subst ha; simp at *; try omega)
theorem run_IndexFunc (P : Val → Bool) (g : Nat) (caps : List PV) (plc : ∀ c ∈ caps, Pl c) (l : List Val) (p : PV) (hp : LC l p)
    (hm : ∀ (j : Nat) (v : Val) (cs : List PV), l[j]? = some v → At 4 p j cs → T.R (.call g (.agg cs :: caps) (.bool (P v)))) :
    T.R (.call n_slices_IndexFunc_api_Value [p, .func g caps] (.int .i64 (idxV P l 0))) := by
  obtain ⟨lp1, lp2, lp3⟩ := hp.len
  have hl := fun e h0 h1 h2 h3 => idx_loop P g caps plc l p hp hm l [] e rfl rfl h0 h1 h2 h3
  refine call_V rfl rfl ?_
  repeat' first | ((with_reducible show Go.AM.V _ _ _ _ _ _); first | refine V_cutA rfl (hl _ rfl rfl rfl rfl) ?_ | refine V_O rfl ?_) | ((with_reducible show Go.AM.VO _ _ _ _ _ _ _); first | refine O_lenO rfl lp1 lp2 ?_ | refine O_step rfl ?_ | refine O_nil' ?_)
  rintro x e' st' ⟨rfl, ⟨rfl, h⟩ | ⟨rfl, rfl⟩⟩
  · repeat' first | ((with_reducible show Go.AM.V _ _ _ _ _ _); first | refine V_O rfl ?_ | refine V_fA rfl rfl ?_) | ((with_reducible show Go.AM.VO _ _ _ _ _ _ _); first | refine O_step rfl ?_ | refine O_nil' ?_)
    rw [h]
  · repeat' first | refine V_fA rfl rfl ?_
    rfl
theorem run_ContainsFunc (P : Val → Bool) (g : Nat) (caps : List PV) (plc : ∀ c ∈ caps, Pl c) (l : List Val) (p : PV) (hp : LC l p)
    (hm : ∀ (j : Nat) (v : Val) (cs : List PV), l[j]? = some v → At 4 p j cs → T.R (.call g (.agg cs :: caps) (.bool (P v)))) :
    T.R (.call n_slices_ContainsFunc_api_Value [p, .func g caps] (.bool (l.any P))) := by
  have h := run_IndexFunc P g caps plc l p hp hm
  have plp := hp.pl
  rw [← idxV_any P l 0]
  generalize idxV P l 0 = r at h ⊢
  refine call_V rfl rfl ?_
  repeat' first | ((with_reducible show Go.AM.V _ _ _ _ _ _); first | refine V_O rfl ?_ | refine V_fA rfl rfl ?_) | ((with_reducible show Go.AM.VO _ _ _ _ _ _ _); first | refine O_cA rfl rfl h ?_ | refine O_step rfl ?_ | refine O_nil' ?_)
  all_goals rfl
end Go.Proofs.YtgdjnlopdpjnaaaGreatDoor
set_option linter.unusedVariables false
set_option linter.unusedSimpArgs false
namespace Go.Proofs.YtgdjnlopdpjnaaaGreatDoor
open Go Go.AM Go.RowKit
set_option maxHeartbeats 4000000 in
theorem run_may2_step (f : Nat) (d : Int) (hd : d + f = 7 ∧ 0 ≤ d) (k n : Int) (s : List UInt8) (l : List Val) (p : PV) (hp : LC l p)
    (hall : T.R (.call n_rambleref02_all [p, .int .i64 d] (.bool (l.all (mayV f))))) (hri : T.R (.call n_rambleref02_rises [p] (.bool (risesV l)))) :
    T.R (.call n_rambleref02_may [.agg [.int .i64 k, .int .i64 n, .str s, p], .int .i64 d] (.bool (mayV (f + 1) (.mk k n s l)))) := by
  obtain ⟨lp1, lp2, lp3⟩ := hp.len
  have plp := hp.pl
  have hd8 : decide (8 ≤ d) = false := decide_eq_false (by omega)
  by_cases h1 : k = 1
  · subst h1
    have hm : mayV (f + 1) (.mk 1 n s l) = (decide (s = []) && decide ((l.length : Int) = 0)) := by simp [mayV]
    rw [hm]
    generalize l.all (mayV f) = a at hall ⊢
    generalize risesV l = r at hri ⊢
    refine call_V rfl rfl ?_
    repeat' first | ((with_reducible show Go.AM.V _ _ _ _ _ _); first | refine V_cH hd8 rfl rfl ?_ | refine V_O rfl ?_ | refine V_cT rfl rfl ?_ | refine V_fA rfl rfl ?_) | ((with_reducible show Go.AM.VO _ _ _ _ _ _ _); first | refine O_stepL rfl ?_ | refine O_lenO rfl lp1 lp2 ?_ | refine O_step rfl ?_ | refine O_nil' ?_ | refine O_gT' rfl ?_ | refine O_gF' rfl rfl ?_ | refine O_gS rfl (fun _ => ?_) (fun _ => ?_))
    all_goals (clear hall hri hm; simp only [*, Bool.true_and, Bool.and_true, Bool.false_and, Bool.and_false, Bool.true_or, Bool.or_true, Bool.false_or, Bool.or_false, Bool.not_true, Bool.not_false])
  by_cases h3 : k = 3
  · subst h3
    have hm : mayV (f + 1) (.mk 3 n s l) = (decide (s = []) && decide ((l.length : Int) = 0) && (decide (n = 0) || decide (n = 1))) := by simp [mayV]
    rw [hm]
    generalize l.all (mayV f) = a at hall ⊢
    generalize risesV l = r at hri ⊢
    refine call_V rfl rfl ?_
    repeat' first | ((with_reducible show Go.AM.V _ _ _ _ _ _); first | refine V_cH hd8 rfl rfl ?_ | refine V_O rfl ?_ | refine V_cT rfl rfl ?_ | refine V_cF rfl rfl ?_ | refine V_fA rfl rfl ?_) | ((with_reducible show Go.AM.VO _ _ _ _ _ _ _); first | refine O_stepL rfl ?_ | refine O_lenO rfl lp1 lp2 ?_ | refine O_step rfl ?_ | refine O_nil' ?_ | refine O_gT' rfl ?_ | refine O_gU' rfl ?_ | refine O_gF' rfl rfl ?_ | refine O_gS rfl (fun _ => ?_) (fun _ => ?_))
    all_goals (clear hall hri hm; simp only [*, Bool.true_and, Bool.and_true, Bool.false_and, Bool.and_false, Bool.true_or, Bool.or_true, Bool.false_or, Bool.or_false, Bool.not_true, Bool.not_false])
  by_cases h6 : k = 6
  · subst h6
    have hm : mayV (f + 1) (.mk 6 n s l) = (decide (s = []) && decide ((l.length : Int) = 0) && decide (1 ≤ n) && decide (n ≤ 281474976710656)) := by simp [mayV]
    rw [hm]
    generalize l.all (mayV f) = a at hall ⊢
    generalize risesV l = r at hri ⊢
    refine call_V rfl rfl ?_
    repeat' first | ((with_reducible show Go.AM.V _ _ _ _ _ _); first | refine V_cH hd8 rfl rfl ?_ | refine V_O rfl ?_ | refine V_cT rfl rfl ?_ | refine V_cF rfl rfl ?_ | refine V_fA rfl rfl ?_) | ((with_reducible show Go.AM.VO _ _ _ _ _ _ _); first | refine O_stepL rfl ?_ | refine O_lenO rfl lp1 lp2 ?_ | refine O_step rfl ?_ | refine O_nil' ?_ | refine O_gT' rfl ?_ | refine O_gF' rfl rfl ?_ | refine O_gS rfl (fun _ => ?_) (fun _ => ?_))
    all_goals (clear hall hri hm; simp only [*, Bool.true_and, Bool.and_true, Bool.false_and, Bool.and_false, Bool.true_or, Bool.or_true, Bool.false_or, Bool.or_false, Bool.not_true, Bool.not_false])
  by_cases h7 : k = 7
  · subst h7
    have hm : mayV (f + 1) (.mk 7 n s l) = (decide (s = []) && decide ((l.length : Int) = 0) && decide (1 ≤ n) && decide (n ≤ 281474976710656)) := by simp [mayV]
    rw [hm]
    generalize l.all (mayV f) = a at hall ⊢
    generalize risesV l = r at hri ⊢
    refine call_V rfl rfl ?_
    repeat' first | ((with_reducible show Go.AM.V _ _ _ _ _ _); first | refine V_cH hd8 rfl rfl ?_ | refine V_O rfl ?_ | refine V_cT rfl rfl ?_ | refine V_cF rfl rfl ?_ | refine V_fA rfl rfl ?_) | ((with_reducible show Go.AM.VO _ _ _ _ _ _ _); first | refine O_stepL rfl ?_ | refine O_lenO rfl lp1 lp2 ?_ | refine O_step rfl ?_ | refine O_nil' ?_ | refine O_gT' rfl ?_ | refine O_gF' rfl rfl ?_ | refine O_gS rfl (fun _ => ?_) (fun _ => ?_))
    all_goals (clear hall hri hm; simp only [*, Bool.true_and, Bool.and_true, Bool.false_and, Bool.and_false, Bool.true_or, Bool.or_true, Bool.false_or, Bool.or_false, Bool.not_true, Bool.not_false])
  by_cases h2 : k = 2
  · subst h2
    have hm : mayV (f + 1) (.mk 2 n s l) = (decide (n = 0) && decide ((l.length : Int) = 0) && decide ((s.length : Int) ≤ 128)) := by simp [mayV]
    rw [hm]
    generalize l.all (mayV f) = a at hall ⊢
    generalize risesV l = r at hri ⊢
    refine call_V rfl rfl ?_
    repeat' first | ((with_reducible show Go.AM.V _ _ _ _ _ _); first | refine V_cH hd8 rfl rfl ?_ | refine V_O rfl ?_ | refine V_cT rfl rfl ?_ | refine V_cF rfl rfl ?_ | refine V_fA rfl rfl ?_) | ((with_reducible show Go.AM.VO _ _ _ _ _ _ _); first | refine O_stepL rfl ?_ | refine O_lenO rfl lp1 lp2 ?_ | refine O_step rfl ?_ | refine O_nil' ?_ | refine O_gT' rfl ?_ | refine O_gF' rfl rfl ?_ | refine O_gS rfl (fun _ => ?_) (fun _ => ?_))
    all_goals (clear hall hri hm; simp only [*, Bool.true_and, Bool.and_true, Bool.false_and, Bool.and_false, Bool.true_or, Bool.or_true, Bool.false_or, Bool.or_false, Bool.not_true, Bool.not_false])
  by_cases h4 : k = 4
  · subst h4
    have hm : mayV (f + 1) (.mk 4 n s l) = (decide (n = 0) && decide (s = []) && decide ((l.length : Int) ≤ 256) && l.all (mayV f)) := by simp [mayV]
    rw [hm]
    generalize l.all (mayV f) = a at hall ⊢
    generalize risesV l = r at hri ⊢
    refine call_V rfl rfl ?_
    repeat' first | ((with_reducible show Go.AM.V _ _ _ _ _ _); first | refine V_cH hd8 rfl rfl ?_ | refine V_O rfl ?_ | refine V_cT rfl rfl ?_ | refine V_cF rfl rfl ?_ | refine V_fA rfl rfl ?_) | ((with_reducible show Go.AM.VO _ _ _ _ _ _ _); first | refine O_stepL rfl ?_ | refine O_lenO rfl lp1 lp2 ?_ | refine O_cA rfl rfl hall ?_ | refine O_step rfl ?_ | refine O_nil' ?_ | refine O_gT' rfl ?_ | refine O_gF' rfl rfl ?_ | refine O_gS rfl (fun _ => ?_) (fun _ => ?_))
    all_goals (clear hall hri hm; simp only [*, Bool.true_and, Bool.and_true, Bool.false_and, Bool.and_false, Bool.true_or, Bool.or_true, Bool.false_or, Bool.or_false, Bool.not_true, Bool.not_false])
  by_cases h5 : k = 5
  · subst h5
    have hm : mayV (f + 1) (.mk 5 n s l) = (decide (n = 0) && decide (s = []) && decide ((l.length : Int) ≤ 512) && decide ((l.length : Int).tmod 2 = 0) && l.all (mayV f) && risesV l) := by simp [mayV]
    rw [hm]
    generalize l.all (mayV f) = a at hall ⊢
    generalize risesV l = r at hri ⊢
    refine call_V rfl rfl ?_
    repeat' first | ((with_reducible show Go.AM.V _ _ _ _ _ _); first | refine V_cH hd8 rfl rfl ?_ | refine V_O rfl ?_ | refine V_cT rfl rfl ?_ | refine V_cF rfl rfl ?_ | refine V_fA rfl rfl ?_) | ((with_reducible show Go.AM.VO _ _ _ _ _ _ _); first | refine O_stepL rfl ?_ | refine O_lenO rfl lp1 lp2 ?_ | refine O_rem rfl rfl rfl ?_ | refine O_cA rfl rfl hall ?_ | refine O_cA rfl rfl hri ?_ | refine O_step rfl ?_ | refine O_nil' ?_ | refine O_gT' rfl ?_ | refine O_gF' rfl rfl ?_ | refine O_gS rfl (fun _ => ?_) (fun _ => ?_))
    all_goals (clear hall hri hm; simp only [*, Bool.true_and, Bool.and_true, Bool.false_and, Bool.and_false, Bool.true_or, Bool.or_true, Bool.false_or, Bool.or_false, Bool.not_true, Bool.not_false])
  · have hm : mayV (f + 1) (.mk k n s l) = false := by simp [mayV, *]
    rw [hm]
    refine call_V rfl rfl ?_
    repeat' first | ((with_reducible show Go.AM.V _ _ _ _ _ _); first | refine V_cH hd8 rfl rfl ?_ | refine V_cH (decide_eq_false h1) rfl rfl ?_ | refine V_cH (decide_eq_false h3) rfl rfl ?_ | refine V_cH (decide_eq_false h6) rfl rfl ?_ | refine V_cH (decide_eq_false h7) rfl rfl ?_ | refine V_cH (decide_eq_false h2) rfl rfl ?_ | refine V_cH (decide_eq_false h4) rfl rfl ?_ | refine V_cH (decide_eq_false h5) rfl rfl ?_ | refine V_O rfl ?_ | refine V_fA rfl rfl ?_) | ((with_reducible show Go.AM.VO _ _ _ _ _ _ _); first | refine O_stepL rfl ?_ | refine O_step rfl ?_ | refine O_nil' ?_)
    all_goals rfl
end Go.Proofs.YtgdjnlopdpjnaaaGreatDoor
set_option linter.unusedVariables false
set_option linter.unusedSimpArgs false
namespace Go.Proofs.YtgdjnlopdpjnaaaGreatDoor
open Go Go.AM Go.RowKit
set_option maxHeartbeats 4000000 in
theorem run_may_step (f : Nat) (d : Int) (hd : d + f = 8 ∧ 0 ≤ d) (k n : Int) (s : List UInt8) (l : List Val) (p : PV) (hp : LC l p)
    (hall : T.R (.call n_slices_ContainsFunc_api_Value [p, .func n_value_may_1 [.iptr [.int .i64 d] 0]] (.bool (!l.all (mayV f))))) :
    T.R (.call n_value_may [.agg [.int .i64 k, .int .i64 n, .str s, p], .int .i64 d] (.bool (mayV (f + 1) (.mk k n s l)))) := by
  obtain ⟨lp1, lp2, lp3⟩ := hp.len
  have plp := hp.pl
  have hl := fun e h0 h1 h2 => rise_loop k n d s l p hp l.length l [] e (Nat.le_refl _) rfl rfl (by cases l <;> simp) h0 h1 h2
  have hvl : ViewL true (stM [.int .i64 k, .int .i64 n, .str s, p] d).get [p, .func n_value_may_1 [.ptr 1 0]] [p, .func n_value_may_1 [.iptr [.int .i64 d] 0]] :=
    viewL_cons plp.view (viewL_cons (view_func (viewL_cons (view_ptr rfl (pl_cons (.int _ _) pl_nil)) viewL_nil)) viewL_nil)
  have hd8 : decide (8 < d) = false := decide_eq_false (by omega)
  have e256 : decide ((l.length : Int) ≤ 256) = !decide (256 < (l.length : Int)) := by by_cases h : 256 < (l.length : Int) <;> simp [h] <;> omega
  have e512 : decide ((l.length : Int) ≤ 512) = !decide (512 < (l.length : Int)) := by by_cases h : 512 < (l.length : Int) <;> simp [h] <;> omega
  have epar : decide ((l.length : Int).tmod 2 = 0) = !decide ((l.length : Int).tmod 2 = 1) := by
    rw [Int.tmod_eq_emod_of_nonneg (by omega)]
    by_cases h : (l.length : Int) % 2 = 1 <;> simp [h] <;> omega
  by_cases h1 : k = 1
  · subst h1
    clear hl
    have hm : mayV (f + 1) (.mk 1 n s l) = (decide (s = []) && decide ((l.length : Int) = 0)) := by simp [mayV]
    rw [hm]
    generalize l.all (mayV f) = a at hall ⊢
    refine call_V rfl rfl ?_
    repeat' first | ((with_reducible show Go.AM.V _ _ _ _ _ _); first | refine V_cH hd8 rfl rfl ?_ | refine V_O rfl ?_ | refine V_cT rfl rfl ?_ | refine V_fA rfl rfl ?_) | ((with_reducible show Go.AM.VO _ _ _ _ _ _ _); first | refine O_stepL rfl ?_ | refine O_lenO rfl lp1 lp2 ?_ | refine O_step rfl ?_ | refine O_nil' ?_ | refine O_gT' rfl ?_ | refine O_gF' rfl rfl ?_ | refine O_gS rfl (fun _ => ?_) (fun _ => ?_))
    all_goals clear hall hvl hm e256 e512 epar
    all_goals first | (simp only [*, Bool.true_and, Bool.and_true, Bool.false_and, Bool.and_false, Bool.true_or, Bool.or_true, Bool.false_or, Bool.or_false, Bool.not_true, Bool.not_false, Bool.not_not]; done) | (exfalso; simp_all; done)
  by_cases h3 : k = 3
  · subst h3
    clear hl
    have hm : mayV (f + 1) (.mk 3 n s l) = (decide (s = []) && decide ((l.length : Int) = 0) && (decide (n = 0) || decide (n = 1))) := by simp [mayV]
    rw [hm]
    generalize l.all (mayV f) = a at hall ⊢
    refine call_V rfl rfl ?_
    repeat' first | ((with_reducible show Go.AM.V _ _ _ _ _ _); first | refine V_cH hd8 rfl rfl ?_ | refine V_O rfl ?_ | refine V_cT rfl rfl ?_ | refine V_cF rfl rfl ?_ | refine V_fA rfl rfl ?_) | ((with_reducible show Go.AM.VO _ _ _ _ _ _ _); first | refine O_stepL rfl ?_ | refine O_lenO rfl lp1 lp2 ?_ | refine O_step rfl ?_ | refine O_nil' ?_ | refine O_gT' rfl ?_ | refine O_gU' rfl ?_ | refine O_gF' rfl rfl ?_ | refine O_gS rfl (fun _ => ?_) (fun _ => ?_))
    all_goals clear hall hvl hm e256 e512 epar
    all_goals first | (simp only [*, Bool.true_and, Bool.and_true, Bool.false_and, Bool.and_false, Bool.true_or, Bool.or_true, Bool.false_or, Bool.or_false, Bool.not_true, Bool.not_false, Bool.not_not]; done) | (exfalso; simp_all; done)
  by_cases h6 : k = 6
  · subst h6
    clear hl
    have hm : mayV (f + 1) (.mk 6 n s l) = (decide (s = []) && decide ((l.length : Int) = 0) && decide (1 ≤ n) && decide (n ≤ 281474976710656)) := by simp [mayV]
    rw [hm]
    generalize l.all (mayV f) = a at hall ⊢
    refine call_V rfl rfl ?_
    repeat' first | ((with_reducible show Go.AM.V _ _ _ _ _ _); first | refine V_cH hd8 rfl rfl ?_ | refine V_O rfl ?_ | refine V_cT rfl rfl ?_ | refine V_cF rfl rfl ?_ | refine V_fA rfl rfl ?_) | ((with_reducible show Go.AM.VO _ _ _ _ _ _ _); first | refine O_stepL rfl ?_ | refine O_lenO rfl lp1 lp2 ?_ | refine O_step rfl ?_ | refine O_nil' ?_ | refine O_gT' rfl ?_ | refine O_gF' rfl rfl ?_ | refine O_gS rfl (fun _ => ?_) (fun _ => ?_))
    all_goals clear hall hvl hm e256 e512 epar
    all_goals first | (simp only [*, Bool.true_and, Bool.and_true, Bool.false_and, Bool.and_false, Bool.true_or, Bool.or_true, Bool.false_or, Bool.or_false, Bool.not_true, Bool.not_false, Bool.not_not]; done) | (exfalso; simp_all; done)
  by_cases h7 : k = 7
  · subst h7
    clear hl
    have hm : mayV (f + 1) (.mk 7 n s l) = (decide (s = []) && decide ((l.length : Int) = 0) && decide (1 ≤ n) && decide (n ≤ 281474976710656)) := by simp [mayV]
    rw [hm]
    generalize l.all (mayV f) = a at hall ⊢
    refine call_V rfl rfl ?_
    repeat' first | ((with_reducible show Go.AM.V _ _ _ _ _ _); first | refine V_cH hd8 rfl rfl ?_ | refine V_O rfl ?_ | refine V_cT rfl rfl ?_ | refine V_cF rfl rfl ?_ | refine V_fA rfl rfl ?_) | ((with_reducible show Go.AM.VO _ _ _ _ _ _ _); first | refine O_stepL rfl ?_ | refine O_lenO rfl lp1 lp2 ?_ | refine O_step rfl ?_ | refine O_nil' ?_ | refine O_gT' rfl ?_ | refine O_gF' rfl rfl ?_ | refine O_gS rfl (fun _ => ?_) (fun _ => ?_))
    all_goals clear hall hvl hm e256 e512 epar
    all_goals first | (simp only [*, Bool.true_and, Bool.and_true, Bool.false_and, Bool.and_false, Bool.true_or, Bool.or_true, Bool.false_or, Bool.or_false, Bool.not_true, Bool.not_false, Bool.not_not]; done) | (exfalso; simp_all; done)
  by_cases h2 : k = 2
  · subst h2
    clear hl
    have hm : mayV (f + 1) (.mk 2 n s l) = (decide (n = 0) && decide ((l.length : Int) = 0) && decide ((s.length : Int) ≤ 128)) := by simp [mayV]
    rw [hm]
    generalize l.all (mayV f) = a at hall ⊢
    refine call_V rfl rfl ?_
    repeat' first | ((with_reducible show Go.AM.V _ _ _ _ _ _); first | refine V_cH hd8 rfl rfl ?_ | refine V_O rfl ?_ | refine V_cT rfl rfl ?_ | refine V_cF rfl rfl ?_ | refine V_fA rfl rfl ?_) | ((with_reducible show Go.AM.VO _ _ _ _ _ _ _); first | refine O_stepL rfl ?_ | refine O_lenO rfl lp1 lp2 ?_ | refine O_step rfl ?_ | refine O_nil' ?_ | refine O_gT' rfl ?_ | refine O_gF' rfl rfl ?_ | refine O_gS rfl (fun _ => ?_) (fun _ => ?_))
    all_goals clear hall hvl hm e256 e512 epar
    all_goals first | (simp only [*, Bool.true_and, Bool.and_true, Bool.false_and, Bool.and_false, Bool.true_or, Bool.or_true, Bool.false_or, Bool.or_false, Bool.not_true, Bool.not_false, Bool.not_not]; done) | (exfalso; simp_all; done)
  by_cases h4 : k = 4
  · subst h4
    clear hl
    have hm : mayV (f + 1) (.mk 4 n s l) = (decide (n = 0) && decide (s = []) && decide ((l.length : Int) ≤ 256) && l.all (mayV f)) := by simp [mayV]
    rw [hm]
    rw [e256]
    generalize l.all (mayV f) = a at hall ⊢
    refine call_V rfl rfl ?_
    repeat' first | ((with_reducible show Go.AM.V _ _ _ _ _ _); first | refine V_cH hd8 rfl rfl ?_ | refine V_O rfl ?_ | refine V_cT rfl rfl ?_ | refine V_cF rfl rfl ?_ | refine V_cB rfl rfl (fun _ => ?_) (fun _ => ?_) | refine V_fA rfl rfl ?_) | ((with_reducible show Go.AM.VO _ _ _ _ _ _ _); first | refine O_stepL rfl ?_ | refine O_lenO rfl lp1 lp2 ?_ | refine O_callSP rfl rfl hvl rfl hall ?_ | refine O_step rfl ?_ | refine O_nil' ?_ | refine O_gT' rfl ?_ | refine O_gF' rfl rfl ?_ | refine O_gS rfl (fun _ => ?_) (fun _ => ?_))
    all_goals clear hall hvl hm e256 e512 epar
    all_goals first | (simp only [*, Bool.true_and, Bool.and_true, Bool.false_and, Bool.and_false, Bool.true_or, Bool.or_true, Bool.false_or, Bool.or_false, Bool.not_true, Bool.not_false, Bool.not_not]; done) | (exfalso; simp_all; done)
  by_cases h5 : k = 5
  · subst h5
    have hm : mayV (f + 1) (.mk 5 n s l) = (decide (n = 0) && decide (s = []) && decide ((l.length : Int) ≤ 512) && decide ((l.length : Int).tmod 2 = 0) && l.all (mayV f) && risesV l) := by simp [mayV]
    rw [hm, e512, epar]
    generalize l.all (mayV f) = a at hall ⊢
    generalize hrr : risesV l = r
    refine call_V rfl rfl ?_
    repeat' first | ((with_reducible show Go.AM.V _ _ _ _ _ _); first | refine V_cH hd8 rfl rfl ?_ | refine V_cutA rfl (hl _ rfl rfl rfl) ?_ | refine V_O rfl ?_ | refine V_cT rfl rfl ?_ | refine V_cF rfl rfl ?_ | refine V_cB rfl rfl (fun _ => ?_) (fun _ => ?_) | refine V_fA rfl rfl ?_) | ((with_reducible show Go.AM.VO _ _ _ _ _ _ _); first | refine O_stepL rfl ?_ | refine O_lenO rfl lp1 lp2 ?_ | refine O_rem rfl rfl rfl ?_ | refine O_step rfl ?_ | refine O_nil' ?_ | refine O_gT' rfl ?_ | refine O_gF' rfl rfl ?_ | refine O_gS rfl (fun _ => ?_) (fun _ => ?_))
    all_goals clear hl hm e256 e512 epar
    all_goals try (rintro x e' st' ⟨rfl, ⟨rfl, rfl, hrv⟩ | ⟨rfl, rfl, hrv⟩⟩; all_goals rw [hrr] at hrv)
    all_goals repeat' first | ((with_reducible show Go.AM.V _ _ _ _ _ _); first | refine V_O rfl ?_ | refine V_fA rfl rfl ?_) | ((with_reducible show Go.AM.VO _ _ _ _ _ _ _); first | refine O_callSP rfl rfl hvl rfl hall ?_ | refine O_step rfl ?_ | refine O_nil' ?_ | refine O_gT' rfl ?_ | refine O_gF' rfl rfl ?_ | refine O_gS rfl (fun _ => ?_) (fun _ => ?_))
    all_goals clear hall hvl
    all_goals first | (simp only [*, Bool.true_and, Bool.and_true, Bool.false_and, Bool.and_false, Bool.true_or, Bool.or_true, Bool.false_or, Bool.or_false, Bool.not_true, Bool.not_false, Bool.not_not]; done) | (exfalso; simp_all; done)
  · clear hl
    have hm : mayV (f + 1) (.mk k n s l) = false := by simp [mayV, *]
    rw [hm]
    refine call_V rfl rfl ?_
    repeat' first | ((with_reducible show Go.AM.V _ _ _ _ _ _); first | refine V_cH hd8 rfl rfl ?_ | refine V_cH (decide_eq_false h1) rfl rfl ?_ | refine V_cH (decide_eq_false h3) rfl rfl ?_ | refine V_cH (decide_eq_false h6) rfl rfl ?_ | refine V_cH (decide_eq_false h7) rfl rfl ?_ | refine V_cH (decide_eq_false h2) rfl rfl ?_ | refine V_cH (decide_eq_false h4) rfl rfl ?_ | refine V_cH (decide_eq_false h5) rfl rfl ?_ | refine V_O rfl ?_ | refine V_fA rfl rfl ?_) | ((with_reducible show Go.AM.VO _ _ _ _ _ _ _); first | refine O_stepL rfl ?_ | refine O_lenO rfl lp1 lp2 ?_ | refine O_step rfl ?_ | refine O_nil' ?_ | refine O_gT' rfl ?_ | refine O_gF' rfl rfl ?_ | refine O_gS rfl (fun _ => ?_) (fun _ => ?_))
    all_goals rfl
end Go.Proofs.YtgdjnlopdpjnaaaGreatDoor
set_option linter.unusedVariables false
set_option linter.unusedSimpArgs false
namespace Go.Proofs.YtgdjnlopdpjnaaaGreatDoor
open Go Go.AM Go.RowKit
def allP (P : Val → Bool) (l : List Val) : EX → EC → St → Prop := fun x e' st' => st' = emptySt ∧ ((x = .exit 0 ∧ l.all P = true) ∨ (x = .ret ∧ e' = .put 4 (.bool false) .nil ∧ l.all P = false))
theorem all2_loop (P : Val → Bool) (d : Int) (l : List Val) (p : PV) (hp : LC l p)
    (hm : ∀ (j : Nat) (v : Val) (cs : List PV), l[j]? = some v → At 4 p j cs → T.R (.call n_rambleref02_may [.agg cs, .int .i64 (IntKind.i64.wrap (d + 1))] (.bool (P v)))) :
    ∀ (ra pre : List Val) (e : EC), l = pre ++ ra → l.all P = ra.all P → e.get 0 = some p → e.get 1 = some (.int .i64 d) → e.get 5 = some (.int .i64 pre.length) →
    V T (PE (allP P l)) [.code (.loop lp_rambleref02_all_0)] .normal e emptySt := by
  obtain ⟨lp1, lp2, lp3⟩ := hp.len
  intro ra
  induction ra with
  | nil =>
    intro pre e ha hi h0 h1 h5
    have out : ∀ (fr : List Fr) (x : EX) (e' : EC), adv 200 fr x = ([], .exit 0) → V T (PE (allP P l)) fr x e' emptySt := fun fr x e' hadv => V_endP hadv ⟨rfl, .inl ⟨rfl, by rw [hi]; rfl⟩⟩
    refine V_less (.put 0 p (.put 1 _ (.put 5 _ .nil))) (less_put h0 (less_put h1 (less_put h5 less_nil))) (V_unroll ?_)
    repeat' first | ((with_reducible show Go.AM.V _ _ _ _ _ _); first | refine V_O rfl ?_ | refine V_cB rfl rfl (fun _ => ?_) (fun _ => ?_)) | ((with_reducible show Go.AM.VO _ _ _ _ _ _ _); first | refine O_lenO rfl lp1 lp2 ?_ | refine O_step rfl ?_ | refine O_nil' ?_) | refine out _ _ _ rfl
    all_goals (exfalso; clear out; subst ha; simp at *)
  | cons y ra ihr =>
    intro pre e ha hi h0 h1 h5
    refine V_less (.put 0 p (.put 1 _ (.put 5 _ .nil))) (less_put h0 (less_put h1 (less_put h5 less_nil))) (V_unroll ?_)
    have hy : l[pre.length]? = some y := by subst ha; simp
    obtain ⟨cy, ay, vy⟩ := hp.at hy
    have ply := vy.pl
    have hcall := hm _ y cy hy ay
    cases hyP : P y with
    | true =>
      rw [hyP] at hcall
      have fin : ∀ (fr : List Fr) (x : EX) (e' : EC), adv 200 fr x = ([.code (.loop lp_rambleref02_all_0)], .normal) → e'.get 0 = some p → e'.get 1 = some (.int .i64 d) → e'.get 5 = some (.int .i64 (IntKind.i64.wrap (pre.length + 1))) → V T (PE (allP P l)) fr x e' emptySt := fun fr x e' hadv g0 g1 g5 => V_adv hadv (by
        have hlt : pre.length < l.length := by subst ha; simp
        have hw : IntKind.i64.wrap (pre.length + 1) = ((pre ++ [y]).length : Int) := by rw [wrap_i64]; simp; omega
        rw [hw] at g5
        exact ihr (pre ++ [y]) e' (by rw [ha]; simp) (by rw [hi]; simp [hyP]) g0 g1 g5)
      repeat' first | ((with_reducible show Go.AM.V _ _ _ _ _ _); first | refine V_O rfl ?_ | refine V_cF rfl rfl ?_ | refine V_cB rfl rfl (fun _ => ?_) (fun _ => ?_)) | ((with_reducible show Go.AM.VO _ _ _ _ _ _ _); first | refine O_lenO rfl lp1 lp2 ?_ | refine O_at rfl rfl ay ?_ | refine O_loadA rfl vy.len4 ?_ | refine O_cA rfl rfl hcall ?_ | refine O_step rfl ?_ | refine O_nil' ?_) | refine fin _ _ _ rfl rfl rfl rfl
      all_goals (exfalso; clear fin ihr hcall hm; subst ha; simp at *; try omega)
    | false =>
      rw [hyP] at hcall
      have ret : ∀ (fr : List Fr) (x : EX) (e' : EC), adv 200 fr x = ([], .ret) → e'.get 4 = some (.bool false) → V T (PE (allP P l)) fr x e' emptySt := fun fr x e' hadv g0 =>
        V_less (.put 4 _ .nil) (less_put g0 less_nil) (V_endP hadv ⟨rfl, .inr ⟨rfl, rfl, by rw [hi]; simp [hyP]⟩⟩)
      repeat' first | ((with_reducible show Go.AM.V _ _ _ _ _ _); first | refine V_O rfl ?_ | refine V_cT rfl rfl ?_ | refine V_cB rfl rfl (fun _ => ?_) (fun _ => ?_)) | ((with_reducible show Go.AM.VO _ _ _ _ _ _ _); first | refine O_lenO rfl lp1 lp2 ?_ | refine O_at rfl rfl ay ?_ | refine O_loadA rfl vy.len4 ?_ | refine O_cA rfl rfl hcall ?_ | refine O_step rfl ?_ | refine O_nil' ?_) | refine ret _ _ _ rfl rfl
      all_goals (exfalso; clear ihr ret hcall hm; subst ha; simp at *; try omega)
theorem run_all2 (P : Val → Bool) (d : Int) (l : List Val) (p : PV) (hp : LC l p)
    (hm : ∀ (j : Nat) (v : Val) (cs : List PV), l[j]? = some v → At 4 p j cs → T.R (.call n_rambleref02_may [.agg cs, .int .i64 (IntKind.i64.wrap (d + 1))] (.bool (P v)))) :
    T.R (.call n_rambleref02_all [p, .int .i64 d] (.bool (l.all P))) := by
  have hl := fun e h0 h1 h2 => all2_loop P d l p hp hm l [] e rfl rfl h0 h1 h2
  generalize hr : l.all P = r at hl ⊢
  refine call_V rfl rfl ?_
  repeat' first | ((with_reducible show Go.AM.V _ _ _ _ _ _); first | refine V_cutA rfl (hl _ rfl rfl rfl) ?_ | refine V_O rfl ?_) | ((with_reducible show Go.AM.VO _ _ _ _ _ _ _); first | refine O_step rfl ?_ | refine O_nil' ?_)
  rintro x e' st' ⟨rfl, ⟨rfl, h⟩ | ⟨rfl, rfl, h⟩⟩
  · repeat' first | ((with_reducible show Go.AM.V _ _ _ _ _ _); first | refine V_O rfl ?_ | refine V_fA rfl rfl ?_) | ((with_reducible show Go.AM.VO _ _ _ _ _ _ _); first | refine O_step rfl ?_ | refine O_nil' ?_)
    rw [← hr, h]
  · repeat' first | refine V_fA rfl rfl ?_
    rw [← hr, h]
def rise2P (l : List Val) : EX → EC → St → Prop := fun x e' st' => st' = emptySt ∧ ((x = .exit 0 ∧ risesV l = true) ∨ (x = .ret ∧ e' = .put 2 (.bool false) .nil ∧ risesV l = false))
theorem rise2_loop (l : List Val) (p : PV) (hp : LC l p) :
    ∀ (m : Nat) (ra pre : List Val) (e : EC), ra.length ≤ m → l = pre ++ ra → risesV l = risesV ra → (ra ≠ [] ∨ l = []) → e.get 0 = some p → e.get 3 = some (.int .i64 (pre.length + 2)) →
    V T (PE (rise2P l)) [.code (.loop lp_rambleref02_rises_0)] .normal e emptySt := by
  obtain ⟨lp1, lp2, lp3⟩ := hp.len
  intro m
  induction m with
  | zero =>
    intro ra pre e hm hl hr hne h0 h3
    have hra : ra = [] := by cases ra with
      | nil => rfl
      | cons y ra => simp at hm
    have hl0 : l = [] := by rcases hne with h | h
                            · exact absurd hra h
                            · exact h
    have hpre : pre = [] := by rw [hl0] at hl; simp at hl; exact hl.1
    have out : ∀ (fr : List Fr) (x : EX) (e' : EC), adv 200 fr x = ([], .exit 0) → V T (PE (rise2P l)) fr x e' emptySt := fun fr x e' hadv => V_endP hadv ⟨rfl, .inl ⟨rfl, by rw [hl0]; rfl⟩⟩
    refine V_less (.put 0 p (.put 3 _ .nil)) (less_put h0 (less_put h3 less_nil)) (V_unroll ?_)
    repeat' first | ((with_reducible show Go.AM.V _ _ _ _ _ _); first | refine V_O rfl ?_ | refine V_cB rfl rfl (fun _ => ?_) (fun _ => ?_) | refine V_D rfl ?_) | ((with_reducible show Go.AM.VO _ _ _ _ _ _ _); first | refine O_lenO rfl lp1 lp2 ?_ | refine O_step rfl ?_ | refine O_nil' ?_) | ((with_reducible show Go.AM.VD _ _ _ _ _ _ _); first | refine D_step rfl ?_) | refine out _ _ _ rfl
    all_goals (exfalso; clear out; subst hl0 hpre; simp at *)
  | succ m ihr =>
    intro ra pre e hm hl hr hne h0 h3
    match ra, hm, hl, hr, hne with
    | [], hm, hl, hr, hne => exact ihr [] pre e (by simp) hl hr hne h0 h3
    | [y], hm, hl, hr, hne =>
      have out : ∀ (fr : List Fr) (x : EX) (e' : EC), adv 200 fr x = ([], .exit 0) → V T (PE (rise2P l)) fr x e' emptySt := fun fr x e' hadv => V_endP hadv ⟨rfl, .inl ⟨rfl, by rw [hr]; rfl⟩⟩
      refine V_less (.put 0 p (.put 3 _ .nil)) (less_put h0 (less_put h3 less_nil)) (V_unroll ?_)
      repeat' first | ((with_reducible show Go.AM.V _ _ _ _ _ _); first | refine V_O rfl ?_ | refine V_cB rfl rfl (fun _ => ?_) (fun _ => ?_) | refine V_D rfl ?_) | ((with_reducible show Go.AM.VO _ _ _ _ _ _ _); first | refine O_lenO rfl lp1 lp2 ?_ | refine O_step rfl ?_ | refine O_nil' ?_) | ((with_reducible show Go.AM.VD _ _ _ _ _ _ _); first | refine D_step rfl ?_) | refine out _ _ _ rfl
      all_goals (exfalso; clear out; subst hl; simp at *; try omega)
    | [y, z], hm, hl, hr, hne =>
      have out : ∀ (fr : List Fr) (x : EX) (e' : EC), adv 200 fr x = ([], .exit 0) → V T (PE (rise2P l)) fr x e' emptySt := fun fr x e' hadv => V_endP hadv ⟨rfl, .inl ⟨rfl, by rw [hr]; rfl⟩⟩
      refine V_less (.put 0 p (.put 3 _ .nil)) (less_put h0 (less_put h3 less_nil)) (V_unroll ?_)
      repeat' first | ((with_reducible show Go.AM.V _ _ _ _ _ _); first | refine V_O rfl ?_ | refine V_cB rfl rfl (fun _ => ?_) (fun _ => ?_) | refine V_D rfl ?_) | ((with_reducible show Go.AM.VO _ _ _ _ _ _ _); first | refine O_lenO rfl lp1 lp2 ?_ | refine O_step rfl ?_ | refine O_nil' ?_) | ((with_reducible show Go.AM.VD _ _ _ _ _ _ _); first | refine D_step rfl ?_) | refine out _ _ _ rfl
      all_goals (exfalso; clear out; subst hl; simp at *)
    | y :: z :: w :: ra, hm, hl, hr, hne =>
      have hlt : pre.length + 2 < l.length := by subst hl; simp
      have hy : l[pre.length]? = some y := by subst hl; simp
      have hw : l[pre.length + 2]? = some w := by subst hl; simp
      obtain ⟨cy, ay, vy⟩ := hp.at hy
      obtain ⟨cw, aw, vw⟩ := hp.at hw
      have ply := vy.pl
      have plw := vw.pl
      have hcall := run_Compare2 vy w cw vw
      have ay' : At 4 p (IntKind.i64.wrap ((pre.length : Int) + 2 - 2)) cy := by
        have : IntKind.i64.wrap ((pre.length : Int) + 2 - 2) = (pre.length : Int) := by rw [wrap_i64]; omega
        rw [this]; exact ay
      have aw' : At 4 p ((pre.length : Int) + 2) cw := by
        have : ((pre.length + 2 : Nat) : Int) = (pre.length : Int) + 2 := by omega
        rw [← this]; exact aw
      have hr' : risesV l = (decide (cmpV y w < 0) && risesV (w :: ra)) := by rw [hr]; rfl
      generalize cmpV y w = r at hcall hr'
      by_cases hrr : r < 0
      · have fin : ∀ (fr : List Fr) (x : EX) (e' : EC), adv 200 fr x = ([.code (.loop lp_rambleref02_rises_0)], .normal) → e'.get 0 = some p → e'.get 3 = some (.int .i64 (IntKind.i64.wrap ((pre.length : Int) + 2 + 2))) → V T (PE (rise2P l)) fr x e' emptySt := fun fr x e' hadv g0 g3 => V_adv hadv (by
          have hw : IntKind.i64.wrap ((pre.length : Int) + 2 + 2) = ((pre ++ [y, z]).length : Int) + 2 := by rw [wrap_i64]; simp; omega
          rw [hw] at g3
          exact ihr (w :: ra) (pre ++ [y, z]) e' (by simp at hm ⊢; omega) (by rw [hl]; simp) (by rw [hr', decide_eq_true hrr]; rfl) (.inl (by simp)) g0 g3)
        refine V_less (.put 0 p (.put 3 _ .nil)) (less_put h0 (less_put h3 less_nil)) (V_unroll ?_)
        repeat' first | ((with_reducible show Go.AM.V _ _ _ _ _ _); first | refine V_O rfl ?_ | refine V_cB rfl rfl (fun _ => ?_) (fun _ => ?_) | refine V_D rfl ?_) | ((with_reducible show Go.AM.VO _ _ _ _ _ _ _); first | refine O_lenO rfl lp1 lp2 ?_ | refine O_step rfl ?_ | refine O_nil' ?_) | ((with_reducible show Go.AM.VD _ _ _ _ _ _ _); first | refine D_at rfl rfl ay' ?_ | refine D_at rfl rfl aw' ?_ | refine D_loadA rfl vy.len4 ?_ | refine D_loadA rfl vw.len4 ?_ | refine D_cA rfl rfl hcall ?_ | refine D_step rfl ?_ | refine D_nil' ?_) | refine fin _ _ _ rfl rfl rfl
        all_goals (exfalso; clear fin ihr hcall; simp at *; try omega)
      · have ret : ∀ (fr : List Fr) (x : EX) (e' : EC), adv 200 fr x = ([], .ret) → e'.get 2 = some (.bool false) → V T (PE (rise2P l)) fr x e' emptySt := fun fr x e' hadv g0 =>
          V_less (.put 2 _ .nil) (less_put g0 less_nil) (V_endP hadv ⟨rfl, .inr ⟨rfl, rfl, by rw [hr', decide_eq_false hrr]; rfl⟩⟩)
        refine V_less (.put 0 p (.put 3 _ .nil)) (less_put h0 (less_put h3 less_nil)) (V_unroll ?_)
        repeat' first | ((with_reducible show Go.AM.V _ _ _ _ _ _); first | refine V_O rfl ?_ | refine V_cB rfl rfl (fun _ => ?_) (fun _ => ?_) | refine V_D rfl ?_) | ((with_reducible show Go.AM.VO _ _ _ _ _ _ _); first | refine O_lenO rfl lp1 lp2 ?_ | refine O_step rfl ?_ | refine O_nil' ?_) | ((with_reducible show Go.AM.VD _ _ _ _ _ _ _); first | refine D_at rfl rfl ay' ?_ | refine D_at rfl rfl aw' ?_ | refine D_loadA rfl vy.len4 ?_ | refine D_loadA rfl vw.len4 ?_ | refine D_cA rfl rfl hcall ?_ | refine D_step rfl ?_ | refine D_nil' ?_) | refine ret _ _ _ rfl rfl
        all_goals (exfalso; clear ihr ret hcall; simp at *; try omega)
theorem run_rises2 (l : List Val) (p : PV) (hp : LC l p) : T.R (.call n_rambleref02_rises [p] (.bool (risesV l))) := by
  have hl := fun e h0 h1 => rise2_loop l p hp l.length l [] e (Nat.le_refl _) rfl rfl (by cases l <;> simp) h0 h1
  generalize hr : risesV l = r at hl ⊢
  refine call_V rfl rfl ?_
  repeat' first | ((with_reducible show Go.AM.V _ _ _ _ _ _); first | refine V_cutA rfl (hl _ rfl rfl) ?_ | refine V_O rfl ?_) | ((with_reducible show Go.AM.VO _ _ _ _ _ _ _); first | refine O_step rfl ?_ | refine O_nil' ?_)
  rintro x e' st' ⟨rfl, ⟨rfl, h⟩ | ⟨rfl, rfl, h⟩⟩
  · repeat' first | ((with_reducible show Go.AM.V _ _ _ _ _ _); first | refine V_O rfl ?_ | refine V_fA rfl rfl ?_) | ((with_reducible show Go.AM.VO _ _ _ _ _ _ _); first | refine O_step rfl ?_ | refine O_nil' ?_)
    rw [← hr, h]
  · repeat' first | refine V_fA rfl rfl ?_
    rw [← hr, h]
theorem LC.el {l : List Val} {p : PV} (h : LC l p) {j : Nat} {v : Val} {cs : List PV} (hv : l[j]? = some v) (ha : At 4 p j cs) : VC v cs := by
  obtain ⟨cs', ha', hc⟩ := h.at hv
  obtain ⟨_, _, xs, f, rfl, h1⟩ := ha
  obtain ⟨_, _, ys, g, he, h2⟩ := ha'
  injection he with he1 he2
  subst he1
  rw [h1] at h2
  injection h2 with h2
  subst h2
  exact hc
theorem run_may2 : ∀ (f : Nat) (d : Int), d + f = 8 → 0 ≤ d → ∀ (v : Val) (cs : List PV), VC v cs → T.R (.call n_rambleref02_may [.agg cs, .int .i64 d] (.bool (mayV f v))) := by
  intro f
  induction f with
  | zero =>
    intro d hd h0 v cs hv
    obtain ⟨k, n, s, l⟩ := v
    obtain ⟨hk, hn, hs, p, rfl, hp⟩ := hv.open
    have plp := hp.pl
    refine call_V rfl rfl ?_
    repeat' first | ((with_reducible show Go.AM.V _ _ _ _ _ _); first | refine V_O rfl ?_ | refine V_cB rfl rfl (fun _ => ?_) (fun _ => ?_) | refine V_fA rfl rfl ?_) | ((with_reducible show Go.AM.VO _ _ _ _ _ _ _); first | refine O_stepL rfl ?_ | refine O_step rfl ?_ | refine O_nil' ?_ | refine O_gT' rfl ?_ | refine O_gU' rfl ?_ | refine O_gF' rfl rfl ?_ | refine O_gS rfl (fun _ => ?_) (fun _ => ?_))
    · rfl
    all_goals (exfalso; simp at *; omega)
  | succ f ih =>
    intro d hd h0 v cs hv
    obtain ⟨k, n, s, l⟩ := v
    obtain ⟨hk, hn, hs, p, rfl, hp⟩ := hv.open
    have hw : IntKind.i64.wrap (d + 1) = d + 1 := by rw [wrap_i64]; omega
    exact run_may2_step f d ⟨by omega, h0⟩ k n s l p hp (run_all2 (mayV f) d l p hp (fun j v cs hj ha => by
      rw [hw]
      exact ih (d + 1) (by omega) (by omega) v cs (hp.el hj ha))) (run_rises2 l p hp)
theorem all_any (P : Val → Bool) (l : List Val) : (l.any fun v => !P v) = !l.all P := by
  induction l with
  | nil => rfl
  | cons v l ih => simp [ih]
theorem run_may : ∀ (f : Nat) (d : Int), d + f = 9 → 0 ≤ d → ∀ (v : Val) (cs : List PV), VC v cs → T.R (.call n_value_may [.agg cs, .int .i64 d] (.bool (mayV f v))) := by
  intro f
  induction f with
  | zero =>
    intro d hd h0 v cs hv
    obtain ⟨k, n, s, l⟩ := v
    obtain ⟨hk, hn, hs, p, rfl, hp⟩ := hv.open
    have plp := hp.pl
    refine call_V rfl rfl ?_
    repeat' first | ((with_reducible show Go.AM.V _ _ _ _ _ _); first | refine V_O rfl ?_ | refine V_cB rfl rfl (fun _ => ?_) (fun _ => ?_) | refine V_fA rfl rfl ?_) | ((with_reducible show Go.AM.VO _ _ _ _ _ _ _); first | refine O_stepL rfl ?_ | refine O_step rfl ?_ | refine O_nil' ?_ | refine O_gT' rfl ?_ | refine O_gU' rfl ?_ | refine O_gF' rfl rfl ?_ | refine O_gS rfl (fun _ => ?_) (fun _ => ?_))
    · rfl
    all_goals (exfalso; simp at *; omega)
  | succ f ih =>
    intro d hd h0 v cs hv
    obtain ⟨k, n, s, l⟩ := v
    obtain ⟨hk, hn, hs, p, rfl, hp⟩ := hv.open
    have h := run_ContainsFunc (fun v => !mayV f v) n_value_may_1 [.iptr [.int .i64 d] 0] (pl_cons (.iptr _ _ (pl_cons (.int _ _) pl_nil)) pl_nil) l p hp (fun j v cs hj ha =>
      run_may1 f d ⟨by omega, h0⟩ v cs (hp.el hj ha) (ih (d + 1) (by omega) (by omega) v cs (hp.el hj ha)))
    rw [all_any] at h
    exact run_may_step f d ⟨by omega, h0⟩ k n s l p hp h
def chk (v : Val) : Int := if mayV 8 v then 0 else 20
theorem run_Check2 {v : Val} {cs : List PV} (hv : VC v cs) : T.R (.call n_rambleref02_Check [.agg cs] (.int .i64 (chk v))) := by
  have h := run_may2 8 0 (by omega) (by omega) v cs hv
  unfold chk
  generalize mayV 8 v = r at h ⊢
  obtain ⟨k, n, s, l⟩ := v
  obtain ⟨hk, hn, hs, p, rfl, hp⟩ := hv.open
  have plp := hp.pl
  refine call_V rfl rfl ?_
  repeat' first | ((with_reducible show Go.AM.V _ _ _ _ _ _); first | refine V_O rfl ?_ | refine V_cB rfl rfl (fun _ => ?_) (fun _ => ?_) | refine V_fA rfl rfl ?_) | ((with_reducible show Go.AM.VO _ _ _ _ _ _ _); first | refine O_stepL rfl ?_ | refine O_cA rfl rfl h ?_ | refine O_step rfl ?_ | refine O_nil' ?_)
  all_goals simp_all
theorem run_Check {v : Val} {cs : List PV} (hv : VC v cs) : T.R (.call n_value_Check [.agg cs] (.int .i64 (chk v))) := by
  have h := run_may 8 1 (by omega) (by omega) v cs hv
  unfold chk
  generalize mayV 8 v = r at h ⊢
  obtain ⟨k, n, s, l⟩ := v
  obtain ⟨hk, hn, hs, p, rfl, hp⟩ := hv.open
  have plp := hp.pl
  refine call_V rfl rfl ?_
  repeat' first | ((with_reducible show Go.AM.V _ _ _ _ _ _); first | refine V_O rfl ?_ | refine V_cB rfl rfl (fun _ => ?_) (fun _ => ?_) | refine V_fA rfl rfl ?_) | ((with_reducible show Go.AM.VO _ _ _ _ _ _ _); first | refine O_stepL rfl ?_ | refine O_cA rfl rfl h ?_ | refine O_step rfl ?_ | refine O_nil' ?_)
  all_goals simp_all
end Go.Proofs.YtgdjnlopdpjnaaaGreatDoor
set_option linter.unusedVariables false
set_option linter.unusedSimpArgs false
namespace Go.Proofs.YtgdjnlopdpjnaaaGreatDoor
open Go Go.AM Go.RowKit
inductive TR where
  | err (e : Int)
  | ok (v : Val) (n : Nat)
def made (v : Val) (n : Nat) : TR := if mayV 8 v then .ok v n else .err 30
def strR : List UInt8 → List UInt8 → Nat → TR
  | [], _, _ => .err 11
  | [b], acc, n => if b = 0 then .err 11 else .err 11
  | b :: c :: r, acc, n => if b = 0 then (if c = 1 then made (.mk 2 0 acc []) (n + 2) else if c = 255 then strR r (acc ++ [0]) (n + 2) else .err 30) else strR (c :: r) (acc ++ [b]) (n + 1)
def un8 (l : List UInt8) : Nat := l.foldl (fun u c => u * 256 + c.toNat) 0
def unord (u : Nat) : Int := (u : Int) - 9223372036854775808
def takeR : List UInt8 → TR
  | [] => .err 11
  | c :: r => if c = 1 ∨ c = 6 ∨ c = 7 then (if r.length < 8 then .err 11 else made (.mk c.toNat (unord (un8 (r.take 8))) [] []) 9)
    else if c = 3 then (match r with
      | [] => .err 11
      | d :: _ => made (.mk 3 d.toNat [] []) 2)
    else if c = 2 then strR r [] 1 else .err 30
def trPV : TR → PV
  | .err e => .tuple [.agg [.int .i64 0, .int .i64 0, .str [], .nilSl], .int .i64 0, .int .i64 e]
  | .ok (.mk k n s _) m => .tuple [.agg [.int .i64 k, .int .i64 n, .str s, .nilSl], .int .i64 m, .int .i64 0]
theorem un8_snoc (l : List UInt8) (c : UInt8) : un8 (l ++ [c]) = un8 l * 256 + c.toNat := by simp [un8, List.foldl_append]
theorem foldl_lt : ∀ (l : List UInt8) (u m : Nat), u < 256 ^ m → l.foldl (fun u c => u * 256 + c.toNat) u < 256 ^ (m + l.length)
  | [], u, m, h => h
  | c :: l, u, m, h => by
    have hc := c.toNat_lt
    have h1 : u * 256 + c.toNat < 256 ^ (m + 1) := by rw [Nat.pow_succ]; omega
    have := foldl_lt l (u * 256 + c.toNat) (m + 1) h1
    simp only [List.foldl_cons, List.length_cons]
    rw [show m + (l.length + 1) = m + 1 + l.length by omega]
    exact this
theorem un8_lt (l : List UInt8) : un8 l < 256 ^ l.length := by
  have := foldl_lt l 0 0 (by decide)
  simpa [un8] using this
theorem or8 (u c : Nat) (hu : u < 72057594037927936) (hc : c < 256) : IntKind.u64.wrap ((BitVec.ofInt 64 (IntKind.u64.wrap ((u : Int) * 2 ^ (min (8 : Int).toNat IntKind.u64.bits))) ||| BitVec.ofInt 64 (IntKind.u64.wrap (c : Int))).toNat : Int) = ((u * 256 + c : Nat) : Int) := by
  have e1 : (2 : Int) ^ (min (8 : Int).toNat IntKind.u64.bits) = 256 := rfl
  have a : IntKind.u64.wrap ((u : Int) * 256) = ((u * 256 : Nat) : Int) := by rw [wrap_u64]; omega
  have b : IntKind.u64.wrap (c : Int) = (c : Int) := by rw [wrap_u64]; omega
  rw [e1, a, b, BitVec.toNat_or, BitVec.ofInt_natCast, BitVec.ofInt_natCast, BitVec.toNat_ofNat, BitVec.toNat_ofNat, Nat.mod_eq_of_lt (by omega), Nat.mod_eq_of_lt (by omega)]
  have h := Nat.shiftLeft_add_eq_or_of_lt (i := 8) (b := c) (by simpa using hc) u
  rw [Nat.shiftLeft_eq] at h
  have e3 : (2 : Nat) ^ 8 = 256 := rfl
  rw [e3] at h
  rw [← h, wrap_u64]
  omega
theorem unflip (u : Nat) (hu : u < 18446744073709551616) : IntKind.i64.wrap (IntKind.u64.wrap ((BitVec.ofInt 64 (u : Int) ^^^ BitVec.ofInt 64 9223372036854775808).toNat : Int)) = unord u := by
  rw [bv_top u hu, wrap_u64, wrap_i64]
  unfold unord
  omega
theorem run_none (e : Int) : T.R (.call n_codec_none [.int .i64 e] (trPV (.err e))) := by
  refine call_V rfl rfl ?_
  repeat' first | ((with_reducible show Go.AM.V _ _ _ _ _ _); first | refine V_O rfl ?_ | refine V_fA rfl rfl ?_) | ((with_reducible show Go.AM.VO _ _ _ _ _ _ _); first | refine O_stepL rfl ?_ | refine O_step rfl ?_ | refine O_nil' ?_)
  rfl
theorem run_made (k n : Int) (s : List UInt8) (m : Nat) (hk : I64 k) (hn : I64 n) (hs : s.length ≤ 140737488355328) : T.R (.call n_codec_made [.agg [.int .i64 k, .int .i64 n, .str s, .nilSl], .int .i64 m] (trPV (made (.mk k n s []) m))) := by
  have hchk := run_Check (VC.nil k n s hk hn hs)
  unfold made
  by_cases hm : mayV 8 (.mk k n s []) = true
  · have hc : chk (.mk k n s []) = 0 := by simp [chk, hm]
    rw [hc] at hchk
    rw [if_pos hm]
    refine call_V rfl rfl ?_
    repeat' first | ((with_reducible show Go.AM.V _ _ _ _ _ _); first | refine V_O rfl ?_ | refine V_cF rfl rfl ?_ | refine V_fA rfl rfl ?_) | ((with_reducible show Go.AM.VO _ _ _ _ _ _ _); first | refine O_cA rfl rfl hchk ?_ | refine O_step rfl ?_ | refine O_stepL rfl ?_ | refine O_nil' ?_)
    rfl
  · have hc : chk (.mk k n s []) = 20 := by simp [chk, hm]
    rw [hc] at hchk
    rw [if_neg hm]
    refine call_V rfl rfl ?_
    repeat' first | ((with_reducible show Go.AM.V _ _ _ _ _ _); first | refine V_O rfl ?_ | refine V_cT rfl rfl ?_ | refine V_fA rfl rfl ?_) | ((with_reducible show Go.AM.VO _ _ _ _ _ _ _); first | refine O_cA rfl rfl hchk ?_ | refine O_step rfl ?_ | refine O_stepL rfl ?_ | refine O_nil' ?_)
    rfl
theorem run_Str (s : List UInt8) : T.R (.call n_value_Str [.str s] (.agg [.int .i64 2, .int .i64 0, .str s, .nilSl])) := by
  refine call_V rfl rfl ?_
  repeat' first | ((with_reducible show Go.AM.V _ _ _ _ _ _); first | refine V_O rfl ?_ | refine V_fA rfl rfl ?_) | ((with_reducible show Go.AM.VO _ _ _ _ _ _ _); first | refine O_stepL rfl ?_ | refine O_step rfl ?_ | refine O_nil' ?_)
  rfl
end Go.Proofs.YtgdjnlopdpjnaaaGreatDoor
