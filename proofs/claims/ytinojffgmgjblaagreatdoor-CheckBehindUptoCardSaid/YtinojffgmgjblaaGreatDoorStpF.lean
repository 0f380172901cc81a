/- Whether steps may be: the document's (rambleref16.step, Count, Check). -/
import Derived.Test.YtinojffgmgjblaaGreatDoorStpE
set_option linter.unusedVariables false
set_option linter.unusedSimpArgs false
namespace Go.Proofs.YtinojffgmgjblaaGreatDoor
open Go Go.AM Go.RowKit
def stR (cs sh : List PV) : St := ⟨0, 2, [(0, .var cs), (1, .var sh)]⟩
theorem rnames_loop {op : Int} {pa pb pc pd pe : PV} {names : List (List UInt8)} (sh : List PV) (hp : LR NmC pa names) : ∀ (rest pre : List (List UInt8)), names = pre ++ rest →
    V T (PE fun x e st' => st' = stR [.int .i64 op, pa, pb, pc, pd, pe] sh ∧ ((x = .exit 0 ∧ rest.all nameB = true ∧ e = ecOf [(1, .ptr 0 0)]) ∨ (x = .ret ∧ rest.all nameB = false ∧ e = ecOf [(2, .bool false)])))
      [.code (.loop lp_rambleref16_step_2)] .normal (ecOf [(1, .ptr 0 0), (4, .int .i64 pre.length)]) (stR [.int .i64 op, pa, pb, pc, pd, pe] sh) := by
  obtain ⟨lp1, lp2, lp3⟩ := hp.len
  intro rest
  induction rest with
  | nil =>
    intro pre ha
    have hlt : ¬ (pre.length : Int) < names.length := by subst ha; simp
    refine V_unroll ?_
    repeat' first | refine O_lenO rfl lp1 lp2 ?_ | refine V_cHF rfl rfl hlt ?_ | refine V_out [(1, .ptr 0 0)] rfl ⟨rfl, trivial⟩ ⟨rfl, .inl ⟨rfl, rfl, rfl⟩⟩ | refine V_O rfl ?_ | refine O_step rfl ?_ | refine O_nil' ?_ | refine V_cT rfl rfl ?_ | refine V_cF rfl rfl ?_ | refine V_cEq rfl rfl ?_ | refine V_cNe rfl rfl ?_ | refine V_cB rfl rfl (fun _ => ?_) (fun _ => ?_) | refine O_gT' rfl ?_ | refine O_gU' rfl ?_ | refine O_gF' rfl rfl ?_ | refine O_gEq rfl ?_ | refine O_gNe rfl ?_ | refine O_gS rfl (fun _ => ?_) (fun _ => ?_) | refine V_fA rfl rfl ?_ | refine V_fAN rfl rfl ?_ | refine V_D rfl ?_ | refine D_step rfl ?_ | refine D_nil' ?_ | refine D_gT' rfl ?_ | refine D_gU' rfl ?_ | refine D_gF' rfl rfl ?_ | refine D_gS rfl (fun _ => ?_) (fun _ => ?_)
  | cons y rest ih =>
    intro pre ha
    have hlt : (pre.length : Int) < names.length := by subst ha; simp; omega
    have hll : pre.length < names.length := by subst ha; simp
    have hy : names[pre.length]? = some y := by subst ha; simp
    obtain ⟨cy, ay, hs, rfl⟩ := hp.at (sz := 1) (fun _ _ h => h.len1) hy
    have hcall := run_rName hs
    have hw : IntKind.i64.wrap ((pre.length : Int) + 1) = ((pre ++ [y]).length : Int) := by rw [wrap_i64]; simp; omega
    have hi := ih (pre ++ [y]) (by rw [ha]; simp)
    rw [List.all_cons]
    refine V_unroll ?_
    cases hm : nameB y with
    | true =>
      rw [hm] at hcall
      rw [Bool.true_and]
      repeat' first | refine O_lenO rfl lp1 lp2 ?_ | refine V_cHY rfl rfl hlt ?_ | refine O_at rfl rfl ay ?_ | refine O_cA rfl rfl hcall ?_ | refine V_re rfl hi ⟨rfl, some_int hw, trivial⟩ | refine V_O rfl ?_ | refine O_step rfl ?_ | refine O_nil' ?_ | refine V_cT rfl rfl ?_ | refine V_cF rfl rfl ?_ | refine V_cEq rfl rfl ?_ | refine V_cNe rfl rfl ?_ | refine V_cB rfl rfl (fun _ => ?_) (fun _ => ?_) | refine O_gT' rfl ?_ | refine O_gU' rfl ?_ | refine O_gF' rfl rfl ?_ | refine O_gEq rfl ?_ | refine O_gNe rfl ?_ | refine O_gS rfl (fun _ => ?_) (fun _ => ?_) | refine V_fA rfl rfl ?_ | refine V_fAN rfl rfl ?_ | refine V_D rfl ?_ | refine D_step rfl ?_ | refine D_nil' ?_ | refine D_gT' rfl ?_ | refine D_gU' rfl ?_ | refine D_gF' rfl rfl ?_ | refine D_gS rfl (fun _ => ?_) (fun _ => ?_)
    | false =>
      rw [hm] at hcall
      repeat' first | refine O_lenO rfl lp1 lp2 ?_ | refine V_cHY rfl rfl hlt ?_ | refine O_at rfl rfl ay ?_ | refine O_cA rfl rfl hcall ?_ | refine V_out [(2, .bool false)] rfl ⟨rfl, trivial⟩ ⟨rfl, .inr ⟨rfl, rfl, rfl⟩⟩ | refine V_O rfl ?_ | refine O_step rfl ?_ | refine O_nil' ?_ | refine V_cT rfl rfl ?_ | refine V_cF rfl rfl ?_ | refine V_cEq rfl rfl ?_ | refine V_cNe rfl rfl ?_ | refine V_cB rfl rfl (fun _ => ?_) (fun _ => ?_) | refine O_gT' rfl ?_ | refine O_gU' rfl ?_ | refine O_gF' rfl rfl ?_ | refine O_gEq rfl ?_ | refine O_gNe rfl ?_ | refine O_gS rfl (fun _ => ?_) (fun _ => ?_) | refine V_fA rfl rfl ?_ | refine V_fAN rfl rfl ?_ | refine V_D rfl ?_ | refine D_step rfl ?_ | refine D_nil' ?_ | refine D_gT' rfl ?_ | refine D_gU' rfl ?_ | refine D_gF' rfl rfl ?_ | refine D_gS rfl (fun _ => ?_) (fun _ => ?_)
theorem rnums_loop {op : Int} {pa pb pc pd pe : PV} {nums : List Int} (sh : List PV) (hp : LR NuC pb nums) : ∀ (rest pre : List Int), nums = pre ++ rest →
    V T (PE fun x e st' => st' = stR [.int .i64 op, pa, pb, pc, pd, pe] sh ∧ ((x = .exit 2 ∧ rest.all numB = true ∧ e = ecOf [(1, .ptr 0 0)]) ∨ (x = .ret ∧ rest.all numB = false ∧ e = ecOf [(2, .bool false)])))
      [.code (.loop lp_rambleref16_step_1)] .normal (ecOf [(1, .ptr 0 0), (5, .int .i64 pre.length)]) (stR [.int .i64 op, pa, pb, pc, pd, pe] sh) := by
  obtain ⟨lp1, lp2, lp3⟩ := hp.len
  intro rest
  induction rest with
  | nil =>
    intro pre ha
    have hlt : ¬ (pre.length : Int) < nums.length := by subst ha; simp
    refine V_unroll ?_
    repeat' first | refine O_lenO rfl lp1 lp2 ?_ | refine V_cHF rfl rfl hlt ?_ | refine V_out [(1, .ptr 0 0)] rfl ⟨rfl, trivial⟩ ⟨rfl, .inl ⟨rfl, rfl, rfl⟩⟩ | refine V_O rfl ?_ | refine O_step rfl ?_ | refine O_nil' ?_ | refine V_cT rfl rfl ?_ | refine V_cF rfl rfl ?_ | refine V_cEq rfl rfl ?_ | refine V_cNe rfl rfl ?_ | refine V_cB rfl rfl (fun _ => ?_) (fun _ => ?_) | refine O_gT' rfl ?_ | refine O_gU' rfl ?_ | refine O_gF' rfl rfl ?_ | refine O_gEq rfl ?_ | refine O_gNe rfl ?_ | refine O_gS rfl (fun _ => ?_) (fun _ => ?_) | refine V_fA rfl rfl ?_ | refine V_fAN rfl rfl ?_ | refine V_D rfl ?_ | refine D_step rfl ?_ | refine D_nil' ?_ | refine D_gT' rfl ?_ | refine D_gU' rfl ?_ | refine D_gF' rfl rfl ?_ | refine D_gS rfl (fun _ => ?_) (fun _ => ?_)
  | cons y rest ih =>
    intro pre ha
    have hlt : (pre.length : Int) < nums.length := by subst ha; simp; omega
    have hll : pre.length < nums.length := by subst ha; simp
    have hy : nums[pre.length]? = some y := by subst ha; simp
    obtain ⟨cy, ay, hs, rfl⟩ := hp.at (sz := 1) (fun _ _ h => h.len1) hy
    have hw : IntKind.i64.wrap ((pre.length : Int) + 1) = ((pre ++ [y]).length : Int) := by rw [wrap_i64]; simp; omega
    have hi := ih (pre ++ [y]) (by rw [ha]; simp)
    rw [List.all_cons]
    refine V_unroll ?_
    by_cases c1 : y < 0
    · rw [show numB y = false by unfold numB; simp only [Bool.and_eq_false_iff, decide_eq_false_iff_not]; omega]
      repeat' first | refine O_lenO rfl lp1 lp2 ?_ | refine V_cHY rfl rfl hlt ?_ | refine O_at rfl rfl ay ?_ | refine O_is (dec_is c1) rfl ?_ | refine V_out [(2, .bool false)] rfl ⟨rfl, trivial⟩ ⟨rfl, .inr ⟨rfl, rfl, rfl⟩⟩ | refine V_O rfl ?_ | refine O_step rfl ?_ | refine O_nil' ?_ | refine V_cT rfl rfl ?_ | refine V_cF rfl rfl ?_ | refine V_cEq rfl rfl ?_ | refine V_cNe rfl rfl ?_ | refine V_cB rfl rfl (fun _ => ?_) (fun _ => ?_) | refine O_gT' rfl ?_ | refine O_gU' rfl ?_ | refine O_gF' rfl rfl ?_ | refine O_gEq rfl ?_ | refine O_gNe rfl ?_ | refine O_gS rfl (fun _ => ?_) (fun _ => ?_) | refine V_fA rfl rfl ?_ | refine V_fAN rfl rfl ?_ | refine V_D rfl ?_ | refine D_step rfl ?_ | refine D_nil' ?_ | refine D_gT' rfl ?_ | refine D_gU' rfl ?_ | refine D_gF' rfl rfl ?_ | refine D_gS rfl (fun _ => ?_) (fun _ => ?_)
    · by_cases c2 : 9007199254740992 < y
      · rw [show numB y = false by unfold numB; simp only [Bool.and_eq_false_iff, decide_eq_false_iff_not]; omega]
        repeat' first | refine O_lenO rfl lp1 lp2 ?_ | refine V_cHY rfl rfl hlt ?_ | refine O_at rfl rfl ay ?_ | refine O_is (dec_not c1) rfl ?_ | refine O_is (dec_is c2) rfl ?_ | refine V_out [(2, .bool false)] rfl ⟨rfl, trivial⟩ ⟨rfl, .inr ⟨rfl, rfl, rfl⟩⟩ | refine V_O rfl ?_ | refine O_step rfl ?_ | refine O_nil' ?_ | refine V_cT rfl rfl ?_ | refine V_cF rfl rfl ?_ | refine V_cEq rfl rfl ?_ | refine V_cNe rfl rfl ?_ | refine V_cB rfl rfl (fun _ => ?_) (fun _ => ?_) | refine O_gT' rfl ?_ | refine O_gU' rfl ?_ | refine O_gF' rfl rfl ?_ | refine O_gEq rfl ?_ | refine O_gNe rfl ?_ | refine O_gS rfl (fun _ => ?_) (fun _ => ?_) | refine V_fA rfl rfl ?_ | refine V_fAN rfl rfl ?_ | refine V_D rfl ?_ | refine D_step rfl ?_ | refine D_nil' ?_ | refine D_gT' rfl ?_ | refine D_gU' rfl ?_ | refine D_gF' rfl rfl ?_ | refine D_gS rfl (fun _ => ?_) (fun _ => ?_)
      · rw [show numB y = true by unfold numB; rw [decide_eq_true (by omega), decide_eq_true (by omega)]; rfl, Bool.true_and]
        repeat' first | refine O_lenO rfl lp1 lp2 ?_ | refine V_cHY rfl rfl hlt ?_ | refine O_at rfl rfl ay ?_ | refine O_is (dec_not c1) rfl ?_ | refine O_is (dec_not c2) rfl ?_ | refine V_re rfl hi ⟨rfl, some_int hw, trivial⟩ | refine V_O rfl ?_ | refine O_step rfl ?_ | refine O_nil' ?_ | refine V_cT rfl rfl ?_ | refine V_cF rfl rfl ?_ | refine V_cEq rfl rfl ?_ | refine V_cNe rfl rfl ?_ | refine V_cB rfl rfl (fun _ => ?_) (fun _ => ?_) | refine O_gT' rfl ?_ | refine O_gU' rfl ?_ | refine O_gF' rfl rfl ?_ | refine O_gEq rfl ?_ | refine O_gNe rfl ?_ | refine O_gS rfl (fun _ => ?_) (fun _ => ?_) | refine V_fA rfl rfl ?_ | refine V_fAN rfl rfl ?_ | refine V_D rfl ?_ | refine D_step rfl ?_ | refine D_nil' ?_ | refine D_gT' rfl ?_ | refine D_gU' rfl ?_ | refine D_gF' rfl rfl ?_ | refine D_gS rfl (fun _ => ?_) (fun _ => ?_)
theorem rpreds_loop {op : Int} {pa pb pc pd pe : PV} {preds : List Prd} (sh : List PV) (hp : LR PrC pc preds) : ∀ (rest pre : List Prd), preds = pre ++ rest →
    V T (PE fun x e st' => st' = stR [.int .i64 op, pa, pb, pc, pd, pe] sh ∧ ((x = .exit 4 ∧ rest.all predB = true ∧ e = ecOf [(1, .ptr 0 0)]) ∨ (x = .ret ∧ rest.all predB = false ∧ e = ecOf [(2, .bool false)])))
      [.code (.loop lp_rambleref16_step_0)] .normal (ecOf [(1, .ptr 0 0), (6, .int .i64 pre.length)]) (stR [.int .i64 op, pa, pb, pc, pd, pe] sh) := by
  obtain ⟨lp1, lp2, lp3⟩ := hp.len
  intro rest
  induction rest with
  | nil =>
    intro pre ha
    have hlt : ¬ (pre.length : Int) < preds.length := by subst ha; simp
    refine V_unroll ?_
    repeat' first | refine O_lenO rfl lp1 lp2 ?_ | refine V_cHF rfl rfl hlt ?_ | refine V_out [(1, .ptr 0 0)] rfl ⟨rfl, trivial⟩ ⟨rfl, .inl ⟨rfl, rfl, rfl⟩⟩ | refine V_O rfl ?_ | refine O_step rfl ?_ | refine O_nil' ?_ | refine V_cT rfl rfl ?_ | refine V_cF rfl rfl ?_ | refine V_cEq rfl rfl ?_ | refine V_cNe rfl rfl ?_ | refine V_cB rfl rfl (fun _ => ?_) (fun _ => ?_) | refine O_gT' rfl ?_ | refine O_gU' rfl ?_ | refine O_gF' rfl rfl ?_ | refine O_gEq rfl ?_ | refine O_gNe rfl ?_ | refine O_gS rfl (fun _ => ?_) (fun _ => ?_) | refine V_fA rfl rfl ?_ | refine V_fAN rfl rfl ?_ | refine V_D rfl ?_ | refine D_step rfl ?_ | refine D_nil' ?_ | refine D_gT' rfl ?_ | refine D_gU' rfl ?_ | refine D_gF' rfl rfl ?_ | refine D_gS rfl (fun _ => ?_) (fun _ => ?_)
  | cons y rest ih =>
    intro pre ha
    have hlt : (pre.length : Int) < preds.length := by subst ha; simp; omega
    have hll : pre.length < preds.length := by subst ha; simp
    have hy : preds[pre.length]? = some y := by subst ha; simp
    obtain ⟨cy, ay, hc⟩ := hp.at (sz := 2) (fun _ _ h => h.len2) hy
    have plc := hc.pl
    have len2 := hc.len2
    have hcall := run_rpred hc
    have hw : IntKind.i64.wrap ((pre.length : Int) + 1) = ((pre ++ [y]).length : Int) := by rw [wrap_i64]; simp; omega
    have hi := ih (pre ++ [y]) (by rw [ha]; simp)
    rw [List.all_cons]
    refine V_unroll ?_
    cases hm : predB y with
    | true =>
      rw [hm] at hcall
      rw [Bool.true_and]
      repeat' first | refine O_lenO rfl lp1 lp2 ?_ | refine V_cHY rfl rfl hlt ?_ | refine O_at rfl rfl ay ?_ | refine O_loadA rfl len2 ?_ | refine O_cA rfl rfl hcall ?_ | refine V_re rfl hi ⟨rfl, some_int hw, trivial⟩ | refine V_O rfl ?_ | refine O_step rfl ?_ | refine O_nil' ?_ | refine V_cT rfl rfl ?_ | refine V_cF rfl rfl ?_ | refine V_cEq rfl rfl ?_ | refine V_cNe rfl rfl ?_ | refine V_cB rfl rfl (fun _ => ?_) (fun _ => ?_) | refine O_gT' rfl ?_ | refine O_gU' rfl ?_ | refine O_gF' rfl rfl ?_ | refine O_gEq rfl ?_ | refine O_gNe rfl ?_ | refine O_gS rfl (fun _ => ?_) (fun _ => ?_) | refine V_fA rfl rfl ?_ | refine V_fAN rfl rfl ?_ | refine V_D rfl ?_ | refine D_step rfl ?_ | refine D_nil' ?_ | refine D_gT' rfl ?_ | refine D_gU' rfl ?_ | refine D_gF' rfl rfl ?_ | refine D_gS rfl (fun _ => ?_) (fun _ => ?_)
    | false =>
      rw [hm] at hcall
      repeat' first | refine O_lenO rfl lp1 lp2 ?_ | refine V_cHY rfl rfl hlt ?_ | refine O_at rfl rfl ay ?_ | refine O_loadA rfl len2 ?_ | refine O_cA rfl rfl hcall ?_ | refine V_out [(2, .bool false)] rfl ⟨rfl, trivial⟩ ⟨rfl, .inr ⟨rfl, rfl, rfl⟩⟩ | refine V_O rfl ?_ | refine O_step rfl ?_ | refine O_nil' ?_ | refine V_cT rfl rfl ?_ | refine V_cF rfl rfl ?_ | refine V_cEq rfl rfl ?_ | refine V_cNe rfl rfl ?_ | refine V_cB rfl rfl (fun _ => ?_) (fun _ => ?_) | refine O_gT' rfl ?_ | refine O_gU' rfl ?_ | refine O_gF' rfl rfl ?_ | refine O_gEq rfl ?_ | refine O_gNe rfl ?_ | refine O_gS rfl (fun _ => ?_) (fun _ => ?_) | refine V_fA rfl rfl ?_ | refine V_fAN rfl rfl ?_ | refine V_D rfl ?_ | refine D_step rfl ?_ | refine D_nil' ?_ | refine D_gT' rfl ?_ | refine D_gU' rfl ?_ | refine D_gF' rfl rfl ?_ | refine D_gS rfl (fun _ => ?_) (fun _ => ?_)
theorem ite_ef {p : Prop} [Decidable p] {a b : List Int} (h1 : a.getD 4 0 = a.getD 5 0) (h2 : b.getD 4 0 = b.getD 5 0) : (if p then a else b).getD 4 0 = (if p then a else b).getD 5 0 := by
  by_cases h : p
  · rw [if_pos h]; exact h1
  · rw [if_neg h]; exact h2
theorem shp_ef (op : Int) : (shp op).getD 4 0 = (shp op).getD 5 0 := by
  unfold shp
  repeat (refine ite_ef rfl ?_)
  rfl
theorem has_one (e : Int) (n : Nat) : hasB e e n = decide ((n : Int) = e) := by
  unfold hasB
  rw [Bool.eq_iff_iff]
  simp only [Bool.and_eq_true, decide_eq_true_eq]
  omega
set_option maxHeartbeats 4000000 in
theorem run_rstep {n : Nat} {op : Int} {names : List (List UInt8)} {nums : List Int} {preds : List Prd} {vals : List Val} {subs : List (List Stp)} {cs : List PV} (h : SC n (.mk op names nums preds vals subs) cs) :
    T.R (.call n_rambleref16_step [.agg cs] (.bool (stepB op names nums preds vals subs.length))) := by
  cases n with
  | zero => exact h.elim
  | succ n =>
  have plcs := h.pl
  obtain ⟨ho, pa, pb, pc, pd, pe, rfl, h1, h2, h3, h4, h5⟩ := h
  have pla : Pl pa := plcs _ (by simp)
  have plb : Pl pb := plcs _ (by simp)
  have plc : Pl pc := plcs _ (by simp)
  have pld : Pl pd := plcs _ (by simp)
  have ple : Pl pe := plcs _ (by simp)
  obtain ⟨la1, la2, la3⟩ := h1.len
  obtain ⟨lb1, lb2, lb3⟩ := h2.len
  obtain ⟨lc1, lc2, lc3⟩ := h3.len
  obtain ⟨ld1, ld2, ld3⟩ := h4.len
  obtain ⟨le1, le2, le3⟩ := h5.len
  have hw := run_rWord2 ho
  have hs := run_rshape op
  have hef := shp_ef op
  obtain ⟨a, b, c, d, e, f, g, hh, i, j, hten⟩ := shp_ten op
  rw [hten] at hs hef
  simp only [List.getD_cons_succ, List.getD_cons_zero] at hef
  subst hef
  have l1 := rnames_loop (op := op) (pb := pb) (pc := pc) (pd := pd) (pe := pe) [.int .i64 a, .int .i64 b, .int .i64 c, .int .i64 d, .int .i64 e, .int .i64 g, .int .i64 hh, .int .i64 i, .int .i64 j] h1 names [] rfl
  have l2 := rnums_loop (op := op) (pa := pa) (pc := pc) (pd := pd) (pe := pe) [.int .i64 a, .int .i64 b, .int .i64 c, .int .i64 d, .int .i64 e, .int .i64 g, .int .i64 hh, .int .i64 i, .int .i64 j] h2 nums [] rfl
  have l3 := rpreds_loop (op := op) (pa := pa) (pb := pb) (pd := pd) (pe := pe) [.int .i64 a, .int .i64 b, .int .i64 c, .int .i64 d, .int .i64 e, .int .i64 g, .int .i64 hh, .int .i64 i, .int .i64 j] h3 preds [] rfl
  have l4 := run_rvalues h4
  unfold stepB argB
  rw [hten]
  rw [show opB op = !decide (stepW op = []) by rw [stepW_ne]; simp]
  simp only [rshp, List.map_cons, List.map_nil, intP] at hs ⊢
  have k1 := run_within2 names.length a b
  have k2 := run_within2 nums.length c d
  have k3 := has_one e preds.length
  have k4 := run_within2 vals.length g hh
  have k5 := run_within2 subs.length i j
  rw [k3]
  generalize stepW op = w at hw ⊢
  generalize hasB a b names.length = b1 at k1 ⊢
  generalize hasB c d nums.length = b2 at k2 ⊢
  generalize hasB g hh vals.length = b4 at k4 ⊢
  generalize hasB i j subs.length = b5 at k5 ⊢
  generalize names.all nameB = b6 at l1 ⊢
  generalize nums.all numB = b7 at l2 ⊢
  generalize preds.all predB = b8 at l3 ⊢
  generalize vals.all (mayV 8) = b9 at l4 ⊢
  by_cases hW : w = []
  · rw [decide_eq_true hW]
    refine call_V rfl rfl ?_
    repeat' first | refine O_stepL rfl ?_ | refine O_cA rfl rfl hw ?_ | refine O_is (dec_is hW) rfl ?_ | refine V_O rfl ?_ | refine O_step rfl ?_ | refine O_nil' ?_ | refine V_cT rfl rfl ?_ | refine V_cF rfl rfl ?_ | refine V_cEq rfl rfl ?_ | refine V_cNe rfl rfl ?_ | refine V_cB rfl rfl (fun _ => ?_) (fun _ => ?_) | refine O_gT' rfl ?_ | refine O_gU' rfl ?_ | refine O_gF' rfl rfl ?_ | refine O_gEq rfl ?_ | refine O_gNe rfl ?_ | refine O_gS rfl (fun _ => ?_) (fun _ => ?_) | refine V_fA rfl rfl ?_ | refine V_fAN rfl rfl ?_ | refine V_D rfl ?_ | refine D_step rfl ?_ | refine D_nil' ?_ | refine D_gT' rfl ?_ | refine D_gU' rfl ?_ | refine D_gF' rfl rfl ?_ | refine D_gS rfl (fun _ => ?_) (fun _ => ?_)
    rfl
  · rw [decide_eq_false hW]
    have fail : ∀ (r : Bool), (b1 && b2 && decide ((preds.length : Int) = e) && b4 && b5) = false → (!false && (b1 && b2 && decide ((preds.length : Int) = e) && b4 && b5) && b6 && b7 && b8 && b9) = false := fun r h => by rw [h]; rfl
    refine call_V rfl rfl ?_
    repeat' first | refine O_stepL rfl ?_ | refine O_cA rfl rfl hw ?_ | refine O_is (dec_not hW) rfl ?_ | refine O_cA rfl rfl hs ?_ | refine O_lenO rfl la1 la2 ?_ | refine O_lenO rfl lb1 lb2 ?_ | refine O_lenO rfl lc1 lc2 ?_ | refine O_lenO rfl ld1 ld2 ?_ | refine O_lenO rfl le1 le2 ?_ | refine O_cA rfl rfl k1 ?_ | refine O_cA rfl rfl k2 ?_ | refine O_cA rfl rfl k4 ?_ | refine O_cA rfl rfl k5 ?_ | refine V_cutTo rfl l1 ⟨rfl, rfl, trivial⟩ ?_ | refine V_O rfl ?_ | refine O_step rfl ?_ | refine O_nil' ?_ | refine V_cT rfl rfl ?_ | refine V_cF rfl rfl ?_ | refine V_cEq rfl rfl ?_ | refine V_cNe rfl rfl ?_ | refine V_cB rfl rfl (fun _ => ?_) (fun _ => ?_) | refine O_gT' rfl ?_ | refine O_gU' rfl ?_ | refine O_gF' rfl rfl ?_ | refine O_gEq rfl ?_ | refine O_gNe rfl ?_ | refine O_gS rfl (fun _ => ?_) (fun _ => ?_) | refine V_fA rfl rfl ?_ | refine V_fAN rfl rfl ?_ | refine V_D rfl ?_ | refine D_step rfl ?_ | refine D_nil' ?_ | refine D_gT' rfl ?_ | refine D_gU' rfl ?_ | refine D_gF' rfl rfl ?_ | refine D_gS rfl (fun _ => ?_) (fun _ => ?_)
    all_goals try (clear hs hw k1 k2 k4 k5 l1 l2 l3 l4 la1 lb1 lc1 ld1 le1 h1 h2 h3 h4 h5; simp_all; done)
    rintro x e' st' ⟨rfl, ⟨rfl, hb6, rfl⟩ | ⟨rfl, hb6, rfl⟩⟩
    · repeat' first | refine V_cutTo rfl l2 ⟨rfl, rfl, trivial⟩ ?_ | refine V_O rfl ?_ | refine O_step rfl ?_ | refine O_nil' ?_ | refine V_cT rfl rfl ?_ | refine V_cF rfl rfl ?_ | refine V_cEq rfl rfl ?_ | refine V_cNe rfl rfl ?_ | refine V_cB rfl rfl (fun _ => ?_) (fun _ => ?_) | refine O_gT' rfl ?_ | refine O_gU' rfl ?_ | refine O_gF' rfl rfl ?_ | refine O_gEq rfl ?_ | refine O_gNe rfl ?_ | refine O_gS rfl (fun _ => ?_) (fun _ => ?_) | refine V_fA rfl rfl ?_ | refine V_fAN rfl rfl ?_ | refine V_D rfl ?_ | refine D_step rfl ?_ | refine D_nil' ?_ | refine D_gT' rfl ?_ | refine D_gU' rfl ?_ | refine D_gF' rfl rfl ?_ | refine D_gS rfl (fun _ => ?_) (fun _ => ?_)
      rintro x e' st' ⟨rfl, ⟨rfl, hb7, rfl⟩ | ⟨rfl, hb7, rfl⟩⟩
      · repeat' first | refine V_cutTo rfl l3 ⟨rfl, rfl, trivial⟩ ?_ | refine V_O rfl ?_ | refine O_step rfl ?_ | refine O_nil' ?_ | refine V_cT rfl rfl ?_ | refine V_cF rfl rfl ?_ | refine V_cEq rfl rfl ?_ | refine V_cNe rfl rfl ?_ | refine V_cB rfl rfl (fun _ => ?_) (fun _ => ?_) | refine O_gT' rfl ?_ | refine O_gU' rfl ?_ | refine O_gF' rfl rfl ?_ | refine O_gEq rfl ?_ | refine O_gNe rfl ?_ | refine O_gS rfl (fun _ => ?_) (fun _ => ?_) | refine V_fA rfl rfl ?_ | refine V_fAN rfl rfl ?_ | refine V_D rfl ?_ | refine D_step rfl ?_ | refine D_nil' ?_ | refine D_gT' rfl ?_ | refine D_gU' rfl ?_ | refine D_gF' rfl rfl ?_ | refine D_gS rfl (fun _ => ?_) (fun _ => ?_)
        rintro x e' st' ⟨rfl, ⟨rfl, hb8, rfl⟩ | ⟨rfl, hb8, rfl⟩⟩
        · repeat' first | refine O_cA rfl rfl l4 ?_ | refine V_O rfl ?_ | refine O_step rfl ?_ | refine O_nil' ?_ | refine V_cT rfl rfl ?_ | refine V_cF rfl rfl ?_ | refine V_cEq rfl rfl ?_ | refine V_cNe rfl rfl ?_ | refine V_cB rfl rfl (fun _ => ?_) (fun _ => ?_) | refine O_gT' rfl ?_ | refine O_gU' rfl ?_ | refine O_gF' rfl rfl ?_ | refine O_gEq rfl ?_ | refine O_gNe rfl ?_ | refine O_gS rfl (fun _ => ?_) (fun _ => ?_) | refine V_fA rfl rfl ?_ | refine V_fAN rfl rfl ?_ | refine V_D rfl ?_ | refine D_step rfl ?_ | refine D_nil' ?_ | refine D_gT' rfl ?_ | refine D_gU' rfl ?_ | refine D_gF' rfl rfl ?_ | refine D_gS rfl (fun _ => ?_) (fun _ => ?_)
          clear hs hw k1 k2 k4 k5 l1 l2 l3 l4 la1 lb1 lc1 ld1 le1 h1 h2 h3 h4 h5
          simp_all
        · repeat' first | refine V_O rfl ?_ | refine O_step rfl ?_ | refine O_nil' ?_ | refine V_cT rfl rfl ?_ | refine V_cF rfl rfl ?_ | refine V_cEq rfl rfl ?_ | refine V_cNe rfl rfl ?_ | refine V_cB rfl rfl (fun _ => ?_) (fun _ => ?_) | refine O_gT' rfl ?_ | refine O_gU' rfl ?_ | refine O_gF' rfl rfl ?_ | refine O_gEq rfl ?_ | refine O_gNe rfl ?_ | refine O_gS rfl (fun _ => ?_) (fun _ => ?_) | refine V_fA rfl rfl ?_ | refine V_fAN rfl rfl ?_ | refine V_D rfl ?_ | refine D_step rfl ?_ | refine D_nil' ?_ | refine D_gT' rfl ?_ | refine D_gU' rfl ?_ | refine D_gF' rfl rfl ?_ | refine D_gS rfl (fun _ => ?_) (fun _ => ?_)
          rw [hb8]
          simp
      · repeat' first | refine V_O rfl ?_ | refine O_step rfl ?_ | refine O_nil' ?_ | refine V_cT rfl rfl ?_ | refine V_cF rfl rfl ?_ | refine V_cEq rfl rfl ?_ | refine V_cNe rfl rfl ?_ | refine V_cB rfl rfl (fun _ => ?_) (fun _ => ?_) | refine O_gT' rfl ?_ | refine O_gU' rfl ?_ | refine O_gF' rfl rfl ?_ | refine O_gEq rfl ?_ | refine O_gNe rfl ?_ | refine O_gS rfl (fun _ => ?_) (fun _ => ?_) | refine V_fA rfl rfl ?_ | refine V_fAN rfl rfl ?_ | refine V_D rfl ?_ | refine D_step rfl ?_ | refine D_nil' ?_ | refine D_gT' rfl ?_ | refine D_gU' rfl ?_ | refine D_gF' rfl rfl ?_ | refine D_gS rfl (fun _ => ?_) (fun _ => ?_)
        rw [hb7]
        simp
    · repeat' first | refine V_O rfl ?_ | refine O_step rfl ?_ | refine O_nil' ?_ | refine V_cT rfl rfl ?_ | refine V_cF rfl rfl ?_ | refine V_cEq rfl rfl ?_ | refine V_cNe rfl rfl ?_ | refine V_cB rfl rfl (fun _ => ?_) (fun _ => ?_) | refine O_gT' rfl ?_ | refine O_gU' rfl ?_ | refine O_gF' rfl rfl ?_ | refine O_gEq rfl ?_ | refine O_gNe rfl ?_ | refine O_gS rfl (fun _ => ?_) (fun _ => ?_) | refine V_fA rfl rfl ?_ | refine V_fAN rfl rfl ?_ | refine V_D rfl ?_ | refine D_step rfl ?_ | refine D_nil' ?_ | refine D_gT' rfl ?_ | refine D_gU' rfl ?_ | refine D_gF' rfl rfl ?_ | refine D_gS rfl (fun _ => ?_) (fun _ => ?_)
      rw [hb6]
      simp
theorem rcount_in {n : Nat} {p : PV} {i : Nat} {op : Int} {pa pb pc pd pe : PV} {subs : List (List Stp)} (hp : LR (SubC (SC n)) pe subs) (hat : At 6 p i [.int .i64 op, pa, pb, pc, pd, pe]) (d : Int) (hd : ∀ x ∈ subs, ∀ q, SL n q x → T.R (.call n_rambleref16_Count [q, .int .i64 (wr d)] (cntP x (wr d)))) (plp : Pl p) :
    ∀ (rest pre : List (List Stp)) (N M : Int), subs = pre ++ rest →
    V T (PE fun x e st' => st' = emptySt ∧ ((x = .exit 2 ∧ okLL rest = true ∧ ∃ a b : Int, e = ecOf [(0, p), (1, .int .i64 d), (7, .int .i64 a), (8, .int .i64 b), (9, .int .i64 i)] ∧ a = IntKind.i64.wrap (N + cntLL rest) ∧ b = dpLL rest d M) ∨ (x = .ret ∧ okLL rest = false ∧ e = ecOf [(4, .int .i64 0), (5, .int .i64 0), (6, .bool false)])))
      [.code (.loop lp_rambleref16_Count_0)] .normal (ecOf [(0, p), (1, .int .i64 d), (7, .int .i64 (IntKind.i64.wrap N)), (8, .int .i64 M), (9, .int .i64 i), (10, .int .i64 pre.length)]) emptySt := by
  have ple : Pl pe := LR.pl hp fun _ _ _ h => h.pl fun _ _ h => h.pl
  obtain ⟨le1, le2, le3⟩ := hp.len
  intro rest
  induction rest with
  | nil =>
    intro pre N M ha
    have hlt : ¬ (pre.length : Int) < subs.length := by subst ha; simp
    refine V_unroll ?_
    repeat' first | refine O_at rfl rfl hat ?_ | refine O_lenO rfl le1 le2 ?_ | refine V_cHF rfl rfl hlt ?_ | refine V_out [(0, p), (1, .int .i64 d), (7, .int .i64 (IntKind.i64.wrap N)), (8, .int .i64 M), (9, .int .i64 i)] rfl ⟨rfl, rfl, rfl, rfl, rfl, trivial⟩ ⟨rfl, .inl ⟨rfl, rfl, _, _, rfl, by simp [cntLL], rfl⟩⟩ | refine V_O rfl ?_ | refine O_step rfl ?_ | refine O_nil' ?_ | refine V_cT rfl rfl ?_ | refine V_cF rfl rfl ?_ | refine V_cEq rfl rfl ?_ | refine V_cNe rfl rfl ?_ | refine V_cB rfl rfl (fun _ => ?_) (fun _ => ?_) | refine O_gT' rfl ?_ | refine O_gU' rfl ?_ | refine O_gF' rfl rfl ?_ | refine O_gEq rfl ?_ | refine O_gNe rfl ?_ | refine O_gS rfl (fun _ => ?_) (fun _ => ?_) | refine V_fA rfl rfl ?_ | refine V_fAN rfl rfl ?_ | refine V_D rfl ?_ | refine D_step rfl ?_ | refine D_nil' ?_ | refine D_gT' rfl ?_ | refine D_gU' rfl ?_ | refine D_gF' rfl rfl ?_ | refine D_gS rfl (fun _ => ?_) (fun _ => ?_)
  | cons y rest ih =>
    intro pre N M ha
    have hlt : (pre.length : Int) < subs.length := by subst ha; simp; omega
    have hll : pre.length < subs.length := by subst ha; simp
    have hy : subs[pre.length]? = some y := by subst ha; simp
    obtain ⟨cy, ay, q, rfl, hq⟩ := hp.at (sz := 1) (fun _ _ h => h.len1) hy
    have plq := SL.pl hq
    have hcall := hd y (by subst ha; simp) q hq
    have hw : IntKind.i64.wrap ((pre.length : Int) + 1) = ((pre ++ [y]).length : Int) := by rw [wrap_i64]; simp; omega
    unfold cntP at hcall
    have hok : okLL (y :: rest) = (okL y && okLL rest) := by rw [okLL]; rfl
    rw [hok]
    cases hoy : okL y with
    | false =>
      rw [hoy, if_neg (by simp)] at hcall
      refine V_unroll ?_
      repeat' first | refine O_at rfl rfl hat ?_ | refine O_lenO rfl le1 le2 ?_ | refine V_cHY rfl rfl hlt ?_ | refine O_at rfl rfl ay ?_ | refine O_cA rfl rfl hcall ?_ | refine V_out [(4, .int .i64 0), (5, .int .i64 0), (6, .bool false)] rfl ⟨rfl, rfl, rfl, trivial⟩ ⟨rfl, .inr ⟨rfl, rfl, rfl⟩⟩ | refine V_O rfl ?_ | refine O_step rfl ?_ | refine O_nil' ?_ | refine V_cT rfl rfl ?_ | refine V_cF rfl rfl ?_ | refine V_cEq rfl rfl ?_ | refine V_cNe rfl rfl ?_ | refine V_cB rfl rfl (fun _ => ?_) (fun _ => ?_) | refine O_gT' rfl ?_ | refine O_gU' rfl ?_ | refine O_gF' rfl rfl ?_ | refine O_gEq rfl ?_ | refine O_gNe rfl ?_ | refine O_gS rfl (fun _ => ?_) (fun _ => ?_) | refine V_fA rfl rfl ?_ | refine V_fAN rfl rfl ?_ | refine V_D rfl ?_ | refine D_step rfl ?_ | refine D_nil' ?_ | refine D_gT' rfl ?_ | refine D_gU' rfl ?_ | refine D_gF' rfl rfl ?_ | refine D_gS rfl (fun _ => ?_) (fun _ => ?_)
    | true =>
      rw [hoy, if_pos rfl] at hcall
      have hi := ih (pre ++ [y]) (N + cntL y) (mxI M (dpL y (wr d) (wr d))) (by rw [ha]; simp)
      have e2 : N + ((cntLL (y :: rest) : Nat) : Int) = N + (cntL y : Int) + (cntLL rest : Int) := by rw [cntLL]; simp; omega
      have e4 : PV.int .i64 (IntKind.i64.wrap (IntKind.i64.wrap N + IntKind.i64.wrap (cntL y : Int))) = PV.int .i64 (IntKind.i64.wrap (N + cntL y)) := int_is (wrap_add _ _)
      rw [e2, dpLL, Bool.true_and]
      refine V_unroll ?_
      repeat' first | refine O_at rfl rfl hat ?_ | refine O_lenO rfl le1 le2 ?_ | refine V_cHY rfl rfl hlt ?_ | refine O_at rfl rfl ay ?_ | refine O_cA rfl rfl hcall ?_ | refine O_is e4 rfl ?_ | refine O_is (mx_is _ _) rfl ?_ | refine V_re rfl hi ⟨rfl, rfl, rfl, rfl, rfl, some_int hw, trivial⟩ | refine V_O rfl ?_ | refine O_step rfl ?_ | refine O_nil' ?_ | refine V_cT rfl rfl ?_ | refine V_cF rfl rfl ?_ | refine V_cEq rfl rfl ?_ | refine V_cNe rfl rfl ?_ | refine V_cB rfl rfl (fun _ => ?_) (fun _ => ?_) | refine O_gT' rfl ?_ | refine O_gU' rfl ?_ | refine O_gF' rfl rfl ?_ | refine O_gEq rfl ?_ | refine O_gNe rfl ?_ | refine O_gS rfl (fun _ => ?_) (fun _ => ?_) | refine V_fA rfl rfl ?_ | refine V_fAN rfl rfl ?_ | refine V_D rfl ?_ | refine D_step rfl ?_ | refine D_nil' ?_ | refine D_gT' rfl ?_ | refine D_gU' rfl ?_ | refine D_gF' rfl rfl ?_ | refine D_gS rfl (fun _ => ?_) (fun _ => ?_)
theorem rcount_out {n : Nat} {p : PV} {l : List Stp} (hp : SL (n + 1) p l) (d : Int) (hd : ∀ x, ∀ q, SL n q x → T.R (.call n_rambleref16_Count [q, .int .i64 (wr d)] (cntP x (wr d)))) :
    ∀ (rest pre : List Stp) (N M : Int), l = pre ++ rest →
    V T (PE fun x e st' => (x = .exit 0 ∧ okL1 rest = true ∧ ∃ a b : Int, e = ecOf [(7, .int .i64 a), (8, .int .i64 b)] ∧ a = IntKind.i64.wrap (N + cntL rest) ∧ b = dpL rest d M) ∨ (x = .ret ∧ okL1 rest = false ∧ e = ecOf [(4, .int .i64 0), (5, .int .i64 0), (6, .bool false)]))
      [.code (.loop lp_rambleref16_Count_1)] .normal (ecOf [(0, p), (1, .int .i64 d), (7, .int .i64 (IntKind.i64.wrap N)), (8, .int .i64 M), (9, .int .i64 pre.length)]) emptySt := by
  have plp : Pl p := SL.pl hp
  obtain ⟨lp1, lp2, lp3⟩ := hp.len
  intro rest
  induction rest with
  | nil =>
    intro pre N M ha
    have hlt : ¬ (pre.length : Int) < l.length := by subst ha; simp
    refine V_unroll ?_
    repeat' first | refine O_lenO rfl lp1 lp2 ?_ | refine V_cHF rfl rfl hlt ?_ | refine V_out [(7, .int .i64 (IntKind.i64.wrap N)), (8, .int .i64 M)] rfl ⟨rfl, rfl, trivial⟩ (.inl ⟨rfl, rfl, _, _, rfl, by simp [cntL], rfl⟩) | refine V_O rfl ?_ | refine O_step rfl ?_ | refine O_nil' ?_ | refine V_cT rfl rfl ?_ | refine V_cF rfl rfl ?_ | refine V_cEq rfl rfl ?_ | refine V_cNe rfl rfl ?_ | refine V_cB rfl rfl (fun _ => ?_) (fun _ => ?_) | refine O_gT' rfl ?_ | refine O_gU' rfl ?_ | refine O_gF' rfl rfl ?_ | refine O_gEq rfl ?_ | refine O_gNe rfl ?_ | refine O_gS rfl (fun _ => ?_) (fun _ => ?_) | refine V_fA rfl rfl ?_ | refine V_fAN rfl rfl ?_ | refine V_D rfl ?_ | refine D_step rfl ?_ | refine D_nil' ?_ | refine D_gT' rfl ?_ | refine D_gU' rfl ?_ | refine D_gF' rfl rfl ?_ | refine D_gS rfl (fun _ => ?_) (fun _ => ?_)
  | cons y rest ih =>
    intro pre N M ha
    have hlt : (pre.length : Int) < l.length := by subst ha; simp; omega
    have hll : pre.length < l.length := by subst ha; simp
    have hy : l[pre.length]? = some y := by subst ha; simp
    obtain ⟨cy, ay, hc⟩ := SL.at hp hy
    have plc := hc.pl
    have len6 := hc.len6
    obtain ⟨op, names, nums, preds, vals, subs⟩ := y
    have hstep := run_rstep hc
    obtain ⟨ho, pa, pb, pc, pd, pe, rfl, h1, h2, h3, h4, h5⟩ := hc
    obtain ⟨le1, le2, le3⟩ := h5.len
    have pla : Pl pa := plc _ (by simp)
    have plb : Pl pb := plc _ (by simp)
    have plcc : Pl pc := plc _ (by simp)
    have pld : Pl pd := plc _ (by simp)
    have ple : Pl pe := plc _ (by simp)
    have hw : IntKind.i64.wrap ((pre.length : Int) + 1) = ((pre ++ [Stp.mk op names nums preds vals subs]).length : Int) := by rw [wrap_i64]; simp; omega
    have hin := rcount_in h5 ay d (fun x _ q hq => hd x q hq) plp subs [] (N + 1) M rfl
    have e0 : PV.int .i64 (IntKind.i64.wrap (IntKind.i64.wrap N + 1)) = PV.int .i64 (IntKind.i64.wrap (N + 1)) := int_is (wrap_addL _ _)
    have e1 : okL1 (Stp.mk op names nums preds vals subs :: rest) = (stepB op names nums preds vals subs.length && okLL subs && okL1 rest) := by rw [okL1, okS]
    rw [e1]
    refine V_unroll ?_
    cases hsb : stepB op names nums preds vals subs.length with
    | false =>
      rw [hsb] at hstep
      repeat' first | refine O_lenO rfl lp1 lp2 ?_ | refine V_cHY rfl rfl hlt ?_ | refine O_at rfl rfl ay ?_ | refine O_loadA rfl len6 ?_ | refine O_cA rfl rfl hstep ?_ | refine V_out [(4, .int .i64 0), (5, .int .i64 0), (6, .bool false)] rfl ⟨rfl, rfl, rfl, trivial⟩ (.inr ⟨rfl, rfl, rfl⟩) | refine V_O rfl ?_ | refine O_step rfl ?_ | refine O_nil' ?_ | refine V_cT rfl rfl ?_ | refine V_cF rfl rfl ?_ | refine V_cEq rfl rfl ?_ | refine V_cNe rfl rfl ?_ | refine V_cB rfl rfl (fun _ => ?_) (fun _ => ?_) | refine O_gT' rfl ?_ | refine O_gU' rfl ?_ | refine O_gF' rfl rfl ?_ | refine O_gEq rfl ?_ | refine O_gNe rfl ?_ | refine O_gS rfl (fun _ => ?_) (fun _ => ?_) | refine V_fA rfl rfl ?_ | refine V_fAN rfl rfl ?_ | refine V_D rfl ?_ | refine D_step rfl ?_ | refine D_nil' ?_ | refine D_gT' rfl ?_ | refine D_gU' rfl ?_ | refine D_gF' rfl rfl ?_ | refine D_gS rfl (fun _ => ?_) (fun _ => ?_)
    | true =>
      rw [hsb] at hstep
      rw [Bool.true_and]
      repeat' first | refine O_lenO rfl lp1 lp2 ?_ | refine V_cHY rfl rfl hlt ?_ | refine O_at rfl rfl ay ?_ | refine O_loadA rfl len6 ?_ | refine O_cA rfl rfl hstep ?_ | refine O_is e0 rfl ?_ | refine V_cutTo rfl hin ⟨rfl, rfl, rfl, rfl, rfl, rfl, trivial⟩ ?_ | refine V_O rfl ?_ | refine O_step rfl ?_ | refine O_nil' ?_ | refine V_cT rfl rfl ?_ | refine V_cF rfl rfl ?_ | refine V_cEq rfl rfl ?_ | refine V_cNe rfl rfl ?_ | refine V_cB rfl rfl (fun _ => ?_) (fun _ => ?_) | refine O_gT' rfl ?_ | refine O_gU' rfl ?_ | refine O_gF' rfl rfl ?_ | refine O_gEq rfl ?_ | refine O_gNe rfl ?_ | refine O_gS rfl (fun _ => ?_) (fun _ => ?_) | refine V_fA rfl rfl ?_ | refine V_fAN rfl rfl ?_ | refine V_D rfl ?_ | refine D_step rfl ?_ | refine D_nil' ?_ | refine D_gT' rfl ?_ | refine D_gU' rfl ?_ | refine D_gF' rfl rfl ?_ | refine D_gS rfl (fun _ => ?_) (fun _ => ?_)
      rintro x e' st' ⟨rfl, ⟨rfl, hok, a, b, rfl, rfl, rfl⟩ | ⟨rfl, hok, rfl⟩⟩
      · have hi := ih (pre ++ [Stp.mk op names nums preds vals subs]) (N + 1 + cntLL subs) (dpLL subs d M) (by rw [ha]; simp)
        have e2 : N + ((cntL (Stp.mk op names nums preds vals subs :: rest) : Nat) : Int) = N + 1 + (cntLL subs : Int) + (cntL rest : Int) := by rw [cntL, cntS]; simp; omega
        rw [hok, e2, dpL, dpS, Bool.true_and]
        repeat' first | refine V_re rfl hi ⟨rfl, rfl, rfl, rfl, some_int hw, trivial⟩ | refine V_O rfl ?_ | refine O_step rfl ?_ | refine O_nil' ?_ | refine V_cT rfl rfl ?_ | refine V_cF rfl rfl ?_ | refine V_cEq rfl rfl ?_ | refine V_cNe rfl rfl ?_ | refine V_cB rfl rfl (fun _ => ?_) (fun _ => ?_) | refine O_gT' rfl ?_ | refine O_gU' rfl ?_ | refine O_gF' rfl rfl ?_ | refine O_gEq rfl ?_ | refine O_gNe rfl ?_ | refine O_gS rfl (fun _ => ?_) (fun _ => ?_) | refine V_fA rfl rfl ?_ | refine V_fAN rfl rfl ?_ | refine V_D rfl ?_ | refine D_step rfl ?_ | refine D_nil' ?_ | refine D_gT' rfl ?_ | refine D_gU' rfl ?_ | refine D_gF' rfl rfl ?_ | refine D_gS rfl (fun _ => ?_) (fun _ => ?_)
      · rw [hok, Bool.false_and]
        repeat' first | refine V_out [(4, .int .i64 0), (5, .int .i64 0), (6, .bool false)] rfl ⟨rfl, rfl, rfl, trivial⟩ (.inr ⟨rfl, rfl, rfl⟩) | refine V_O rfl ?_ | refine O_step rfl ?_ | refine O_nil' ?_ | refine V_cT rfl rfl ?_ | refine V_cF rfl rfl ?_ | refine V_cEq rfl rfl ?_ | refine V_cNe rfl rfl ?_ | refine V_cB rfl rfl (fun _ => ?_) (fun _ => ?_) | refine O_gT' rfl ?_ | refine O_gU' rfl ?_ | refine O_gF' rfl rfl ?_ | refine O_gEq rfl ?_ | refine O_gNe rfl ?_ | refine O_gS rfl (fun _ => ?_) (fun _ => ?_) | refine V_fA rfl rfl ?_ | refine V_fAN rfl rfl ?_ | refine V_D rfl ?_ | refine D_step rfl ?_ | refine D_nil' ?_ | refine D_gT' rfl ?_ | refine D_gU' rfl ?_ | refine D_gF' rfl rfl ?_ | refine D_gS rfl (fun _ => ?_) (fun _ => ?_)
theorem sl_zero {p : PV} {l : List Stp} (hp : SL 0 p l) : l = [] := by
  cases l with
  | nil => rfl
  | cons s r =>
    obtain ⟨cs, _, h⟩ := SL.at hp (j := 0) (s := s) rfl
    exact h.elim
theorem run_rCount : ∀ (n : Nat) (l : List Stp) (p : PV) (d : Int), SL n p l → T.R (.call n_rambleref16_Count [p, .int .i64 d] (cntP l d)) := by
  have main : ∀ (n : Nat) (l : List Stp) (p : PV) (d : Int), SL (n + 1) p l → (∀ (l : List Stp) (p : PV) (d : Int), SL n p l → T.R (.call n_rambleref16_Count [p, .int .i64 d] (cntP l d))) → T.R (.call n_rambleref16_Count [p, .int .i64 d] (cntP l d)) := by
    intro n l p d hp ih
    have plp : Pl p := SL.pl hp
    obtain ⟨lp1, lp2, lp3⟩ := hp.len
    have hout := rcount_out hp d (fun x q hq => ih x q (wr d) hq) l [] 0 d rfl
    unfold cntP okL
    have hem := isEmpty_len l
    cases hE : l.isEmpty with
    | true =>
      rw [hE] at hem
      refine call_V rfl rfl ?_
      repeat' first | refine O_lenO rfl lp1 lp2 ?_ | refine O_is (bool_is hem) rfl ?_ | refine V_O rfl ?_ | refine O_step rfl ?_ | refine O_nil' ?_ | refine V_cT rfl rfl ?_ | refine V_cF rfl rfl ?_ | refine V_cEq rfl rfl ?_ | refine V_cNe rfl rfl ?_ | refine V_cB rfl rfl (fun _ => ?_) (fun _ => ?_) | refine O_gT' rfl ?_ | refine O_gU' rfl ?_ | refine O_gF' rfl rfl ?_ | refine O_gEq rfl ?_ | refine O_gNe rfl ?_ | refine O_gS rfl (fun _ => ?_) (fun _ => ?_) | refine V_fA rfl rfl ?_ | refine V_fAN rfl rfl ?_ | refine V_D rfl ?_ | refine D_step rfl ?_ | refine D_nil' ?_ | refine D_gT' rfl ?_ | refine D_gU' rfl ?_ | refine D_gF' rfl rfl ?_ | refine D_gS rfl (fun _ => ?_) (fun _ => ?_)
      rfl
    | false =>
      rw [hE] at hem
      refine call_V rfl rfl ?_
      repeat' first | refine O_lenO rfl lp1 lp2 ?_ | refine O_is (bool_is hem) rfl ?_ | refine V_cutTo rfl hout ⟨rfl, rfl, rfl, rfl, rfl, trivial⟩ ?_ | refine V_O rfl ?_ | refine O_step rfl ?_ | refine O_nil' ?_ | refine V_cT rfl rfl ?_ | refine V_cF rfl rfl ?_ | refine V_cEq rfl rfl ?_ | refine V_cNe rfl rfl ?_ | refine V_cB rfl rfl (fun _ => ?_) (fun _ => ?_) | refine O_gT' rfl ?_ | refine O_gU' rfl ?_ | refine O_gF' rfl rfl ?_ | refine O_gEq rfl ?_ | refine O_gNe rfl ?_ | refine O_gS rfl (fun _ => ?_) (fun _ => ?_) | refine V_fA rfl rfl ?_ | refine V_fAN rfl rfl ?_ | refine V_D rfl ?_ | refine D_step rfl ?_ | refine D_nil' ?_ | refine D_gT' rfl ?_ | refine D_gU' rfl ?_ | refine D_gF' rfl rfl ?_ | refine D_gS rfl (fun _ => ?_) (fun _ => ?_)
      rintro x e' st' (⟨rfl, hok, a, b, rfl, rfl, rfl⟩ | ⟨rfl, hok, rfl⟩)
      · rw [hok]
        have e1 : ((0 : Int) + (cntL l : Int)) = (cntL l : Int) := by omega
        rw [e1]
        repeat' first | refine V_O rfl ?_ | refine O_step rfl ?_ | refine O_nil' ?_ | refine V_cT rfl rfl ?_ | refine V_cF rfl rfl ?_ | refine V_cEq rfl rfl ?_ | refine V_cNe rfl rfl ?_ | refine V_cB rfl rfl (fun _ => ?_) (fun _ => ?_) | refine O_gT' rfl ?_ | refine O_gU' rfl ?_ | refine O_gF' rfl rfl ?_ | refine O_gEq rfl ?_ | refine O_gNe rfl ?_ | refine O_gS rfl (fun _ => ?_) (fun _ => ?_) | refine V_fA rfl rfl ?_ | refine V_fAN rfl rfl ?_ | refine V_D rfl ?_ | refine D_step rfl ?_ | refine D_nil' ?_ | refine D_gT' rfl ?_ | refine D_gU' rfl ?_ | refine D_gF' rfl rfl ?_ | refine D_gS rfl (fun _ => ?_) (fun _ => ?_)
        rfl
      · rw [hok]
        repeat' first | refine V_O rfl ?_ | refine O_step rfl ?_ | refine O_nil' ?_ | refine V_cT rfl rfl ?_ | refine V_cF rfl rfl ?_ | refine V_cEq rfl rfl ?_ | refine V_cNe rfl rfl ?_ | refine V_cB rfl rfl (fun _ => ?_) (fun _ => ?_) | refine O_gT' rfl ?_ | refine O_gU' rfl ?_ | refine O_gF' rfl rfl ?_ | refine O_gEq rfl ?_ | refine O_gNe rfl ?_ | refine O_gS rfl (fun _ => ?_) (fun _ => ?_) | refine V_fA rfl rfl ?_ | refine V_fAN rfl rfl ?_ | refine V_D rfl ?_ | refine D_step rfl ?_ | refine D_nil' ?_ | refine D_gT' rfl ?_ | refine D_gU' rfl ?_ | refine D_gF' rfl rfl ?_ | refine D_gS rfl (fun _ => ?_) (fun _ => ?_)
        rfl
  intro n
  induction n with
  | zero =>
    intro l p d hp
    have hl := sl_zero hp
    subst hl
    obtain ⟨lp1, lp2, lp3⟩ := hp.len
    have plp : Pl p := SL.pl hp
    refine call_V rfl rfl ?_
    repeat' first | refine O_lenO rfl lp1 lp2 ?_ | refine V_O rfl ?_ | refine O_step rfl ?_ | refine O_nil' ?_ | refine V_cT rfl rfl ?_ | refine V_cF rfl rfl ?_ | refine V_cEq rfl rfl ?_ | refine V_cNe rfl rfl ?_ | refine V_cB rfl rfl (fun _ => ?_) (fun _ => ?_) | refine O_gT' rfl ?_ | refine O_gU' rfl ?_ | refine O_gF' rfl rfl ?_ | refine O_gEq rfl ?_ | refine O_gNe rfl ?_ | refine O_gS rfl (fun _ => ?_) (fun _ => ?_) | refine V_fA rfl rfl ?_ | refine V_fAN rfl rfl ?_ | refine V_D rfl ?_ | refine D_step rfl ?_ | refine D_nil' ?_ | refine D_gT' rfl ?_ | refine D_gU' rfl ?_ | refine D_gF' rfl rfl ?_ | refine D_gS rfl (fun _ => ?_) (fun _ => ?_)
    rfl
  | succ n ih => exact fun l p d hp => main n l p d hp ih
theorem run_RCheck {n : Nat} {l : List Stp} {p : PV} (hp : SL n p l) : T.R (.call n_rambleref16_Check [p] (.int .i64 (chkL l))) := by
  have h := run_rCount n l p 1 hp
  have plp : Pl p := SL.pl hp
  unfold cntP at h
  unfold chkL
  cases hok : okL l with
  | false =>
    rw [hok, if_neg (by simp)] at h
    refine call_V rfl rfl ?_
    repeat' first | refine O_cA rfl rfl h ?_ | refine V_O rfl ?_ | refine O_step rfl ?_ | refine O_nil' ?_ | refine V_cT rfl rfl ?_ | refine V_cF rfl rfl ?_ | refine V_cEq rfl rfl ?_ | refine V_cNe rfl rfl ?_ | refine V_cB rfl rfl (fun _ => ?_) (fun _ => ?_) | refine O_gT' rfl ?_ | refine O_gU' rfl ?_ | refine O_gF' rfl rfl ?_ | refine O_gEq rfl ?_ | refine O_gNe rfl ?_ | refine O_gS rfl (fun _ => ?_) (fun _ => ?_) | refine V_fA rfl rfl ?_ | refine V_fAN rfl rfl ?_ | refine V_D rfl ?_ | refine D_step rfl ?_ | refine D_nil' ?_ | refine D_gT' rfl ?_ | refine D_gU' rfl ?_ | refine D_gF' rfl rfl ?_ | refine D_gS rfl (fun _ => ?_) (fun _ => ?_)
    rfl
  | true =>
    rw [hok, if_pos rfl] at h
    rw [if_pos rfl]
    generalize IntKind.i64.wrap (cntL l : Int) = a at *
    generalize dpL l 1 1 = b at *
    refine call_V rfl rfl ?_
    repeat' first | refine O_cA rfl rfl h ?_ | refine V_O rfl ?_ | refine O_step rfl ?_ | refine O_nil' ?_ | refine V_cT rfl rfl ?_ | refine V_cF rfl rfl ?_ | refine V_cEq rfl rfl ?_ | refine V_cNe rfl rfl ?_ | refine V_cB rfl rfl (fun _ => ?_) (fun _ => ?_) | refine O_gT' rfl ?_ | refine O_gU' rfl ?_ | refine O_gF' rfl rfl ?_ | refine O_gEq rfl ?_ | refine O_gNe rfl ?_ | refine O_gS rfl (fun _ => ?_) (fun _ => ?_) | refine V_fA rfl rfl ?_ | refine V_fAN rfl rfl ?_ | refine V_D rfl ?_ | refine D_step rfl ?_ | refine D_nil' ?_ | refine D_gT' rfl ?_ | refine D_gU' rfl ?_ | refine D_gF' rfl rfl ?_ | refine D_gS rfl (fun _ => ?_) (fun _ => ?_)
    all_goals simp_all
end Go.Proofs.YtinojffgmgjblaaGreatDoor
