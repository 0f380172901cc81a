/- CheckBehind: two lists, one behind the other, are the second one with what comes of the first: the law. -/
import Derived.Test.YtinojffgmgjblaaGreatDoorInfF
import Derived.Test.YtinojffgmgjblaaGreatDoorStpF
import Derived.Test.YtinojffgmgjblaaGreatDoorConS
set_option linter.unusedVariables false
set_option linter.unusedSimpArgs false
namespace Go.Proofs.YtinojffgmgjblaaGreatDoor
open Go Go.AM Go.RowKit
theorem okL1_append : ∀ l m : List Stp, okL1 (l ++ m) = (okL1 l && okL1 m)
  | [], m => by rw [List.nil_append, okL1, Bool.true_and]
  | s :: r, m => by rw [List.cons_append, okL1, okL1, okL1_append r m, Bool.and_assoc]
theorem cntL_append : ∀ l m : List Stp, cntL (l ++ m) = cntL l + cntL m
  | [], m => by rw [List.nil_append, cntL, Nat.zero_add]
  | s :: r, m => by rw [List.cons_append, cntL, cntL, cntL_append r m]; omega
theorem dpL_append : ∀ (l m : List Stp) (d acc : Int), dpL (l ++ m) d acc = dpL m d (dpL l d acc)
  | [], m, d, acc => by rw [List.nil_append, dpL]
  | s :: r, m, d, acc => by rw [List.cons_append, dpL, dpL, dpL_append r m]
theorem mxI_le (a b : Int) : a ≤ mxI a b := by unfold mxI; split <;> omega
theorem mxI_mono {a a' : Int} (h : a ≤ a') (b : Int) : mxI a b ≤ mxI a' b := by unfold mxI; split <;> split <;> omega
mutual
theorem dpS_le : ∀ (s : Stp) (d acc : Int), acc ≤ dpS s d acc
  | .mk _ _ _ _ _ subs, d, acc => by rw [dpS]; exact dpLL_le subs d acc
theorem dpL_le : ∀ (l : List Stp) (d acc : Int), acc ≤ dpL l d acc
  | [], d, acc => by rw [dpL]; exact Int.le_refl _
  | s :: r, d, acc => by rw [dpL]; exact Int.le_trans (dpS_le s d acc) (dpL_le r d _)
theorem dpLL_le : ∀ (l : List (List Stp)) (d acc : Int), acc ≤ dpLL l d acc
  | [], d, acc => by rw [dpLL]; exact Int.le_refl _
  | s :: r, d, acc => by rw [dpLL]; exact Int.le_trans (mxI_le _ _) (dpLL_le r d _)
end
mutual
theorem dpS_mono : ∀ (s : Stp) (d a b : Int), a ≤ b → dpS s d a ≤ dpS s d b
  | .mk _ _ _ _ _ subs, d, a, b, h => by rw [dpS, dpS]; exact dpLL_mono subs d a b h
theorem dpL_mono : ∀ (l : List Stp) (d a b : Int), a ≤ b → dpL l d a ≤ dpL l d b
  | [], d, a, b, h => by rw [dpL, dpL]; exact h
  | s :: r, d, a, b, h => by rw [dpL, dpL]; exact dpL_mono r d _ _ (dpS_mono s d a b h)
theorem dpLL_mono : ∀ (l : List (List Stp)) (d a b : Int), a ≤ b → dpLL l d a ≤ dpLL l d b
  | [], d, a, b, h => by rw [dpLL, dpLL]; exact h
  | s :: r, d, a, b, h => by rw [dpLL, dpLL]; exact dpLL_mono r d _ _ (mxI_mono h _)
end
theorem chk_parts {l m : List Stp} (hl : l ≠ []) (hm : m ≠ []) (cl : cntL l ≤ 1048576) (cm : cntL m ≤ 1048576) (h : chkL (l ++ m) = 0) : chkL l = 0 ∧ chkL m = 0 := by
  unfold chkL at h ⊢
  have e1 : l.isEmpty = false := by cases l <;> first | exact absurd rfl hl | rfl
  have e2 : m.isEmpty = false := by cases m <;> first | exact absurd rfl hm | rfl
  have e3 : (l ++ m).isEmpty = false := by cases l <;> first | exact absurd rfl hl | rfl
  have ok : okL (l ++ m) = (okL l && okL m) := by
    unfold okL
    rw [e1, e2, e3, okL1_append]
    simp
  rw [ok, cntL_append, dpL_append] at h
  cases k1 : okL l with
  | false => rw [k1] at h; simp at h
  | true =>
    cases k2 : okL m with
    | false => rw [k1, k2] at h; simp at h
    | true =>
      rw [k1, k2] at h
      rw [if_pos (by rfl)] at h
      rw [if_pos rfl, if_pos rfl]
      have w1 : IntKind.i64.wrap ((cntL l + cntL m : Nat) : Int) = ((cntL l + cntL m : Nat) : Int) := by rw [wrap_i64]; omega
      have w2 : IntKind.i64.wrap (cntL l : Int) = (cntL l : Int) := by rw [wrap_i64]; omega
      have w3 : IntKind.i64.wrap (cntL m : Int) = (cntL m : Int) := by rw [wrap_i64]; omega
      rw [w1] at h
      rw [w2, w3]
      by_cases hc : 256 < ((cntL l + cntL m : Nat) : Int) ∨ 8 < dpL m 1 (dpL l 1 1)
      · rw [if_pos hc] at h; cases h
      · have d1 := dpL_le m 1 (dpL l 1 1)
        have d2 := dpL_mono m 1 1 (dpL l 1 1) (dpL_le l 1 1)
        exact ⟨if_neg (by omega), if_neg (by omega)⟩
theorem seqF_append : ∀ (f g : List KF) (i : Nat), seqF (f ++ g) i = if (seqF f i).2 = 0 then seqF g (seqF f i).1 else (0, (seqF f i).2)
  | [], g, i => by rw [List.nil_append, seqF, if_pos rfl]
  | a :: r, g, i => by
    rw [List.cons_append, seqF, seqF]
    by_cases h : (a i).2 = 0
    · rw [if_pos h, if_pos h, seqF_append r g]
    · rw [if_neg h, if_neg h]
      simp only []
      rw [if_neg h]
theorem lF_append : ∀ l m : List Stp, lF (l ++ m) = lF l ++ lF m
  | [], m => by rw [List.nil_append, lF, List.nil_append]
  | s :: r, m => by rw [List.cons_append, lF, lF, lF_append r m, List.cons_append]
theorem inf_behind {l m : List Stp} (i : Int) (h0 : chkL (l ++ m) = 0) (h1 : chkL l = 0) (h2 : chkL m = 0) : ((infS i l).2 ≠ 0 → (infS i (l ++ m)).2 = (infS i l).2) ∧ ((infS i l).2 = 0 → infS i (l ++ m) = infS ((infS i l).1 : Int) m) := by
  have hk := infS_ks i l
  unfold infS at hk ⊢
  rw [if_pos h1] at hk
  rw [if_pos h0, if_pos h1, if_pos h2]
  unfold inferI at hk ⊢
  rw [lF_append, seqF_append, maskI_nat hk]
  constructor
  · intro h
    rw [if_neg h]
  · intro h
    rw [if_pos h]
theorem lr_cell {α : Type} {R : α → List PV → Prop} {p : PV} {l : List α} (h : LR R p l) : p.isJunk = false ∧ p.cells = [p] := by
  rcases h with ⟨rfl, _⟩ | ⟨_, _, rfl, _⟩ <;> exact ⟨rfl, rfl⟩
section
variable {Q : Post} {k : List Fr} {ρ : EC} {st : St} {l : List POp} {kill : List Nat}
theorem O_pair {d : Option Nat} {a b : Opd} {p q : PV} (ha : a.get ρ = some p) (hb : b.get ρ = some q) (hp : p.isJunk = false ∧ p.cells = [p]) (hq : q.isJunk = false ∧ q.cells = [q]) (h : VO T Q l kill k (ρ.sets d (.sl [[p], [q]] true)) st) : VO T Q (⟨d, none, .buildSl 1 [[.nilSl], [.nilSl]] [(0, a), (1, b)]⟩ :: l) kill k ρ st :=
  O_step (by simp [stepQ, elsOf, ha, hb, allOf, fillElems, hp.1, hp.2, hq.1, hq.2]) h
end
set_option maxHeartbeats 4000000 in
theorem law_CheckBehind {n : Nat} {l m : List Stp} {p q : PV} (hp : SL n p l) (hq : SL n q m) (hl : l.length ≤ 1048576) (hm : m.length ≤ 1048576) (cl : cntL l ≤ 1048576) (cm : cntL m ≤ 1048576) (i : Int) : T.R (.call n_ramblelaw17_CheckBehind [.int .i64 i, p, q] (.bool true)) := by
  have plp := SL.pl hp
  have plq := SL.pl hq
  obtain ⟨lp1, lp2, lp3⟩ := hp.len
  obtain ⟨lq1, lq2, lq3⟩ := hq.len
  have jp := lr_cell hp
  have jq := lr_cell hq
  obtain ⟨r, hcon, hr⟩ := run_Concat hp hq hl hm true
  have plr := SL.pl hr
  obtain ⟨f, hf⟩ := run_few n (l ++ m) r 1 hr
  have hb := run_begun
  have hchk := run_RCheck hr
  have h1 := run_Infer hp i
  have h2 := run_Infer hr i
  have h3 := run_Infer hq ((infS i l).1 : Int)
  have key := fun h0 hne hme => inf_behind (l := l) (m := m) i h0 (chk_parts hne hme cl cm h0).1 (chk_parts hne hme cl cm h0).2
  unfold inP at h1 h2 h3
  generalize infS i l = x1 at *
  generalize infS i (l ++ m) = x2 at *
  generalize infS (x1.1 : Int) m = x3 at *
  generalize chkL (l ++ m) = c at *
  refine call_V rfl rfl ?_
  cases f with
  | false =>
    repeat' first | refine O_pair rfl rfl jp jq ?_ | refine O_cA rfl rfl hcon ?_ | refine O_cA rfl rfl hf ?_ | refine O_step rfl ?_ | refine O_stepL rfl ?_ | refine V_O rfl ?_ | refine O_step rfl ?_ | refine O_nil' ?_ | refine V_cT rfl rfl ?_ | refine V_cF rfl rfl ?_ | refine V_cEq rfl rfl ?_ | refine V_cNe rfl rfl ?_ | refine V_cB rfl rfl (fun _ => ?_) (fun _ => ?_) | refine O_gT' rfl ?_ | refine O_gU' rfl ?_ | refine O_gF' rfl rfl ?_ | refine O_gEq rfl ?_ | refine O_gNe rfl ?_ | refine O_gS rfl (fun _ => ?_) (fun _ => ?_) | refine V_fA rfl rfl ?_ | refine V_fAN rfl rfl ?_ | refine V_D rfl ?_ | refine D_step rfl ?_ | refine D_nil' ?_ | refine D_gT' rfl ?_ | refine D_gU' rfl ?_ | refine D_gF' rfl rfl ?_ | refine D_gS rfl (fun _ => ?_) (fun _ => ?_)
    rfl
  | true =>
    by_cases c0 : c = 0
    · by_cases l0 : (l.length : Int) = 0
      · repeat' first | refine O_pair rfl rfl jp jq ?_ | refine O_cA rfl rfl hcon ?_ | refine O_cA rfl rfl hf ?_ | refine O_cA rfl rfl hchk ?_ | refine O_is (ndec_is c0) rfl ?_ | refine O_lenO rfl lp1 lp2 ?_ | refine O_is (dec_is l0) rfl ?_ | refine O_step rfl ?_ | refine O_stepL rfl ?_ | refine V_O rfl ?_ | refine O_step rfl ?_ | refine O_nil' ?_ | refine V_cT rfl rfl ?_ | refine V_cF rfl rfl ?_ | refine V_cEq rfl rfl ?_ | refine V_cNe rfl rfl ?_ | refine V_cB rfl rfl (fun _ => ?_) (fun _ => ?_) | refine O_gT' rfl ?_ | refine O_gU' rfl ?_ | refine O_gF' rfl rfl ?_ | refine O_gEq rfl ?_ | refine O_gNe rfl ?_ | refine O_gS rfl (fun _ => ?_) (fun _ => ?_) | refine V_fA rfl rfl ?_ | refine V_fAN rfl rfl ?_ | refine V_D rfl ?_ | refine D_step rfl ?_ | refine D_nil' ?_ | refine D_gT' rfl ?_ | refine D_gU' rfl ?_ | refine D_gF' rfl rfl ?_ | refine D_gS rfl (fun _ => ?_) (fun _ => ?_)
        rfl
      · by_cases m0 : (m.length : Int) = 0
        · repeat' first | refine O_pair rfl rfl jp jq ?_ | refine O_cA rfl rfl hcon ?_ | refine O_cA rfl rfl hf ?_ | refine O_cA rfl rfl hchk ?_ | refine O_is (ndec_is c0) rfl ?_ | refine O_lenO rfl lp1 lp2 ?_ | refine O_lenO rfl lq1 lq2 ?_ | refine O_is (dec_not l0) rfl ?_ | refine O_is (dec_is m0) rfl ?_ | refine O_step rfl ?_ | refine O_stepL rfl ?_ | refine V_O rfl ?_ | refine O_step rfl ?_ | refine O_nil' ?_ | refine V_cT rfl rfl ?_ | refine V_cF rfl rfl ?_ | refine V_cEq rfl rfl ?_ | refine V_cNe rfl rfl ?_ | refine V_cB rfl rfl (fun _ => ?_) (fun _ => ?_) | refine O_gT' rfl ?_ | refine O_gU' rfl ?_ | refine O_gF' rfl rfl ?_ | refine O_gEq rfl ?_ | refine O_gNe rfl ?_ | refine O_gS rfl (fun _ => ?_) (fun _ => ?_) | refine V_fA rfl rfl ?_ | refine V_fAN rfl rfl ?_ | refine V_D rfl ?_ | refine D_step rfl ?_ | refine D_nil' ?_ | refine D_gT' rfl ?_ | refine D_gU' rfl ?_ | refine D_gF' rfl rfl ?_ | refine D_gS rfl (fun _ => ?_) (fun _ => ?_)
          rfl
        · obtain ⟨key1, key2⟩ := key c0 (fun e => l0 (by rw [e]; rfl)) (fun e => m0 (by rw [e]; rfl))
          by_cases e1 : x1.2 = 0
          · have e := key2 e1
            subst e
            have t1 : PV.bool (decide ((x2.1 : Int) = (x2.1 : Int))) = PV.bool true := dec_is rfl
            have t2 : PV.bool (decide (x2.2 = x2.2)) = PV.bool true := dec_is rfl
            repeat' first | refine O_pair rfl rfl jp jq ?_ | refine O_cA rfl rfl hcon ?_ | refine O_cA rfl rfl hf ?_ | refine O_cA rfl rfl hchk ?_ | refine O_is (ndec_is c0) rfl ?_ | refine O_lenO rfl lp1 lp2 ?_ | refine O_lenO rfl lq1 lq2 ?_ | refine O_is (dec_not l0) rfl ?_ | refine O_is (dec_not m0) rfl ?_ | refine O_cA rfl rfl h1 ?_ | refine O_cA rfl rfl h2 ?_ | refine O_cA rfl rfl hb ?_ | refine O_is (ndec_is e1) rfl ?_ | refine O_cA rfl rfl h3 ?_ | refine O_is t1 rfl ?_ | refine O_is t2 rfl ?_ | refine O_step rfl ?_ | refine O_stepL rfl ?_ | refine V_O rfl ?_ | refine O_step rfl ?_ | refine O_nil' ?_ | refine V_cT rfl rfl ?_ | refine V_cF rfl rfl ?_ | refine V_cEq rfl rfl ?_ | refine V_cNe rfl rfl ?_ | refine V_cB rfl rfl (fun _ => ?_) (fun _ => ?_) | refine O_gT' rfl ?_ | refine O_gU' rfl ?_ | refine O_gF' rfl rfl ?_ | refine O_gEq rfl ?_ | refine O_gNe rfl ?_ | refine O_gS rfl (fun _ => ?_) (fun _ => ?_) | refine V_fA rfl rfl ?_ | refine V_fAN rfl rfl ?_ | refine V_D rfl ?_ | refine D_step rfl ?_ | refine D_nil' ?_ | refine D_gT' rfl ?_ | refine D_gU' rfl ?_ | refine D_gF' rfl rfl ?_ | refine D_gS rfl (fun _ => ?_) (fun _ => ?_)
            rfl
          · have t1 : PV.bool (decide (x2.2 = x1.2)) = PV.bool true := dec_is (key1 e1)
            repeat' first | refine O_pair rfl rfl jp jq ?_ | refine O_cA rfl rfl hcon ?_ | refine O_cA rfl rfl hf ?_ | refine O_cA rfl rfl hchk ?_ | refine O_is (ndec_is c0) rfl ?_ | refine O_lenO rfl lp1 lp2 ?_ | refine O_lenO rfl lq1 lq2 ?_ | refine O_is (dec_not l0) rfl ?_ | refine O_is (dec_not m0) rfl ?_ | refine O_cA rfl rfl h1 ?_ | refine O_cA rfl rfl h2 ?_ | refine O_cA rfl rfl hb ?_ | refine O_is (ndec_not e1) rfl ?_ | refine O_is t1 rfl ?_ | refine O_step rfl ?_ | refine O_stepL rfl ?_ | refine V_O rfl ?_ | refine O_step rfl ?_ | refine O_nil' ?_ | refine V_cT rfl rfl ?_ | refine V_cF rfl rfl ?_ | refine V_cEq rfl rfl ?_ | refine V_cNe rfl rfl ?_ | refine V_cB rfl rfl (fun _ => ?_) (fun _ => ?_) | refine O_gT' rfl ?_ | refine O_gU' rfl ?_ | refine O_gF' rfl rfl ?_ | refine O_gEq rfl ?_ | refine O_gNe rfl ?_ | refine O_gS rfl (fun _ => ?_) (fun _ => ?_) | refine V_fA rfl rfl ?_ | refine V_fAN rfl rfl ?_ | refine V_D rfl ?_ | refine D_step rfl ?_ | refine D_nil' ?_ | refine D_gT' rfl ?_ | refine D_gU' rfl ?_ | refine D_gF' rfl rfl ?_ | refine D_gS rfl (fun _ => ?_) (fun _ => ?_)
            rfl
    · repeat' first | refine O_pair rfl rfl jp jq ?_ | refine O_cA rfl rfl hcon ?_ | refine O_cA rfl rfl hf ?_ | refine O_cA rfl rfl hchk ?_ | refine O_is (ndec_not c0) rfl ?_ | refine O_step rfl ?_ | refine O_stepL rfl ?_ | refine V_O rfl ?_ | refine O_step rfl ?_ | refine O_nil' ?_ | refine V_cT rfl rfl ?_ | refine V_cF rfl rfl ?_ | refine V_cEq rfl rfl ?_ | refine V_cNe rfl rfl ?_ | refine V_cB rfl rfl (fun _ => ?_) (fun _ => ?_) | refine O_gT' rfl ?_ | refine O_gU' rfl ?_ | refine O_gF' rfl rfl ?_ | refine O_gEq rfl ?_ | refine O_gNe rfl ?_ | refine O_gS rfl (fun _ => ?_) (fun _ => ?_) | refine V_fA rfl rfl ?_ | refine V_fAN rfl rfl ?_ | refine V_D rfl ?_ | refine D_step rfl ?_ | refine D_nil' ?_ | refine D_gT' rfl ?_ | refine D_gU' rfl ?_ | refine D_gF' rfl rfl ?_ | refine D_gS rfl (fun _ => ?_) (fun _ => ?_)
      rfl
end Go.Proofs.YtinojffgmgjblaaGreatDoor
