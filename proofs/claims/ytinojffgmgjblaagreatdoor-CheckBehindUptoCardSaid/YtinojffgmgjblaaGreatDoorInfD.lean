/- What comes of steps: check.within, step, infer, Infer. -/
import Derived.Test.YtinojffgmgjblaaGreatDoorInfC
set_option linter.unusedVariables false
set_option linter.unusedSimpArgs false
namespace Go.Proofs.YtinojffgmgjblaaGreatDoor
open Go Go.AM Go.RowKit
theorem outs_len : ∀ {fs : List KF} {i : Nat}, (outsF fs i).2 = 0 → (outsF fs i).1.length = fs.length
  | [], _, _ => rfl
  | f :: r, i, h => by
    rw [outsF] at h ⊢
    by_cases c1 : (f i).2 = 0
    · rw [if_pos c1] at h ⊢
      by_cases c2 : (outsF r i).2 = 0
      · rw [if_pos c2]
        simp [outs_len c2]
      · rw [if_neg c2] at h; exact absurd h c2
    · rw [if_neg c1] at h; exact absurd h c1
theorem llF_len : ∀ l : List (List Stp), (llF l).length = l.length
  | [] => rfl
  | l :: r => by rw [llF]; simp [llF_len r]
set_option maxHeartbeats 4000000 in
theorem run_within {m : Nat} {op : Int} {nums : List Int} {subs : List (List Stp)} {pa pb pc pd pe : PV} (hnu : LR NuC pb nums) (h5 : LR (SubC (SC m)) pe subs) (pla : Pl pa) (plb : Pl pb) (plc : Pl pc) (pld : Pl pd) (ple : Pl pe)
    (hd : ∀ x q, SL m q x → gdL x → Tells q (inferF (lF x))) (hg1 : GoodS1 op nums subs.length) (hg2 : gdLL subs) (hne : subs ≠ []) (i : Nat) (hi : KS i) :
    T.R (.call n_check_within [.int .i64 (i : Int), .agg [.int .i64 op, pa, pb, pc, pd, pe]] (inP (withinF op nums (llF subs) i))) := by
  obtain ⟨h32, hgs⟩ := hg1
  obtain ⟨hg1, hg3⟩ := hgs (fun e => hne (List.length_eq_zero_iff.1 e))
  obtain ⟨l0, ls, rfl⟩ : ∃ l0 ls, subs = l0 :: ls := by
    cases subs with
    | nil => exact absurd rfl hne
    | cons a b => exact ⟨a, b, rfl⟩
  obtain ⟨c0, a0, q0, rfl, hq0⟩ := h5.at (sz := 1) (fun _ _ h => h.len1) (j := 0) (a := l0) rfl
  have plq0 := SL.pl hq0
  have ht0 := hd l0 q0 hq0 (gdLL_mem hg2 l0 (by simp))
  have htn : Tells .nilSl fun o => (o &&& 254, 0) := hd [] .nilSl (.inl ⟨rfl, rfl⟩) (by rw [gdL]; trivial)
  have hm0 : Mono (inferF (lF l0)) := inferF_mono (lF_mono l0)
  have e0 : nth (llF (l0 :: ls)) 0 = inferF (lF l0) := by rw [llF]; rfl
  by_cases k1 : op = 54 ∨ op = 56
  · obtain ⟨x0, r0, rfl⟩ := hg1 k1
    obtain ⟨cn, an, hn1, rfl⟩ := hnu.at (sz := 1) (fun _ _ h => h.len1) (j := 0) (a := x0) rfl
    have ew : withinF op (x0 :: r0) (llF (l0 :: ls)) i = if 0 < x0 then timesF (inferF (lF l0)) (fun o => (o &&& 254, 0)) (if x0 < 128 then x0 else 128).toNat 0 i else ((if op = 56 then 0 else i), (inferF (lF l0) 0).2) := by
      unfold withinF
      rw [if_pos k1, e0]
      rfl
    rw [ew]
    by_cases k2 : 0 < x0
    · rw [if_pos k2]
      have ht := run_times ht0 htn hm0 plq0 .nilSl hi k2
      unfold inP at ht ⊢
      generalize timesF (inferF (lF l0)) (fun o => (o &&& 254, 0)) (if x0 < 128 then x0 else 128).toNat 0 i = r at ht ⊢
      rcases k1 with rfl | rfl
      · refine call_V rfl rfl ?_
        repeat' first | refine O_at rfl rfl an ?_ | refine D_at rfl rfl an ?_ | refine D_at rfl rfl a0 ?_ | refine O_is (dec_is k2) rfl ?_ | refine D_cA rfl rfl ht ?_ | refine O_step rfl ?_ | refine O_stepL rfl ?_ | refine V_O rfl ?_ | refine O_step rfl ?_ | refine O_nil' ?_ | refine V_cT rfl rfl ?_ | refine V_cF rfl rfl ?_ | refine V_cEq rfl rfl ?_ | refine V_cNe rfl rfl ?_ | refine V_cB rfl rfl (fun _ => ?_) (fun _ => ?_) | refine O_gT' rfl ?_ | refine O_gU' rfl ?_ | refine O_gF' rfl rfl ?_ | refine O_gEq rfl ?_ | refine O_gNe rfl ?_ | refine O_gS rfl (fun _ => ?_) (fun _ => ?_) | refine V_fA rfl rfl ?_ | refine V_fAN rfl rfl ?_ | refine V_D rfl ?_ | refine D_step rfl ?_ | refine D_nil' ?_ | refine D_gT' rfl ?_ | refine D_gU' rfl ?_ | refine D_gF' rfl rfl ?_ | refine D_gS rfl (fun _ => ?_) (fun _ => ?_)
        rfl
      · refine call_V rfl rfl ?_
        repeat' first | refine O_at rfl rfl an ?_ | refine D_at rfl rfl an ?_ | refine D_at rfl rfl a0 ?_ | refine O_is (dec_is k2) rfl ?_ | refine D_cA rfl rfl ht ?_ | refine O_step rfl ?_ | refine O_stepL rfl ?_ | refine V_O rfl ?_ | refine O_step rfl ?_ | refine O_nil' ?_ | refine V_cT rfl rfl ?_ | refine V_cF rfl rfl ?_ | refine V_cEq rfl rfl ?_ | refine V_cNe rfl rfl ?_ | refine V_cB rfl rfl (fun _ => ?_) (fun _ => ?_) | refine O_gT' rfl ?_ | refine O_gU' rfl ?_ | refine O_gF' rfl rfl ?_ | refine O_gEq rfl ?_ | refine O_gNe rfl ?_ | refine O_gS rfl (fun _ => ?_) (fun _ => ?_) | refine V_fA rfl rfl ?_ | refine V_fAN rfl rfl ?_ | refine V_D rfl ?_ | refine D_step rfl ?_ | refine D_nil' ?_ | refine D_gT' rfl ?_ | refine D_gU' rfl ?_ | refine D_gF' rfl rfl ?_ | refine D_gS rfl (fun _ => ?_) (fun _ => ?_)
        rfl
    · rw [if_neg k2]
      have ht : T.R (.call n_check_infer [.int .i64 0, q0] (inP (inferF (lF l0) 0))) := ht0 0 (sub_zero _)
      unfold inP at ht ⊢
      generalize inferF (lF l0) 0 = r at ht ⊢
      rcases k1 with rfl | rfl
      · refine call_V rfl rfl ?_
        repeat' first | refine O_at rfl rfl an ?_ | refine O_at rfl rfl a0 ?_ | refine O_is (dec_not k2) rfl ?_ | refine O_cA rfl rfl ht ?_ | refine O_step rfl ?_ | refine O_stepL rfl ?_ | refine V_O rfl ?_ | refine O_step rfl ?_ | refine O_nil' ?_ | refine V_cT rfl rfl ?_ | refine V_cF rfl rfl ?_ | refine V_cEq rfl rfl ?_ | refine V_cNe rfl rfl ?_ | refine V_cB rfl rfl (fun _ => ?_) (fun _ => ?_) | refine O_gT' rfl ?_ | refine O_gU' rfl ?_ | refine O_gF' rfl rfl ?_ | refine O_gEq rfl ?_ | refine O_gNe rfl ?_ | refine O_gS rfl (fun _ => ?_) (fun _ => ?_) | refine V_fA rfl rfl ?_ | refine V_fAN rfl rfl ?_ | refine V_D rfl ?_ | refine D_step rfl ?_ | refine D_nil' ?_ | refine D_gT' rfl ?_ | refine D_gU' rfl ?_ | refine D_gF' rfl rfl ?_ | refine D_gS rfl (fun _ => ?_) (fun _ => ?_)
        rfl
      · refine call_V rfl rfl ?_
        repeat' first | refine O_at rfl rfl an ?_ | refine O_at rfl rfl a0 ?_ | refine O_is (dec_not k2) rfl ?_ | refine O_cA rfl rfl ht ?_ | refine O_step rfl ?_ | refine O_stepL rfl ?_ | refine V_O rfl ?_ | refine O_step rfl ?_ | refine O_nil' ?_ | refine V_cT rfl rfl ?_ | refine V_cF rfl rfl ?_ | refine V_cEq rfl rfl ?_ | refine V_cNe rfl rfl ?_ | refine V_cB rfl rfl (fun _ => ?_) (fun _ => ?_) | refine O_gT' rfl ?_ | refine O_gU' rfl ?_ | refine O_gF' rfl rfl ?_ | refine O_gEq rfl ?_ | refine O_gNe rfl ?_ | refine O_gS rfl (fun _ => ?_) (fun _ => ?_) | refine V_fA rfl rfl ?_ | refine V_fAN rfl rfl ?_ | refine V_D rfl ?_ | refine D_step rfl ?_ | refine D_nil' ?_ | refine D_gT' rfl ?_ | refine D_gU' rfl ?_ | refine D_gF' rfl rfl ?_ | refine D_gS rfl (fun _ => ?_) (fun _ => ?_)
        rfl
  · by_cases k2 : op = 55
    · have h2 := hg3 k2
      subst k2
      obtain ⟨l1, lt, rfl⟩ : ∃ l1 lt, ls = l1 :: lt := by
        cases ls with
        | nil => simp at h2
        | cons a b => exact ⟨a, b, rfl⟩
      obtain ⟨c1, a1, q1, rfl, hq1⟩ := h5.at (sz := 1) (fun _ _ h => h.len1) (j := 1) (a := l1) rfl
      have plq1 := SL.pl hq1
      have ht1 := hd l1 q1 hq1 (gdLL_mem hg2 l1 (by simp))
      have hm1 : Mono (inferF (lF l1)) := inferF_mono (lF_mono l1)
      have e1 : nth (llF (l0 :: l1 :: lt)) 1 = inferF (lF l1) := by rw [llF, llF]; rfl
      have ht : T.R (.call n_check_times [.int .i64 (i : Int), .int .i64 128, q1, q0] (inP (timesF (inferF (lF l1)) (inferF (lF l0)) 128 0 i))) := run_times ht1 ht0 hm1 plq1 plq0 hi (n := 128) (by omega)
      have e2 : withinF 55 nums (llF (l0 :: l1 :: lt)) i = timesF (inferF (lF l1)) (inferF (lF l0)) 128 0 i := by
        unfold withinF
        rw [if_neg (by omega), if_pos rfl, e0, e1]
      rw [e2]
      unfold inP at ht ⊢
      generalize timesF (inferF (lF l1)) (inferF (lF l0)) 128 0 i = r at ht ⊢
      refine call_V rfl rfl ?_
      repeat' first | refine D_at rfl rfl a1 ?_ | refine D_at rfl rfl a0 ?_ | refine D_cA rfl rfl ht ?_ | refine O_step rfl ?_ | refine O_stepL rfl ?_ | refine V_O rfl ?_ | refine O_step rfl ?_ | refine O_nil' ?_ | refine V_cT rfl rfl ?_ | refine V_cF rfl rfl ?_ | refine V_cEq rfl rfl ?_ | refine V_cNe rfl rfl ?_ | refine V_cB rfl rfl (fun _ => ?_) (fun _ => ?_) | refine O_gT' rfl ?_ | refine O_gU' rfl ?_ | refine O_gF' rfl rfl ?_ | refine O_gEq rfl ?_ | refine O_gNe rfl ?_ | refine O_gS rfl (fun _ => ?_) (fun _ => ?_) | refine V_fA rfl rfl ?_ | refine V_fAN rfl rfl ?_ | refine V_D rfl ?_ | refine D_step rfl ?_ | refine D_nil' ?_ | refine D_gT' rfl ?_ | refine D_gU' rfl ?_ | refine D_gF' rfl rfl ?_ | refine D_gS rfl (fun _ => ?_) (fun _ => ?_)
      rfl
    · obtain ⟨le1, le2, le3⟩ := h5.len
      have hl := outs_loop h5 (fun x hx q hq => hd x q hq (gdLL_mem hg2 x hx)) h32 i hi [.int .i64 op, pa, pb, pc, pd, pe] (l0 :: ls) [] [] ⟨0, 1, [(0, .var [.int .i64 op, pa, pb, pc, pd, pe])]⟩ .nilSl rfl rfl (.inl ⟨rfl, rfl⟩) rfl (by simp [tokOf]) Nat.zero_lt_one
      have hks := (outsF_mono (llF_mono (l0 :: ls))).1 i hi
      unfold withinF
      rw [if_neg k1, if_neg k2]
      have n54 : ¬ op = 54 := fun e => k1 (.inl e)
      have n56 : ¬ op = 56 := fun e => k1 (.inr e)
      refine call_V rfl rfl ?_
      repeat' first | refine V_cHF rfl rfl n54 ?_ | refine V_cHF rfl rfl n56 ?_ | refine V_cHF rfl rfl k2 ?_ | refine O_lenO rfl le1 le2 ?_ | refine O_step rfl ?_ | refine O_stepL rfl ?_ | refine V_cutTo rfl hl ⟨rfl, rfl, rfl, rfl, rfl, rfl, trivial⟩ ?_ | refine V_O rfl ?_ | refine O_step rfl ?_ | refine O_nil' ?_ | refine V_cT rfl rfl ?_ | refine V_cF rfl rfl ?_ | refine V_cEq rfl rfl ?_ | refine V_cNe rfl rfl ?_ | refine V_cB rfl rfl (fun _ => ?_) (fun _ => ?_) | refine O_gT' rfl ?_ | refine O_gU' rfl ?_ | refine O_gF' rfl rfl ?_ | refine O_gEq rfl ?_ | refine O_gNe rfl ?_ | refine O_gS rfl (fun _ => ?_) (fun _ => ?_) | refine V_fA rfl rfl ?_ | refine V_fAN rfl rfl ?_ | refine V_D rfl ?_ | refine D_step rfl ?_ | refine D_nil' ?_ | refine D_gT' rfl ?_ | refine D_gU' rfl ?_ | refine D_gF' rfl rfl ?_ | refine D_gS rfl (fun _ => ?_) (fun _ => ?_)
      rintro x e' st' (⟨rfl, h0, hg0, v', rfl, hA⟩ | ⟨rfl, h0, rfl⟩)
      · rw [if_pos h0]
        have hlen := outs_len h0
        rw [llF_len] at hlen
        generalize (outsF (llF (l0 :: ls)) i).1 = os at *
        rw [List.nil_append] at hA
        by_cases k3 : op = 20 ∨ op = 21 ∨ op = 22 ∨ op = 23
        · rw [if_pos k3]
          rcases k3 with rfl | rfl | rfl | rfl
          all_goals repeat' first | refine O_loadV rfl hg0 rfl ?_ | refine V_O rfl ?_ | refine O_step rfl ?_ | refine O_nil' ?_ | refine V_cT rfl rfl ?_ | refine V_cF rfl rfl ?_ | refine V_cEq rfl rfl ?_ | refine V_cNe rfl rfl ?_ | refine V_cB rfl rfl (fun _ => ?_) (fun _ => ?_) | refine O_gT' rfl ?_ | refine O_gU' rfl ?_ | refine O_gF' rfl rfl ?_ | refine O_gEq rfl ?_ | refine O_gNe rfl ?_ | refine O_gS rfl (fun _ => ?_) (fun _ => ?_) | refine V_fA rfl rfl ?_ | refine V_fAN rfl rfl ?_ | refine V_D rfl ?_ | refine D_step rfl ?_ | refine D_nil' ?_ | refine D_gT' rfl ?_ | refine D_gU' rfl ?_ | refine D_gF' rfl rfl ?_ | refine D_gS rfl (fun _ => ?_) (fun _ => ?_)
          all_goals rfl
        · rw [if_neg k3]
          have n20 : ¬ op = 20 := fun e => k3 (by omega)
          have n21 : ¬ op = 21 := fun e => k3 (by omega)
          have n22 : ¬ op = 22 := fun e => k3 (by omega)
          have n23 : ¬ op = 23 := fun e => k3 (by omega)
          by_cases k4 : op = 53
          · subst k4
            rw [if_pos rfl]
            obtain ⟨o0, ot, rfl⟩ : ∃ a b, os = a :: b := by
              cases os with
              | nil => simp at hlen
              | cons a b => exact ⟨a, b, rfl⟩
            obtain ⟨v2, s2, w2⟩ := Win.tail (e := ik o0) (es := ot.map ik) hA.win (k := .i64)
            have hl2 := or_loop w2 (fun x hx => hks x (by simp [hx])) (by simp at hlen h32; omega) ot [] 0 rfl (sub_zero _)
            obtain ⟨lw1, lw2⟩ := w2.len
            rw [List.length_map] at lw1
            repeat' first | refine O_loadV rfl hg0 rfl ?_ | refine O_slice v2 rfl rfl rfl rfl s2 ?_ | refine O_lenO rfl lw1 lw2 ?_ | refine V_cutTo rfl hl2 ⟨rfl, rfl, rfl, rfl, trivial⟩ ?_ | refine V_O rfl ?_ | refine O_step rfl ?_ | refine O_nil' ?_ | refine V_cT rfl rfl ?_ | refine V_cF rfl rfl ?_ | refine V_cEq rfl rfl ?_ | refine V_cNe rfl rfl ?_ | refine V_cB rfl rfl (fun _ => ?_) (fun _ => ?_) | refine O_gT' rfl ?_ | refine O_gU' rfl ?_ | refine O_gF' rfl rfl ?_ | refine O_gEq rfl ?_ | refine O_gNe rfl ?_ | refine O_gS rfl (fun _ => ?_) (fun _ => ?_) | refine V_fA rfl rfl ?_ | refine V_fAN rfl rfl ?_ | refine V_D rfl ?_ | refine D_step rfl ?_ | refine D_nil' ?_ | refine D_gT' rfl ?_ | refine D_gU' rfl ?_ | refine D_gF' rfl rfl ?_ | refine D_gS rfl (fun _ => ?_) (fun _ => ?_)
            rintro x e' st'' ⟨rfl, rfl⟩
            repeat' first | refine V_O rfl ?_ | refine O_step rfl ?_ | refine O_nil' ?_ | refine V_cT rfl rfl ?_ | refine V_cF rfl rfl ?_ | refine V_cEq rfl rfl ?_ | refine V_cNe rfl rfl ?_ | refine V_cB rfl rfl (fun _ => ?_) (fun _ => ?_) | refine O_gT' rfl ?_ | refine O_gU' rfl ?_ | refine O_gF' rfl rfl ?_ | refine O_gEq rfl ?_ | refine O_gNe rfl ?_ | refine O_gS rfl (fun _ => ?_) (fun _ => ?_) | refine V_fA rfl rfl ?_ | refine V_fAN rfl rfl ?_ | refine V_D rfl ?_ | refine D_step rfl ?_ | refine D_nil' ?_ | refine D_gT' rfl ?_ | refine D_gU' rfl ?_ | refine D_gF' rfl rfl ?_ | refine D_gS rfl (fun _ => ?_) (fun _ => ?_)
            rfl
          · rw [if_neg k4]
            by_cases k5 : op = 52
            · subst k5
              rw [if_pos rfl]
              obtain ⟨v2, st2, s1, s2, s3⟩ := hA.grow (bytes := 8) (src := [ik i]) (by simp) (by simp only [List.length_map, List.length_singleton, roomLen]; simp at hlen h32; omega)
              have hf : os.map ik ++ [ik i] = (os ++ [i]).map ik := by simp
              rw [hf] at s2
              have w2 := s2.win
              have hl2 := or_loop w2 (fun x hx => by
                rcases List.mem_append.1 hx with hx | hx
                · exact hks x hx
                · rw [List.mem_singleton.1 hx]; exact hi) (by simp at hlen h32 ⊢; omega) (os ++ [i]) [] 0 rfl (sub_zero _)
              obtain ⟨lw1, lw2⟩ := w2.len
              rw [List.length_map] at lw1
              repeat' first | refine O_loadV rfl hg0 rfl ?_ | refine O_append rfl rfl rfl rfl (by decide) (by decide) s1 ?_ | refine O_lenO rfl lw1 lw2 ?_ | refine V_cutTo rfl hl2 ⟨rfl, rfl, rfl, rfl, trivial⟩ ?_ | refine V_O rfl ?_ | refine O_step rfl ?_ | refine O_nil' ?_ | refine V_cT rfl rfl ?_ | refine V_cF rfl rfl ?_ | refine V_cEq rfl rfl ?_ | refine V_cNe rfl rfl ?_ | refine V_cB rfl rfl (fun _ => ?_) (fun _ => ?_) | refine O_gT' rfl ?_ | refine O_gU' rfl ?_ | refine O_gF' rfl rfl ?_ | refine O_gEq rfl ?_ | refine O_gNe rfl ?_ | refine O_gS rfl (fun _ => ?_) (fun _ => ?_) | refine V_fA rfl rfl ?_ | refine V_fAN rfl rfl ?_ | refine V_D rfl ?_ | refine D_step rfl ?_ | refine D_nil' ?_ | refine D_gT' rfl ?_ | refine D_gU' rfl ?_ | refine D_gF' rfl rfl ?_ | refine D_gS rfl (fun _ => ?_) (fun _ => ?_)
              rintro x e' st'' ⟨rfl, rfl⟩
              repeat' first | refine V_O rfl ?_ | refine O_step rfl ?_ | refine O_nil' ?_ | refine V_cT rfl rfl ?_ | refine V_cF rfl rfl ?_ | refine V_cEq rfl rfl ?_ | refine V_cNe rfl rfl ?_ | refine V_cB rfl rfl (fun _ => ?_) (fun _ => ?_) | refine O_gT' rfl ?_ | refine O_gU' rfl ?_ | refine O_gF' rfl rfl ?_ | refine O_gEq rfl ?_ | refine O_gNe rfl ?_ | refine O_gS rfl (fun _ => ?_) (fun _ => ?_) | refine V_fA rfl rfl ?_ | refine V_fAN rfl rfl ?_ | refine V_D rfl ?_ | refine D_step rfl ?_ | refine D_nil' ?_ | refine D_gT' rfl ?_ | refine D_gU' rfl ?_ | refine D_gF' rfl rfl ?_ | refine D_gS rfl (fun _ => ?_) (fun _ => ?_)
              rfl
            · rw [if_neg k5]
              have w2 := hA.win
              have hl2 := or_loop w2 hks (by simp at hlen h32; omega) os [] 0 rfl (sub_zero _)
              obtain ⟨lw1, lw2⟩ := w2.len
              rw [List.length_map] at lw1
              repeat' first | refine V_cHF rfl rfl n20 ?_ | refine V_cHF rfl rfl n21 ?_ | refine V_cHF rfl rfl n22 ?_ | refine V_cHF rfl rfl n23 ?_ | refine V_cHF rfl rfl k4 ?_ | refine V_cHF rfl rfl k5 ?_ | refine O_loadV rfl hg0 rfl ?_ | refine O_lenO rfl lw1 lw2 ?_ | refine V_cutTo rfl hl2 ⟨rfl, rfl, rfl, rfl, trivial⟩ ?_ | refine V_O rfl ?_ | refine O_step rfl ?_ | refine O_nil' ?_ | refine V_cT rfl rfl ?_ | refine V_cF rfl rfl ?_ | refine V_cEq rfl rfl ?_ | refine V_cNe rfl rfl ?_ | refine V_cB rfl rfl (fun _ => ?_) (fun _ => ?_) | refine O_gT' rfl ?_ | refine O_gU' rfl ?_ | refine O_gF' rfl rfl ?_ | refine O_gEq rfl ?_ | refine O_gNe rfl ?_ | refine O_gS rfl (fun _ => ?_) (fun _ => ?_) | refine V_fA rfl rfl ?_ | refine V_fAN rfl rfl ?_ | refine V_D rfl ?_ | refine D_step rfl ?_ | refine D_nil' ?_ | refine D_gT' rfl ?_ | refine D_gU' rfl ?_ | refine D_gF' rfl rfl ?_ | refine D_gS rfl (fun _ => ?_) (fun _ => ?_)
              rintro x e' st'' ⟨rfl, rfl⟩
              repeat' first | refine V_O rfl ?_ | refine O_step rfl ?_ | refine O_nil' ?_ | refine V_cT rfl rfl ?_ | refine V_cF rfl rfl ?_ | refine V_cEq rfl rfl ?_ | refine V_cNe rfl rfl ?_ | refine V_cB rfl rfl (fun _ => ?_) (fun _ => ?_) | refine O_gT' rfl ?_ | refine O_gU' rfl ?_ | refine O_gF' rfl rfl ?_ | refine O_gEq rfl ?_ | refine O_gNe rfl ?_ | refine O_gS rfl (fun _ => ?_) (fun _ => ?_) | refine V_fA rfl rfl ?_ | refine V_fAN rfl rfl ?_ | refine V_D rfl ?_ | refine D_step rfl ?_ | refine D_nil' ?_ | refine D_gT' rfl ?_ | refine D_gU' rfl ?_ | refine D_gF' rfl rfl ?_ | refine D_gS rfl (fun _ => ?_) (fun _ => ?_)
              rfl
      · rw [if_neg h0]
        repeat' first | refine V_O rfl ?_ | refine O_step rfl ?_ | refine O_nil' ?_ | refine V_cT rfl rfl ?_ | refine V_cF rfl rfl ?_ | refine V_cEq rfl rfl ?_ | refine V_cNe rfl rfl ?_ | refine V_cB rfl rfl (fun _ => ?_) (fun _ => ?_) | refine O_gT' rfl ?_ | refine O_gU' rfl ?_ | refine O_gF' rfl rfl ?_ | refine O_gEq rfl ?_ | refine O_gNe rfl ?_ | refine O_gS rfl (fun _ => ?_) (fun _ => ?_) | refine V_fA rfl rfl ?_ | refine V_fAN rfl rfl ?_ | refine V_D rfl ?_ | refine D_step rfl ?_ | refine D_nil' ?_ | refine D_gT' rfl ?_ | refine D_gU' rfl ?_ | refine D_gF' rfl rfl ?_ | refine D_gS rfl (fun _ => ?_) (fun _ => ?_)
        rfl
set_option maxHeartbeats 4000000 in
theorem run_step {n : Nat} {s : Stp} {cs : List PV} (h : SC (n + 1) s cs) (hd : ∀ x q, SL n q x → gdL x → Tells q (inferF (lF x))) (hg : gdS s) (i : Nat) (hi : KS i) :
    T.R (.call n_check_step [.int .i64 (i : Int), .agg cs] (inP (stF s i))) := by
  obtain ⟨op, names, nums, preds, vals, subs⟩ := s
  have hr := run_ruleOf h
  obtain ⟨m, pa, pb, pc, pd, pe, e, ho, rfl, h1, h2, h3, h4, h5, pla, plb, plc, pld, ple⟩ := h.open
  obtain rfl : n = m := by omega
  obtain ⟨le1, le2, le3⟩ := h5.len
  rw [gdS] at hg
  have hks := ruleS_ks op names.length (kindS vals) (kindS_ks _)
  have hwi : ∀ (hne : subs ≠ []) (j : Nat), KS j → T.R (.call n_check_within [.int .i64 (j : Int), .agg [.int .i64 op, pa, pb, pc, pd, pe]] (inP (withinF op nums (llF subs) j))) := fun hne j hj => run_within h2 h5 pla plb plc pld ple hd hg.1 hg.2 hne j hj
  have hfs : llF subs ≠ [] ↔ subs ≠ [] := by
    rw [ne_eq, ne_eq, ← List.length_eq_zero_iff, llF_len, List.length_eq_zero_iff]
  rw [stF]
  unfold stepF
  unfold ruleP at hr
  generalize ruleS op names.length (kindS vals) = x at hr hks ⊢
  obtain ⟨su, mk, ca⟩ := x
  obtain ⟨ks1, ks2⟩ := hks
  have ks1 : KS su := ks1
  have ks2 : KS mk := ks2
  simp only [] at hr ⊢
  have hil := hi.le
  have hsl := ks1.le
  have hsk : KS (i &&& su) := sub_trans (sub_andl _ _) hi
  have e1 := int_is (k := .i64) (and_is (a := i) (b := su) (by omega) (by omega))
  have hsle := hsk.le
  by_cases c1 : i ≠ 0 ∧ i &&& su = 0
  · rw [if_pos c1]
    have f1 : ¬ ((i : Int) = 0) := by omega
    have f2 : (((i &&& su : Nat) : Int) = 0) := by omega
    refine call_V rfl rfl ?_
    repeat' first | refine O_loadP rfl rfl rfl ?_ | refine O_cA rfl rfl hr ?_ | refine O_is e1 rfl ?_ | refine O_is (ndec_not f1) rfl ?_ | refine O_is (dec_is f2) rfl ?_ | refine O_step rfl ?_ | refine O_stepL rfl ?_ | refine V_O rfl ?_ | refine O_step rfl ?_ | refine O_nil' ?_ | refine V_cT rfl rfl ?_ | refine V_cF rfl rfl ?_ | refine V_cEq rfl rfl ?_ | refine V_cNe rfl rfl ?_ | refine V_cB rfl rfl (fun _ => ?_) (fun _ => ?_) | refine O_gT' rfl ?_ | refine O_gU' rfl ?_ | refine O_gF' rfl rfl ?_ | refine O_gEq rfl ?_ | refine O_gNe rfl ?_ | refine O_gS rfl (fun _ => ?_) (fun _ => ?_) | refine V_fA rfl rfl ?_ | refine V_fAN rfl rfl ?_ | refine V_D rfl ?_ | refine D_step rfl ?_ | refine D_nil' ?_ | refine D_gT' rfl ?_ | refine D_gU' rfl ?_ | refine D_gF' rfl rfl ?_ | refine D_gS rfl (fun _ => ?_) (fun _ => ?_)
    rfl
  · rw [if_neg c1]
    have F : ∀ b : Bool, PV.bool (!decide ((i : Int) = 0)) = PV.bool b → b = true → PV.bool (decide (((i &&& su : Nat) : Int) = 0)) = PV.bool false := fun b hb hbt => by
      subst hbt
      have hi0 : i ≠ 0 := fun e => by subst e; simp at hb
      exact dec_not (fun e => c1 ⟨hi0, by omega⟩)
    by_cases hne : subs ≠ []
    · rw [if_pos (hfs.2 hne)]
      have hw := hwi hne _ hsk
      have f3 : (0 : Int) < (subs.length : Int) := by
        have : subs.length ≠ 0 := fun e => hne (List.length_eq_zero_iff.1 e)
        omega
      unfold inP at hw ⊢
      generalize withinF op nums (llF subs) (i &&& su) = r at hw ⊢
      by_cases i0 : i = 0
      · have f1 : ((i : Int) = 0) := by omega
        refine call_V rfl rfl ?_
        repeat' first | refine O_loadP rfl rfl rfl ?_ | refine O_cA rfl rfl hr ?_ | refine O_is e1 rfl ?_ | refine O_is (ndec_is f1) rfl ?_ | refine O_lenO rfl le1 le2 ?_ | refine O_is (dec_is f3) rfl ?_ | refine O_cA rfl rfl hw ?_ | refine O_step rfl ?_ | refine O_stepL rfl ?_ | refine V_O rfl ?_ | refine O_step rfl ?_ | refine O_nil' ?_ | refine V_cT rfl rfl ?_ | refine V_cF rfl rfl ?_ | refine V_cEq rfl rfl ?_ | refine V_cNe rfl rfl ?_ | refine V_cB rfl rfl (fun _ => ?_) (fun _ => ?_) | refine O_gT' rfl ?_ | refine O_gU' rfl ?_ | refine O_gF' rfl rfl ?_ | refine O_gEq rfl ?_ | refine O_gNe rfl ?_ | refine O_gS rfl (fun _ => ?_) (fun _ => ?_) | refine V_fA rfl rfl ?_ | refine V_fAN rfl rfl ?_ | refine V_D rfl ?_ | refine D_step rfl ?_ | refine D_nil' ?_ | refine D_gT' rfl ?_ | refine D_gU' rfl ?_ | refine D_gF' rfl rfl ?_ | refine D_gS rfl (fun _ => ?_) (fun _ => ?_)
        rfl
      · have f1 : ¬ ((i : Int) = 0) := by omega
        have f2 : ¬ (((i &&& su : Nat) : Int) = 0) := fun e => c1 ⟨i0, by omega⟩
        refine call_V rfl rfl ?_
        repeat' first | refine O_loadP rfl rfl rfl ?_ | refine O_cA rfl rfl hr ?_ | refine O_is e1 rfl ?_ | refine O_is (ndec_not f1) rfl ?_ | refine O_is (dec_not f2) rfl ?_ | refine O_lenO rfl le1 le2 ?_ | refine O_is (dec_is f3) rfl ?_ | refine O_cA rfl rfl hw ?_ | refine O_step rfl ?_ | refine O_stepL rfl ?_ | refine V_O rfl ?_ | refine O_step rfl ?_ | refine O_nil' ?_ | refine V_cT rfl rfl ?_ | refine V_cF rfl rfl ?_ | refine V_cEq rfl rfl ?_ | refine V_cNe rfl rfl ?_ | refine V_cB rfl rfl (fun _ => ?_) (fun _ => ?_) | refine O_gT' rfl ?_ | refine O_gU' rfl ?_ | refine O_gF' rfl rfl ?_ | refine O_gEq rfl ?_ | refine O_gNe rfl ?_ | refine O_gS rfl (fun _ => ?_) (fun _ => ?_) | refine V_fA rfl rfl ?_ | refine V_fAN rfl rfl ?_ | refine V_D rfl ?_ | refine D_step rfl ?_ | refine D_nil' ?_ | refine D_gT' rfl ?_ | refine D_gU' rfl ?_ | refine D_gF' rfl rfl ?_ | refine D_gS rfl (fun _ => ?_) (fun _ => ?_)
        rfl
    · rw [if_neg (fun e => hne (hfs.1 e))]
      have hnil : subs = [] := Classical.not_not.1 hne
      have f3 : ¬ (0 : Int) < (subs.length : Int) := by rw [hnil]; simp
      clear hwi hfs hd hg h5 hne
      by_cases c2 : i = 0 ∧ op ≠ 35 ∧ op ≠ 39 ∧ op ≠ 48
      · rw [if_pos c2]
        have f1 : ((i : Int) = 0) := by omega
        refine call_V rfl rfl ?_
        repeat' first | refine O_loadP rfl rfl rfl ?_ | refine O_cA rfl rfl hr ?_ | refine O_is e1 rfl ?_ | refine O_is (ndec_is f1) rfl ?_ | refine O_is (dec_is f1) rfl ?_ | refine O_lenO rfl le1 le2 ?_ | refine O_is (dec_not f3) rfl ?_ | refine O_is (ndec_not c2.2.1) rfl ?_ | refine O_is (ndec_not c2.2.2.1) rfl ?_ | refine O_is (ndec_not c2.2.2.2) rfl ?_ | refine O_step rfl ?_ | refine O_stepL rfl ?_ | refine V_O rfl ?_ | refine O_step rfl ?_ | refine O_nil' ?_ | refine V_cT rfl rfl ?_ | refine V_cF rfl rfl ?_ | refine V_cEq rfl rfl ?_ | refine V_cNe rfl rfl ?_ | refine V_cB rfl rfl (fun _ => ?_) (fun _ => ?_) | refine O_gT' rfl ?_ | refine O_gU' rfl ?_ | refine O_gF' rfl rfl ?_ | refine O_gEq rfl ?_ | refine O_gNe rfl ?_ | refine O_gS rfl (fun _ => ?_) (fun _ => ?_) | refine V_fA rfl rfl ?_ | refine V_fAN rfl rfl ?_ | refine V_D rfl ?_ | refine D_step rfl ?_ | refine D_nil' ?_ | refine D_gT' rfl ?_ | refine D_gU' rfl ?_ | refine D_gF' rfl rfl ?_ | refine D_gS rfl (fun _ => ?_) (fun _ => ?_)
        rfl
      · rw [if_neg c2]
        have rest : ∀ (k : List Fr) (x : EX) (e : EC) (st : St), adv 200 k x = adv 200 k x → True := fun _ _ _ _ _ => trivial
        have G : (i = 0 ∧ (op = 35 ∨ op = 39 ∨ op = 48)) ∨ (i ≠ 0 ∧ i &&& su ≠ 0) := by
          by_cases i0 : i = 0
          · by_cases hop : op = 35 ∨ op = 39 ∨ op = 48
            · exact .inl ⟨i0, hop⟩
            · exact absurd ⟨i0, fun e => hop (.inl e), fun e => hop (.inr (.inl e)), fun e => hop (.inr (.inr e))⟩ c2
          · exact .inr ⟨i0, fun e => c1 ⟨i0, e⟩⟩
        rcases G with ⟨i0, hop⟩ | ⟨i0, hs0⟩
        · have f1 : ((i : Int) = 0) := by omega
          have n40 : ¬ op = 40 := by omega
          rw [if_neg n40]
          rcases hop with rfl | rfl | rfl
          all_goals cases ca
          all_goals refine call_V rfl rfl ?_
          all_goals repeat' first | refine O_loadP rfl rfl rfl ?_ | refine O_cA rfl rfl hr ?_ | refine O_is e1 rfl ?_ | refine O_is (ndec_is f1) rfl ?_ | refine O_is (dec_is f1) rfl ?_ | refine O_lenO rfl le1 le2 ?_ | refine O_is (dec_not f3) rfl ?_ | refine O_step rfl ?_ | refine O_stepL rfl ?_ | refine V_O rfl ?_ | refine O_step rfl ?_ | refine O_nil' ?_ | refine V_cT rfl rfl ?_ | refine V_cF rfl rfl ?_ | refine V_cEq rfl rfl ?_ | refine V_cNe rfl rfl ?_ | refine V_cB rfl rfl (fun _ => ?_) (fun _ => ?_) | refine O_gT' rfl ?_ | refine O_gU' rfl ?_ | refine O_gF' rfl rfl ?_ | refine O_gEq rfl ?_ | refine O_gNe rfl ?_ | refine O_gS rfl (fun _ => ?_) (fun _ => ?_) | refine V_fA rfl rfl ?_ | refine V_fAN rfl rfl ?_ | refine V_D rfl ?_ | refine D_step rfl ?_ | refine D_nil' ?_ | refine D_gT' rfl ?_ | refine D_gU' rfl ?_ | refine D_gF' rfl rfl ?_ | refine D_gS rfl (fun _ => ?_) (fun _ => ?_)
          all_goals rfl
        · have f1 : ¬ ((i : Int) = 0) := by omega
          have f2 : ¬ (((i &&& su : Nat) : Int) = 0) := by omega
          generalize i &&& su = s at *
          by_cases k40 : op = 40
          · subst k40
            rw [if_pos rfl]
            have g1 := int_is (k := .i64) (andNot_is hsk)
            have g2 : PV.int .i64 (IntKind.i64.wrap ((BitVec.ofInt 64 (s : Int) &&& BitVec.ofInt 64 (32 : Int)).toNat : Int)) = PV.int .i64 ((s &&& 32 : Nat) : Int) := int_is (and_is (b := 32) (by omega) (by omega))
            have g3 : PV.int .i64 (IntKind.i64.wrap ((BitVec.ofInt 64 (s : Int) &&& BitVec.ofInt 64 (16 : Int)).toNat : Int)) = PV.int .i64 ((s &&& 16 : Nat) : Int) := int_is (and_is (b := 16) (by omega) (by omega))
            have g4 : PV.int .i64 (IntKind.i64.wrap ((BitVec.ofInt 64 ((s &&& 206 : Nat) : Int) ||| BitVec.ofInt 64 (16 : Int)).toNat : Int)) = PV.int .i64 (((s &&& 206) ||| 16 : Nat) : Int) := int_is (or_is (b := 16) (sub_trans (sub_andl _ _) hsk) (sub_of (by decide)))
            unfold unfS
            by_cases b16 : s &&& 16 = 0
            · have j16 : (((s &&& 16 : Nat) : Int) = 0) := by omega
              rw [if_neg (fun h => h b16)]
              by_cases b32 : s &&& 32 = 0
              · have j32 : (((s &&& 32 : Nat) : Int) = 0) := by omega
                rw [if_neg (fun h => h b32)]
                refine call_V rfl rfl ?_
                repeat' first | refine O_loadP rfl rfl rfl ?_ | refine O_cA rfl rfl hr ?_ | refine O_is e1 rfl ?_ | refine O_is (ndec_not f1) rfl ?_ | refine O_is (dec_not f1) rfl ?_ | refine O_is (dec_not f2) rfl ?_ | refine O_lenO rfl le1 le2 ?_ | refine O_is (dec_not f3) rfl ?_ | refine O_is g1 rfl ?_ | refine O_is g2 rfl ?_ | refine O_is g3 rfl ?_ | refine O_is (ndec_is j16) rfl ?_ | refine O_is (ndec_is j32) rfl ?_ | refine O_step rfl ?_ | refine O_stepL rfl ?_ | refine V_O rfl ?_ | refine O_step rfl ?_ | refine O_nil' ?_ | refine V_cT rfl rfl ?_ | refine V_cF rfl rfl ?_ | refine V_cEq rfl rfl ?_ | refine V_cNe rfl rfl ?_ | refine V_cB rfl rfl (fun _ => ?_) (fun _ => ?_) | refine O_gT' rfl ?_ | refine O_gU' rfl ?_ | refine O_gF' rfl rfl ?_ | refine O_gEq rfl ?_ | refine O_gNe rfl ?_ | refine O_gS rfl (fun _ => ?_) (fun _ => ?_) | refine V_fA rfl rfl ?_ | refine V_fAN rfl rfl ?_ | refine V_D rfl ?_ | refine D_step rfl ?_ | refine D_nil' ?_ | refine D_gT' rfl ?_ | refine D_gU' rfl ?_ | refine D_gF' rfl rfl ?_ | refine D_gS rfl (fun _ => ?_) (fun _ => ?_)
                rfl
              · have j32 : ¬ (((s &&& 32 : Nat) : Int) = 0) := by omega
                rw [if_pos b32]
                refine call_V rfl rfl ?_
                repeat' first | refine O_loadP rfl rfl rfl ?_ | refine O_cA rfl rfl hr ?_ | refine O_is e1 rfl ?_ | refine O_is (ndec_not f1) rfl ?_ | refine O_is (dec_not f1) rfl ?_ | refine O_is (dec_not f2) rfl ?_ | refine O_lenO rfl le1 le2 ?_ | refine O_is (dec_not f3) rfl ?_ | refine O_is g1 rfl ?_ | refine O_is g2 rfl ?_ | refine O_is g3 rfl ?_ | refine O_is g4 rfl ?_ | refine O_is (ndec_is j16) rfl ?_ | refine O_is (ndec_not j32) rfl ?_ | refine O_step rfl ?_ | refine O_stepL rfl ?_ | refine V_O rfl ?_ | refine O_step rfl ?_ | refine O_nil' ?_ | refine V_cT rfl rfl ?_ | refine V_cF rfl rfl ?_ | refine V_cEq rfl rfl ?_ | refine V_cNe rfl rfl ?_ | refine V_cB rfl rfl (fun _ => ?_) (fun _ => ?_) | refine O_gT' rfl ?_ | refine O_gU' rfl ?_ | refine O_gF' rfl rfl ?_ | refine O_gEq rfl ?_ | refine O_gNe rfl ?_ | refine O_gS rfl (fun _ => ?_) (fun _ => ?_) | refine V_fA rfl rfl ?_ | refine V_fAN rfl rfl ?_ | refine V_D rfl ?_ | refine D_step rfl ?_ | refine D_nil' ?_ | refine D_gT' rfl ?_ | refine D_gU' rfl ?_ | refine D_gF' rfl rfl ?_ | refine D_gS rfl (fun _ => ?_) (fun _ => ?_)
                rfl
            · have j16 : ¬ (((s &&& 16 : Nat) : Int) = 0) := by omega
              rw [if_pos b16]
              by_cases b32 : s &&& 32 = 0
              · have j32 : (((s &&& 32 : Nat) : Int) = 0) := by omega
                refine call_V rfl rfl ?_
                repeat' first | refine O_loadP rfl rfl rfl ?_ | refine O_cA rfl rfl hr ?_ | refine O_is e1 rfl ?_ | refine O_is (ndec_not f1) rfl ?_ | refine O_is (dec_not f1) rfl ?_ | refine O_is (dec_not f2) rfl ?_ | refine O_lenO rfl le1 le2 ?_ | refine O_is (dec_not f3) rfl ?_ | refine O_is g1 rfl ?_ | refine O_is g2 rfl ?_ | refine O_is g3 rfl ?_ | refine O_is (ndec_not j16) rfl ?_ | refine O_is (ndec_is j32) rfl ?_ | refine O_step rfl ?_ | refine O_stepL rfl ?_ | refine V_O rfl ?_ | refine O_step rfl ?_ | refine O_nil' ?_ | refine V_cT rfl rfl ?_ | refine V_cF rfl rfl ?_ | refine V_cEq rfl rfl ?_ | refine V_cNe rfl rfl ?_ | refine V_cB rfl rfl (fun _ => ?_) (fun _ => ?_) | refine O_gT' rfl ?_ | refine O_gU' rfl ?_ | refine O_gF' rfl rfl ?_ | refine O_gEq rfl ?_ | refine O_gNe rfl ?_ | refine O_gS rfl (fun _ => ?_) (fun _ => ?_) | refine V_fA rfl rfl ?_ | refine V_fAN rfl rfl ?_ | refine V_D rfl ?_ | refine D_step rfl ?_ | refine D_nil' ?_ | refine D_gT' rfl ?_ | refine D_gU' rfl ?_ | refine D_gF' rfl rfl ?_ | refine D_gS rfl (fun _ => ?_) (fun _ => ?_)
                rfl
              · have j32 : ¬ (((s &&& 32 : Nat) : Int) = 0) := by omega
                refine call_V rfl rfl ?_
                repeat' first | refine O_loadP rfl rfl rfl ?_ | refine O_cA rfl rfl hr ?_ | refine O_is e1 rfl ?_ | refine O_is (ndec_not f1) rfl ?_ | refine O_is (dec_not f1) rfl ?_ | refine O_is (dec_not f2) rfl ?_ | refine O_lenO rfl le1 le2 ?_ | refine O_is (dec_not f3) rfl ?_ | refine O_is g1 rfl ?_ | refine O_is g2 rfl ?_ | refine O_is g3 rfl ?_ | refine O_is g4 rfl ?_ | refine O_is (ndec_not j16) rfl ?_ | refine O_is (ndec_not j32) rfl ?_ | refine O_step rfl ?_ | refine O_stepL rfl ?_ | refine V_O rfl ?_ | refine O_step rfl ?_ | refine O_nil' ?_ | refine V_cT rfl rfl ?_ | refine V_cF rfl rfl ?_ | refine V_cEq rfl rfl ?_ | refine V_cNe rfl rfl ?_ | refine V_cB rfl rfl (fun _ => ?_) (fun _ => ?_) | refine O_gT' rfl ?_ | refine O_gU' rfl ?_ | refine O_gF' rfl rfl ?_ | refine O_gEq rfl ?_ | refine O_gNe rfl ?_ | refine O_gS rfl (fun _ => ?_) (fun _ => ?_) | refine V_fA rfl rfl ?_ | refine V_fAN rfl rfl ?_ | refine V_D rfl ?_ | refine D_step rfl ?_ | refine D_nil' ?_ | refine D_gT' rfl ?_ | refine D_gU' rfl ?_ | refine D_gF' rfl rfl ?_ | refine D_gS rfl (fun _ => ?_) (fun _ => ?_)
                rfl
          · rw [if_neg k40]
            cases ca
            all_goals refine call_V rfl rfl ?_
            all_goals repeat' first | refine O_loadP rfl rfl rfl ?_ | refine O_cA rfl rfl hr ?_ | refine O_is e1 rfl ?_ | refine O_is (ndec_not f1) rfl ?_ | refine O_is (dec_not f1) rfl ?_ | refine O_is (dec_not f2) rfl ?_ | refine O_lenO rfl le1 le2 ?_ | refine O_is (dec_not f3) rfl ?_ | refine O_is (dec_not k40) rfl ?_ | refine O_step rfl ?_ | refine O_stepL rfl ?_ | refine V_O rfl ?_ | refine O_step rfl ?_ | refine O_nil' ?_ | refine V_cT rfl rfl ?_ | refine V_cF rfl rfl ?_ | refine V_cEq rfl rfl ?_ | refine V_cNe rfl rfl ?_ | refine V_cB rfl rfl (fun _ => ?_) (fun _ => ?_) | refine O_gT' rfl ?_ | refine O_gU' rfl ?_ | refine O_gF' rfl rfl ?_ | refine O_gEq rfl ?_ | refine O_gNe rfl ?_ | refine O_gS rfl (fun _ => ?_) (fun _ => ?_) | refine V_fA rfl rfl ?_ | refine V_fAN rfl rfl ?_ | refine V_D rfl ?_ | refine D_step rfl ?_ | refine D_nil' ?_ | refine D_gT' rfl ?_ | refine D_gU' rfl ?_ | refine D_gF' rfl rfl ?_ | refine D_gS rfl (fun _ => ?_) (fun _ => ?_)
            all_goals rfl
end Go.Proofs.YtinojffgmgjblaaGreatDoor
