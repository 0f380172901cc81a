/- rambleref23.Lines. -/
import Derived.Test.YtbeaalkfakjoiaaDoorScrHToScrQ
set_option linter.unusedVariables false
set_option linter.unusedSimpArgs false
namespace Go.Proofs.YtbeaalkfakjoiaaDoor
open Go Go.AM Go.RowKit
theorem sliceMidS {pre cur rest : List UInt8} {k k' : IntKind} : sliceStr? (some (.int k (pre.length : Int))) (some (.int k' ((pre.length + cur.length : Nat) : Int))) (.str (pre ++ cur ++ rest)) = some (.str cur) := by
  have h1 : ((0 : Int) ≤ ((pre.length + cur.length : Nat) : Int) ∧ ((pre.length + cur.length : Nat) : Int) ≤ (pre ++ cur ++ rest).length) := by simp; omega
  have h2 : ((0 : Int) ≤ (pre.length : Int) ∧ (pre.length : Int) ≤ ((pre.length + cur.length : Nat) : Int)) := by omega
  simp only [sliceStr?, bound?, Option.bind_some]
  rw [if_pos (by simp; omega)]
  simp only [Option.bind_some, Int.toNat_natCast]
  rw [if_pos (by omega)]
  simp
def RlP (s : List UInt8) : Post := PE fun x e st' => x = .exit 0 ∧ ∃ (v' : PV) (acc : List (List UInt8)) (dn cur : List UInt8), e = ecOf [(0, .str s), (3, v'), (4, .int .i64 dn.length)] ∧ s = dn ++ cur ∧ 10 ∉ cur ∧ AccT 1 st' v' (acc.map sc) ∧ acc.length ≤ s.length ∧ linesB s = acc ++ linesB cur
theorem rl_loop {s : List UInt8} (hl0 : s.length ≤ 1000000000) : ∀ (rest cur dn : List UInt8) (acc : List (List UInt8)) (st : St) (v : PV), s = dn ++ (cur ++ rest) → 10 ∉ cur → acc.length ≤ dn.length → AccT 1 st v (acc.map sc) → linesB s = acc ++ linesB (cur ++ rest) →
    V T (RlP s) [.code (.loop lp_rambleref23_Lines_0)] .normal (ecOf [(0, .str s), (3, v), (4, .int .i64 dn.length), (5, .int .i64 (dn ++ cur).length)]) st := by
  intro rest
  induction rest with
  | nil =>
    intro cur dn acc st v hs hc hal hA hL
    rw [List.append_nil] at hs hL
    have hlt : decide (((dn ++ cur).length : Int) < s.length) = false := decide_eq_false (by rw [hs]; simp)
    refine V_unroll ?_
    repeat' first | ((with_reducible show V _ _ _ _ _ _); first | refine V_cH hlt rfl rfl ?_ | refine V_out [(0, .str s), (3, v), (4, .int .i64 dn.length)] rfl ⟨rfl, rfl, rfl, trivial⟩ ⟨rfl, v, acc, dn, cur, rfl, hs, hc, hA, by rw [hs]; simp; omega, hL⟩ | refine V_O rfl ?_ | refine V_cT rfl rfl ?_ | refine V_cF rfl rfl ?_ | refine V_cEq rfl rfl ?_ | refine V_cNe rfl rfl ?_ | refine V_cB rfl rfl (fun _ => ?_) (fun _ => ?_) | refine V_fA rfl rfl ?_ | refine V_fAN rfl rfl ?_ | refine V_D rfl ?_) | ((with_reducible show VO _ _ _ _ _ _ _); first | refine O_step rfl ?_ | refine O_nil' ?_ | refine O_gT' rfl ?_ | refine O_gU' rfl ?_ | refine O_gF' rfl rfl ?_ | refine O_gEq rfl ?_ | refine O_gNe rfl ?_ | refine O_gS rfl (fun _ => ?_) (fun _ => ?_)) | ((with_reducible show VD _ _ _ _ _ _ _); first | refine D_step rfl ?_ | refine D_nil' ?_ | refine D_gT' rfl ?_ | refine D_gU' rfl ?_ | refine D_gF' rfl rfl ?_ | refine D_gS rfl (fun _ => ?_) (fun _ => ?_))
  | cons c rest ih =>
    intro cur dn acc st v hs hc hal hA hL
    have hs' : s = (dn ++ cur) ++ c :: rest := by rw [hs]; simp
    have hlen : (dn ++ cur).length < s.length := by rw [hs']; simp
    have hlt : decide (((dn ++ cur).length : Int) < s.length) = true := decide_eq_true (by omega)
    have hch : s[((dn ++ cur).length : Int).toNat]? = some c := by
      rw [Int.toNat_natCast, hs', List.getElem?_append_right (Nat.le_refl _)]
      simp
    refine V_unroll ?_
    by_cases h10 : c = 10
    · subst h10
      have hsl : sliceStr? (some (.int .i64 (dn.length : Int))) (some (.int .i64 ((dn ++ cur).length : Int))) (.str s) = some (.str cur) := by
        have e1 : sliceStr? (some (.int .i64 (dn.length : Int))) (some (.int .i64 ((dn.length + cur.length : Nat) : Int))) (.str (dn ++ cur ++ 10 :: rest)) = some (.str cur) := sliceMidS
        rw [← hs'] at e1
        rw [List.length_append]
        exact e1
      have hw : PV.int .i64 (IntKind.i64.wrap (((dn ++ cur).length : Int) + 1)) = PV.int .i64 ((dn ++ (cur ++ [10])).length : Int) := int_is (by rw [wrap_i64]; simp at *; omega)
      have hw2 : ((dn ++ (cur ++ [10])).length : Int) = (((dn ++ (cur ++ [10])) ++ ([] : List UInt8)).length : Int) := by simp
      obtain ⟨v', st', k1, k2, k3⟩ := hA.grow (bytes := 16) (src := [sc cur]) (by simp) (by simp only [List.length_map, List.length_singleton, roomLen]; simp at hlen; omega)
      have hf : (acc ++ [cur]).map sc = acc.map sc ++ [sc cur] := by simp
      have hi := ih [] (dn ++ (cur ++ [10])) (acc ++ [cur]) st' v' (by rw [hs]; simp) (by simp) (by simp; omega) (by rw [hf]; exact k2) (by rw [hL, linesB_cut hc]; simp)
      repeat' first | ((with_reducible show V _ _ _ _ _ _); first | refine V_cHT hlt rfl rfl ?_ | refine V_re rfl hi ⟨rfl, rfl, rfl, some_int hw2, trivial⟩ | refine V_O rfl ?_ | refine V_cT rfl rfl ?_ | refine V_cF rfl rfl ?_ | refine V_cEq rfl rfl ?_ | refine V_cNe rfl rfl ?_ | refine V_cB rfl rfl (fun _ => ?_) (fun _ => ?_) | refine V_fA rfl rfl ?_ | refine V_fAN rfl rfl ?_ | refine V_D rfl ?_) | ((with_reducible show VO _ _ _ _ _ _ _); first | refine O_chr 10 rfl rfl (by omega) hch ?_ | refine O_step hsl ?_ | refine O_append rfl rfl rfl rfl (by decide) (by decide) k1 ?_ | refine O_is hw rfl ?_ | refine O_step rfl ?_ | refine O_stepL rfl ?_ | refine O_nil' ?_ | refine O_gT' rfl ?_ | refine O_gU' rfl ?_ | refine O_gF' rfl rfl ?_ | refine O_gEq rfl ?_ | refine O_gNe rfl ?_ | refine O_gS rfl (fun _ => ?_) (fun _ => ?_)) | ((with_reducible show VD _ _ _ _ _ _ _); first | refine D_step rfl ?_ | refine D_nil' ?_ | refine D_gT' rfl ?_ | refine D_gU' rfl ?_ | refine D_gF' rfl rfl ?_ | refine D_gS rfl (fun _ => ?_) (fun _ => ?_))
    · have hc' : ¬ (c.toNat : Int) = 10 := fun e => h10 (UInt8.toNat_inj.1 (by have : (10 : UInt8).toNat = 10 := rfl; omega))
      have hw : IntKind.i64.wrap (((dn ++ cur).length : Int) + 1) = ((dn ++ (cur ++ [c])).length : Int) := by rw [wrap_i64]; simp at *; omega
      have hi := ih (cur ++ [c]) dn acc st v (by rw [hs]; simp) (by simp [hc, Ne.symm h10]) hal hA (by rw [hL]; simp)
      repeat' first | ((with_reducible show V _ _ _ _ _ _); first | refine V_cHT hlt rfl rfl ?_ | refine V_re rfl hi ⟨rfl, rfl, rfl, some_int hw, trivial⟩ | refine V_O rfl ?_ | refine V_cT rfl rfl ?_ | refine V_cF rfl rfl ?_ | refine V_cEq rfl rfl ?_ | refine V_cNe rfl rfl ?_ | refine V_cB rfl rfl (fun _ => ?_) (fun _ => ?_) | refine V_fA rfl rfl ?_ | refine V_fAN rfl rfl ?_ | refine V_D rfl ?_) | ((with_reducible show VO _ _ _ _ _ _ _); first | refine O_chr c rfl rfl (by omega) hch ?_ | refine O_is (dec_not hc') rfl ?_ | refine O_step rfl ?_ | refine O_nil' ?_ | refine O_gT' rfl ?_ | refine O_gU' rfl ?_ | refine O_gF' rfl rfl ?_ | refine O_gEq rfl ?_ | refine O_gNe rfl ?_ | refine O_gS rfl (fun _ => ?_) (fun _ => ?_)) | ((with_reducible show VD _ _ _ _ _ _ _); first | refine D_step rfl ?_ | refine D_nil' ?_ | refine D_gT' rfl ?_ | refine D_gU' rfl ?_ | refine D_gF' rfl rfl ?_ | refine D_gS rfl (fun _ => ?_) (fun _ => ?_))
theorem run_rLines {s : List UInt8} (hl0 : s.length ≤ 1000000000) : ∃ p, T.R (.call n_rambleref23_Lines [.str s] p) ∧ LV sc p (linesB s) := by
  have hl := rl_loop hl0 s [] [] [] emptySt .nilSl (by simp) (by simp) (by simp) (.inl ⟨rfl, rfl⟩) rfl
  refine call_VQ rfl rfl ?_
  repeat' first | ((with_reducible show V _ _ _ _ _ _); first | refine V_cutTo rfl hl ⟨rfl, rfl, rfl, rfl, trivial⟩ ?_ | refine V_O rfl ?_ | refine V_cT rfl rfl ?_ | refine V_cF rfl rfl ?_ | refine V_cEq rfl rfl ?_ | refine V_cNe rfl rfl ?_ | refine V_cB rfl rfl (fun _ => ?_) (fun _ => ?_) | refine V_fA rfl rfl ?_ | refine V_fAN rfl rfl ?_ | refine V_D rfl ?_) | ((with_reducible show VO _ _ _ _ _ _ _); first | refine O_step rfl ?_ | refine O_nil' ?_ | refine O_gT' rfl ?_ | refine O_gU' rfl ?_ | refine O_gF' rfl rfl ?_ | refine O_gEq rfl ?_ | refine O_gNe rfl ?_ | refine O_gS rfl (fun _ => ?_) (fun _ => ?_)) | ((with_reducible show VD _ _ _ _ _ _ _); first | refine D_step rfl ?_ | refine D_nil' ?_ | refine D_gT' rfl ?_ | refine D_gU' rfl ?_ | refine D_gF' rfl rfl ?_ | refine D_gS rfl (fun _ => ?_) (fun _ => ?_))
  rintro x e' st' ⟨rfl, v', acc, dn, cur, rfl, hs, hc, hA, hal, hL⟩
  by_cases hcur : cur = []
  · subst hcur
    have hlt : decide ((dn.length : Int) < s.length) = false := decide_eq_false (by rw [hs]; simp)
    have hL' : linesB s = acc := by rw [hL]; simp [linesB]
    rw [hL']
    rcases hA with ⟨rfl, h0⟩ | ⟨t, g, rfl, hg, hlt2⟩
    · have : acc = [] := by simpa using h0
      rw [this]
      repeat' first | ((with_reducible show V _ _ _ _ _ _); first | refine V_cH hlt rfl rfl ?_ | refine V_O rfl ?_ | refine V_cT rfl rfl ?_ | refine V_cF rfl rfl ?_ | refine V_cEq rfl rfl ?_ | refine V_cNe rfl rfl ?_ | refine V_cB rfl rfl (fun _ => ?_) (fun _ => ?_) | refine V_fA rfl rfl ?_ | refine V_fAN rfl rfl ?_ | refine V_D rfl ?_) | ((with_reducible show VO _ _ _ _ _ _ _); first | refine O_step rfl ?_ | refine O_stepL rfl ?_ | refine O_nil' ?_ | refine O_gT' rfl ?_ | refine O_gU' rfl ?_ | refine O_gF' rfl rfl ?_ | refine O_gEq rfl ?_ | refine O_gNe rfl ?_ | refine O_gS rfl (fun _ => ?_) (fun _ => ?_)) | ((with_reducible show VD _ _ _ _ _ _ _); first | refine D_step rfl ?_ | refine D_nil' ?_ | refine D_gT' rfl ?_ | refine D_gU' rfl ?_ | refine D_gF' rfl rfl ?_ | refine D_gS rfl (fun _ => ?_) (fun _ => ?_))
      exact .nil
    · repeat' first | ((with_reducible show V _ _ _ _ _ _); first | refine V_cH hlt rfl rfl ?_ | refine V_fin rfl rfl (view_osl0 hg (.inl rfl) rfl (pl_sc _)) (.sl _ _) | refine V_O rfl ?_ | refine V_cT rfl rfl ?_ | refine V_cF rfl rfl ?_ | refine V_cEq rfl rfl ?_ | refine V_cNe rfl rfl ?_ | refine V_cB rfl rfl (fun _ => ?_) (fun _ => ?_) | refine V_fA rfl rfl ?_ | refine V_fAN rfl rfl ?_ | refine V_D rfl ?_) | ((with_reducible show VO _ _ _ _ _ _ _); first | refine O_step rfl ?_ | refine O_stepL rfl ?_ | refine O_nil' ?_ | refine O_gT' rfl ?_ | refine O_gU' rfl ?_ | refine O_gF' rfl rfl ?_ | refine O_gEq rfl ?_ | refine O_gNe rfl ?_ | refine O_gS rfl (fun _ => ?_) (fun _ => ?_)) | ((with_reducible show VD _ _ _ _ _ _ _); first | refine D_step rfl ?_ | refine D_nil' ?_ | refine D_gT' rfl ?_ | refine D_gU' rfl ?_ | refine D_gF' rfl rfl ?_ | refine D_gS rfl (fun _ => ?_) (fun _ => ?_))
  · have hlen : 0 < cur.length := List.length_pos_iff.2 hcur
    have hlt : decide ((dn.length : Int) < s.length) = true := decide_eq_true (by rw [hs]; simp; omega)
    have hsl : sliceStr? (some (.int .i64 (dn.length : Int))) none (.str s) = some (.str cur) := by rw [sliceFrom (by rw [hs]; simp), hs, List.drop_left]
    have hL' : linesB s = acc ++ [cur] := by rw [hL, linesB_one hc hcur]
    rw [hL']
    obtain ⟨v2, st2, k1, k2, k3⟩ := hA.grow (bytes := 16) (src := [sc cur]) (by simp) (by simp only [List.length_map, List.length_singleton, roomLen]; omega)
    have hf : (acc ++ [cur]).map sc = acc.map sc ++ [sc cur] := by simp
    rw [← hf] at k2
    rcases k2 with ⟨rfl, h0⟩ | ⟨t, g, rfl, hg, hlt2⟩
    · simp at h0
    · repeat' first | ((with_reducible show V _ _ _ _ _ _); first | refine V_cHT hlt rfl rfl ?_ | refine V_fin rfl rfl (view_osl0 hg (.inl rfl) rfl (pl_sc _)) (.sl _ _) | refine V_O rfl ?_ | refine V_cT rfl rfl ?_ | refine V_cF rfl rfl ?_ | refine V_cEq rfl rfl ?_ | refine V_cNe rfl rfl ?_ | refine V_cB rfl rfl (fun _ => ?_) (fun _ => ?_) | refine V_fA rfl rfl ?_ | refine V_fAN rfl rfl ?_ | refine V_D rfl ?_) | ((with_reducible show VO _ _ _ _ _ _ _); first | refine O_step hsl ?_ | refine O_append rfl rfl rfl rfl (by decide) (by decide) k1 ?_ | refine O_step rfl ?_ | refine O_stepL rfl ?_ | refine O_nil' ?_ | refine O_gT' rfl ?_ | refine O_gU' rfl ?_ | refine O_gF' rfl rfl ?_ | refine O_gEq rfl ?_ | refine O_gNe rfl ?_ | refine O_gS rfl (fun _ => ?_) (fun _ => ?_)) | ((with_reducible show VD _ _ _ _ _ _ _); first | refine D_step rfl ?_ | refine D_nil' ?_ | refine D_gT' rfl ?_ | refine D_gU' rfl ?_ | refine D_gF' rfl rfl ?_ | refine D_gS rfl (fun _ => ?_) (fun _ => ?_))
end Go.Proofs.YtbeaalkfakjoiaaDoor
