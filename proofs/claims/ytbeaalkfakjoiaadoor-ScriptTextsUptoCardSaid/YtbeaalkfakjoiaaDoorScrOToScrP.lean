/- script.head, script.parseHead, strings.HasSuffix. · script.parseHead. -/
import Derived.Test.YtbeaalkfakjoiaaDoorScrEToScrJ
set_option linter.unusedVariables false
set_option linter.unusedSimpArgs false
namespace Go.Proofs.YtbeaalkfakjoiaaDoor
open Go Go.AM Go.RowKit
def ram7 : List UInt8 := [114, 97, 109, 98, 108, 101, 32]
theorem headL_eq (h : Int × Int × Int) : headL h = ram7 ++ Lib.itoa h.1 ++ [32] ++ Lib.itoa h.2.1 ++ [32] ++ Lib.itoa h.2.2 := by simp [headL, ram7, wRam]
theorem headL_len {h : Int × Int × Int} (hh : HR h) : (headL h).length ≤ 100 := by
  have l1 := itoa_len hh.1
  have l2 := itoa_len hh.2.1
  have l3 := itoa_len hh.2.2
  rw [headL_eq]
  simp [ram7]
  omega
set_option maxHeartbeats 2000000 in
theorem run_head {a b c : Int} {q : PV} (hh : HR (a, b, c)) (plq : Pl q) : T.R (.call n_script_head [.agg [.int .i64 a, .int .i64 b, .int .i64 c, q]] (.str (headL (a, b, c)))) := by
  have t1 := run_text hh.1
  have t2 := run_text hh.2.1
  have t3 := run_text hh.2.2
  have l1 := itoa_len hh.1
  have l2 := itoa_len hh.2.1
  have l3 := itoa_len hh.2.2
  rw [headL_eq]
  simp only at *
  generalize Lib.itoa a = A at *
  generalize Lib.itoa b = B at *
  generalize Lib.itoa c = C at *
  have pla : Pl (.agg [.int .i64 a, .int .i64 b, .int .i64 c, q]) := .agg _ (pl_cons (.int _ _) (pl_cons (.int _ _) (pl_cons (.int _ _) (pl_cons plq pl_nil))))
  have c0 : ram7.length + A.length ≤ 9223372036854775807 := by simp [ram7]; omega
  have c1 : (ram7 ++ A).length + ([32] : List UInt8).length ≤ 9223372036854775807 := by simp [ram7]; omega
  have c2 : (ram7 ++ A ++ [32]).length + B.length ≤ 9223372036854775807 := by simp [ram7]; omega
  have c3 : (ram7 ++ A ++ [32] ++ B).length + ([32] : List UInt8).length ≤ 9223372036854775807 := by simp [ram7]; omega
  have c4 : (ram7 ++ A ++ [32] ++ B ++ [32]).length + C.length ≤ 9223372036854775807 := by simp [ram7]; omega
  refine call_V rfl rfl ?_
  repeat' first | ((with_reducible show V _ _ _ _ _ _); first | refine V_O rfl ?_ | refine V_cT rfl rfl ?_ | refine V_cF rfl rfl ?_ | refine V_cEq rfl rfl ?_ | refine V_cNe rfl rfl ?_ | refine V_cB rfl rfl (fun _ => ?_) (fun _ => ?_) | refine V_fA rfl rfl ?_ | refine V_fAN rfl rfl ?_ | refine V_D rfl ?_) | ((with_reducible show VO _ _ _ _ _ _ _); first | refine O_step rfl ?_ | refine O_stepL rfl ?_ | refine O_nil' ?_ | refine O_gT' rfl ?_ | refine O_gU' rfl ?_ | refine O_gF' rfl rfl ?_ | refine O_gEq rfl ?_ | refine O_gNe rfl ?_ | refine O_gS rfl (fun _ => ?_) (fun _ => ?_)) | ((with_reducible show VD _ _ _ _ _ _ _); first | refine D_cA rfl rfl t1 ?_ | refine D_cA rfl rfl t2 ?_ | refine D_cA rfl rfl t3 ?_ | refine D_step (cat_q c0 rfl rfl) ?_ | refine D_step (cat_q c1 rfl rfl) ?_ | refine D_step (cat_q c2 rfl rfl) ?_ | refine D_step (cat_q c3 rfl rfl) ?_ | refine D_step (cat_q c4 rfl rfl) ?_ | refine D_step rfl ?_ | refine D_nil' ?_ | refine D_gT' rfl ?_ | refine D_gU' rfl ?_ | refine D_gF' rfl rfl ?_ | refine D_gS rfl (fun _ => ?_) (fun _ => ?_))
  rfl
theorem run_SHasSuffix {s : List UInt8} (hs : s.length ≤ 9223372036854775800) : T.R (.call n_stringslite_HasSuffix [.str s, .str [10]] (.bool (ends s))) := by
  rcases List.eq_nil_or_concat s with rfl | ⟨x, c, rfl⟩
  · refine call_V rfl rfl ?_
    repeat' first | ((with_reducible show V _ _ _ _ _ _); first | refine V_O rfl ?_ | refine V_cT rfl rfl ?_ | refine V_cF rfl rfl ?_ | refine V_cEq rfl rfl ?_ | refine V_cNe rfl rfl ?_ | refine V_cB rfl rfl (fun _ => ?_) (fun _ => ?_) | refine V_fA rfl rfl ?_ | refine V_fAN rfl rfl ?_ | refine V_D rfl ?_) | ((with_reducible show VO _ _ _ _ _ _ _); first | refine O_step rfl ?_ | refine O_stepL rfl ?_ | refine O_nil' ?_ | refine O_gT' rfl ?_ | refine O_gU' rfl ?_ | refine O_gF' rfl rfl ?_ | refine O_gEq rfl ?_ | refine O_gNe rfl ?_ | refine O_gS rfl (fun _ => ?_) (fun _ => ?_)) | ((with_reducible show VD _ _ _ _ _ _ _); first | refine D_step rfl ?_ | refine D_nil' ?_ | refine D_gT' rfl ?_ | refine D_gU' rfl ?_ | refine D_gF' rfl rfl ?_ | refine D_gS rfl (fun _ => ?_) (fun _ => ?_))
    rfl
  · rw [List.concat_eq_append] at *
    have hlx : x.length ≤ (x ++ [c]).length := by simp
    have hge : PV.bool (decide ((1 : Int) ≤ ((x ++ [c]).length : Int))) = PV.bool true := dec_is (by simp; omega)
    have hw : PV.int .i64 (IntKind.i64.wrap (((x ++ [c]).length : Int) - 1)) = PV.int .i64 ((x.length : Nat) : Int) := int_is (by rw [wrap_i64]; simp at *; omega)
    have h2 := sliceFrom (k := .i64) hlx
    have t2 : (x ++ [c]).drop x.length = [c] := by simp
    rw [t2] at h2
    have he : PV.bool (decide (([c] : List UInt8) = [10])) = PV.bool (ends (x ++ [c])) := by
      unfold ends
      congr 1
      simp
    generalize ends (x ++ [c]) = E at *
    refine call_V rfl rfl ?_
    repeat' first | ((with_reducible show V _ _ _ _ _ _); first | refine V_O rfl ?_ | refine V_cT rfl rfl ?_ | refine V_cF rfl rfl ?_ | refine V_cEq rfl rfl ?_ | refine V_cNe rfl rfl ?_ | refine V_cB rfl rfl (fun _ => ?_) (fun _ => ?_) | refine V_fA rfl rfl ?_ | refine V_fAN rfl rfl ?_ | refine V_D rfl ?_) | ((with_reducible show VO _ _ _ _ _ _ _); first | refine O_is hge rfl ?_ | refine O_is hw rfl ?_ | refine O_step h2 ?_ | refine O_is he rfl ?_ | refine O_step rfl ?_ | refine O_stepL rfl ?_ | refine O_nil' ?_ | refine O_gT' rfl ?_ | refine O_gU' rfl ?_ | refine O_gF' rfl rfl ?_ | refine O_gEq rfl ?_ | refine O_gNe rfl ?_ | refine O_gS rfl (fun _ => ?_) (fun _ => ?_)) | ((with_reducible show VD _ _ _ _ _ _ _); first | refine D_step rfl ?_ | refine D_nil' ?_ | refine D_gT' rfl ?_ | refine D_gU' rfl ?_ | refine D_gF' rfl rfl ?_ | refine D_gS rfl (fun _ => ?_) (fun _ => ?_))
    rfl
theorem run_HasSuffix {s : List UInt8} (hs : s.length ≤ 9223372036854775800) : T.R (.call n_strings_HasSuffix [.str s, .str [10]] (.bool (ends s))) := by
  have hx := run_SHasSuffix hs
  refine call_V rfl rfl ?_
  repeat' first | ((with_reducible show V _ _ _ _ _ _); first | refine V_O rfl ?_ | refine V_cT rfl rfl ?_ | refine V_cF rfl rfl ?_ | refine V_cEq rfl rfl ?_ | refine V_cNe rfl rfl ?_ | refine V_cB rfl rfl (fun _ => ?_) (fun _ => ?_) | refine V_fA rfl rfl ?_ | refine V_fAN rfl rfl ?_ | refine V_D rfl ?_) | ((with_reducible show VO _ _ _ _ _ _ _); first | refine O_cA rfl rfl hx ?_ | refine O_step rfl ?_ | refine O_nil' ?_ | refine O_gT' rfl ?_ | refine O_gU' rfl ?_ | refine O_gF' rfl rfl ?_ | refine O_gEq rfl ?_ | refine O_gNe rfl ?_ | refine O_gS rfl (fun _ => ?_) (fun _ => ?_)) | ((with_reducible show VD _ _ _ _ _ _ _); first | refine D_step rfl ?_ | refine D_nil' ?_ | refine D_gT' rfl ?_ | refine D_gU' rfl ?_ | refine D_gF' rfl rfl ?_ | refine D_gS rfl (fun _ => ?_) (fun _ => ?_))
  rfl
theorem splitB_mem (c : UInt8) : ∀ (s : List UInt8), ∀ x ∈ splitB c s, x.length ≤ s.length
  | [], x, h => by
    simp [splitB] at h
    simp [h]
  | b :: l, x, h => by
    have ih := splitB_mem c l
    rw [splitB] at h
    split at h
    · rcases List.mem_cons.1 h with rfl | h
      · simp
      · have := ih x h
        simp
        omega
    · cases hl : splitB c l with
      | nil =>
        rw [hl] at h
        simp at h
        simp [h]
      | cons p ps =>
        rw [hl] at h ih
        rcases List.mem_cons.1 h with rfl | h
        · have := ih p (List.mem_cons_self ..)
          simp
          omega
        · have := ih x (List.mem_cons_of_mem _ h)
          simp
          omega
end Go.Proofs.YtbeaalkfakjoiaaDoor
set_option linter.unusedVariables false
set_option linter.unusedSimpArgs false
namespace Go.Proofs.YtbeaalkfakjoiaaDoor
open Go Go.AM Go.RowKit
def headT (h : Int × Int × Int) (ok : Bool) : PV := .tuple [.agg [.int .i64 h.1, .int .i64 h.2.1, .int .i64 h.2.2, .nilSl], .bool ok]
def z4 : List PV := [.int .i64 0, .int .i64 0, .int .i64 0, .nilSl]
def n3 (a b c : Int) : List PV := [.int .i64 a, .int .i64 b, .int .i64 c]
set_option maxHeartbeats 2000000 in
theorem ph_loop {s w0 w1 w2 w3 : List UInt8} {q1 q2 q3 : Int × Int} (p1 : T.R (.call n_num_Parse [.str w1] (.tuple [.int .i64 q1.1, .int .i64 q1.2]))) (p2 : T.R (.call n_num_Parse [.str w2] (.tuple [.int .i64 q2.1, .int .i64 q2.2]))) (p3 : T.R (.call n_num_Parse [.str w3] (.tuple [.int .i64 q3.1, .int .i64 q3.2]))) :
    V T (PE fun x e st => x = .exit 0 ∧ e = ecOf [(0, .str s), (2, .ptr 0 0), (5, .ptr 1 0)] ∧ st = A1 z4 (n3 q1.1 q2.1 q3.1)) [.code (.loop lp_script_parseHead_0)] .normal (ecOf [(0, .str s), (2, .ptr 0 0), (4, .sl ([w0, w1, w2, w3].map sc) false), (5, .ptr 1 0), (14, .int .i64 0)]) (A1 z4 (n3 0 0 0)) := by
  have h3 : V T (PE fun x e st => x = .exit 0 ∧ e = ecOf [(0, .str s), (2, .ptr 0 0), (5, .ptr 1 0)] ∧ st = A1 z4 (n3 q1.1 q2.1 q3.1)) [.code (.loop lp_script_parseHead_0)] .normal (ecOf [(0, .str s), (2, .ptr 0 0), (4, .sl ([w0, w1, w2, w3].map sc) false), (5, .ptr 1 0), (14, .int .i64 3)]) (A1 z4 (n3 q1.1 q2.1 q3.1)) := by
    refine V_unroll ?_
    repeat' first | ((with_reducible show V _ _ _ _ _ _); first | refine V_out [(0, .str s), (2, .ptr 0 0), (5, .ptr 1 0)] rfl ⟨rfl, rfl, rfl, trivial⟩ ⟨rfl, rfl, rfl⟩ | refine V_O rfl ?_ | refine V_cT rfl rfl ?_ | refine V_cF rfl rfl ?_ | refine V_cEq rfl rfl ?_ | refine V_cNe rfl rfl ?_ | refine V_cB rfl rfl (fun _ => ?_) (fun _ => ?_) | refine V_fA rfl rfl ?_ | refine V_fAN rfl rfl ?_ | refine V_D rfl ?_) | ((with_reducible show VO _ _ _ _ _ _ _); first | refine O_step rfl ?_ | refine O_stepL rfl ?_ | refine O_nil' ?_ | refine O_gT' rfl ?_ | refine O_gU' rfl ?_ | refine O_gF' rfl rfl ?_ | refine O_gEq rfl ?_ | refine O_gNe rfl ?_ | refine O_gS rfl (fun _ => ?_) (fun _ => ?_)) | ((with_reducible show VD _ _ _ _ _ _ _); first | refine D_step rfl ?_ | refine D_nil' ?_ | refine D_gT' rfl ?_ | refine D_gU' rfl ?_ | refine D_gF' rfl rfl ?_ | refine D_gS rfl (fun _ => ?_) (fun _ => ?_))
  have h2 : V T (PE fun x e st => x = .exit 0 ∧ e = ecOf [(0, .str s), (2, .ptr 0 0), (5, .ptr 1 0)] ∧ st = A1 z4 (n3 q1.1 q2.1 q3.1)) [.code (.loop lp_script_parseHead_0)] .normal (ecOf [(0, .str s), (2, .ptr 0 0), (4, .sl ([w0, w1, w2, w3].map sc) false), (5, .ptr 1 0), (14, .int .i64 2)]) (A1 z4 (n3 q1.1 q2.1 0)) := by
    refine V_unroll ?_
    repeat' first | ((with_reducible show V _ _ _ _ _ _); first | refine V_re rfl h3 ⟨rfl, rfl, rfl, rfl, rfl, trivial⟩ | refine V_O rfl ?_ | refine V_cT rfl rfl ?_ | refine V_cF rfl rfl ?_ | refine V_cEq rfl rfl ?_ | refine V_cNe rfl rfl ?_ | refine V_cB rfl rfl (fun _ => ?_) (fun _ => ?_) | refine V_fA rfl rfl ?_ | refine V_fAN rfl rfl ?_ | refine V_D rfl ?_) | ((with_reducible show VO _ _ _ _ _ _ _); first | refine O_cA rfl rfl p3 ?_ | refine O_step rfl ?_ | refine O_stepL rfl ?_ | refine O_nil' ?_ | refine O_gT' rfl ?_ | refine O_gU' rfl ?_ | refine O_gF' rfl rfl ?_ | refine O_gEq rfl ?_ | refine O_gNe rfl ?_ | refine O_gS rfl (fun _ => ?_) (fun _ => ?_)) | ((with_reducible show VD _ _ _ _ _ _ _); first | refine D_step rfl ?_ | refine D_nil' ?_ | refine D_gT' rfl ?_ | refine D_gU' rfl ?_ | refine D_gF' rfl rfl ?_ | refine D_gS rfl (fun _ => ?_) (fun _ => ?_))
  have h1 : V T (PE fun x e st => x = .exit 0 ∧ e = ecOf [(0, .str s), (2, .ptr 0 0), (5, .ptr 1 0)] ∧ st = A1 z4 (n3 q1.1 q2.1 q3.1)) [.code (.loop lp_script_parseHead_0)] .normal (ecOf [(0, .str s), (2, .ptr 0 0), (4, .sl ([w0, w1, w2, w3].map sc) false), (5, .ptr 1 0), (14, .int .i64 1)]) (A1 z4 (n3 q1.1 0 0)) := by
    refine V_unroll ?_
    repeat' first | ((with_reducible show V _ _ _ _ _ _); first | refine V_re rfl h2 ⟨rfl, rfl, rfl, rfl, rfl, trivial⟩ | refine V_O rfl ?_ | refine V_cT rfl rfl ?_ | refine V_cF rfl rfl ?_ | refine V_cEq rfl rfl ?_ | refine V_cNe rfl rfl ?_ | refine V_cB rfl rfl (fun _ => ?_) (fun _ => ?_) | refine V_fA rfl rfl ?_ | refine V_fAN rfl rfl ?_ | refine V_D rfl ?_) | ((with_reducible show VO _ _ _ _ _ _ _); first | refine O_cA rfl rfl p2 ?_ | refine O_step rfl ?_ | refine O_stepL rfl ?_ | refine O_nil' ?_ | refine O_gT' rfl ?_ | refine O_gU' rfl ?_ | refine O_gF' rfl rfl ?_ | refine O_gEq rfl ?_ | refine O_gNe rfl ?_ | refine O_gS rfl (fun _ => ?_) (fun _ => ?_)) | ((with_reducible show VD _ _ _ _ _ _ _); first | refine D_step rfl ?_ | refine D_nil' ?_ | refine D_gT' rfl ?_ | refine D_gU' rfl ?_ | refine D_gF' rfl rfl ?_ | refine D_gS rfl (fun _ => ?_) (fun _ => ?_))
  refine V_unroll ?_
  repeat' first | ((with_reducible show V _ _ _ _ _ _); first | refine V_re rfl h1 ⟨rfl, rfl, rfl, rfl, rfl, trivial⟩ | refine V_O rfl ?_ | refine V_cT rfl rfl ?_ | refine V_cF rfl rfl ?_ | refine V_cEq rfl rfl ?_ | refine V_cNe rfl rfl ?_ | refine V_cB rfl rfl (fun _ => ?_) (fun _ => ?_) | refine V_fA rfl rfl ?_ | refine V_fAN rfl rfl ?_ | refine V_D rfl ?_) | ((with_reducible show VO _ _ _ _ _ _ _); first | refine O_cA rfl rfl p1 ?_ | refine O_step rfl ?_ | refine O_stepL rfl ?_ | refine O_nil' ?_ | refine O_gT' rfl ?_ | refine O_gU' rfl ?_ | refine O_gF' rfl rfl ?_ | refine O_gEq rfl ?_ | refine O_gNe rfl ?_ | refine O_gS rfl (fun _ => ?_) (fun _ => ?_)) | ((with_reducible show VD _ _ _ _ _ _ _); first | refine D_step rfl ?_ | refine D_nil' ?_ | refine D_gT' rfl ?_ | refine D_gU' rfl ?_ | refine D_gF' rfl rfl ?_ | refine D_gS rfl (fun _ => ?_) (fun _ => ?_))
set_option maxHeartbeats 4000000 in
theorem run_parseHead {s : List UInt8} (hs : s.length ≤ 1000000000) : ∃ h, HR h ∧ T.R (.call n_script_parseHead [.str s] (headT h (hdO s).isSome)) ∧ ∀ h', hdO s = some h' → h' = h := by
  have hsp := run_Split s 32 hs
  have hmem := splitB_mem 32 s
  have hhd : ∀ h', hdO s = some h' → splitB 32 s = [wRam, Lib.itoa h'.1, Lib.itoa h'.2.1, Lib.itoa h'.2.2] := fun h' e => by rw [← (hdO_spec e).2]; exact head_split h'
  by_cases g4 : (splitB 32 s).length = 4
  · obtain ⟨w0, w1, w2, w3, hw⟩ : ∃ w0 w1 w2 w3, splitB 32 s = [w0, w1, w2, w3] := by
      match hl : splitB 32 s, g4 with
      | [w0, w1, w2, w3], _ => exact ⟨w0, w1, w2, w3, rfl⟩
    rw [hw] at hsp hmem
    have p1 := run_Parse (s := w1) (by have := hmem w1 (by simp); omega)
    have p2 := run_Parse (s := w2) (by have := hmem w2 (by simp); omega)
    have p3 := run_Parse (s := w3) (by have := hmem w3 (by simp); omega)
    have r1 := parT_r w1
    have r2 := parT_r w2
    have r3 := parT_r w3
    have hR : HR ((parT w1).1, (parT w2).1, (parT w3).1) := ⟨r1, r2, r3⟩
    have hdef : hdO s = if headL ((parT w1).1, (parT w2).1, (parT w3).1) = s then some ((parT w1).1, (parT w2).1, (parT w3).1) else none := by
      split
      · rename_i e
        rw [← e]
        exact hdO_some hR
      · rename_i e
        cases hx : hdO s with
        | none => rfl
        | some h' =>
          have h1 := hhd h' hx
          rw [hw] at h1
          simp only [List.cons.injEq, and_true] at h1
          obtain ⟨-, rfl, rfl, rfl⟩ := h1
          obtain ⟨k1, k2⟩ := hdO_spec hx
          rw [itoa_good k1.1, itoa_good k1.2.1, itoa_good k1.2.2] at e
          exact absurd k2 e
    have hok : (hdO s).isSome = decide (headL ((parT w1).1, (parT w2).1, (parT w3).1) = s) := by
      rw [hdef]
      split
      · rename_i e; rw [decide_eq_true e]; rfl
      · rename_i e; rw [decide_eq_false e]; rfl
    refine ⟨((parT w1).1, (parT w2).1, (parT w3).1), hR, ?_, fun h' e => by
      rw [hdef] at e
      split at e
      · injection e with e; exact e.symm
      · cases e⟩
    rw [hok]
    have hh := run_head hR (q := .nilSl) .nilSl
    unfold two at p1 p2 p3
    unfold headT
    simp only at *
    generalize headL ((parT w1).1, (parT w2).1, (parT w3).1) = L at *
    generalize parT w1 = q1 at *
    generalize parT w2 = q2 at *
    generalize parT w3 = q3 at *
    have plg : Pl (.agg [.int .i64 q1.1, .int .i64 q2.1, .int .i64 q3.1, .nilSl]) := .agg _ (pl_cons (.int _ _) (pl_cons (.int _ _) (pl_cons (.int _ _) (pl_cons .nilSl pl_nil))))
    have hl := ph_loop (s := s) (w0 := w0) p1 p2 p3
    refine call_V rfl rfl ?_
    repeat' first | ((with_reducible show V _ _ _ _ _ _); first | refine V_cutTo rfl hl ⟨rfl, rfl, rfl, rfl, rfl, trivial⟩ ?_ | refine V_O rfl ?_ | refine V_cT rfl rfl ?_ | refine V_cF rfl rfl ?_ | refine V_cEq rfl rfl ?_ | refine V_cNe rfl rfl ?_ | refine V_cB rfl rfl (fun _ => ?_) (fun _ => ?_) | refine V_fA rfl rfl ?_ | refine V_fAN rfl rfl ?_ | refine V_D rfl ?_) | ((with_reducible show VO _ _ _ _ _ _ _); first | refine O_cA rfl rfl hsp ?_ | refine O_step rfl ?_ | refine O_stepL rfl ?_ | refine O_nil' ?_ | refine O_gT' rfl ?_ | refine O_gU' rfl ?_ | refine O_gF' rfl rfl ?_ | refine O_gEq rfl ?_ | refine O_gNe rfl ?_ | refine O_gS rfl (fun _ => ?_) (fun _ => ?_)) | ((with_reducible show VD _ _ _ _ _ _ _); first | refine D_step rfl ?_ | refine D_nil' ?_ | refine D_gT' rfl ?_ | refine D_gU' rfl ?_ | refine D_gF' rfl rfl ?_ | refine D_gS rfl (fun _ => ?_) (fun _ => ?_))
    rintro x e' st' ⟨rfl, rfl, rfl⟩
    repeat' first | ((with_reducible show V _ _ _ _ _ _); first | refine V_M 5 (kst [.int .i64 q1.1, .int .i64 q2.1, .int .i64 q3.1, .nilSl] (n3 q1.1 q2.1 q3.1) [.int .i64 q1.1, .int .i64 q2.1, .int .i64 q3.1, .nilSl]) rfl ?_ | refine V_O rfl ?_ | refine V_cT rfl rfl ?_ | refine V_cF rfl rfl ?_ | refine V_cEq rfl rfl ?_ | refine V_cNe rfl rfl ?_ | refine V_cB rfl rfl (fun _ => ?_) (fun _ => ?_) | refine V_fA rfl rfl ?_ | refine V_fAN rfl rfl ?_ | refine V_D rfl ?_) | ((with_reducible show VO _ _ _ _ _ _ _); first | refine O_step rfl ?_ | refine O_stepL rfl ?_ | refine O_nil' ?_ | refine O_gT' rfl ?_ | refine O_gU' rfl ?_ | refine O_gF' rfl rfl ?_ | refine O_gEq rfl ?_ | refine O_gNe rfl ?_ | refine O_gS rfl (fun _ => ?_) (fun _ => ?_)) | ((with_reducible show VD _ _ _ _ _ _ _); first | refine D_step rfl ?_ | refine D_nil' ?_ | refine D_gT' rfl ?_ | refine D_gU' rfl ?_ | refine D_gF' rfl rfl ?_ | refine D_gS rfl (fun _ => ?_) (fun _ => ?_)) | ((with_reducible show VM _ _ _ _ _ _ _ _ _ _ _); first | refine M_call rfl (.inl rfl) rfl rfl (viewL_pl (by (repeat' (first | exact Pl.int _ _ | exact Pl.bool _ | exact Pl.str _ | exact Pl.nilSl | exact pl_nil | refine pl_cons ?_ ?_ | refine Pl.tuple _ ?_ | refine Pl.agg _ ?_ | refine Pl.func _ _ ?_ | assumption | refine Pl.iptr _ _ ?_ | exact pll_nil | refine pll_cons ?_ ?_ | refine Pl.sl _ _ ?_)); first | done | fail)) (viewL_pl (by (repeat' (first | exact Pl.int _ _ | exact Pl.bool _ | exact Pl.str _ | exact Pl.nilSl | exact pl_nil | refine pl_cons ?_ ?_ | refine Pl.tuple _ ?_ | refine Pl.agg _ ?_ | refine Pl.func _ _ ?_ | assumption | refine Pl.iptr _ _ ?_ | exact pll_nil | refine pll_cons ?_ ?_ | refine Pl.sl _ _ ?_)); first | done | fail)) hh ?_ | refine M_loud rfl rfl ?_ | refine M_step rfl (.inl rfl) rfl rfl ?_ | refine M_step rfl (.inr rfl) rfl rfl ?_ | refine M_nil ?_)
    rfl
  · have hno : hdO s = none := by
      cases hx : hdO s with
      | none => rfl
      | some h' => exact absurd (by rw [hhd h' hx]; rfl) g4
    refine ⟨(0, 0, 0), ⟨(by decide : R64 0), (by decide : R64 0), (by decide : R64 0)⟩, ?_, fun h' e => by rw [hno] at e; cases e⟩
    rw [hno]
    unfold headT
    have g4' : ¬ ((((splitB 32 s).map sc).length : Nat) : Int) = 4 := by simp; omega
    have pls := pl_sc (splitB 32 s)
    generalize (splitB 32 s).map sc = M at *
    refine call_V rfl rfl ?_
    repeat' first | ((with_reducible show V _ _ _ _ _ _); first | refine V_O rfl ?_ | refine V_cT rfl rfl ?_ | refine V_cF rfl rfl ?_ | refine V_cEq rfl rfl ?_ | refine V_cNe rfl rfl ?_ | refine V_cB rfl rfl (fun _ => ?_) (fun _ => ?_) | refine V_fA rfl rfl ?_ | refine V_fAN rfl rfl ?_ | refine V_D rfl ?_) | ((with_reducible show VO _ _ _ _ _ _ _); first | refine O_cA rfl rfl hsp ?_ | refine O_is (ndec_not g4') rfl ?_ | refine O_step rfl ?_ | refine O_stepL rfl ?_ | refine O_nil' ?_ | refine O_gT' rfl ?_ | refine O_gU' rfl ?_ | refine O_gF' rfl rfl ?_ | refine O_gEq rfl ?_ | refine O_gNe rfl ?_ | refine O_gS rfl (fun _ => ?_) (fun _ => ?_)) | ((with_reducible show VD _ _ _ _ _ _ _); first | refine D_step rfl ?_ | refine D_nil' ?_ | refine D_gT' rfl ?_ | refine D_gU' rfl ?_ | refine D_gF' rfl rfl ?_ | refine D_gS rfl (fun _ => ?_) (fun _ => ?_))
    rfl
end Go.Proofs.YtbeaalkfakjoiaaDoor
