/- strings.Index, Contains, Cut, Count, Split: at a separator of one byte. · strings.Cut at one byte. · script.word, text, Keep; rambleref25.word, asks, lineEnd, cut, number, Keep; slices.Equal of truths. -/
import Derived.Test.YtbeaalkfakjoiaaDoorT
import Derived.Test.YtbeaalkfakjoiaaDoorAmZ
import Derived.Test.YtbeaalkfakjoiaaDoorTextBToTextR
set_option linter.unusedVariables false
set_option linter.unusedSimpArgs false
namespace Go.Proofs.YtbeaalkfakjoiaaDoor
open Go Go.AM Go.RowKit
def cutB (c : UInt8) : List UInt8 → Option (List UInt8 × List UInt8)
  | [] => none
  | b :: l => if b = c then some ([], l) else (cutB c l).map fun p => (b :: p.1, p.2)
def idxI (c : UInt8) (s : List UInt8) : Int := match cutB c s with
  | none => -1
  | some p => p.1.length
theorem cutB_some {c : UInt8} : ∀ {s x y : List UInt8}, cutB c s = some (x, y) → s = x ++ c :: y ∧ c ∉ x
  | [], x, y, h => by cases h
  | b :: l, x, y, h => by
    rw [cutB] at h
    split at h
    · rename_i hb
      injection h with h
      injection h with h1 h2
      subst h1 h2 hb
      exact ⟨rfl, by simp⟩
    · rename_i hb
      cases hc : cutB c l with
      | none => rw [hc] at h; cases h
      | some p =>
        obtain ⟨a, d⟩ := p
        rw [hc] at h
        injection h with h
        injection h with h1 h2
        subst h1 h2
        obtain ⟨i1, i2⟩ := cutB_some hc
        exact ⟨by rw [i1]; rfl, by simp [i2, Ne.symm hb]⟩
theorem cutB_none {c : UInt8} : ∀ {s : List UInt8}, cutB c s = none → c ∉ s
  | [], h => by simp
  | b :: l, h => by
    rw [cutB] at h
    split at h
    · cases h
    · rename_i hb
      cases hc : cutB c l with
      | none => simp [cutB_none hc, Ne.symm hb]
      | some p => rw [hc] at h; cases h
theorem idxI_lib (c : UInt8) : ∀ s : List UInt8, Lib.indexByte s c = idxI c s
  | [] => rfl
  | b :: l => by
    have ih := idxI_lib c l
    rw [Lib.indexByte]
    unfold idxI at ih ⊢
    rw [cutB]
    by_cases hb : b = c
    · subst hb; simp
    · rw [if_neg hb, if_neg (by simpa using hb), ih]
      cases hc : cutB c l with
      | none => rfl
      | some p =>
        simp only [Option.map_some, List.length_cons]
        rw [if_neg (by simp)]
        rfl
theorem u8_back (c : UInt8) : ((c.toNat : Int)).toNat.toUInt8 = c := by simp [Nat.toUInt8]
theorem run_IdxByteS (s : List UInt8) (c : UInt8) : T.R (.call n_stringslite_IndexByte [.str s, .int .u8 c.toNat] (.int .i64 (idxI c s))) := by
  have hx : T.ext n_bytealg_IndexByteString [.str s, .int .u8 c.toNat] (.int .i64 (idxI c s)) := X_idx ⟨rfl, s, c.toNat, rfl, by rw [u8_back, idxI_lib]⟩
  generalize idxI c s = r at hx ⊢
  refine call_V rfl rfl ?_
  repeat' first | refine V_O rfl ?_ | refine V_fA rfl rfl ?_ | ((with_reducible show VO _ _ _ _ _ _ _); first | refine O_extP rfl rfl (viewL_pl (by (repeat' (first | exact Pl.int _ _ | exact Pl.bool _ | exact Pl.str _ | exact Pl.nilSl | exact pl_nil | refine pl_cons ?_ ?_ | refine Pl.tuple _ ?_ | refine Pl.agg _ ?_ | refine Pl.func _ _ ?_ | assumption | refine Pl.iptr _ _ ?_ | exact pll_nil | refine pll_cons ?_ ?_ | refine Pl.sl _ _ ?_)); first | done | fail)) rfl hx ?_ | refine O_step rfl ?_ | refine O_nil' ?_)
  rfl
theorem run_SIndex1 (s : List UInt8) (c : UInt8) : T.R (.call n_stringslite_Index [.str s, .str [c]] (.int .i64 (idxI c s))) := by
  have hx := run_IdxByteS s c
  have hch : ([c] : List UInt8)[(0 : Int).toNat]? = some c := rfl
  have h0 : [c] = s → idxI c s = 0 := fun h => by subst h; simp [idxI, cutB]
  generalize idxI c s = r at hx h0 ⊢
  refine call_V rfl rfl ?_
  repeat' first | ((with_reducible show V _ _ _ _ _ _); first | refine V_O rfl ?_ | refine V_cT rfl rfl ?_ | refine V_cB rfl rfl (fun _ => ?_) (fun _ => ?_) | refine V_fA rfl rfl ?_) | ((with_reducible show VO _ _ _ _ _ _ _); first | refine O_chr c rfl rfl (by decide) hch ?_ | refine O_cA rfl rfl hx ?_ | refine O_step rfl ?_ | refine O_nil' ?_ | refine O_gT' rfl ?_)
  all_goals first | rfl | (rename_i h; rw [h0 (of_decide_eq_true h)])
theorem run_Index1S (s : List UInt8) (c : UInt8) : T.R (.call n_strings_Index [.str s, .str [c]] (.int .i64 (idxI c s))) := by
  have hx := run_SIndex1 s c
  generalize idxI c s = r at hx ⊢
  refine call_V rfl rfl ?_
  repeat' first | refine V_O rfl ?_ | refine V_fA rfl rfl ?_ | ((with_reducible show VO _ _ _ _ _ _ _); first | refine O_cA rfl rfl hx ?_ | refine O_step rfl ?_ | refine O_nil' ?_)
  rfl
theorem sliceTo {s : List UInt8} {k : IntKind} {n : Nat} (h : n ≤ s.length) : sliceStr? none (some (.int k (n : Int))) (.str s) = some (.str (s.take n)) := by
  have h1 : ((0 : Int) ≤ n ∧ (n : Int) ≤ s.length) := by omega
  simp [sliceStr?, bound?, h]
theorem sliceFrom {s : List UInt8} {k : IntKind} {n : Nat} (h : n ≤ s.length) : sliceStr? (some (.int k (n : Int))) none (.str s) = some (.str (s.drop n)) := by
  simp [sliceStr?, bound?, h]
  exact List.take_of_length_le (by simp)
theorem run_Count1 (s : List UInt8) (c : UInt8) : T.R (.call n_strings_Count [.str s, .str [c]] (.int .i64 (s.count c))) := by
  have hx : T.ext n_bytealg_CountString [.str s, .int .u8 c.toNat] (.int .i64 (s.count c : Nat)) := X_cnt ⟨rfl, s, c.toNat, rfl, by rw [u8_back]⟩
  have hch : ([c] : List UInt8)[(0 : Int).toNat]? = some c := rfl
  generalize (s.count c : Nat) = r at hx ⊢
  refine call_V rfl rfl ?_
  repeat' first | ((with_reducible show V _ _ _ _ _ _); first | refine V_O rfl ?_ | refine V_cT rfl rfl ?_ | refine V_cF rfl rfl ?_ | refine V_fA rfl rfl ?_) | ((with_reducible show VO _ _ _ _ _ _ _); first | refine O_chr c rfl rfl (by decide) hch ?_ | refine O_extP rfl rfl (viewL_pl (by (repeat' (first | exact Pl.int _ _ | exact Pl.bool _ | exact Pl.str _ | exact Pl.nilSl | exact pl_nil | refine pl_cons ?_ ?_ | refine Pl.tuple _ ?_ | refine Pl.agg _ ?_ | refine Pl.func _ _ ?_ | assumption | refine Pl.iptr _ _ ?_ | exact pll_nil | refine pll_cons ?_ ?_ | refine Pl.sl _ _ ?_)); first | done | fail)) rfl hx ?_ | refine O_step rfl ?_ | refine O_nil' ?_)
  rfl
def splitB (c : UInt8) : List UInt8 → List (List UInt8)
  | [] => [[]]
  | b :: l => if b = c then [] :: splitB c l else match splitB c l with
    | [] => [[b]]
    | p :: ps => (b :: p) :: ps
theorem splitB_none {c : UInt8} : ∀ {s : List UInt8}, c ∉ s → splitB c s = [s]
  | [], _ => rfl
  | b :: l, h => by
    simp only [List.mem_cons, not_or] at h
    rw [splitB, if_neg (Ne.symm h.1), splitB_none h.2]
theorem splitB_cut {c : UInt8} : ∀ {x y : List UInt8}, c ∉ x → splitB c (x ++ c :: y) = x :: splitB c y
  | [], y, _ => by rw [List.nil_append, splitB, if_pos rfl]
  | b :: x, y, h => by
    simp only [List.mem_cons, not_or] at h
    rw [List.cons_append, splitB, if_neg (Ne.symm h.1), splitB_cut h.2]
theorem splitB_len (c : UInt8) : ∀ s : List UInt8, (splitB c s).length = s.count c + 1
  | [] => rfl
  | b :: l => by
    have ih := splitB_len c l
    rw [splitB, List.count_cons]
    by_cases hb : b = c
    · rw [if_pos hb]; simp [ih, hb]
    · rw [if_neg hb]
      cases hl : splitB c l with
      | nil => rw [hl] at ih; simp at ih
      | cons p ps => rw [hl] at ih; simp at ih; simp [hb]; omega
def sc (s : List UInt8) : List PV := [.str s]
def rowS (es : List (List UInt8)) : St := ⟨0, 1, [(0, .row 0 1 (es.map sc) true)]⟩
theorem pl_sc (l : List (List UInt8)) : ∀ cs ∈ l.map sc, ∀ c ∈ cs, Pl c := fun cs h => by
  obtain ⟨n, _, rfl⟩ := List.mem_map.1 h
  exact pl_cons (.str _) pl_nil
theorem set_done (done : List (List UInt8)) (x : List UInt8) (k : Nat) : ((done ++ List.replicate (k + 1) []).map sc).set done.length [.str x] = ((done ++ [x] ++ List.replicate k []).map sc) := by
  rw [List.map_append, List.set_append_right _ _ (by simp), List.length_map, Nat.sub_self, List.replicate_succ]
  simp [sc]
theorem get_done (done : List (List UInt8)) (k : Nat) : ((done ++ List.replicate (k + 1) []).map sc)[done.length]? = some [.str []] := by
  rw [List.map_append, List.getElem?_append_right (by simp), List.length_map, Nat.sub_self, List.replicate_succ]
  rfl
theorem split_loop (c : UInt8) (N : Nat) (hN : N ≤ 9223372036854775800) : ∀ (k : Nat) (s : List UInt8) (done : List (List UInt8)), s.count c = k → s.length ≤ 9223372036854775800 → done.length + k = N →
    V T (PE fun x e st' => x = .exit 0 ∧ ∃ (d : List (List UInt8)) (r : List UInt8), d ++ [r] = done ++ splitB c s ∧ d.length = N ∧ e = ecOf [(0, .str r), (9, .osl 0 0 0 (N + 1) false), (10, .int .i64 N)] ∧ st' = rowS (d ++ [[]])) [.code (.loop lp_strings_genSplit_0)] .normal (ecOf [(0, .str s), (1, .str [c]), (2, .int .i64 0), (3, .int .i64 N), (9, .osl 0 0 0 (N + 1) false), (10, .int .i64 done.length)]) (rowS (done ++ List.replicate (k + 1) [])) := by
  intro k
  induction k with
  | zero =>
    intro s done hk hs hd
    have hdn : done.length = N := by omega
    have hlt : decide ((done.length : Int) < (N : Int)) = false := decide_eq_false (by omega)
    have hns : c ∉ s := by rw [← List.count_eq_zero]; exact hk
    refine V_unroll ?_
    repeat' first | ((with_reducible show V _ _ _ _ _ _); first | refine V_cH hlt rfl rfl ?_ | refine V_out [(0, .str s), (9, .osl 0 0 0 (N + 1) false), (10, .int .i64 N)] rfl ⟨rfl, rfl, some_int (by omega), trivial⟩ ⟨rfl, done, s, by rw [splitB_none hns], hdn, rfl, rfl⟩ | refine V_O rfl ?_) | refine O_step rfl ?_ | refine O_nil' ?_
  | succ k ih =>
    intro s done hk hs hd
    have hlt : decide ((done.length : Int) < (N : Int)) = true := decide_eq_true (by omega)
    cases hc : cutB c s with
    | none =>
      have := List.count_eq_zero.2 (cutB_none hc)
      omega
    | some p =>
      obtain ⟨x, y⟩ := p
      obtain ⟨hsx, hnx⟩ := cutB_some hc
      have hx := run_Index1S s c
      unfold idxI at hx
      rw [hc] at hx
      have hx' : T.R (.call n_strings_Index [.str s, .str [c]] (.int .i64 (x.length : Int))) := hx
      have hl0 : ¬ (x.length : Int) < 0 := by omega
      have hl1 : x.length ≤ s.length := by rw [hsx]; simp
      have h1 := sliceTo (k := .i64) hl1
      have h2 := sliceFrom (s := s) (k := .i64) (n := x.length + 1) (by rw [hsx]; simp)
      have t1 : s.take x.length = x := by rw [hsx]; simp
      have t2 : s.drop (x.length + 1) = y := by rw [hsx]; simp
      rw [t1] at h1
      rw [t2] at h2
      have hw0 : PV.int .i64 (IntKind.i64.wrap ((x.length : Int) + 0)) = PV.int .i64 (x.length : Int) := int_is (by rw [wrap_i64]; omega)
      have hw1 : PV.int .i64 (IntKind.i64.wrap ((x.length : Int) + 1)) = PV.int .i64 ((x.length + 1 : Nat) : Int) := int_is (by rw [wrap_i64]; omega)
      have hw : IntKind.i64.wrap ((done.length : Int) + 1) = ((done ++ [x]).length : Int) := by rw [wrap_i64]; simp; omega
      have hcy : y.count c = k := by rw [hsx] at hk; simp [List.count_append, List.count_eq_zero.2 hnx] at hk; omega
      have hi := ih y (done ++ [x]) hcy (by rw [hsx] at hs; simp at hs; omega) (by simp; omega)
      have hres : done ++ [x] ++ splitB c y = done ++ splitB c s := by rw [hsx, splitB_cut hnx]; simp
      rw [hres] at hi
      have hgd : ((done ++ List.replicate (k + 1 + 1) []).map sc)[0 + ((done.length : Int)).toNat]? = some [.str []] := by
        have := get_done done (k + 1)
        simpa using this
      have hst : (rowS (done ++ List.replicate (k + 1 + 1) [])).put 0 (.row 0 1 (((done ++ List.replicate (k + 1 + 1) []).map sc).set (0 + ((done.length : Int)).toNat) [.str x]) true) = rowS (done ++ [x] ++ List.replicate (k + 1) []) := by
        have := set_done done x (k + 1)
        simp only [Nat.zero_add, Int.toNat_natCast]
        rw [this]
        rfl
      refine V_unroll ?_
      repeat' first | ((with_reducible show V _ _ _ _ _ _); first | refine V_cHT hlt rfl rfl ?_ | refine V_cH (decide_eq_false hl0) rfl rfl ?_ | refine V_st hst (V_re rfl hi ⟨rfl, rfl, rfl, rfl, rfl, some_int hw, trivial⟩) | refine V_O rfl ?_) | ((with_reducible show VO _ _ _ _ _ _ _); first | refine O_cA rfl rfl hx' ?_ | refine O_is hw0 rfl ?_ | refine O_is hw1 rfl ?_ | refine O_step h1 ?_ | refine O_step h2 ?_ | refine O_idxOwn rfl rfl rfl (by omega) ?_ | refine O_storeR rfl rfl rfl rfl rfl hgd ?_ | refine O_step rfl ?_ | refine O_nil' ?_)
theorem run_genSplit (s : List UInt8) (c : UInt8) (hs : s.length ≤ 1000000000) : T.R (.call n_strings_genSplit [.str s, .str [c], .int .i64 0, .int .i64 (-1)] (.sl ((splitB c s).map sc) false)) := by
  have hcnt := run_Count1 s c
  have hcl : s.count c ≤ s.length := List.count_le_length
  have hl := split_loop c (s.count c) (by omega) (s.count c) s [] rfl (by omega) (by simp)
  rw [List.nil_append, List.nil_append] at hl
  generalize hn : s.count c = n at *
  have hw1 : PV.int .i64 (IntKind.i64.wrap ((n : Int) + 1)) = PV.int .i64 ((n + 1 : Nat) : Int) := int_is (by rw [wrap_i64]; omega)
  have hw2 : PV.int .i64 (IntKind.i64.wrap ((s.length : Int) + 1)) = PV.int .i64 ((s.length + 1 : Nat) : Int) := int_is (by rw [wrap_i64]; omega)
  have hmin : PV.int .i64 (if false = true then (if ((s.length + 1 : Nat) : Int) > ((n + 1 : Nat) : Int) then ((s.length + 1 : Nat) : Int) else ((n + 1 : Nat) : Int)) else if ((s.length + 1 : Nat) : Int) < ((n + 1 : Nat) : Int) then ((s.length + 1 : Nat) : Int) else ((n + 1 : Nat) : Int)) = PV.int .i64 ((n + 1 : Nat) : Int) := int_is (by rw [if_neg (by simp), if_neg (by omega)])
  have hw3 : PV.int .i64 (IntKind.i64.wrap (((n + 1 : Nat) : Int) - 1)) = PV.int .i64 (n : Int) := int_is (by rw [wrap_i64]; omega)
  have hm0 : (emptySt.new (.row 0 1 (List.replicate (n + 1) [.str []]) true)) = rowS (List.replicate (n + 1) []) := by
    unfold rowS
    rw [List.map_replicate]
    rfl
  refine call_V rfl rfl ?_
  repeat' first | ((with_reducible show V _ _ _ _ _ _); first | refine V_st hm0 (V_cutTo rfl hl ⟨rfl, rfl, rfl, rfl, rfl, rfl, trivial⟩ ?_) | refine V_O rfl ?_ | refine V_cT rfl rfl ?_ | refine V_cF rfl rfl ?_) | ((with_reducible show VO _ _ _ _ _ _ _); first | refine O_cA rfl rfl hcnt ?_ | refine O_is hw1 rfl ?_ | refine O_is hw2 rfl ?_ | refine O_is hmin rfl ?_ | refine O_is hw3 rfl ?_ | refine O_makeN (N := n + 1) rfl rfl rfl rfl (by simp only [roomLen]; omega) ?_ | refine O_step rfl ?_ | refine O_nil' ?_)
  rintro x e' st' ⟨rfl, d, r, hd, hdl, rfl, rfl⟩
  have hgd : ((d ++ [[]]).map sc)[0 + ((n : Int)).toNat]? = some [.str []] := by
    have := get_done d 0
    rw [hdl] at this
    simpa using this
  have hset : ((d ++ [[]]).map sc).set (0 + ((n : Int)).toNat) [.str r] = (d ++ [r]).map sc := by
    have := set_done d r 0
    rw [hdl] at this
    simpa using this
  have hst : (rowS (d ++ [[]])).put 0 (.row 0 1 (((d ++ [[]]).map sc).set (0 + ((n : Int)).toNat) [.str r]) true) = rowS (splitB c s) := by
    rw [hset, hd]
    rfl
  have hlen : (splitB c s).length = n + 1 := by rw [splitB_len, hn]
  have hsl : sliceSl? (rowS (splitB c s)).get 1 none (some (.int .i64 ((n + 1 : Nat) : Int))) none (.osl 0 0 0 (n + 1) false) = some (.osl 0 0 0 (n + 1) false) := by
    have h1 : ((0 : Int) ≤ (n : Int) + 1) := by omega
    simp [sliceSl?, bound?, lenOf, rowS, St.get, getA, h1]
  repeat' first | ((with_reducible show V _ _ _ _ _ _); first | refine V_st hst ?_ | refine V_fin rfl rfl (view_osl0 (es := (splitB c s).map sc) rfl (.inl rfl) (by rw [List.length_map, hlen]) (pl_sc _)) rfl | refine V_O rfl ?_) | ((with_reducible show VO _ _ _ _ _ _ _); first | refine O_is hw1 rfl ?_ | refine O_idxOwn rfl rfl rfl (by omega) ?_ | refine O_storeR rfl rfl rfl rfl rfl hgd ?_ | refine O_step hsl ?_ | refine O_step rfl ?_ | refine O_nil' ?_)
theorem run_Split (s : List UInt8) (c : UInt8) (hs : s.length ≤ 1000000000) : T.R (.call n_strings_Split [.str s, .str [c]] (.sl ((splitB c s).map sc) false)) := by
  have hx := run_genSplit s c hs
  have plv : Pl (.sl ((splitB c s).map sc) false) := .sl _ _ (pl_sc _)
  refine call_V rfl rfl ?_
  repeat' first | refine V_O rfl ?_ | refine V_fA rfl rfl ?_ | ((with_reducible show VO _ _ _ _ _ _ _); first | refine O_cA rfl rfl hx ?_ | refine O_step rfl ?_ | refine O_nil' ?_)
  rfl
end Go.Proofs.YtbeaalkfakjoiaaDoor
set_option linter.unusedVariables false
set_option linter.unusedSimpArgs false
namespace Go.Proofs.YtbeaalkfakjoiaaDoor
open Go Go.AM Go.RowKit
def cutT (c : UInt8) (s : List UInt8) : PV := match cutB c s with
  | none => .tuple [.str s, .str [], .bool false]
  | some p => .tuple [.str p.1, .str p.2, .bool true]
theorem run_SCut (s : List UInt8) (c : UInt8) (hs : s.length ≤ 9223372036854775800) : T.R (.call n_stringslite_Cut [.str s, .str [c]] (cutT c s)) := by
  have hx := run_SIndex1 s c
  unfold cutT
  unfold idxI at hx
  cases hc : cutB c s with
  | none =>
    rw [hc] at hx
    have hx' : T.R (.call n_stringslite_Index [.str s, .str [c]] (.int .i64 (-1))) := hx
    refine call_V rfl rfl ?_
    repeat' first | ((with_reducible show V _ _ _ _ _ _); first | refine V_O rfl ?_ | refine V_cT rfl rfl ?_ | refine V_cF rfl rfl ?_ | refine V_cEq rfl rfl ?_ | refine V_cNe rfl rfl ?_ | refine V_cB rfl rfl (fun _ => ?_) (fun _ => ?_) | refine V_fA rfl rfl ?_ | refine V_fAN rfl rfl ?_ | refine V_D rfl ?_) | ((with_reducible show VO _ _ _ _ _ _ _); first | refine O_cA rfl rfl hx' ?_ | refine O_step rfl ?_ | refine O_nil' ?_ | refine O_gT' rfl ?_ | refine O_gU' rfl ?_ | refine O_gF' rfl rfl ?_ | refine O_gEq rfl ?_ | refine O_gNe rfl ?_ | refine O_gS rfl (fun _ => ?_) (fun _ => ?_)) | ((with_reducible show VD _ _ _ _ _ _ _); first | refine D_step rfl ?_ | refine D_nil' ?_ | refine D_gT' rfl ?_ | refine D_gU' rfl ?_ | refine D_gF' rfl rfl ?_ | refine D_gS rfl (fun _ => ?_) (fun _ => ?_))
    rfl
  | some p =>
    obtain ⟨x, y⟩ := p
    rw [hc] at hx
    have hx' : T.R (.call n_stringslite_Index [.str s, .str [c]] (.int .i64 (x.length : Int))) := hx
    obtain ⟨hsx, _⟩ := cutB_some hc
    have hge : PV.bool (decide ((0 : Int) ≤ (x.length : Int))) = PV.bool true := dec_is (by omega)
    have hl1 : x.length ≤ s.length := by rw [hsx]; simp
    have h1 := sliceTo (k := .i64) hl1
    have h2 := sliceFrom (s := s) (k := .i64) (n := x.length + 1) (by rw [hsx]; simp)
    have t1 : s.take x.length = x := by rw [hsx]; simp
    have t2 : s.drop (x.length + 1) = y := by rw [hsx]; simp
    rw [t1] at h1
    rw [t2] at h2
    have hw : PV.int .i64 (IntKind.i64.wrap ((x.length : Int) + 1)) = PV.int .i64 ((x.length + 1 : Nat) : Int) := int_is (by rw [wrap_i64]; omega)
    refine call_V rfl rfl ?_
    repeat' first | ((with_reducible show V _ _ _ _ _ _); first | refine V_O rfl ?_ | refine V_cT rfl rfl ?_ | refine V_cF rfl rfl ?_ | refine V_cEq rfl rfl ?_ | refine V_cNe rfl rfl ?_ | refine V_cB rfl rfl (fun _ => ?_) (fun _ => ?_) | refine V_fA rfl rfl ?_ | refine V_fAN rfl rfl ?_ | refine V_D rfl ?_) | ((with_reducible show VO _ _ _ _ _ _ _); first | refine O_cA rfl rfl hx' ?_ | refine O_is hge rfl ?_ | refine O_step rfl ?_ | refine O_nil' ?_ | refine O_gT' rfl ?_ | refine O_gU' rfl ?_ | refine O_gF' rfl rfl ?_ | refine O_gEq rfl ?_ | refine O_gNe rfl ?_ | refine O_gS rfl (fun _ => ?_) (fun _ => ?_)) | ((with_reducible show VD _ _ _ _ _ _ _); first | refine D_step h1 ?_ | refine D_step h2 ?_ | refine D_is hw rfl ?_ | refine D_step rfl ?_ | refine D_nil' ?_ | refine D_gT' rfl ?_ | refine D_gU' rfl ?_ | refine D_gF' rfl rfl ?_ | refine D_gS rfl (fun _ => ?_) (fun _ => ?_))
    rfl
theorem cutT_pl (c : UInt8) (s : List UInt8) : ∃ a b t, cutT c s = .tuple [.str a, .str b, .bool t] := by
  unfold cutT
  cases cutB c s with
  | none => exact ⟨_, _, _, rfl⟩
  | some p => exact ⟨_, _, _, rfl⟩
theorem run_Cut (s : List UInt8) (c : UInt8) (hs : s.length ≤ 9223372036854775800) : T.R (.call n_strings_Cut [.str s, .str [c]] (cutT c s)) := by
  have hx := run_SCut s c hs
  obtain ⟨a, b, t, ht⟩ := cutT_pl c s
  rw [ht] at hx ⊢
  refine call_V rfl rfl ?_
  repeat' first | ((with_reducible show V _ _ _ _ _ _); first | refine V_O rfl ?_ | refine V_cT rfl rfl ?_ | refine V_cF rfl rfl ?_ | refine V_cEq rfl rfl ?_ | refine V_cNe rfl rfl ?_ | refine V_cB rfl rfl (fun _ => ?_) (fun _ => ?_) | refine V_fA rfl rfl ?_ | refine V_fAN rfl rfl ?_ | refine V_D rfl ?_) | ((with_reducible show VO _ _ _ _ _ _ _); first | refine O_cA rfl rfl hx ?_ | refine O_step rfl ?_ | refine O_nil' ?_ | refine O_gT' rfl ?_ | refine O_gU' rfl ?_ | refine O_gF' rfl rfl ?_ | refine O_gEq rfl ?_ | refine O_gNe rfl ?_ | refine O_gS rfl (fun _ => ?_) (fun _ => ?_)) | ((with_reducible show VD _ _ _ _ _ _ _); first | refine D_step rfl ?_ | refine D_nil' ?_ | refine D_gT' rfl ?_ | refine D_gU' rfl ?_ | refine D_gF' rfl rfl ?_ | refine D_gS rfl (fun _ => ?_) (fun _ => ?_))
  rfl
end Go.Proofs.YtbeaalkfakjoiaaDoor
set_option linter.unusedVariables false
set_option linter.unusedSimpArgs false
namespace Go.Proofs.YtbeaalkfakjoiaaDoor
open Go Go.AM Go.RowKit
def bc (b : Bool) : List PV := [.bool b]
def bitsF : Nat → Nat → List Bool
  | 0, _ => []
  | k + 1, u => if u = 0 then [] else (decide (u % 2 = 1)) :: bitsF k (u / 2)
theorem and1 (u : Nat) (hu : u < 9223372036854775808) : IntKind.i64.wrap ((BitVec.ofInt 64 (u : Int) &&& BitVec.ofInt 64 (1 : Int)).toNat : Int) = ((u % 2 : Nat) : Int) := by
  have e1 : BitVec.ofInt 64 (1 : Int) = BitVec.ofNat 64 1 := rfl
  rw [e1, BitVec.toNat_and, BitVec.ofInt_natCast, BitVec.toNat_ofNat, BitVec.toNat_ofNat, Nat.mod_eq_of_lt (by omega), show 1 % 2 ^ 64 = 1 from rfl, Nat.and_one_is_mod, wrap_i64]
  omega
theorem keep_loop : ∀ (k u : Nat) (acc : List Bool) (st : St) (v : PV), u < 2 ^ k → k ≤ 63 → acc.length + k ≤ 1000 → AccT 1 st v (acc.map bc) →
    V T (PE fun x e st' => x = .exit 0 ∧ ∃ v', e = ecOf [(3, v')] ∧ AccT 1 st' v' ((acc ++ bitsF k u).map bc)) [.code (.loop lp_script_Keep_0)] .normal (ecOf [(0, .int .i64 u), (3, v)]) st := by
  intro k
  have stop : ∀ (acc : List Bool) (st : St) (v : PV), AccT 1 st v (acc.map bc) → V T (PE fun x e st' => x = .exit 0 ∧ ∃ v', e = ecOf [(3, v')] ∧ AccT 1 st' v' (acc.map bc)) [.code (.loop lp_script_Keep_0)] .normal (ecOf [(0, .int .i64 (0 : Nat)), (3, v)]) st := by
    intro acc st v hA
    refine V_unroll ?_
    repeat' first | ((with_reducible show V _ _ _ _ _ _); first | refine V_out [(3, v)] rfl ⟨rfl, trivial⟩ ⟨rfl, v, rfl, hA⟩ | refine V_O rfl ?_ | refine V_cT rfl rfl ?_ | refine V_cF rfl rfl ?_ | refine V_cEq rfl rfl ?_ | refine V_cNe rfl rfl ?_ | refine V_cB rfl rfl (fun _ => ?_) (fun _ => ?_) | refine V_fA rfl rfl ?_ | refine V_fAN rfl rfl ?_ | refine V_D rfl ?_) | ((with_reducible show VO _ _ _ _ _ _ _); first | refine O_step rfl ?_ | refine O_nil' ?_ | refine O_gT' rfl ?_ | refine O_gU' rfl ?_ | refine O_gF' rfl rfl ?_ | refine O_gEq rfl ?_ | refine O_gNe rfl ?_ | refine O_gS rfl (fun _ => ?_) (fun _ => ?_)) | ((with_reducible show VD _ _ _ _ _ _ _); first | refine D_step rfl ?_ | refine D_nil' ?_ | refine D_gT' rfl ?_ | refine D_gU' rfl ?_ | refine D_gF' rfl rfl ?_ | refine D_gS rfl (fun _ => ?_) (fun _ => ?_))
  induction k with
  | zero =>
    intro u acc st v hu hk hl hA
    have : u = 0 := by simpa using hu
    subst this
    have := stop acc st v hA
    simpa [bitsF] using this
  | succ k ih =>
    intro u acc st v hu hk hl hA
    by_cases h0 : u = 0
    · subst h0
      have := stop acc st v hA
      simpa [bitsF] using this
    · have h63 : (2 : Nat) ^ (k + 1) ≤ 2 ^ 63 := Nat.pow_le_pow_right (by omega) hk
      have p63 : (2 : Nat) ^ 63 = 9223372036854775808 := rfl
      have hpos : PV.bool (decide ((0 : Int) < u)) = PV.bool true := dec_is (by omega)
      have e1 : PV.int .i64 (IntKind.i64.wrap ((BitVec.ofInt 64 (u : Int) &&& BitVec.ofInt 64 (1 : Int)).toNat : Int)) = PV.int .i64 ((u % 2 : Nat) : Int) := int_is (and1 u (by omega))
      have e2 : PV.bool (decide (((u % 2 : Nat) : Int) = 1)) = PV.bool (decide (u % 2 = 1)) := by
        congr 1
        rw [Bool.eq_iff_iff, decide_eq_true_eq, decide_eq_true_eq]
        omega
      have e3 : PV.int .i64 (Int.fdiv (u : Int) (2 ^ (min (1 : Int).toNat IntKind.i64.bits))) = PV.int .i64 ((u / 2 : Nat) : Int) := int_is (by
        rw [show (2 : Int) ^ (min (1 : Int).toNat IntKind.i64.bits) = 2 from rfl, Int.fdiv_eq_ediv_of_nonneg _ (by omega)]
        omega)
      obtain ⟨v', st', k1, k2, k3⟩ := hA.grow (bytes := 1) (src := [bc (decide (u % 2 = 1))]) (by simp) (by simp only [List.length_map, List.length_singleton, roomLen]; omega)
      have hf : (acc ++ [decide (u % 2 = 1)]).map bc = acc.map bc ++ [bc (decide (u % 2 = 1))] := by simp
      have hi := ih (u / 2) (acc ++ [decide (u % 2 = 1)]) st' v' (by rw [Nat.pow_succ] at hu; omega) (by omega) (by simp; omega) (by rw [hf]; exact k2)
      have hb : acc ++ bitsF (k + 1) u = acc ++ [decide (u % 2 = 1)] ++ bitsF k (u / 2) := by rw [bitsF, if_neg h0]; simp
      rw [hb]
      refine V_unroll ?_
      repeat' first | ((with_reducible show V _ _ _ _ _ _); first | refine V_re rfl hi ⟨rfl, rfl, trivial⟩ | refine V_O rfl ?_ | refine V_cT rfl rfl ?_ | refine V_cF rfl rfl ?_ | refine V_cEq rfl rfl ?_ | refine V_cNe rfl rfl ?_ | refine V_cB rfl rfl (fun _ => ?_) (fun _ => ?_) | refine V_fA rfl rfl ?_ | refine V_fAN rfl rfl ?_ | refine V_D rfl ?_) | ((with_reducible show VO _ _ _ _ _ _ _); first | refine O_is hpos rfl ?_ | refine O_is e1 rfl ?_ | refine O_is e2 rfl ?_ | refine O_is e3 rfl ?_ | refine O_append rfl rfl rfl rfl (by decide) (by decide) k1 ?_ | refine O_step rfl ?_ | refine O_nil' ?_ | refine O_gT' rfl ?_ | refine O_gU' rfl ?_ | refine O_gF' rfl rfl ?_ | refine O_gEq rfl ?_ | refine O_gNe rfl ?_ | refine O_gS rfl (fun _ => ?_) (fun _ => ?_)) | ((with_reducible show VD _ _ _ _ _ _ _); first | refine D_step rfl ?_ | refine D_nil' ?_ | refine D_gT' rfl ?_ | refine D_gU' rfl ?_ | refine D_gF' rfl rfl ?_ | refine D_gS rfl (fun _ => ?_) (fun _ => ?_))
theorem pl_bc (l : List Bool) : ∀ cs ∈ l.map bc, ∀ c ∈ cs, Pl c := fun cs h => by
  obtain ⟨n, _, rfl⟩ := List.mem_map.1 h
  exact pl_cons (.bool _) pl_nil
def bitsI (n : Int) : List Bool := bitsF 63 n.toNat
theorem keep_stop {n : Int} (hn : ¬ 0 < n) (acc : List Bool) (st : St) (v : PV) (hA : AccT 1 st v (acc.map bc)) : V T (PE fun x e st' => x = .exit 0 ∧ ∃ v', e = ecOf [(3, v')] ∧ AccT 1 st' v' (acc.map bc)) [.code (.loop lp_script_Keep_0)] .normal (ecOf [(0, .int .i64 n), (3, v)]) st := by
  have hpos : PV.bool (decide ((0 : Int) < n)) = PV.bool false := dec_not hn
  refine V_unroll ?_
  repeat' first | ((with_reducible show V _ _ _ _ _ _); first | refine V_out [(3, v)] rfl ⟨rfl, trivial⟩ ⟨rfl, v, rfl, hA⟩ | refine V_O rfl ?_ | refine V_cT rfl rfl ?_ | refine V_cF rfl rfl ?_ | refine V_cEq rfl rfl ?_ | refine V_cNe rfl rfl ?_ | refine V_cB rfl rfl (fun _ => ?_) (fun _ => ?_) | refine V_fA rfl rfl ?_ | refine V_fAN rfl rfl ?_ | refine V_D rfl ?_) | ((with_reducible show VO _ _ _ _ _ _ _); first | refine O_is hpos rfl ?_ | refine O_step rfl ?_ | refine O_nil' ?_ | refine O_gT' rfl ?_ | refine O_gU' rfl ?_ | refine O_gF' rfl rfl ?_ | refine O_gEq rfl ?_ | refine O_gNe rfl ?_ | refine O_gS rfl (fun _ => ?_) (fun _ => ?_)) | ((with_reducible show VD _ _ _ _ _ _ _); first | refine D_step rfl ?_ | refine D_nil' ?_ | refine D_gT' rfl ?_ | refine D_gU' rfl ?_ | refine D_gF' rfl rfl ?_ | refine D_gS rfl (fun _ => ?_) (fun _ => ?_))
theorem run_Keep {n : Int} (h : R64 n) : ∃ p, T.R (.call n_script_Keep [.int .i64 n] p) ∧ LV bc p (bitsI n) := by
  unfold R64 at h
  have p63 : (2 : Nat) ^ 63 = 9223372036854775808 := rfl
  have hl : V T (PE fun x e st' => x = .exit 0 ∧ ∃ v', e = ecOf [(3, v')] ∧ AccT 1 st' v' ((bitsI n).map bc)) [.code (.loop lp_script_Keep_0)] .normal (ecOf [(0, .int .i64 n), (3, .nilSl)]) emptySt := by
    by_cases h0 : 0 < n
    · have hl := keep_loop 63 n.toNat [] emptySt .nilSl (by omega) (by omega) (by simp) (.inl ⟨rfl, rfl⟩)
      rw [List.nil_append, show ((n.toNat : Nat) : Int) = n by omega] at hl
      exact hl
    · have hb : bitsI n = [] := by unfold bitsI; rw [show n.toNat = 0 by omega]; rfl
      rw [hb]
      exact keep_stop h0 [] emptySt .nilSl (.inl ⟨rfl, rfl⟩)
  refine call_VQ rfl rfl ?_
  repeat' first | ((with_reducible show V _ _ _ _ _ _); first | refine V_cutTo rfl hl ⟨rfl, rfl, trivial⟩ ?_ | refine V_O rfl ?_ | refine V_cT rfl rfl ?_ | refine V_cF rfl rfl ?_ | refine V_cEq rfl rfl ?_ | refine V_cNe rfl rfl ?_ | refine V_cB rfl rfl (fun _ => ?_) (fun _ => ?_) | refine V_fA rfl rfl ?_ | refine V_fAN rfl rfl ?_ | refine V_D rfl ?_) | ((with_reducible show VO _ _ _ _ _ _ _); first | refine O_step rfl ?_ | refine O_nil' ?_ | refine O_gT' rfl ?_ | refine O_gU' rfl ?_ | refine O_gF' rfl rfl ?_ | refine O_gEq rfl ?_ | refine O_gNe rfl ?_ | refine O_gS rfl (fun _ => ?_) (fun _ => ?_)) | ((with_reducible show VD _ _ _ _ _ _ _); first | refine D_step rfl ?_ | refine D_nil' ?_ | refine D_gT' rfl ?_ | refine D_gU' rfl ?_ | refine D_gF' rfl rfl ?_ | refine D_gS rfl (fun _ => ?_) (fun _ => ?_))
  rintro x e' st' ⟨rfl, v', rfl, hA⟩
  rcases hA with ⟨rfl, h0⟩ | ⟨t, g, rfl, hg, hlt⟩
  · have : bitsI n = [] := by simpa using h0
    rw [this]
    repeat' first | ((with_reducible show V _ _ _ _ _ _); first | refine V_O rfl ?_ | refine V_cT rfl rfl ?_ | refine V_cF rfl rfl ?_ | refine V_cEq rfl rfl ?_ | refine V_cNe rfl rfl ?_ | refine V_cB rfl rfl (fun _ => ?_) (fun _ => ?_) | refine V_fA rfl rfl ?_ | refine V_fAN rfl rfl ?_ | refine V_D rfl ?_) | ((with_reducible show VO _ _ _ _ _ _ _); first | refine O_step rfl ?_ | refine O_nil' ?_ | refine O_gT' rfl ?_ | refine O_gU' rfl ?_ | refine O_gF' rfl rfl ?_ | refine O_gEq rfl ?_ | refine O_gNe rfl ?_ | refine O_gS rfl (fun _ => ?_) (fun _ => ?_)) | ((with_reducible show VD _ _ _ _ _ _ _); first | refine D_step rfl ?_ | refine D_nil' ?_ | refine D_gT' rfl ?_ | refine D_gU' rfl ?_ | refine D_gF' rfl rfl ?_ | refine D_gS rfl (fun _ => ?_) (fun _ => ?_))
    exact .nil
  · repeat' first | ((with_reducible show V _ _ _ _ _ _); first | refine V_fin rfl rfl (view_osl0 hg (.inl rfl) rfl (pl_bc _)) (.sl _ _) | refine V_O rfl ?_ | refine V_cT rfl rfl ?_ | refine V_cF rfl rfl ?_ | refine V_cEq rfl rfl ?_ | refine V_cNe rfl rfl ?_ | refine V_cB rfl rfl (fun _ => ?_) (fun _ => ?_) | refine V_fA rfl rfl ?_ | refine V_fAN rfl rfl ?_ | refine V_D rfl ?_) | ((with_reducible show VO _ _ _ _ _ _ _); first | refine O_step rfl ?_ | refine O_nil' ?_ | refine O_gT' rfl ?_ | refine O_gU' rfl ?_ | refine O_gF' rfl rfl ?_ | refine O_gEq rfl ?_ | refine O_gNe rfl ?_ | refine O_gS rfl (fun _ => ?_) (fun _ => ?_)) | ((with_reducible show VD _ _ _ _ _ _ _); first | refine D_step rfl ?_ | refine D_nil' ?_ | refine D_gT' rfl ?_ | refine D_gU' rfl ?_ | refine D_gF' rfl rfl ?_ | refine D_gS rfl (fun _ => ?_) (fun _ => ?_))
theorem eqb_loop {p q : PV} {l : List Bool} (hp : LV bc p l) (hq : LV bc q l) (hl0 : l.length ≤ 9223372036854775800) : ∀ (rest pre : List Bool), l = pre ++ rest →
    V T (PE fun x e st' => x = .exit 0 ∧ st' = emptySt ∧ e = .nil) [.code (.loop lp_slices_Equal_bool_bool_0)] .normal (ecOf [(0, p), (1, q), (12, .int .i64 l.length), (13, .int .i64 pre.length)]) emptySt := by
  intro rest
  induction rest with
  | nil =>
    intro pre hl
    have hlt : decide ((pre.length : Int) < l.length) = false := decide_eq_false (by subst hl; simp)
    refine V_unroll ?_
    repeat' first | ((with_reducible show V _ _ _ _ _ _); first | refine V_cH hlt rfl rfl ?_ | refine V_out [] rfl trivial ⟨rfl, rfl, rfl⟩ | refine V_O rfl ?_ | refine V_cT rfl rfl ?_ | refine V_cF rfl rfl ?_ | refine V_cEq rfl rfl ?_ | refine V_cNe rfl rfl ?_ | refine V_cB rfl rfl (fun _ => ?_) (fun _ => ?_) | refine V_fA rfl rfl ?_ | refine V_fAN rfl rfl ?_ | refine V_D rfl ?_) | ((with_reducible show VO _ _ _ _ _ _ _); first | refine O_step rfl ?_ | refine O_nil' ?_ | refine O_gT' rfl ?_ | refine O_gU' rfl ?_ | refine O_gF' rfl rfl ?_ | refine O_gEq rfl ?_ | refine O_gNe rfl ?_ | refine O_gS rfl (fun _ => ?_) (fun _ => ?_)) | ((with_reducible show VD _ _ _ _ _ _ _); first | refine D_step rfl ?_ | refine D_nil' ?_ | refine D_gT' rfl ?_ | refine D_gU' rfl ?_ | refine D_gF' rfl rfl ?_ | refine D_gS rfl (fun _ => ?_) (fun _ => ?_))
  | cons c rest ih =>
    intro pre hl
    have hlt : decide ((pre.length : Int) < l.length) = true := decide_eq_true (by subst hl; simp; omega)
    have hpl : pre.length < l.length := by subst hl; simp
    have hat : l[(pre.length : Int).toNat]? = some c := by subst hl; simp
    have hw : IntKind.i64.wrap ((pre.length : Int) + 1) = ((pre ++ [c]).length : Int) := by rw [wrap_i64]; simp; omega
    have hi := ih (pre ++ [c]) (by rw [hl]; simp)
    refine V_unroll ?_
    cases c
    · repeat' first | ((with_reducible show V _ _ _ _ _ _); first | refine V_cHT hlt rfl rfl ?_ | refine V_re rfl hi ⟨rfl, rfl, rfl, some_int hw, trivial⟩ | refine V_O rfl ?_ | refine V_cT rfl rfl ?_ | refine V_cF rfl rfl ?_ | refine V_cEq rfl rfl ?_ | refine V_cNe rfl rfl ?_ | refine V_cB rfl rfl (fun _ => ?_) (fun _ => ?_) | refine V_fA rfl rfl ?_ | refine V_fAN rfl rfl ?_ | refine V_D rfl ?_) | ((with_reducible show VO _ _ _ _ _ _ _); first | refine O_step rfl ?_ | refine O_nil' ?_ | refine O_gT' rfl ?_ | refine O_gU' rfl ?_ | refine O_gF' rfl rfl ?_ | refine O_gEq rfl ?_ | refine O_gNe rfl ?_ | refine O_gS rfl (fun _ => ?_) (fun _ => ?_)) | ((with_reducible show VD _ _ _ _ _ _ _); first | refine D_idxL _ rfl hp rfl (by omega) hat rfl ?_ | refine D_idxL _ rfl hq rfl (by omega) hat rfl ?_ | refine D_step rfl ?_ | refine D_nil' ?_ | refine D_gT' rfl ?_ | refine D_gU' rfl ?_ | refine D_gF' rfl rfl ?_ | refine D_gS rfl (fun _ => ?_) (fun _ => ?_))
    · repeat' first | ((with_reducible show V _ _ _ _ _ _); first | refine V_cHT hlt rfl rfl ?_ | refine V_re rfl hi ⟨rfl, rfl, rfl, some_int hw, trivial⟩ | refine V_O rfl ?_ | refine V_cT rfl rfl ?_ | refine V_cF rfl rfl ?_ | refine V_cEq rfl rfl ?_ | refine V_cNe rfl rfl ?_ | refine V_cB rfl rfl (fun _ => ?_) (fun _ => ?_) | refine V_fA rfl rfl ?_ | refine V_fAN rfl rfl ?_ | refine V_D rfl ?_) | ((with_reducible show VO _ _ _ _ _ _ _); first | refine O_step rfl ?_ | refine O_nil' ?_ | refine O_gT' rfl ?_ | refine O_gU' rfl ?_ | refine O_gF' rfl rfl ?_ | refine O_gEq rfl ?_ | refine O_gNe rfl ?_ | refine O_gS rfl (fun _ => ?_) (fun _ => ?_)) | ((with_reducible show VD _ _ _ _ _ _ _); first | refine D_idxL _ rfl hp rfl (by omega) hat rfl ?_ | refine D_idxL _ rfl hq rfl (by omega) hat rfl ?_ | refine D_step rfl ?_ | refine D_nil' ?_ | refine D_gT' rfl ?_ | refine D_gU' rfl ?_ | refine D_gF' rfl rfl ?_ | refine D_gS rfl (fun _ => ?_) (fun _ => ?_))
theorem run_EqualB {p q : PV} {l : List Bool} (hp : LV bc p l) (hq : LV bc q l) (hl0 : l.length ≤ 9223372036854775800) : T.R (.call n_slices_Equal_bool_bool [p, q] (.bool true)) := by
  have hl := eqb_loop hp hq hl0 l [] rfl
  have hne : PV.bool (!decide ((l.length : Int) = l.length)) = PV.bool false := ndec_is rfl
  refine call_V rfl rfl ?_
  repeat' first | ((with_reducible show V _ _ _ _ _ _); first | refine V_cutTo rfl hl ⟨rfl, rfl, rfl, rfl, trivial⟩ ?_ | refine V_O rfl ?_ | refine V_cT rfl rfl ?_ | refine V_cF rfl rfl ?_ | refine V_cEq rfl rfl ?_ | refine V_cNe rfl rfl ?_ | refine V_cB rfl rfl (fun _ => ?_) (fun _ => ?_) | refine V_fA rfl rfl ?_ | refine V_fAN rfl rfl ?_ | refine V_D rfl ?_) | ((with_reducible show VO _ _ _ _ _ _ _); first | refine O_lenL rfl hp ?_ | refine O_lenL rfl hq ?_ | refine O_is hne rfl ?_ | refine O_step rfl ?_ | refine O_nil' ?_ | refine O_gT' rfl ?_ | refine O_gU' rfl ?_ | refine O_gF' rfl rfl ?_ | refine O_gEq rfl ?_ | refine O_gNe rfl ?_ | refine O_gS rfl (fun _ => ?_) (fun _ => ?_)) | ((with_reducible show VD _ _ _ _ _ _ _); first | refine D_step rfl ?_ | refine D_nil' ?_ | refine D_gT' rfl ?_ | refine D_gU' rfl ?_ | refine D_gF' rfl rfl ?_ | refine D_gS rfl (fun _ => ?_) (fun _ => ?_))
  rintro x e' st' ⟨rfl, rfl, rfl⟩
  repeat' first | ((with_reducible show V _ _ _ _ _ _); first | refine V_O rfl ?_ | refine V_cT rfl rfl ?_ | refine V_cF rfl rfl ?_ | refine V_cEq rfl rfl ?_ | refine V_cNe rfl rfl ?_ | refine V_cB rfl rfl (fun _ => ?_) (fun _ => ?_) | refine V_fA rfl rfl ?_ | refine V_fAN rfl rfl ?_ | refine V_D rfl ?_) | ((with_reducible show VO _ _ _ _ _ _ _); first | refine O_step rfl ?_ | refine O_nil' ?_ | refine O_gT' rfl ?_ | refine O_gU' rfl ?_ | refine O_gF' rfl rfl ?_ | refine O_gEq rfl ?_ | refine O_gNe rfl ?_ | refine O_gS rfl (fun _ => ?_) (fun _ => ?_)) | ((with_reducible show VD _ _ _ _ _ _ _); first | refine D_step rfl ?_ | refine D_nil' ?_ | refine D_gT' rfl ?_ | refine D_gU' rfl ?_ | refine D_gF' rfl rfl ?_ | refine D_gS rfl (fun _ => ?_) (fun _ => ?_))
  rfl
def wBegin : List UInt8 := [98, 101, 103, 105, 110]
def wCommit : List UInt8 := [99, 111, 109, 109, 105, 116]
def wRoll : List UInt8 := [114, 111, 108, 108, 98, 97, 99, 107]
def wQuery : List UInt8 := [113, 117, 101, 114, 121]
def wCount : List UInt8 := [99, 111, 117, 110, 116]
def wCrash : List UInt8 := [99, 114, 97, 115, 104]
def wordL (k : Int) : List UInt8 := if k = 1 then wBegin else if k = 2 then wCommit else if k = 3 then wRoll else if k = 4 then wQuery else if k = 5 then wCount else if k = 6 then wCrash else []
theorem six {k : Int} (h1 : ¬ k < 1) (h2 : ¬ 6 < k) : k = 1 ∨ k = 2 ∨ k = 3 ∨ k = 4 ∨ k = 5 ∨ k = 6 := by omega
theorem wordL_out {k : Int} (h : k < 1 ∨ 6 < k) : wordL k = [] := by
  unfold wordL
  rw [if_neg (by omega), if_neg (by omega), if_neg (by omega), if_neg (by omega), if_neg (by omega), if_neg (by omega)]
theorem run_words : T.R (.call n_strings_Split [.str [98, 101, 103, 105, 110, 32, 99, 111, 109, 109, 105, 116, 32, 114, 111, 108, 108, 98, 97, 99, 107, 32, 113, 117, 101, 114, 121, 32, 99, 111, 117, 110, 116, 32, 99, 114, 97, 115, 104], .str [32]] (.sl [[.str wBegin], [.str wCommit], [.str wRoll], [.str wQuery], [.str wCount], [.str wCrash]] false)) :=
  run_Split [98, 101, 103, 105, 110, 32, 99, 111, 109, 109, 105, 116, 32, 114, 111, 108, 108, 98, 97, 99, 107, 32, 113, 117, 101, 114, 121, 32, 99, 111, 117, 110, 116, 32, 99, 114, 97, 115, 104] 32 (by decide)
theorem run_word (k : Int) : T.R (.call n_script_word [.int .i64 k] (.str (wordL k))) := by
  have hs := run_words
  have plv : Pl (.sl [[.str wBegin], [.str wCommit], [.str wRoll], [.str wQuery], [.str wCount], [.str wCrash]] false) := .sl _ _ (fun cs h => by
    simp only [List.mem_cons, List.not_mem_nil, or_false] at h
    rcases h with rfl | rfl | rfl | rfl | rfl | rfl <;> exact pl_cons (.str _) pl_nil)
  by_cases h1 : k < 1
  · rw [wordL_out (.inl h1)]
    refine call_V rfl rfl ?_
    repeat' first | ((with_reducible show V _ _ _ _ _ _); first | refine V_O rfl ?_ | refine V_cT rfl rfl ?_ | refine V_cF rfl rfl ?_ | refine V_cEq rfl rfl ?_ | refine V_cNe rfl rfl ?_ | refine V_cB rfl rfl (fun _ => ?_) (fun _ => ?_) | refine V_fA rfl rfl ?_ | refine V_fAN rfl rfl ?_ | refine V_D rfl ?_) | ((with_reducible show VO _ _ _ _ _ _ _); first | refine O_cA rfl rfl hs ?_ | refine O_is (dec_is h1) rfl ?_ | refine O_step rfl ?_ | refine O_nil' ?_ | refine O_gT' rfl ?_ | refine O_gU' rfl ?_ | refine O_gF' rfl rfl ?_ | refine O_gEq rfl ?_ | refine O_gNe rfl ?_ | refine O_gS rfl (fun _ => ?_) (fun _ => ?_)) | ((with_reducible show VD _ _ _ _ _ _ _); first | refine D_step rfl ?_ | refine D_nil' ?_ | refine D_gT' rfl ?_ | refine D_gU' rfl ?_ | refine D_gF' rfl rfl ?_ | refine D_gS rfl (fun _ => ?_) (fun _ => ?_))
    rfl
  · by_cases h2 : 6 < k
    · rw [wordL_out (.inr h2)]
      refine call_V rfl rfl ?_
      repeat' first | ((with_reducible show V _ _ _ _ _ _); first | refine V_O rfl ?_ | refine V_cT rfl rfl ?_ | refine V_cF rfl rfl ?_ | refine V_cEq rfl rfl ?_ | refine V_cNe rfl rfl ?_ | refine V_cB rfl rfl (fun _ => ?_) (fun _ => ?_) | refine V_fA rfl rfl ?_ | refine V_fAN rfl rfl ?_ | refine V_D rfl ?_) | ((with_reducible show VO _ _ _ _ _ _ _); first | refine O_cA rfl rfl hs ?_ | refine O_is (dec_not h1) rfl ?_ | refine O_is (dec_is h2) rfl ?_ | refine O_step rfl ?_ | refine O_nil' ?_ | refine O_gT' rfl ?_ | refine O_gU' rfl ?_ | refine O_gF' rfl rfl ?_ | refine O_gEq rfl ?_ | refine O_gNe rfl ?_ | refine O_gS rfl (fun _ => ?_) (fun _ => ?_)) | ((with_reducible show VD _ _ _ _ _ _ _); first | refine D_step rfl ?_ | refine D_nil' ?_ | refine D_gT' rfl ?_ | refine D_gU' rfl ?_ | refine D_gF' rfl rfl ?_ | refine D_gS rfl (fun _ => ?_) (fun _ => ?_))
      rfl
    · rcases six h1 h2 with rfl | rfl | rfl | rfl | rfl | rfl
      all_goals refine call_V rfl rfl ?_
      all_goals repeat' first | ((with_reducible show V _ _ _ _ _ _); first | refine V_O rfl ?_ | refine V_cT rfl rfl ?_ | refine V_cF rfl rfl ?_ | refine V_cEq rfl rfl ?_ | refine V_cNe rfl rfl ?_ | refine V_cB rfl rfl (fun _ => ?_) (fun _ => ?_) | refine V_fA rfl rfl ?_ | refine V_fAN rfl rfl ?_ | refine V_D rfl ?_) | ((with_reducible show VO _ _ _ _ _ _ _); first | refine O_cA rfl rfl hs ?_ | refine O_step rfl ?_ | refine O_nil' ?_ | refine O_gT' rfl ?_ | refine O_gU' rfl ?_ | refine O_gF' rfl rfl ?_ | refine O_gEq rfl ?_ | refine O_gNe rfl ?_ | refine O_gS rfl (fun _ => ?_) (fun _ => ?_)) | ((with_reducible show VD _ _ _ _ _ _ _); first | refine D_step rfl ?_ | refine D_nil' ?_ | refine D_gT' rfl ?_ | refine D_gU' rfl ?_ | refine D_gF' rfl rfl ?_ | refine D_gS rfl (fun _ => ?_) (fun _ => ?_))
      all_goals rfl
theorem run_rWord (k : Int) : T.R (.call n_rambleref25_word [.int .i64 k] (.str (wordL k))) := by
  unfold wordL
  refine call_V rfl rfl ?_
  by_cases h1 : k = 1
  · subst h1
    repeat' first | ((with_reducible show V _ _ _ _ _ _); first | refine V_O rfl ?_ | refine V_cT rfl rfl ?_ | refine V_cF rfl rfl ?_ | refine V_cEq rfl rfl ?_ | refine V_cNe rfl rfl ?_ | refine V_cB rfl rfl (fun _ => ?_) (fun _ => ?_) | refine V_fA rfl rfl ?_ | refine V_fAN rfl rfl ?_ | refine V_D rfl ?_) | ((with_reducible show VO _ _ _ _ _ _ _); first | refine O_step rfl ?_ | refine O_nil' ?_ | refine O_gT' rfl ?_ | refine O_gU' rfl ?_ | refine O_gF' rfl rfl ?_ | refine O_gEq rfl ?_ | refine O_gNe rfl ?_ | refine O_gS rfl (fun _ => ?_) (fun _ => ?_)) | ((with_reducible show VD _ _ _ _ _ _ _); first | refine D_step rfl ?_ | refine D_nil' ?_ | refine D_gT' rfl ?_ | refine D_gU' rfl ?_ | refine D_gF' rfl rfl ?_ | refine D_gS rfl (fun _ => ?_) (fun _ => ?_))
    rfl
  · by_cases h2 : k = 2
    · subst h2
      repeat' first | ((with_reducible show V _ _ _ _ _ _); first | refine V_O rfl ?_ | refine V_cT rfl rfl ?_ | refine V_cF rfl rfl ?_ | refine V_cEq rfl rfl ?_ | refine V_cNe rfl rfl ?_ | refine V_cB rfl rfl (fun _ => ?_) (fun _ => ?_) | refine V_fA rfl rfl ?_ | refine V_fAN rfl rfl ?_ | refine V_D rfl ?_) | ((with_reducible show VO _ _ _ _ _ _ _); first | refine O_step rfl ?_ | refine O_nil' ?_ | refine O_gT' rfl ?_ | refine O_gU' rfl ?_ | refine O_gF' rfl rfl ?_ | refine O_gEq rfl ?_ | refine O_gNe rfl ?_ | refine O_gS rfl (fun _ => ?_) (fun _ => ?_)) | ((with_reducible show VD _ _ _ _ _ _ _); first | refine D_step rfl ?_ | refine D_nil' ?_ | refine D_gT' rfl ?_ | refine D_gU' rfl ?_ | refine D_gF' rfl rfl ?_ | refine D_gS rfl (fun _ => ?_) (fun _ => ?_))
      rfl
    · by_cases h3 : k = 3
      · subst h3
        repeat' first | ((with_reducible show V _ _ _ _ _ _); first | refine V_O rfl ?_ | refine V_cT rfl rfl ?_ | refine V_cF rfl rfl ?_ | refine V_cEq rfl rfl ?_ | refine V_cNe rfl rfl ?_ | refine V_cB rfl rfl (fun _ => ?_) (fun _ => ?_) | refine V_fA rfl rfl ?_ | refine V_fAN rfl rfl ?_ | refine V_D rfl ?_) | ((with_reducible show VO _ _ _ _ _ _ _); first | refine O_step rfl ?_ | refine O_nil' ?_ | refine O_gT' rfl ?_ | refine O_gU' rfl ?_ | refine O_gF' rfl rfl ?_ | refine O_gEq rfl ?_ | refine O_gNe rfl ?_ | refine O_gS rfl (fun _ => ?_) (fun _ => ?_)) | ((with_reducible show VD _ _ _ _ _ _ _); first | refine D_step rfl ?_ | refine D_nil' ?_ | refine D_gT' rfl ?_ | refine D_gU' rfl ?_ | refine D_gF' rfl rfl ?_ | refine D_gS rfl (fun _ => ?_) (fun _ => ?_))
        rfl
      · by_cases h4 : k = 4
        · subst h4
          repeat' first | ((with_reducible show V _ _ _ _ _ _); first | refine V_O rfl ?_ | refine V_cT rfl rfl ?_ | refine V_cF rfl rfl ?_ | refine V_cEq rfl rfl ?_ | refine V_cNe rfl rfl ?_ | refine V_cB rfl rfl (fun _ => ?_) (fun _ => ?_) | refine V_fA rfl rfl ?_ | refine V_fAN rfl rfl ?_ | refine V_D rfl ?_) | ((with_reducible show VO _ _ _ _ _ _ _); first | refine O_step rfl ?_ | refine O_nil' ?_ | refine O_gT' rfl ?_ | refine O_gU' rfl ?_ | refine O_gF' rfl rfl ?_ | refine O_gEq rfl ?_ | refine O_gNe rfl ?_ | refine O_gS rfl (fun _ => ?_) (fun _ => ?_)) | ((with_reducible show VD _ _ _ _ _ _ _); first | refine D_step rfl ?_ | refine D_nil' ?_ | refine D_gT' rfl ?_ | refine D_gU' rfl ?_ | refine D_gF' rfl rfl ?_ | refine D_gS rfl (fun _ => ?_) (fun _ => ?_))
          rfl
        · by_cases h5 : k = 5
          · subst h5
            repeat' first | ((with_reducible show V _ _ _ _ _ _); first | refine V_O rfl ?_ | refine V_cT rfl rfl ?_ | refine V_cF rfl rfl ?_ | refine V_cEq rfl rfl ?_ | refine V_cNe rfl rfl ?_ | refine V_cB rfl rfl (fun _ => ?_) (fun _ => ?_) | refine V_fA rfl rfl ?_ | refine V_fAN rfl rfl ?_ | refine V_D rfl ?_) | ((with_reducible show VO _ _ _ _ _ _ _); first | refine O_step rfl ?_ | refine O_nil' ?_ | refine O_gT' rfl ?_ | refine O_gU' rfl ?_ | refine O_gF' rfl rfl ?_ | refine O_gEq rfl ?_ | refine O_gNe rfl ?_ | refine O_gS rfl (fun _ => ?_) (fun _ => ?_)) | ((with_reducible show VD _ _ _ _ _ _ _); first | refine D_step rfl ?_ | refine D_nil' ?_ | refine D_gT' rfl ?_ | refine D_gU' rfl ?_ | refine D_gF' rfl rfl ?_ | refine D_gS rfl (fun _ => ?_) (fun _ => ?_))
            rfl
          · by_cases h6 : k = 6
            · subst h6
              repeat' first | ((with_reducible show V _ _ _ _ _ _); first | refine V_O rfl ?_ | refine V_cT rfl rfl ?_ | refine V_cF rfl rfl ?_ | refine V_cEq rfl rfl ?_ | refine V_cNe rfl rfl ?_ | refine V_cB rfl rfl (fun _ => ?_) (fun _ => ?_) | refine V_fA rfl rfl ?_ | refine V_fAN rfl rfl ?_ | refine V_D rfl ?_) | ((with_reducible show VO _ _ _ _ _ _ _); first | refine O_step rfl ?_ | refine O_nil' ?_ | refine O_gT' rfl ?_ | refine O_gU' rfl ?_ | refine O_gF' rfl rfl ?_ | refine O_gEq rfl ?_ | refine O_gNe rfl ?_ | refine O_gS rfl (fun _ => ?_) (fun _ => ?_)) | ((with_reducible show VD _ _ _ _ _ _ _); first | refine D_step rfl ?_ | refine D_nil' ?_ | refine D_gT' rfl ?_ | refine D_gU' rfl ?_ | refine D_gF' rfl rfl ?_ | refine D_gS rfl (fun _ => ?_) (fun _ => ?_))
              rfl
            · rw [if_neg h1, if_neg h2, if_neg h3, if_neg h4, if_neg h5, if_neg h6]
              repeat' first | ((with_reducible show V _ _ _ _ _ _); first | refine V_O rfl ?_ | refine V_cT rfl rfl ?_ | refine V_cF rfl rfl ?_ | refine V_cEq rfl rfl ?_ | refine V_cNe rfl rfl ?_ | refine V_cB rfl rfl (fun _ => ?_) (fun _ => ?_) | refine V_fA rfl rfl ?_ | refine V_fAN rfl rfl ?_ | refine V_D rfl ?_) | ((with_reducible show VO _ _ _ _ _ _ _); first | refine O_is (dec_not h1) rfl ?_ | refine O_is (dec_not h2) rfl ?_ | refine O_is (dec_not h3) rfl ?_ | refine O_is (dec_not h4) rfl ?_ | refine O_is (dec_not h5) rfl ?_ | refine O_is (dec_not h6) rfl ?_ | refine O_step rfl ?_ | refine O_nil' ?_ | refine O_gT' rfl ?_ | refine O_gU' rfl ?_ | refine O_gF' rfl rfl ?_ | refine O_gEq rfl ?_ | refine O_gNe rfl ?_ | refine O_gS rfl (fun _ => ?_) (fun _ => ?_)) | ((with_reducible show VD _ _ _ _ _ _ _); first | refine D_step rfl ?_ | refine D_nil' ?_ | refine D_gT' rfl ?_ | refine D_gU' rfl ?_ | refine D_gF' rfl rfl ?_ | refine D_gS rfl (fun _ => ?_) (fun _ => ?_))
              rfl
end Go.Proofs.YtbeaalkfakjoiaaDoor
