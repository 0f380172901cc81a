/- What comes of steps: check.times, within, step, infer. -/
import Derived.Test.YtinojffgmgjblaaGreatDoorInfB
set_option linter.unusedVariables false
set_option linter.unusedSimpArgs false
namespace Go.Proofs.YtinojffgmgjblaaGreatDoor
open Go Go.AM Go.RowKit
def GoodS1 (op : Int) (nums : List Int) (k : Nat) : Prop := k ≤ 32 ∧ (k ≠ 0 → ((op = 54 ∨ op = 56 → ∃ x r, nums = x :: r) ∧ (op = 55 → 2 ≤ k)))
mutual
def gdS : Stp → Prop
  | .mk op _ nums _ _ subs => GoodS1 op nums subs.length ∧ gdLL subs
def gdL : List Stp → Prop
  | [] => True
  | s :: r => gdS s ∧ gdL r
def gdLL : List (List Stp) → Prop
  | [] => True
  | l :: r => gdL l ∧ gdLL r
end
theorem gdL_mem : ∀ {l : List Stp}, gdL l → ∀ s ∈ l, gdS s
  | [], _, s, h => by cases h
  | a :: r, h, s, hs => by
    rw [gdL] at h
    rcases List.mem_cons.1 hs with rfl | hs
    · exact h.1
    · exact gdL_mem h.2 s hs
theorem gdLL_mem : ∀ {l : List (List Stp)}, gdLL l → ∀ s ∈ l, gdL s
  | [], _, s, h => by cases h
  | a :: r, h, s, hs => by
    rw [gdLL] at h
    rcases List.mem_cons.1 hs with rfl | hs
    · exact h.1
    · exact gdLL_mem h.2 s hs
theorem ite_le {p : Prop} [Decidable p] {a b : List Int} (h1 : a.getD 9 0 ≤ 32) (h2 : b.getD 9 0 ≤ 32) : (if p then a else b).getD 9 0 ≤ 32 := by
  by_cases h : p
  · rw [if_pos h]; exact h1
  · rw [if_neg h]; exact h2
theorem shp_32 (op : Int) : (shp op).getD 9 0 ≤ 32 := by
  unfold shp
  repeat (refine ite_le (by decide) ?_)
  decide
theorem good_of {op : Int} {names : List (List UInt8)} {nums : List Int} {preds : List Prd} {vals : List Val} {k : Nat} (h : stepB op names nums preds vals k = true) : GoodS1 op nums k := by
  unfold stepB at h
  simp only [Bool.and_eq_true] at h
  have ha := h.1.1.1.1.2
  unfold argB at ha
  obtain ⟨a, b, c, d, e, f, g, hh, i, j, hten⟩ := shp_ten op
  have hk32 : k ≤ 32 := by
    have hj := shp_32 op
    rw [hten] at ha hj
    simp only [Bool.and_eq_true, hasB, decide_eq_true_eq, List.getD_cons_succ, List.getD_cons_zero] at ha hj
    omega
  refine ⟨hk32, fun hk => ⟨fun ho => ?_, fun ho => ?_⟩⟩
  · have : shp op = [0, 0, 1, 1, 0, 0, 0, 0, 1, 1] := by rcases ho with rfl | rfl <;> rfl
    rw [this] at ha
    simp only [Bool.and_eq_true, hasB, decide_eq_true_eq] at ha
    cases nums with
    | nil => simp at ha
    | cons x r => exact ⟨x, r, rfl⟩
  · have : shp op = [0, 0, 0, 0, 0, 0, 0, 0, 2, 2] := by subst ho; rfl
    rw [this] at ha
    simp only [Bool.and_eq_true, hasB, decide_eq_true_eq] at ha
    omega
mutual
theorem gdS_of : ∀ s : Stp, okS s = true → gdS s
  | .mk op names nums preds vals subs, h => by
    rw [okS, Bool.and_eq_true] at h
    rw [gdS]
    exact ⟨good_of h.1, gdLL_of subs h.2⟩
theorem gdL_of : ∀ l : List Stp, okL1 l = true → gdL l
  | [], _ => by rw [gdL]; trivial
  | s :: r, h => by
    rw [okL1, Bool.and_eq_true] at h
    rw [gdL]
    exact ⟨gdS_of s h.1, gdL_of r h.2⟩
theorem gdLL_of : ∀ l : List (List Stp), okLL l = true → gdLL l
  | [], _ => by rw [gdLL]; trivial
  | s :: r, h => by
    rw [okLL, Bool.and_eq_true, Bool.and_eq_true] at h
    rw [gdLL]
    exact ⟨gdL_of s h.1.2, gdLL_of r h.2⟩
end
def inP (x : Nat × Int) : PV := .tuple [.int .i64 (x.1 : Int), .int .i64 x.2]
def Tells (q : PV) (f : KF) : Prop := ∀ i, KS i → T.R (.call n_check_infer [.int .i64 (i : Int), q] (inP (f i)))
theorem times_loop {q o : PV} {f g : KF} (hf : Tells q f) (hg : Tells o g) (hm : Mono f) (plq : Pl q) (plo : Pl o) (K : Nat) (hK : K ≤ 128) : ∀ (k j all i : Nat), j + k = K → KS all → KS i →
    V T (PE fun x e st' => (x = .exit 0 ∧ ∃ m : Nat, e = ecOf [(10, .int .i64 (m : Int))] ∧ timesF f g k all i = (m, 0)) ∨ (x = .ret ∧ ∃ c : Int, e = ecOf [(8, .int .i64 0), (9, .int .i64 c)] ∧ timesF f g k all i = (0, c)))
      [.code (.loop lp_check_times_0)] .normal (ecOf [(0, .int .i64 (i : Int)), (2, q), (3, o), (10, .int .i64 (all : Int)), (14, .int .i64 (K : Int)), (15, .int .i64 (j : Int))]) emptySt := by
  intro k
  induction k with
  | zero =>
    intro j all i hj ha hi
    have hlt : ¬ (j : Int) < (K : Int) := by omega
    refine V_unroll ?_
    repeat' first | refine V_cHF rfl rfl hlt ?_ | refine V_out [(10, .int .i64 (all : Int))] rfl ⟨rfl, trivial⟩ (.inl ⟨rfl, _, rfl, rfl⟩) | refine V_O rfl ?_ | refine O_step rfl ?_ | refine O_nil' ?_ | refine V_cT rfl rfl ?_ | refine V_cF rfl rfl ?_ | refine V_cEq rfl rfl ?_ | refine V_cNe rfl rfl ?_ | refine V_cB rfl rfl (fun _ => ?_) (fun _ => ?_) | refine O_gT' rfl ?_ | refine O_gU' rfl ?_ | refine O_gF' rfl rfl ?_ | refine O_gEq rfl ?_ | refine O_gNe rfl ?_ | refine O_gS rfl (fun _ => ?_) (fun _ => ?_) | refine V_fA rfl rfl ?_ | refine V_fAN rfl rfl ?_ | refine V_D rfl ?_ | refine D_step rfl ?_ | refine D_nil' ?_ | refine D_gT' rfl ?_ | refine D_gU' rfl ?_ | refine D_gF' rfl rfl ?_ | refine D_gS rfl (fun _ => ?_) (fun _ => ?_)
  | succ k ih =>
    intro j all i hj ha hi
    have hlt : (j : Int) < (K : Int) := by omega
    have hw : IntKind.i64.wrap ((j : Int) + 1) = ((j + 1 : Nat) : Int) := by rw [wrap_i64]; omega
    have h1 := hf i hi
    have hk := hm.1 i hi
    have h2 := hg (f i).1 hk
    unfold inP at h1 h2
    have hi' := ih (j + 1) (all ||| (f i).1) (f i).1 (by omega) (sub_or ha hk) hk
    have e2 := int_is (k := .i64) (or_is ha hk)
    rw [timesF]
    refine V_unroll ?_
    by_cases c1 : (f i).2 = 0
    · rw [if_pos c1]
      by_cases c2 : (g (f i).1).2 = 0
      · rw [if_pos c2]
        repeat' first | refine V_cHY rfl rfl hlt ?_ | refine O_cA rfl rfl h1 ?_ | refine O_cA rfl rfl h2 ?_ | refine O_is (dec_is c1) rfl ?_ | refine O_is (ndec_is c2) rfl ?_ | refine O_is (ndec_is c1) rfl ?_ | refine O_is e2 rfl ?_ | refine V_re rfl hi' ⟨rfl, rfl, rfl, rfl, rfl, some_int hw, trivial⟩ | refine V_O rfl ?_ | refine O_step rfl ?_ | refine O_nil' ?_ | refine V_cT rfl rfl ?_ | refine V_cF rfl rfl ?_ | refine V_cEq rfl rfl ?_ | refine V_cNe rfl rfl ?_ | refine V_cB rfl rfl (fun _ => ?_) (fun _ => ?_) | refine O_gT' rfl ?_ | refine O_gU' rfl ?_ | refine O_gF' rfl rfl ?_ | refine O_gEq rfl ?_ | refine O_gNe rfl ?_ | refine O_gS rfl (fun _ => ?_) (fun _ => ?_) | refine V_fA rfl rfl ?_ | refine V_fAN rfl rfl ?_ | refine V_D rfl ?_ | refine D_step rfl ?_ | refine D_nil' ?_ | refine D_gT' rfl ?_ | refine D_gU' rfl ?_ | refine D_gF' rfl rfl ?_ | refine D_gS rfl (fun _ => ?_) (fun _ => ?_)
      · rw [if_neg c2]
        repeat' first | refine V_cHY rfl rfl hlt ?_ | refine O_cA rfl rfl h1 ?_ | refine O_cA rfl rfl h2 ?_ | refine O_is (dec_is c1) rfl ?_ | refine O_is (ndec_not c2) rfl ?_ | refine V_out [(8, .int .i64 0), (9, .int .i64 (g (f i).1).2)] rfl ⟨rfl, rfl, trivial⟩ (.inr ⟨rfl, _, rfl, rfl⟩) | refine V_O rfl ?_ | refine O_step rfl ?_ | refine O_nil' ?_ | refine V_cT rfl rfl ?_ | refine V_cF rfl rfl ?_ | refine V_cEq rfl rfl ?_ | refine V_cNe rfl rfl ?_ | refine V_cB rfl rfl (fun _ => ?_) (fun _ => ?_) | refine O_gT' rfl ?_ | refine O_gU' rfl ?_ | refine O_gF' rfl rfl ?_ | refine O_gEq rfl ?_ | refine O_gNe rfl ?_ | refine O_gS rfl (fun _ => ?_) (fun _ => ?_) | refine V_fA rfl rfl ?_ | refine V_fAN rfl rfl ?_ | refine V_D rfl ?_ | refine D_step rfl ?_ | refine D_nil' ?_ | refine D_gT' rfl ?_ | refine D_gU' rfl ?_ | refine D_gF' rfl rfl ?_ | refine D_gS rfl (fun _ => ?_) (fun _ => ?_)
    · rw [if_neg c1]
      repeat' first | refine V_cHY rfl rfl hlt ?_ | refine O_cA rfl rfl h1 ?_ | refine O_is (dec_not c1) rfl ?_ | refine O_is (ndec_not c1) rfl ?_ | refine V_out [(8, .int .i64 0), (9, .int .i64 (f i).2)] rfl ⟨rfl, rfl, trivial⟩ (.inr ⟨rfl, _, rfl, rfl⟩) | refine V_O rfl ?_ | refine O_step rfl ?_ | refine O_nil' ?_ | refine V_cT rfl rfl ?_ | refine V_cF rfl rfl ?_ | refine V_cEq rfl rfl ?_ | refine V_cNe rfl rfl ?_ | refine V_cB rfl rfl (fun _ => ?_) (fun _ => ?_) | refine O_gT' rfl ?_ | refine O_gU' rfl ?_ | refine O_gF' rfl rfl ?_ | refine O_gEq rfl ?_ | refine O_gNe rfl ?_ | refine O_gS rfl (fun _ => ?_) (fun _ => ?_) | refine V_fA rfl rfl ?_ | refine V_fAN rfl rfl ?_ | refine V_D rfl ?_ | refine D_step rfl ?_ | refine D_nil' ?_ | refine D_gT' rfl ?_ | refine D_gU' rfl ?_ | refine D_gF' rfl rfl ?_ | refine D_gS rfl (fun _ => ?_) (fun _ => ?_)
theorem run_times {q o : PV} {f g : KF} (hf : Tells q f) (hg : Tells o g) (hm : Mono f) (plq : Pl q) (plo : Pl o) {i : Nat} (hi : KS i) {n : Int} (hn : 0 < n) : T.R (.call n_check_times [.int .i64 (i : Int), .int .i64 n, q, o] (inP (timesF f g (if n < 128 then n else 128).toNat 0 i))) := by
  generalize hK : (if n < 128 then n else 128).toNat = K
  have hK1 : K ≤ 128 := by rw [← hK]; split <;> omega
  have hl := times_loop hf hg hm plq plo K hK1 K 0 0 i (by omega) (sub_zero _) hi
  have e1 : PV.int .i64 (if false = true then (if (128 : Int) > n then 128 else n) else (if (128 : Int) < n then 128 else n)) = PV.int .i64 (K : Int) := int_is (by
    rw [← hK, if_neg (by simp)]
    split <;> split <;> omega)
  refine call_V rfl rfl ?_
  repeat' first | refine O_is e1 rfl ?_ | refine V_cutTo rfl hl ⟨rfl, rfl, rfl, rfl, rfl, rfl, trivial⟩ ?_ | refine V_O rfl ?_ | refine O_step rfl ?_ | refine O_nil' ?_ | refine V_cT rfl rfl ?_ | refine V_cF rfl rfl ?_ | refine V_cEq rfl rfl ?_ | refine V_cNe rfl rfl ?_ | refine V_cB rfl rfl (fun _ => ?_) (fun _ => ?_) | refine O_gT' rfl ?_ | refine O_gU' rfl ?_ | refine O_gF' rfl rfl ?_ | refine O_gEq rfl ?_ | refine O_gNe rfl ?_ | refine O_gS rfl (fun _ => ?_) (fun _ => ?_) | refine V_fA rfl rfl ?_ | refine V_fAN rfl rfl ?_ | refine V_D rfl ?_ | refine D_step rfl ?_ | refine D_nil' ?_ | refine D_gT' rfl ?_ | refine D_gU' rfl ?_ | refine D_gF' rfl rfl ?_ | refine D_gS rfl (fun _ => ?_) (fun _ => ?_)
  rintro x e' st' (⟨rfl, m, rfl, hm⟩ | ⟨rfl, c, rfl, hm⟩)
  · rw [hm]
    repeat' first | refine V_O rfl ?_ | refine O_step rfl ?_ | refine O_nil' ?_ | refine V_cT rfl rfl ?_ | refine V_cF rfl rfl ?_ | refine V_cEq rfl rfl ?_ | refine V_cNe rfl rfl ?_ | refine V_cB rfl rfl (fun _ => ?_) (fun _ => ?_) | refine O_gT' rfl ?_ | refine O_gU' rfl ?_ | refine O_gF' rfl rfl ?_ | refine O_gEq rfl ?_ | refine O_gNe rfl ?_ | refine O_gS rfl (fun _ => ?_) (fun _ => ?_) | refine V_fA rfl rfl ?_ | refine V_fAN rfl rfl ?_ | refine V_D rfl ?_ | refine D_step rfl ?_ | refine D_nil' ?_ | refine D_gT' rfl ?_ | refine D_gU' rfl ?_ | refine D_gF' rfl rfl ?_ | refine D_gS rfl (fun _ => ?_) (fun _ => ?_)
    rfl
  · rw [hm]
    repeat' first | refine V_O rfl ?_ | refine O_step rfl ?_ | refine O_nil' ?_ | refine V_cT rfl rfl ?_ | refine V_cF rfl rfl ?_ | refine V_cEq rfl rfl ?_ | refine V_cNe rfl rfl ?_ | refine V_cB rfl rfl (fun _ => ?_) (fun _ => ?_) | refine O_gT' rfl ?_ | refine O_gU' rfl ?_ | refine O_gF' rfl rfl ?_ | refine O_gEq rfl ?_ | refine O_gNe rfl ?_ | refine O_gS rfl (fun _ => ?_) (fun _ => ?_) | refine V_fA rfl rfl ?_ | refine V_fAN rfl rfl ?_ | refine V_D rfl ?_ | refine D_step rfl ?_ | refine D_nil' ?_ | refine D_gT' rfl ?_ | refine D_gU' rfl ?_ | refine D_gF' rfl rfl ?_ | refine D_gS rfl (fun _ => ?_) (fun _ => ?_)
    rfl
def ik (n : Nat) : List PV := [.int .i64 (n : Int)]
theorem outs_loop {pe : PV} {subs : List (List Stp)} {n : Nat} (hp : LR (SubC (SC n)) pe subs) (hd : ∀ x ∈ subs, ∀ q, SL n q x → Tells q (inferF (lF x))) (hlen : subs.length ≤ 32) (i : Nat) (hi : KS i) (cs : List PV) :
    ∀ (rest pre : List (List Stp)) (acc : List Nat) (st : St) (v : PV), subs = pre ++ rest → acc.length = pre.length → AccT 1 st v (acc.map ik) → st.get 0 = some (.var cs) → tokOf v ≠ some 0 → 0 < st.next →
    V T (PE fun x e st' => (x = .exit 1 ∧ (outsF (llF rest) i).2 = 0 ∧ st'.get 0 = some (.var cs) ∧ ∃ v', e = ecOf [(0, .int .i64 (i : Int)), (3, .ptr 0 0), (8, v')] ∧ AccT 1 st' v' ((acc ++ (outsF (llF rest) i).1).map ik)) ∨ (x = .ret ∧ (outsF (llF rest) i).2 ≠ 0 ∧ e = ecOf [(4, .int .i64 0), (5, .int .i64 (outsF (llF rest) i).2)]))
      [.code (.loop lp_check_within_1)] .normal (ecOf [(0, .int .i64 (i : Int)), (3, .ptr 0 0), (8, v), (66, pe), (67, .int .i64 subs.length), (68, .int .i64 pre.length)]) st := by
  have ple : Pl pe := LR.pl hp fun _ _ _ h => h.pl fun _ _ h => h.pl
  intro rest
  induction rest with
  | nil =>
    intro pre acc st v ha hal hA hg0 hv0 hn0
    have hlt : ¬ (pre.length : Int) < subs.length := by subst ha; simp
    refine V_unroll ?_
    repeat' first | refine V_cHF rfl rfl hlt ?_ | refine V_out [(0, .int .i64 (i : Int)), (3, .ptr 0 0), (8, v)] rfl ⟨rfl, rfl, rfl, trivial⟩ (.inl ⟨rfl, rfl, hg0, v, rfl, by rw [llF, outsF, List.append_nil]; exact hA⟩) | refine V_O rfl ?_ | refine O_step rfl ?_ | refine O_nil' ?_ | refine V_cT rfl rfl ?_ | refine V_cF rfl rfl ?_ | refine V_cEq rfl rfl ?_ | refine V_cNe rfl rfl ?_ | refine V_cB rfl rfl (fun _ => ?_) (fun _ => ?_) | refine O_gT' rfl ?_ | refine O_gU' rfl ?_ | refine O_gF' rfl rfl ?_ | refine O_gEq rfl ?_ | refine O_gNe rfl ?_ | refine O_gS rfl (fun _ => ?_) (fun _ => ?_) | refine V_fA rfl rfl ?_ | refine V_fAN rfl rfl ?_ | refine V_D rfl ?_ | refine D_step rfl ?_ | refine D_nil' ?_ | refine D_gT' rfl ?_ | refine D_gU' rfl ?_ | refine D_gF' rfl rfl ?_ | refine D_gS rfl (fun _ => ?_) (fun _ => ?_)
  | cons y rest ih =>
    intro pre acc st v ha hal hA hg0 hv0 hn0
    have hlt : (pre.length : Int) < subs.length := by subst ha; simp; omega
    have hll : pre.length < subs.length := by subst ha; simp
    have hy : subs[pre.length]? = some y := by subst ha; simp
    obtain ⟨cy, ay, q, rfl, hq⟩ := hp.at (sz := 1) (fun _ _ h => h.len1) hy
    have plq := SL.pl hq
    have hcall := hd y (by subst ha; simp) q hq i hi
    unfold inP at hcall
    have hw : IntKind.i64.wrap ((pre.length : Int) + 1) = ((pre ++ [y]).length : Int) := by rw [wrap_i64]; simp; omega
    rw [llF, outsF]
    refine V_unroll ?_
    by_cases c1 : (inferF (lF y) i).2 = 0
    · rw [if_pos c1]
      obtain ⟨v', st', k1, k2, k3⟩ := hA.grow (bytes := 8) (src := [ik (inferF (lF y) i).1]) (by simp) (by simp only [List.length_map, List.length_singleton, roomLen]; omega)
      have hf : (acc ++ [(inferF (lF y) i).1]).map ik = acc.map ik ++ [ik (inferF (lF y) i).1] := by simp
      have hg0' : st'.get 0 = some (.var cs) := by rw [k3.2.2.2 0 hn0 hv0]; exact hg0
      have hv0' : tokOf v' ≠ some 0 := by
        rcases k3.2.2.1 with h | ⟨u, h, hu⟩
        · rw [h]; exact hv0
        · rw [h]; intro e; injection e; omega
      have hi' := ih (pre ++ [y]) (acc ++ [(inferF (lF y) i).1]) st' v' (by rw [ha]; simp) (by simp [hal]) (by rw [hf]; exact k2) hg0' hv0' (by have := k3.2.1; omega)
      have hres : (if (outsF (llF rest) i).2 = 0 then ((inferF (lF y) i).1 :: (outsF (llF rest) i).1, (0 : Int)) else ([], (outsF (llF rest) i).2)).2 = (outsF (llF rest) i).2 := by
        by_cases c2 : (outsF (llF rest) i).2 = 0
        · rw [if_pos c2, c2]
        · rw [if_neg c2]
      have hwalk : V T (PE fun x e st' => (x = .exit 1 ∧ (outsF (llF rest) i).2 = 0 ∧ st'.get 0 = some (.var cs) ∧ ∃ v', e = ecOf [(0, .int .i64 (i : Int)), (3, .ptr 0 0), (8, v')] ∧ AccT 1 st' v' ((acc ++ [(inferF (lF y) i).1] ++ (outsF (llF rest) i).1).map ik)) ∨ (x = .ret ∧ (outsF (llF rest) i).2 ≠ 0 ∧ e = ecOf [(4, .int .i64 0), (5, .int .i64 (outsF (llF rest) i).2)])) [.code lp_check_within_1, .code (.loop lp_check_within_1)] .normal (ecOf [(0, .int .i64 (i : Int)), (3, .ptr 0 0), (8, v), (66, pe), (67, .int .i64 subs.length), (68, .int .i64 pre.length)]) st := by
        repeat' first | refine V_cHY rfl rfl hlt ?_ | refine O_at rfl rfl ay ?_ | refine O_cA rfl rfl hcall ?_ | refine O_is (ndec_is c1) rfl ?_ | refine O_append rfl rfl rfl rfl (by decide) (by decide) k1 ?_ | refine V_re rfl hi' ⟨rfl, rfl, rfl, rfl, rfl, some_int hw, trivial⟩ | refine V_O rfl ?_ | refine O_step rfl ?_ | refine O_nil' ?_ | refine V_cT rfl rfl ?_ | refine V_cF rfl rfl ?_ | refine V_cEq rfl rfl ?_ | refine V_cNe rfl rfl ?_ | refine V_cB rfl rfl (fun _ => ?_) (fun _ => ?_) | refine O_gT' rfl ?_ | refine O_gU' rfl ?_ | refine O_gF' rfl rfl ?_ | refine O_gEq rfl ?_ | refine O_gNe rfl ?_ | refine O_gS rfl (fun _ => ?_) (fun _ => ?_) | refine V_fA rfl rfl ?_ | refine V_fAN rfl rfl ?_ | refine V_D rfl ?_ | refine D_step rfl ?_ | refine D_nil' ?_ | refine D_gT' rfl ?_ | refine D_gU' rfl ?_ | refine D_gF' rfl rfl ?_ | refine D_gS rfl (fun _ => ?_) (fun _ => ?_)
      refine V_monoP hwalk ?_
      rintro x e st'' (⟨rfl, h0, h1, v'', rfl, h2⟩ | ⟨rfl, h0, rfl⟩)
      · refine .inl ⟨rfl, by rw [hres]; exact h0, h1, v'', rfl, ?_⟩
        rw [if_pos h0]
        simpa using h2
      · exact .inr ⟨rfl, by rw [hres]; exact h0, by rw [hres]⟩
    · rw [if_neg c1]
      repeat' first | refine V_cHY rfl rfl hlt ?_ | refine O_at rfl rfl ay ?_ | refine O_cA rfl rfl hcall ?_ | refine O_is (ndec_not c1) rfl ?_ | refine V_out [(4, .int .i64 0), (5, .int .i64 (inferF (lF y) i).2)] rfl ⟨rfl, rfl, trivial⟩ (.inr ⟨rfl, c1, rfl⟩) | refine V_O rfl ?_ | refine O_step rfl ?_ | refine O_nil' ?_ | refine V_cT rfl rfl ?_ | refine V_cF rfl rfl ?_ | refine V_cEq rfl rfl ?_ | refine V_cNe rfl rfl ?_ | refine V_cB rfl rfl (fun _ => ?_) (fun _ => ?_) | refine O_gT' rfl ?_ | refine O_gU' rfl ?_ | refine O_gF' rfl rfl ?_ | refine O_gEq rfl ?_ | refine O_gNe rfl ?_ | refine O_gS rfl (fun _ => ?_) (fun _ => ?_) | refine V_fA rfl rfl ?_ | refine V_fAN rfl rfl ?_ | refine V_D rfl ?_ | refine D_step rfl ?_ | refine D_nil' ?_ | refine D_gT' rfl ?_ | refine D_gU' rfl ?_ | refine D_gF' rfl rfl ?_ | refine D_gS rfl (fun _ => ?_) (fun _ => ?_)
theorem Win.idx {sz : Nat} {st : St} {v : PV} {es : List (List PV)} (h : Win sz st v es) {j : Nat} {e : List PV} (he : es[j]? = some e) (hs : ∀ e ∈ es, e.length = sz) {k : IntKind} : ∃ p, indexS? st.get sz (j : Int) v = some p ∧ loadAt st.get sz true p = some (.agg e) ∧ (∀ c, e = [c] → loadAt st.get 1 false p = some c) := by
  rcases h with ⟨rfl, rfl⟩ | ⟨t, g, off, f, rs, lv, rfl, hg, hb, hw⟩
  · simp at he
  · have hlt := (List.getElem?_eq_some_iff.1 he).1
    have hr : rs[off + j]? = some e := by
      rw [← hw, List.getElem?_take_of_lt hlt, List.getElem?_drop] at he
      exact he
    have hel := hs e (List.mem_of_getElem? he)
    have hj : (0 : Int) ≤ (j : Int) ∧ (j : Int) < es.length := by omega
    refine ⟨.rptr t g (off + j) 0, ?_, ?_, ?_⟩
    · simp only [indexS?]
      rw [if_pos hj, hg]
      simp
    · simp [loadAt, behind, hg, hr, slice?, ← hel]
    · rintro c rfl
      simp [loadAt, behind, hg, hr, slice?]
section
variable {Q : Post} {k : List Fr} {ρ : EC} {st : St} {l : List POp} {kill : List Nat}
theorem O_idxW {d : Option Nat} {x i : Opd} {sz : Nat} {v p : PV} {kk : IntKind} {n : Int} (hx : x.get ρ = some v) (hi : i.get ρ = some (.int kk n)) (hp : indexS? st.get sz n v = some p) (h : VO T Q l kill k (ρ.sets d p) st) : VO T Q (⟨d, none, .indexS x i sz⟩ :: l) kill k ρ st :=
  O_step (by simp only [stepQ, get2, hx, hi, indexed]; exact hp) h
end
theorem or_loop {st : St} {v : PV} {es : List Nat} (hv : Win 1 st v (es.map ik)) (hk : ∀ x ∈ es, KS x) (hlen : es.length ≤ 140737488355329) : ∀ (rest pre : List Nat) (acc : Nat), es = pre ++ rest → KS acc →
    V T (PE fun x e st' => x = .exit 4 ∧ e = ecOf [(13, .int .i64 ((rest.foldl (· ||| ·) acc : Nat) : Int))]) [.code (.loop lp_check_within_0)] .normal (ecOf [(13, .int .i64 (acc : Int)), (104, v), (105, .int .i64 es.length), (106, .int .i64 pre.length)]) st := by
  intro rest
  induction rest with
  | nil =>
    intro pre acc ha hka
    have hlt : ¬ (pre.length : Int) < es.length := by subst ha; simp
    refine V_unroll ?_
    repeat' first | refine V_cHF rfl rfl hlt ?_ | refine V_out [(13, .int .i64 (acc : Int))] rfl ⟨rfl, trivial⟩ ⟨rfl, rfl⟩ | refine V_O rfl ?_ | refine O_step rfl ?_ | refine O_nil' ?_ | refine V_cT rfl rfl ?_ | refine V_cF rfl rfl ?_ | refine V_cEq rfl rfl ?_ | refine V_cNe rfl rfl ?_ | refine V_cB rfl rfl (fun _ => ?_) (fun _ => ?_) | refine O_gT' rfl ?_ | refine O_gU' rfl ?_ | refine O_gF' rfl rfl ?_ | refine O_gEq rfl ?_ | refine O_gNe rfl ?_ | refine O_gS rfl (fun _ => ?_) (fun _ => ?_) | refine V_fA rfl rfl ?_ | refine V_fAN rfl rfl ?_ | refine V_D rfl ?_ | refine D_step rfl ?_ | refine D_nil' ?_ | refine D_gT' rfl ?_ | refine D_gU' rfl ?_ | refine D_gF' rfl rfl ?_ | refine D_gS rfl (fun _ => ?_) (fun _ => ?_)
  | cons y rest ih =>
    intro pre acc ha hka
    have hlt : (pre.length : Int) < es.length := by subst ha; simp; omega
    have hll : pre.length < es.length := by subst ha; simp
    have hky := hk y (by subst ha; simp)
    have hy : (es.map ik)[pre.length]? = some (ik y) := by subst ha; simp
    obtain ⟨p, p1, p2, p3⟩ := Win.idx hv hy (fun e he => by obtain ⟨_, _, rfl⟩ := List.mem_map.1 he; rfl) (k := .i64)
    have p4 := p3 _ rfl
    have hw : IntKind.i64.wrap ((pre.length : Int) + 1) = ((pre ++ [y]).length : Int) := by rw [wrap_i64]; simp; omega
    have hi := ih (pre ++ [y]) (acc ||| y) (by rw [ha]; simp) (sub_or hka hky)
    have e2 := int_is (k := .i64) (or_is hka hky)
    rw [List.foldl_cons]
    refine V_unroll ?_
    repeat' first | refine V_cHY rfl rfl hlt ?_ | refine O_idxW rfl rfl p1 ?_ | refine O_loadG rfl p4 ?_ | refine O_is e2 rfl ?_ | refine V_re rfl hi ⟨rfl, rfl, rfl, some_int hw, trivial⟩ | refine V_O rfl ?_ | refine O_step rfl ?_ | refine O_nil' ?_ | refine V_cT rfl rfl ?_ | refine V_cF rfl rfl ?_ | refine V_cEq rfl rfl ?_ | refine V_cNe rfl rfl ?_ | refine V_cB rfl rfl (fun _ => ?_) (fun _ => ?_) | refine O_gT' rfl ?_ | refine O_gU' rfl ?_ | refine O_gF' rfl rfl ?_ | refine O_gEq rfl ?_ | refine O_gNe rfl ?_ | refine O_gS rfl (fun _ => ?_) (fun _ => ?_) | refine V_fA rfl rfl ?_ | refine V_fAN rfl rfl ?_ | refine V_D rfl ?_ | refine D_step rfl ?_ | refine D_nil' ?_ | refine D_gT' rfl ?_ | refine D_gU' rfl ?_ | refine D_gF' rfl rfl ?_ | refine D_gS rfl (fun _ => ?_) (fun _ => ?_)
end Go.Proofs.YtinojffgmgjblaaGreatDoor
