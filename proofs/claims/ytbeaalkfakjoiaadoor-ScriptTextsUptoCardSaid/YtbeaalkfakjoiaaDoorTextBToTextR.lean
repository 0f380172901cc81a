/- rambleref01.Parse. · rambleref01.Digits and Text. -/
import Derived.Test.YtbeaalkfakjoiaaDoorNumBToTextA
set_option linter.unusedVariables false
set_option linter.unusedSimpArgs false
namespace Go.Proofs.YtbeaalkfakjoiaaDoor
open Go Go.AM Go.RowKit
def rparC (n : Nat) : PC := (List.range n).foldl (fun c _ => match c with | .seq _ b => b | c => c) pf_rambleref01_Parse.body
def rp0 (neg : Bool) (d : List UInt8) : EX → EC → St → Prop := fun x e st => st = emptySt ∧ ((x = .exit 0 ∧ e = ecOf [(4, .bool neg), (5, .str d)] ∧ ∀ c ∈ d, IsD c) ∨ (x = .ret ∧ e = ecOf [(2, .int .i64 0), (3, .int .i64 10)] ∧ ¬ ∀ c ∈ d, IsD c))
theorem rp0_loop (neg : Bool) (d : List UInt8) (hb : d.length ≤ 9223372036854775800) : ∀ (rest pre : List UInt8), d = pre ++ rest → (∀ c ∈ pre, IsD c) →
    V T (PE (rp0 neg d)) [.code (.loop lp_rambleref01_Parse_1)] .normal (ecOf [(4, .bool neg), (5, .str d), (6, .int .i64 pre.length)]) emptySt := by
  intro rest
  induction rest with
  | nil =>
    intro pre hl hpre
    have hlt : decide ((pre.length : Int) < d.length) = false := decide_eq_false (by subst hl; simp)
    refine V_unroll ?_
    repeat' first | ((with_reducible show V _ _ _ _ _ _); first | refine V_cH hlt rfl rfl ?_ | refine V_out [(4, .bool neg), (5, .str d)] rfl ⟨rfl, rfl, trivial⟩ ⟨rfl, .inl ⟨rfl, rfl, by rw [hl, List.append_nil]; exact hpre⟩⟩ | refine V_O rfl ?_ | refine V_cT rfl rfl ?_ | refine V_cF rfl rfl ?_ | refine V_cEq rfl rfl ?_ | refine V_cNe rfl rfl ?_ | refine V_cB rfl rfl (fun _ => ?_) (fun _ => ?_) | refine V_fA rfl rfl ?_ | refine V_fAN rfl rfl ?_ | refine V_D rfl ?_) | ((with_reducible show VO _ _ _ _ _ _ _); first | refine O_step rfl ?_ | refine O_nil' ?_ | refine O_gT' rfl ?_ | refine O_gU' rfl ?_ | refine O_gF' rfl rfl ?_ | refine O_gEq rfl ?_ | refine O_gNe rfl ?_ | refine O_gS rfl (fun _ => ?_) (fun _ => ?_)) | ((with_reducible show VD _ _ _ _ _ _ _); first | refine D_step rfl ?_ | refine D_nil' ?_ | refine D_gT' rfl ?_ | refine D_gU' rfl ?_ | refine D_gF' rfl rfl ?_ | refine D_gS rfl (fun _ => ?_) (fun _ => ?_))
  | cons c rest ih =>
    intro pre hl hpre
    have hlt : decide ((pre.length : Int) < d.length) = true := decide_eq_true (by subst hl; simp; omega)
    have hch : d[(pre.length : Int).toNat]? = some c := by subst hl; simp
    have hpl : pre.length < d.length := by subst hl; simp
    refine V_unroll ?_
    by_cases h1 : (c.toNat : Int) < 48
    · have hd : ¬ ∀ c ∈ d, IsD c := fun h => by have := (h c (by rw [hl]; simp)).1; omega
      repeat' first | ((with_reducible show V _ _ _ _ _ _); first | refine V_cHT hlt rfl rfl ?_ | refine V_out [(2, .int .i64 0), (3, .int .i64 10)] rfl ⟨rfl, rfl, trivial⟩ ⟨rfl, .inr ⟨rfl, rfl, hd⟩⟩ | refine V_O rfl ?_ | refine V_cT rfl rfl ?_ | refine V_cF rfl rfl ?_ | refine V_cEq rfl rfl ?_ | refine V_cNe rfl rfl ?_ | refine V_cB rfl rfl (fun _ => ?_) (fun _ => ?_) | refine V_fA rfl rfl ?_ | refine V_fAN rfl rfl ?_ | refine V_D rfl ?_) | ((with_reducible show VO _ _ _ _ _ _ _); first | refine O_chr c rfl rfl (by omega) hch ?_ | refine O_is (dec_is h1) rfl ?_ | refine O_step rfl ?_ | refine O_nil' ?_ | refine O_gT' rfl ?_ | refine O_gU' rfl ?_ | refine O_gF' rfl rfl ?_ | refine O_gEq rfl ?_ | refine O_gNe rfl ?_ | refine O_gS rfl (fun _ => ?_) (fun _ => ?_)) | ((with_reducible show VD _ _ _ _ _ _ _); first | refine D_step rfl ?_ | refine D_nil' ?_ | refine D_gT' rfl ?_ | refine D_gU' rfl ?_ | refine D_gF' rfl rfl ?_ | refine D_gS rfl (fun _ => ?_) (fun _ => ?_))
    · by_cases h2 : (57 : Int) < c.toNat
      · have hd : ¬ ∀ c ∈ d, IsD c := fun h => by have := (h c (by rw [hl]; simp)).2; omega
        repeat' first | ((with_reducible show V _ _ _ _ _ _); first | refine V_cHT hlt rfl rfl ?_ | refine V_out [(2, .int .i64 0), (3, .int .i64 10)] rfl ⟨rfl, rfl, trivial⟩ ⟨rfl, .inr ⟨rfl, rfl, hd⟩⟩ | refine V_O rfl ?_ | refine V_cT rfl rfl ?_ | refine V_cF rfl rfl ?_ | refine V_cEq rfl rfl ?_ | refine V_cNe rfl rfl ?_ | refine V_cB rfl rfl (fun _ => ?_) (fun _ => ?_) | refine V_fA rfl rfl ?_ | refine V_fAN rfl rfl ?_ | refine V_D rfl ?_) | ((with_reducible show VO _ _ _ _ _ _ _); first | refine O_chr c rfl rfl (by omega) hch ?_ | refine O_is (dec_not h1) rfl ?_ | refine O_is (dec_is h2) rfl ?_ | refine O_step rfl ?_ | refine O_nil' ?_ | refine O_gT' rfl ?_ | refine O_gU' rfl ?_ | refine O_gF' rfl rfl ?_ | refine O_gEq rfl ?_ | refine O_gNe rfl ?_ | refine O_gS rfl (fun _ => ?_) (fun _ => ?_)) | ((with_reducible show VD _ _ _ _ _ _ _); first | refine D_step rfl ?_ | refine D_nil' ?_ | refine D_gT' rfl ?_ | refine D_gU' rfl ?_ | refine D_gF' rfl rfl ?_ | refine D_gS rfl (fun _ => ?_) (fun _ => ?_))
      · have hw : IntKind.i64.wrap ((pre.length : Int) + 1) = ((pre ++ [c]).length : Int) := by rw [wrap_i64]; simp; omega
        have hi := ih (pre ++ [c]) (by rw [hl]; simp) (fun x h => by
          rcases List.mem_append.1 h with h | h
          · exact hpre x h
          · simp only [List.mem_singleton] at h
            subst h
            exact ⟨by omega, by omega⟩)
        repeat' first | ((with_reducible show V _ _ _ _ _ _); first | refine V_cHT hlt rfl rfl ?_ | refine V_re rfl hi ⟨rfl, rfl, some_int hw, trivial⟩ | refine V_O rfl ?_ | refine V_cT rfl rfl ?_ | refine V_cF rfl rfl ?_ | refine V_cEq rfl rfl ?_ | refine V_cNe rfl rfl ?_ | refine V_cB rfl rfl (fun _ => ?_) (fun _ => ?_) | refine V_fA rfl rfl ?_ | refine V_fAN rfl rfl ?_ | refine V_D rfl ?_) | ((with_reducible show VO _ _ _ _ _ _ _); first | refine O_chr c rfl rfl (by omega) hch ?_ | refine O_is (dec_not h1) rfl ?_ | refine O_is (dec_not h2) rfl ?_ | refine O_step rfl ?_ | refine O_nil' ?_ | refine O_gT' rfl ?_ | refine O_gU' rfl ?_ | refine O_gF' rfl rfl ?_ | refine O_gEq rfl ?_ | refine O_gNe rfl ?_ | refine O_gS rfl (fun _ => ?_) (fun _ => ?_)) | ((with_reducible show VD _ _ _ _ _ _ _); first | refine D_step rfl ?_ | refine D_nil' ?_ | refine D_gT' rfl ?_ | refine D_gU' rfl ?_ | refine D_gF' rfl rfl ?_ | refine D_gS rfl (fun _ => ?_) (fun _ => ?_))
def rp1 (neg : Bool) (d : List UInt8) (top : Nat) : EX → EC → St → Prop := fun x e st => st = emptySt ∧ ((x = .exit 2 ∧ e = ecOf [(4, .bool neg), (8, .int .u64 (valD 0 d))] ∧ valD 0 d ≤ top) ∨ (x = .ret ∧ e = ecOf [(2, .int .i64 0), (3, .int .i64 7)] ∧ top < valD 0 d))
theorem valD_app (a : Nat) (l m : List UInt8) : valD a (l ++ m) = valD (valD a l) m := by unfold valD; rw [List.foldl_append]
theorem rp1_loop (neg : Bool) (d : List UInt8) (hb : d.length ≤ 9223372036854775800) (hd : ∀ c ∈ d, IsD c) (top : Nat) (ht : 9 ≤ top ∧ top ≤ 9223372036854775808) : ∀ (rest pre : List UInt8), d = pre ++ rest → valD 0 pre ≤ top →
    V T (PE (rp1 neg d top)) [.code (.loop lp_rambleref01_Parse_0)] .normal (ecOf [(4, .bool neg), (5, .str d), (7, .int .u64 top), (8, .int .u64 (valD 0 pre)), (9, .int .i64 pre.length)]) emptySt := by
  intro rest
  induction rest with
  | nil =>
    intro pre hl hpre
    have hlt : decide ((pre.length : Int) < d.length) = false := decide_eq_false (by subst hl; simp)
    have hpd : pre = d := by rw [hl, List.append_nil]
    subst hpd
    refine V_unroll ?_
    repeat' first | ((with_reducible show V _ _ _ _ _ _); first | refine V_cH hlt rfl rfl ?_ | refine V_out [(4, .bool neg), (8, .int .u64 (valD 0 pre))] rfl ⟨rfl, rfl, trivial⟩ ⟨rfl, .inl ⟨rfl, rfl, hpre⟩⟩ | refine V_O rfl ?_ | refine V_cT rfl rfl ?_ | refine V_cF rfl rfl ?_ | refine V_cEq rfl rfl ?_ | refine V_cNe rfl rfl ?_ | refine V_cB rfl rfl (fun _ => ?_) (fun _ => ?_) | refine V_fA rfl rfl ?_ | refine V_fAN rfl rfl ?_ | refine V_D rfl ?_) | ((with_reducible show VO _ _ _ _ _ _ _); first | refine O_step rfl ?_ | refine O_nil' ?_ | refine O_gT' rfl ?_ | refine O_gU' rfl ?_ | refine O_gF' rfl rfl ?_ | refine O_gEq rfl ?_ | refine O_gNe rfl ?_ | refine O_gS rfl (fun _ => ?_) (fun _ => ?_)) | ((with_reducible show VD _ _ _ _ _ _ _); first | refine D_step rfl ?_ | refine D_nil' ?_ | refine D_gT' rfl ?_ | refine D_gU' rfl ?_ | refine D_gF' rfl rfl ?_ | refine D_gS rfl (fun _ => ?_) (fun _ => ?_))
  | cons c rest ih =>
    intro pre hl hpre
    have hlt : decide ((pre.length : Int) < d.length) = true := decide_eq_true (by subst hl; simp; omega)
    have hch : d[(pre.length : Int).toNat]? = some c := by subst hl; simp
    have hpl : pre.length < d.length := by subst hl; simp
    have hc := hd c (by rw [hl]; simp)
    obtain ⟨hc1, hc2⟩ := hc
    have hval : valD 0 d = valD (valD 0 pre * 10 + (c.toNat - 48)) rest := by rw [hl, valD_app, valD_cons]
    have hle := valD_le rest (valD 0 pre * 10 + (c.toNat - 48))
    have hsn := valD_snoc pre c 0
    generalize valD 0 pre = u at *
    obtain ⟨k, hk⟩ : ∃ k, c.toNat - 48 = k := ⟨_, rfl⟩
    rw [hk] at hval hle hsn
    have e1 : PV.int .u8 (IntKind.u8.wrap ((c.toNat : Int) - 48)) = PV.int .u8 (k : Int) := int_is (by rw [wrap_u8]; omega)
    have e2 : PV.int .u64 (IntKind.u64.wrap (k : Int)) = PV.int .u64 (k : Int) := int_is (by rw [wrap_u64]; omega)
    have e3 : PV.int .u64 (IntKind.u64.wrap ((top : Int) - k)) = PV.int .u64 ((top - k : Nat) : Int) := int_is (by rw [wrap_u64]; omega)
    have e4 : PV.int .u64 (IntKind.u64.wrap (((top - k : Nat) : Int).tdiv 10)) = PV.int .u64 (((top - k) / 10 : Nat) : Int) := int_is (by
      have : ((top - k : Nat) : Int).tdiv 10 = (((top - k) / 10 : Nat) : Int) := by rw [Int.tdiv_eq_ediv_of_nonneg (by omega)]; omega
      rw [this, wrap_u64]; omega)
    refine V_unroll ?_
    by_cases hov : ((((top - k) / 10 : Nat)) : Int) < u
    · have hfin : top < valD 0 d := by rw [hval]; omega
      repeat' first | ((with_reducible show V _ _ _ _ _ _); first | refine V_cHT hlt rfl rfl ?_ | refine V_cHT (decide_eq_true hov) rfl rfl ?_ | refine V_out [(2, .int .i64 0), (3, .int .i64 7)] rfl ⟨rfl, rfl, trivial⟩ ⟨rfl, .inr ⟨rfl, rfl, hfin⟩⟩ | refine V_O rfl ?_ | refine V_cT rfl rfl ?_ | refine V_cF rfl rfl ?_ | refine V_cEq rfl rfl ?_ | refine V_cNe rfl rfl ?_ | refine V_cB rfl rfl (fun _ => ?_) (fun _ => ?_) | refine V_fA rfl rfl ?_ | refine V_fAN rfl rfl ?_ | refine V_D rfl ?_) | ((with_reducible show VO _ _ _ _ _ _ _); first | refine O_chr c rfl rfl (by omega) hch ?_ | refine O_is e1 rfl ?_ | refine O_is e2 rfl ?_ | refine O_is e3 rfl ?_ | refine O_is e4 rfl ?_ | refine O_step rfl ?_ | refine O_nil' ?_ | refine O_gT' rfl ?_ | refine O_gU' rfl ?_ | refine O_gF' rfl rfl ?_ | refine O_gEq rfl ?_ | refine O_gNe rfl ?_ | refine O_gS rfl (fun _ => ?_) (fun _ => ?_)) | ((with_reducible show VD _ _ _ _ _ _ _); first | refine D_step rfl ?_ | refine D_nil' ?_ | refine D_gT' rfl ?_ | refine D_gU' rfl ?_ | refine D_gF' rfl rfl ?_ | refine D_gS rfl (fun _ => ?_) (fun _ => ?_))
    · have e5 : PV.int .u64 (IntKind.u64.wrap ((u : Int) * 10)) = PV.int .u64 ((u * 10 : Nat) : Int) := int_is (by rw [wrap_u64]; omega)
      have e6 : PV.int .u64 (IntKind.u64.wrap (((u * 10 : Nat) : Int) + k)) = PV.int .u64 ((u * 10 + k : Nat) : Int) := int_is (by rw [wrap_u64]; omega)
      have hw : IntKind.i64.wrap ((pre.length : Int) + 1) = ((pre ++ [c]).length : Int) := by rw [wrap_i64]; simp; omega
      have hi := ih (pre ++ [c]) (by rw [hl]; simp) (by rw [hsn]; omega)
      rw [hsn] at hi
      repeat' first | ((with_reducible show V _ _ _ _ _ _); first | refine V_cHT hlt rfl rfl ?_ | refine V_cH (decide_eq_false hov) rfl rfl ?_ | refine V_re rfl hi ⟨rfl, rfl, rfl, rfl, some_int hw, trivial⟩ | refine V_O rfl ?_ | refine V_cT rfl rfl ?_ | refine V_cF rfl rfl ?_ | refine V_cEq rfl rfl ?_ | refine V_cNe rfl rfl ?_ | refine V_cB rfl rfl (fun _ => ?_) (fun _ => ?_) | refine V_fA rfl rfl ?_ | refine V_fAN rfl rfl ?_ | refine V_D rfl ?_) | ((with_reducible show VO _ _ _ _ _ _ _); first | refine O_chr c rfl rfl (by omega) hch ?_ | refine O_is e1 rfl ?_ | refine O_is e2 rfl ?_ | refine O_is e3 rfl ?_ | refine O_is e4 rfl ?_ | refine O_is e5 rfl ?_ | refine O_is e6 rfl ?_ | refine O_step rfl ?_ | refine O_nil' ?_ | refine O_gT' rfl ?_ | refine O_gU' rfl ?_ | refine O_gF' rfl rfl ?_ | refine O_gEq rfl ?_ | refine O_gNe rfl ?_ | refine O_gS rfl (fun _ => ?_) (fun _ => ?_)) | ((with_reducible show VD _ _ _ _ _ _ _); first | refine D_step rfl ?_ | refine D_nil' ?_ | refine D_gT' rfl ?_ | refine D_gU' rfl ?_ | refine D_gF' rfl rfl ?_ | refine D_gS rfl (fun _ => ?_) (fun _ => ?_))
theorem rpar3 {s : List UInt8} (hs : s.length ≤ 281474976710656) : ∀ (neg : Bool), neg = decide (s.head? = some 45) → ∀ (fr : List Fr) (x : EX), adv 200 fr x = adv 200 [.code (rparC 4)] .normal → V T (Go.AM.Ends pf_rambleref01_Parse (· = two (parT s))) fr x (ecOf [(4, .bool neg), (5, .str (bodyD s))]) emptySt := by
  intro neg hneg fr x hadv
  have hbl : (bodyD s).length ≤ s.length := by unfold bodyD; split <;> simp
  have fin0 : ∀ (c : UInt8) (r : List UInt8), bodyD s = c :: r → ((c :: r).head? = some 48 → s = [48]) → ∀ (fr : List Fr) (x : EX), adv 200 fr x = adv 200 [.code (rparC 5)] .normal → V T (Go.AM.Ends pf_rambleref01_Parse (· = two (parT s))) fr x (ecOf [(4, .bool neg), (5, .str (c :: r))]) emptySt := by
    intro c r hb h48 fr x hadv
    have h0 := rp0_loop neg (c :: r) (by rw [← hb]; omega) (c :: r) [] rfl (fun c h => by cases h)
    refine V_adv (hadv.trans rfl) ?_
    repeat' first | ((with_reducible show V _ _ _ _ _ _); first | refine V_cutTo rfl h0 ⟨rfl, rfl, rfl, trivial⟩ ?_ | refine V_O rfl ?_ | refine V_cT rfl rfl ?_ | refine V_cF rfl rfl ?_ | refine V_cEq rfl rfl ?_ | refine V_cNe rfl rfl ?_ | refine V_cB rfl rfl (fun _ => ?_) (fun _ => ?_) | refine V_fA rfl rfl ?_ | refine V_fAN rfl rfl ?_ | refine V_D rfl ?_) | ((with_reducible show VO _ _ _ _ _ _ _); first | refine O_step rfl ?_ | refine O_nil' ?_ | refine O_gT' rfl ?_ | refine O_gU' rfl ?_ | refine O_gF' rfl rfl ?_ | refine O_gEq rfl ?_ | refine O_gNe rfl ?_ | refine O_gS rfl (fun _ => ?_) (fun _ => ?_)) | ((with_reducible show VD _ _ _ _ _ _ _); first | refine D_step rfl ?_ | refine D_nil' ?_ | refine D_gT' rfl ?_ | refine D_gU' rfl ?_ | refine D_gF' rfl rfl ?_ | refine D_gS rfl (fun _ => ?_) (fun _ => ?_))
    rintro x1 e1 st1 ⟨rfl, ⟨rfl, rfl, hd⟩ | ⟨rfl, rfl, hd⟩⟩
    · have hg : GoodD s := ⟨by rw [hb]; simp, by rw [hb]; exact hd, by rw [hb]; exact h48⟩
      rw [par_good hg]
      have key : ∀ (top : Nat), 9 ≤ top ∧ top ≤ 9223372036854775808 → (valD 0 (c :: r) ≤ top ↔ R64 (sgnD s)) → V T (PE (rp1 neg (c :: r) top)) [.code (.loop lp_rambleref01_Parse_0)] .normal (ecOf [(4, .bool neg), (5, .str (c :: r)), (7, .int .u64 top), (8, .int .u64 ((0 : Nat) : Int)), (9, .int .i64 ((0 : Nat) : Int))]) emptySt := fun top ht _ => rp1_loop neg (c :: r) (by rw [← hb]; omega) hd top ht (c :: r) [] rfl (Nat.zero_le _)
      have hsg : sgnD s = if neg = true then -(valD 0 (c :: r) : Int) else valD 0 (c :: r) := by
        unfold sgnD
        rw [hb]
        subst hneg
        by_cases h : s.head? = some 45 <;> simp [h]
      cases neg with
      | true =>
        have hR : valD 0 (c :: r) ≤ 9223372036854775808 ↔ R64 (sgnD s) := by rw [hsg]; unfold R64; simp; omega
        have h1 := key 9223372036854775808 (by omega) hR
        repeat' first | ((with_reducible show V _ _ _ _ _ _); first | refine V_cutTo rfl h1 ⟨rfl, rfl, rfl, rfl, rfl, trivial⟩ ?_ | refine V_O rfl ?_ | refine V_cT rfl rfl ?_ | refine V_cF rfl rfl ?_ | refine V_cEq rfl rfl ?_ | refine V_cNe rfl rfl ?_ | refine V_cB rfl rfl (fun _ => ?_) (fun _ => ?_) | refine V_fA rfl rfl ?_ | refine V_fAN rfl rfl ?_ | refine V_D rfl ?_) | ((with_reducible show VO _ _ _ _ _ _ _); first | refine O_step rfl ?_ | refine O_nil' ?_ | refine O_gT' rfl ?_ | refine O_gU' rfl ?_ | refine O_gF' rfl rfl ?_ | refine O_gEq rfl ?_ | refine O_gNe rfl ?_ | refine O_gS rfl (fun _ => ?_) (fun _ => ?_)) | ((with_reducible show VD _ _ _ _ _ _ _); first | refine D_step rfl ?_ | refine D_nil' ?_ | refine D_gT' rfl ?_ | refine D_gU' rfl ?_ | refine D_gF' rfl rfl ?_ | refine D_gS rfl (fun _ => ?_) (fun _ => ?_))
        rintro x2 e2 st2 ⟨rfl, ⟨rfl, rfl, hle⟩ | ⟨rfl, rfl, hlt⟩⟩
        · have hr := hR.1 hle
          have hsn := run_signed true (valD 0 (c :: r)) (by omega)
          have hv : IntKind.i64.wrap (if true = true then -(valD 0 (c :: r) : Int) else (valD 0 (c :: r) : Int)) = sgnD s := by
            rw [hsg, if_pos rfl] at *
            unfold R64 at hr
            rw [wrap_i64]
            omega
          rw [hv] at hsn
          rw [two_in hr]
          repeat' first | ((with_reducible show V _ _ _ _ _ _); first | refine V_O rfl ?_ | refine V_cT rfl rfl ?_ | refine V_cF rfl rfl ?_ | refine V_cEq rfl rfl ?_ | refine V_cNe rfl rfl ?_ | refine V_cB rfl rfl (fun _ => ?_) (fun _ => ?_) | refine V_fA rfl rfl ?_ | refine V_fAN rfl rfl ?_ | refine V_D rfl ?_) | ((with_reducible show VO _ _ _ _ _ _ _); first | refine O_cA rfl rfl hsn ?_ | refine O_step rfl ?_ | refine O_nil' ?_ | refine O_gT' rfl ?_ | refine O_gU' rfl ?_ | refine O_gF' rfl rfl ?_ | refine O_gEq rfl ?_ | refine O_gNe rfl ?_ | refine O_gS rfl (fun _ => ?_) (fun _ => ?_)) | ((with_reducible show VD _ _ _ _ _ _ _); first | refine D_step rfl ?_ | refine D_nil' ?_ | refine D_gT' rfl ?_ | refine D_gU' rfl ?_ | refine D_gF' rfl rfl ?_ | refine D_gS rfl (fun _ => ?_) (fun _ => ?_))
          rfl
        · have hr : ¬ R64 (sgnD s) := fun h => by have := hR.2 h; omega
          rw [two_out hr]
          repeat' first | ((with_reducible show V _ _ _ _ _ _); first | refine V_O rfl ?_ | refine V_cT rfl rfl ?_ | refine V_cF rfl rfl ?_ | refine V_cEq rfl rfl ?_ | refine V_cNe rfl rfl ?_ | refine V_cB rfl rfl (fun _ => ?_) (fun _ => ?_) | refine V_fA rfl rfl ?_ | refine V_fAN rfl rfl ?_ | refine V_D rfl ?_) | ((with_reducible show VO _ _ _ _ _ _ _); first | refine O_step rfl ?_ | refine O_nil' ?_ | refine O_gT' rfl ?_ | refine O_gU' rfl ?_ | refine O_gF' rfl rfl ?_ | refine O_gEq rfl ?_ | refine O_gNe rfl ?_ | refine O_gS rfl (fun _ => ?_) (fun _ => ?_)) | ((with_reducible show VD _ _ _ _ _ _ _); first | refine D_step rfl ?_ | refine D_nil' ?_ | refine D_gT' rfl ?_ | refine D_gU' rfl ?_ | refine D_gF' rfl rfl ?_ | refine D_gS rfl (fun _ => ?_) (fun _ => ?_))
          rfl
      | false =>
        have hR : valD 0 (c :: r) ≤ 9223372036854775807 ↔ R64 (sgnD s) := by rw [hsg]; unfold R64; simp; omega
        have h1 := key 9223372036854775807 (by omega) hR
        repeat' first | ((with_reducible show V _ _ _ _ _ _); first | refine V_cutTo rfl h1 ⟨rfl, rfl, rfl, rfl, rfl, trivial⟩ ?_ | refine V_O rfl ?_ | refine V_cT rfl rfl ?_ | refine V_cF rfl rfl ?_ | refine V_cEq rfl rfl ?_ | refine V_cNe rfl rfl ?_ | refine V_cB rfl rfl (fun _ => ?_) (fun _ => ?_) | refine V_fA rfl rfl ?_ | refine V_fAN rfl rfl ?_ | refine V_D rfl ?_) | ((with_reducible show VO _ _ _ _ _ _ _); first | refine O_step rfl ?_ | refine O_nil' ?_ | refine O_gT' rfl ?_ | refine O_gU' rfl ?_ | refine O_gF' rfl rfl ?_ | refine O_gEq rfl ?_ | refine O_gNe rfl ?_ | refine O_gS rfl (fun _ => ?_) (fun _ => ?_)) | ((with_reducible show VD _ _ _ _ _ _ _); first | refine D_step rfl ?_ | refine D_nil' ?_ | refine D_gT' rfl ?_ | refine D_gU' rfl ?_ | refine D_gF' rfl rfl ?_ | refine D_gS rfl (fun _ => ?_) (fun _ => ?_))
        rintro x2 e2 st2 ⟨rfl, ⟨rfl, rfl, hle⟩ | ⟨rfl, rfl, hlt⟩⟩
        · have hr := hR.1 hle
          have hsn := run_signed false (valD 0 (c :: r)) (by omega)
          have hv : IntKind.i64.wrap (if false = true then -(valD 0 (c :: r) : Int) else (valD 0 (c :: r) : Int)) = sgnD s := by
            rw [hsg, if_neg (by simp)] at *
            unfold R64 at hr
            rw [wrap_i64]
            omega
          rw [hv] at hsn
          rw [two_in hr]
          repeat' first | ((with_reducible show V _ _ _ _ _ _); first | refine V_O rfl ?_ | refine V_cT rfl rfl ?_ | refine V_cF rfl rfl ?_ | refine V_cEq rfl rfl ?_ | refine V_cNe rfl rfl ?_ | refine V_cB rfl rfl (fun _ => ?_) (fun _ => ?_) | refine V_fA rfl rfl ?_ | refine V_fAN rfl rfl ?_ | refine V_D rfl ?_) | ((with_reducible show VO _ _ _ _ _ _ _); first | refine O_cA rfl rfl hsn ?_ | refine O_step rfl ?_ | refine O_nil' ?_ | refine O_gT' rfl ?_ | refine O_gU' rfl ?_ | refine O_gF' rfl rfl ?_ | refine O_gEq rfl ?_ | refine O_gNe rfl ?_ | refine O_gS rfl (fun _ => ?_) (fun _ => ?_)) | ((with_reducible show VD _ _ _ _ _ _ _); first | refine D_step rfl ?_ | refine D_nil' ?_ | refine D_gT' rfl ?_ | refine D_gU' rfl ?_ | refine D_gF' rfl rfl ?_ | refine D_gS rfl (fun _ => ?_) (fun _ => ?_))
          rfl
        · have hr : ¬ R64 (sgnD s) := fun h => by have := hR.2 h; omega
          rw [two_out hr]
          repeat' first | ((with_reducible show V _ _ _ _ _ _); first | refine V_O rfl ?_ | refine V_cT rfl rfl ?_ | refine V_cF rfl rfl ?_ | refine V_cEq rfl rfl ?_ | refine V_cNe rfl rfl ?_ | refine V_cB rfl rfl (fun _ => ?_) (fun _ => ?_) | refine V_fA rfl rfl ?_ | refine V_fAN rfl rfl ?_ | refine V_D rfl ?_) | ((with_reducible show VO _ _ _ _ _ _ _); first | refine O_step rfl ?_ | refine O_nil' ?_ | refine O_gT' rfl ?_ | refine O_gU' rfl ?_ | refine O_gF' rfl rfl ?_ | refine O_gEq rfl ?_ | refine O_gNe rfl ?_ | refine O_gS rfl (fun _ => ?_) (fun _ => ?_)) | ((with_reducible show VD _ _ _ _ _ _ _); first | refine D_step rfl ?_ | refine D_nil' ?_ | refine D_gT' rfl ?_ | refine D_gU' rfl ?_ | refine D_gF' rfl rfl ?_ | refine D_gS rfl (fun _ => ?_) (fun _ => ?_))
          rfl
    · have hg : ¬ GoodD s := fun h => hd (by rw [← hb]; exact h.2.1)
      rw [par_bad hg]
      repeat' first | ((with_reducible show V _ _ _ _ _ _); first | refine V_O rfl ?_ | refine V_cT rfl rfl ?_ | refine V_cF rfl rfl ?_ | refine V_cEq rfl rfl ?_ | refine V_cNe rfl rfl ?_ | refine V_cB rfl rfl (fun _ => ?_) (fun _ => ?_) | refine V_fA rfl rfl ?_ | refine V_fAN rfl rfl ?_ | refine V_D rfl ?_) | ((with_reducible show VO _ _ _ _ _ _ _); first | refine O_step rfl ?_ | refine O_nil' ?_ | refine O_gT' rfl ?_ | refine O_gU' rfl ?_ | refine O_gF' rfl rfl ?_ | refine O_gEq rfl ?_ | refine O_gNe rfl ?_ | refine O_gS rfl (fun _ => ?_) (fun _ => ?_)) | ((with_reducible show VD _ _ _ _ _ _ _); first | refine D_step rfl ?_ | refine D_nil' ?_ | refine D_gT' rfl ?_ | refine D_gU' rfl ?_ | refine D_gF' rfl rfl ?_ | refine D_gS rfl (fun _ => ?_) (fun _ => ?_))
      rfl
  cases hb : bodyD s with
  | nil =>
    have hg : ¬ GoodD s := fun h => h.1 hb
    rw [par_bad hg]
    refine V_adv (hadv.trans rfl) ?_
    repeat' first | ((with_reducible show V _ _ _ _ _ _); first | refine V_O rfl ?_ | refine V_cT rfl rfl ?_ | refine V_cF rfl rfl ?_ | refine V_cEq rfl rfl ?_ | refine V_cNe rfl rfl ?_ | refine V_cB rfl rfl (fun _ => ?_) (fun _ => ?_) | refine V_fA rfl rfl ?_ | refine V_fAN rfl rfl ?_ | refine V_D rfl ?_) | ((with_reducible show VO _ _ _ _ _ _ _); first | refine O_step rfl ?_ | refine O_nil' ?_ | refine O_gT' rfl ?_ | refine O_gU' rfl ?_ | refine O_gF' rfl rfl ?_ | refine O_gEq rfl ?_ | refine O_gNe rfl ?_ | refine O_gS rfl (fun _ => ?_) (fun _ => ?_)) | ((with_reducible show VD _ _ _ _ _ _ _); first | refine D_step rfl ?_ | refine D_nil' ?_ | refine D_gT' rfl ?_ | refine D_gU' rfl ?_ | refine D_gF' rfl rfl ?_ | refine D_gS rfl (fun _ => ?_) (fun _ => ?_))
    rfl
  | cons c r =>
    have hch : ((c :: r) : List UInt8)[(0 : Int).toNat]? = some c := rfl
    by_cases hc : c = 48
    · subst hc
      by_cases h0 : s = [48]
      · have hr : r = [] := by subst h0; injection hb with _ h; exact h.symm
        subst hr
        have hn : neg = false := by rw [hneg, h0]; rfl
        subst hn
        have hf := fin0 48 [] hb (fun _ => h0)
        refine V_adv (hadv.trans rfl) ?_
        repeat' first | ((with_reducible show V _ _ _ _ _ _); first | refine V_re rfl (hf _ _ rfl) ⟨rfl, rfl, trivial⟩ | refine V_O rfl ?_ | refine V_cT rfl rfl ?_ | refine V_cF rfl rfl ?_ | refine V_cEq rfl rfl ?_ | refine V_cNe rfl rfl ?_ | refine V_cB rfl rfl (fun _ => ?_) (fun _ => ?_) | refine V_fA rfl rfl ?_ | refine V_fAN rfl rfl ?_ | refine V_D rfl ?_) | ((with_reducible show VO _ _ _ _ _ _ _); first | refine O_chr 48 rfl rfl (by decide) hch ?_ | refine O_step rfl ?_ | refine O_nil' ?_ | refine O_gT' rfl ?_ | refine O_gU' rfl ?_ | refine O_gF' rfl rfl ?_ | refine O_gEq rfl ?_ | refine O_gNe rfl ?_ | refine O_gS rfl (fun _ => ?_) (fun _ => ?_)) | ((with_reducible show VD _ _ _ _ _ _ _); first | refine D_step rfl ?_ | refine D_nil' ?_ | refine D_gT' rfl ?_ | refine D_gU' rfl ?_ | refine D_gF' rfl rfl ?_ | refine D_gS rfl (fun _ => ?_) (fun _ => ?_))
      · have hg : ¬ GoodD s := fun h => h0 (h.2.2 (by rw [hb]; rfl))
        rw [par_bad hg]
        by_cases hr : r = []
        · subst hr
          have hn : neg = true := by
            rw [hneg]
            apply decide_eq_true
            unfold bodyD at hb
            split at hb
            · rename_i h; exact h
            · exact absurd hb h0
          subst hn
          refine V_adv (hadv.trans rfl) ?_
          repeat' first | ((with_reducible show V _ _ _ _ _ _); first | refine V_O rfl ?_ | refine V_cT rfl rfl ?_ | refine V_cF rfl rfl ?_ | refine V_cEq rfl rfl ?_ | refine V_cNe rfl rfl ?_ | refine V_cB rfl rfl (fun _ => ?_) (fun _ => ?_) | refine V_fA rfl rfl ?_ | refine V_fAN rfl rfl ?_ | refine V_D rfl ?_) | ((with_reducible show VO _ _ _ _ _ _ _); first | refine O_chr 48 rfl rfl (by decide) hch ?_ | refine O_step rfl ?_ | refine O_nil' ?_ | refine O_gT' rfl ?_ | refine O_gU' rfl ?_ | refine O_gF' rfl rfl ?_ | refine O_gEq rfl ?_ | refine O_gNe rfl ?_ | refine O_gS rfl (fun _ => ?_) (fun _ => ?_)) | ((with_reducible show VD _ _ _ _ _ _ _); first | refine D_step rfl ?_ | refine D_nil' ?_ | refine D_gT' rfl ?_ | refine D_gU' rfl ?_ | refine D_gF' rfl rfl ?_ | refine D_gS rfl (fun _ => ?_) (fun _ => ?_))
          rfl
        · have hl : (1 : Int) < (((48 : UInt8) :: r).length : Int) := by
            have : r.length ≠ 0 := fun e => hr (List.length_eq_zero_iff.1 e)
            simp
            omega
          refine V_adv (hadv.trans rfl) ?_
          repeat' first | ((with_reducible show V _ _ _ _ _ _); first | refine V_O rfl ?_ | refine V_cT rfl rfl ?_ | refine V_cF rfl rfl ?_ | refine V_cEq rfl rfl ?_ | refine V_cNe rfl rfl ?_ | refine V_cB rfl rfl (fun _ => ?_) (fun _ => ?_) | refine V_fA rfl rfl ?_ | refine V_fAN rfl rfl ?_ | refine V_D rfl ?_) | ((with_reducible show VO _ _ _ _ _ _ _); first | refine O_chr 48 rfl rfl (by decide) hch ?_ | refine O_is (dec_is hl) rfl ?_ | refine O_step rfl ?_ | refine O_nil' ?_ | refine O_gT' rfl ?_ | refine O_gU' rfl ?_ | refine O_gF' rfl rfl ?_ | refine O_gEq rfl ?_ | refine O_gNe rfl ?_ | refine O_gS rfl (fun _ => ?_) (fun _ => ?_)) | ((with_reducible show VD _ _ _ _ _ _ _); first | refine D_step rfl ?_ | refine D_nil' ?_ | refine D_gT' rfl ?_ | refine D_gU' rfl ?_ | refine D_gF' rfl rfl ?_ | refine D_gS rfl (fun _ => ?_) (fun _ => ?_))
          rfl
    · have hc' : ¬ (c.toNat : Int) = 48 := fun e => hc (UInt8.toNat_inj.1 (by have : (48 : UInt8).toNat = 48 := rfl; omega))
      have hf := fin0 c r hb (fun h => by injection h with h; exact absurd h hc)
      refine V_adv (hadv.trans rfl) ?_
      repeat' first | ((with_reducible show V _ _ _ _ _ _); first | refine V_re rfl (hf _ _ rfl) ⟨rfl, rfl, trivial⟩ | refine V_O rfl ?_ | refine V_cT rfl rfl ?_ | refine V_cF rfl rfl ?_ | refine V_cEq rfl rfl ?_ | refine V_cNe rfl rfl ?_ | refine V_cB rfl rfl (fun _ => ?_) (fun _ => ?_) | refine V_fA rfl rfl ?_ | refine V_fAN rfl rfl ?_ | refine V_D rfl ?_) | ((with_reducible show VO _ _ _ _ _ _ _); first | refine O_chr c rfl rfl (by decide) hch ?_ | refine O_is (dec_not hc') rfl ?_ | refine O_step rfl ?_ | refine O_nil' ?_ | refine O_gT' rfl ?_ | refine O_gU' rfl ?_ | refine O_gF' rfl rfl ?_ | refine O_gEq rfl ?_ | refine O_gNe rfl ?_ | refine O_gS rfl (fun _ => ?_) (fun _ => ?_)) | ((with_reducible show VD _ _ _ _ _ _ _); first | refine D_step rfl ?_ | refine D_nil' ?_ | refine D_gT' rfl ?_ | refine D_gU' rfl ?_ | refine D_gF' rfl rfl ?_ | refine D_gS rfl (fun _ => ?_) (fun _ => ?_))
theorem run_rParse {s : List UInt8} (hs : s.length ≤ 281474976710656) : T.R (.call n_rambleref01_Parse [.str s] (two (parT s))) := by
  have h2 := rpar3 hs
  cases s with
  | nil =>
    have h3 := h2 false rfl
    refine call_V rfl rfl ?_
    repeat' first | ((with_reducible show V _ _ _ _ _ _); first | refine V_re rfl (h3 _ _ rfl) ⟨rfl, rfl, trivial⟩ | refine V_O rfl ?_ | refine V_cT rfl rfl ?_ | refine V_cF rfl rfl ?_ | refine V_cEq rfl rfl ?_ | refine V_cNe rfl rfl ?_ | refine V_cB rfl rfl (fun _ => ?_) (fun _ => ?_) | refine V_fA rfl rfl ?_ | refine V_fAN rfl rfl ?_ | refine V_D rfl ?_) | ((with_reducible show VO _ _ _ _ _ _ _); first | refine O_step rfl ?_ | refine O_nil' ?_ | refine O_gT' rfl ?_ | refine O_gU' rfl ?_ | refine O_gF' rfl rfl ?_ | refine O_gEq rfl ?_ | refine O_gNe rfl ?_ | refine O_gS rfl (fun _ => ?_) (fun _ => ?_)) | ((with_reducible show VD _ _ _ _ _ _ _); first | refine D_step rfl ?_ | refine D_nil' ?_ | refine D_gT' rfl ?_ | refine D_gU' rfl ?_ | refine D_gF' rfl rfl ?_ | refine D_gS rfl (fun _ => ?_) (fun _ => ?_))
  | cons c r =>
    have hch : ((c :: r) : List UInt8)[(0 : Int).toNat]? = some c := rfl
    have hl : (0 : Int) < ((c :: r).length : Int) := by rw [List.length_cons]; omega
    by_cases hc : c = 45
    · subst hc
      have h3 := h2 true rfl
      have hsl : ∀ look : Nat → Option Tok, sliceStr? (some (.int .i64 1)) none (.str (45 :: r)) = some (.str r) := fun _ => by
        simp [sliceStr?, bound?, int?] <;> omega
      refine call_V rfl rfl ?_
      repeat' first | ((with_reducible show V _ _ _ _ _ _); first | refine V_re rfl (h3 _ _ rfl) ⟨rfl, rfl, trivial⟩ | refine V_O rfl ?_ | refine V_cT rfl rfl ?_ | refine V_cF rfl rfl ?_ | refine V_cEq rfl rfl ?_ | refine V_cNe rfl rfl ?_ | refine V_cB rfl rfl (fun _ => ?_) (fun _ => ?_) | refine V_fA rfl rfl ?_ | refine V_fAN rfl rfl ?_ | refine V_D rfl ?_) | ((with_reducible show VO _ _ _ _ _ _ _); first | refine O_chr 45 rfl rfl (by decide) hch ?_ | refine O_is (dec_is hl) rfl ?_ | refine O_step (hsl (fun _ => none)) ?_ | refine O_step rfl ?_ | refine O_nil' ?_ | refine O_gT' rfl ?_ | refine O_gU' rfl ?_ | refine O_gF' rfl rfl ?_ | refine O_gEq rfl ?_ | refine O_gNe rfl ?_ | refine O_gS rfl (fun _ => ?_) (fun _ => ?_)) | ((with_reducible show VD _ _ _ _ _ _ _); first | refine D_step rfl ?_ | refine D_nil' ?_ | refine D_gT' rfl ?_ | refine D_gU' rfl ?_ | refine D_gF' rfl rfl ?_ | refine D_gS rfl (fun _ => ?_) (fun _ => ?_))
    · have hc' : ¬ (c.toNat : Int) = 45 := fun e => hc (UInt8.toNat_inj.1 (by have : (45 : UInt8).toNat = 45 := rfl; omega))
      have hbd : bodyD (c :: r) = c :: r := by unfold bodyD; rw [if_neg (by simp [hc])]
      have h3 := h2 false (by symm; apply decide_eq_false; simp [hc])
      rw [hbd] at h3
      refine call_V rfl rfl ?_
      repeat' first | ((with_reducible show V _ _ _ _ _ _); first | refine V_re rfl (h3 _ _ rfl) ⟨rfl, rfl, trivial⟩ | refine V_O rfl ?_ | refine V_cT rfl rfl ?_ | refine V_cF rfl rfl ?_ | refine V_cEq rfl rfl ?_ | refine V_cNe rfl rfl ?_ | refine V_cB rfl rfl (fun _ => ?_) (fun _ => ?_) | refine V_fA rfl rfl ?_ | refine V_fAN rfl rfl ?_ | refine V_D rfl ?_) | ((with_reducible show VO _ _ _ _ _ _ _); first | refine O_chr c rfl rfl (by decide) hch ?_ | refine O_is (dec_is hl) rfl ?_ | refine O_is (dec_not hc') rfl ?_ | refine O_step rfl ?_ | refine O_nil' ?_ | refine O_gT' rfl ?_ | refine O_gU' rfl ?_ | refine O_gF' rfl rfl ?_ | refine O_gEq rfl ?_ | refine O_gNe rfl ?_ | refine O_gS rfl (fun _ => ?_) (fun _ => ?_)) | ((with_reducible show VD _ _ _ _ _ _ _); first | refine D_step rfl ?_ | refine D_nil' ?_ | refine D_gT' rfl ?_ | refine D_gU' rfl ?_ | refine D_gF' rfl rfl ?_ | refine D_gS rfl (fun _ => ?_) (fun _ => ?_))
end Go.Proofs.YtbeaalkfakjoiaaDoor
set_option linter.unusedVariables false
set_option linter.unusedSimpArgs false
namespace Go.Proofs.YtbeaalkfakjoiaaDoor
open Go Go.AM Go.RowKit
theorem p20' : (10 : Nat) ^ 20 = 100000000000000000000 := by decide
def ic (n : Int) : List PV := [.int .i64 n]
def dgs (l : List UInt8) : List Int := l.map fun c => ((c.toNat - 48 : Nat) : Int)
open Go.Lib in
theorem dec_len : ∀ (k u : Nat), u < 10 ^ (k + 1) → (decDigits u).length ≤ k + 1
  | 0, u, h => by rw [dec_small (by simpa using h)]; simp
  | k + 1, u, h => by
    by_cases h1 : u < 10
    · rw [dec_small h1]; simp
    · have := dec_len k (u / 10) (by rw [Nat.pow_succ] at h; omega)
      rw [dec_snoc h1]
      simp
      omega
open Go.Lib in
theorem itoa_len {n : Int} (h : R64 n) : (itoa n).length ≤ 21 := by
  unfold R64 at h
  have p20 : (10 : Nat) ^ (19 + 1) = 100000000000000000000 := by decide
  unfold itoa
  split
  · have := dec_len 19 n.natAbs (by rw [p20]; omega)
    simp
    omega
  · have := dec_len 19 n.toNat (by rw [p20]; omega)
    omega
theorem pl_ic (l : List Int) : ∀ cs ∈ l.map ic, ∀ c ∈ cs, Pl c := fun cs h => by
  obtain ⟨n, _, rfl⟩ := List.mem_map.1 h
  exact pl_cons (.int _ _) pl_nil
def DL (st : St) (v : PV) (es : List (List PV)) : Prop := v = .sl es true ∨ ∃ t, v = .osl t 0 0 es.length false ∧ st.get t = some (.row 0 1 es true)
theorem DL.src {st : St} {v : PV} {es : List (List PV)} (h : DL st v es) : srcOf st v = some es := by
  rcases h with rfl | ⟨t, rfl, hg⟩
  · rfl
  · simp only [srcOf, elemsOf, hg]
    rw [if_pos ⟨trivial, by omega⟩]
    simp
theorem DL.len {st : St} {v : PV} {es : List (List PV)} (h : DL st v es) : lenOf v = some es.length ∧ isStr v = false := by
  rcases h with rfl | ⟨t, rfl, hg⟩ <;> exact ⟨rfl, rfl⟩
theorem DL.app {st : St} {v : PV} {es : List (List PV)} (h : DL st v es) (hne : es ≠ []) (hl : es.length ≤ 1000) (x : Int) : ∃ v' st', appendTo st 1 8 (.sl [[.int .i64 x]] true) es = some (v', st') ∧ DL st' v' ([.int .i64 x] :: es) := by
  refine ⟨_, _, appendTo_full hne (by simp only [List.length_singleton, roomLen]; omega) rfl, .inr ⟨st.next, ?_, ?_⟩⟩
  · simp [Nat.add_comm]
  · exact St.get_new
theorem ok_ic : ∀ l : List Int, okEls 1 (l.map ic) = true
  | [] => rfl
  | n :: l => by
    have := ok_ic l
    unfold okEls at this ⊢
    rw [List.map_cons, List.all_cons, this]
    rfl
open Go.Lib in
theorem rdig_loop : ∀ (k u : Nat) (acc : List Int) (st : St) (v : PV), u < 10 ^ k → u < 18446744073709551616 → k ≤ 20 → acc ≠ [] → acc.length + k ≤ 100 → DL st v (acc.map ic) →
    V T (PE fun x e st' => x = .exit 0 ∧ ∃ v', e = ecOf [(4, v')] ∧ DL st' v' ((if u = 0 then acc else dgs (decDigits u) ++ acc).map ic)) [.code (.loop lp_rambleref01_Digits_0)] .normal (ecOf [(3, .int .u64 u), (4, v)]) st := by
  intro k
  have stop : ∀ (acc : List Int) (st : St) (v : PV), acc ≠ [] → DL st v (acc.map ic) → V T (PE fun x e st' => x = .exit 0 ∧ ∃ v', e = ecOf [(4, v')] ∧ DL st' v' (acc.map ic)) [.code (.loop lp_rambleref01_Digits_0)] .normal (ecOf [(3, .int .u64 (0 : Nat)), (4, v)]) st := by
    intro acc st v hne hD
    obtain ⟨l1, l2⟩ := hD.len
    rw [List.length_map] at l1
    have hz : PV.bool (decide ((acc.length : Int) = 0)) = PV.bool false := dec_not (by have : acc.length ≠ 0 := fun e => hne (List.length_eq_zero_iff.1 e); omega)
    refine V_unroll ?_
    repeat' first | ((with_reducible show V _ _ _ _ _ _); first | refine V_out [(4, v)] rfl ⟨rfl, trivial⟩ ⟨rfl, v, rfl, hD⟩ | refine V_O rfl ?_ | refine V_cT rfl rfl ?_ | refine V_cF rfl rfl ?_ | refine V_cEq rfl rfl ?_ | refine V_cNe rfl rfl ?_ | refine V_cB rfl rfl (fun _ => ?_) (fun _ => ?_) | refine V_fA rfl rfl ?_ | refine V_fAN rfl rfl ?_ | refine V_D rfl ?_) | ((with_reducible show VO _ _ _ _ _ _ _); first | refine O_lenO rfl l1 l2 ?_ | refine O_is hz rfl ?_ | refine O_step rfl ?_ | refine O_nil' ?_ | refine O_gT' rfl ?_ | refine O_gU' rfl ?_ | refine O_gF' rfl rfl ?_ | refine O_gEq rfl ?_ | refine O_gNe rfl ?_ | refine O_gS rfl (fun _ => ?_) (fun _ => ?_)) | ((with_reducible show VD _ _ _ _ _ _ _); first | refine D_step rfl ?_ | refine D_nil' ?_ | refine D_gT' rfl ?_ | refine D_gU' rfl ?_ | refine D_gF' rfl rfl ?_ | refine D_gS rfl (fun _ => ?_) (fun _ => ?_))
  induction k with
  | zero =>
    intro u acc st v hu hbig hk hne hl hD
    have : u = 0 := by simpa using hu
    subst this
    rw [if_pos rfl]
    exact stop acc st v hne hD
  | succ k ih =>
    intro u acc st v hu hbig hk hne hl hD
    by_cases h0 : u = 0
    · subst h0
      rw [if_pos rfl]
      exact stop acc st v hne hD
    · have hpos : PV.bool (decide ((0 : Int) < u)) = PV.bool true := dec_is (by omega)
      have hp20 : (10 : Nat) ^ (k + 1) ≤ 10 ^ 20 := Nat.pow_le_pow_right (by omega) hk
      have p20 : (10 : Nat) ^ 20 = 100000000000000000000 := by decide
      have e1 : PV.int .u64 ((u : Int).tmod 10) = PV.int .u64 ((u % 10 : Nat) : Int) := int_is (by rw [Int.tmod_eq_emod_of_nonneg (by omega)]; omega)
      have e2 : PV.int .i64 (IntKind.i64.wrap ((u % 10 : Nat) : Int)) = PV.int .i64 ((u % 10 : Nat) : Int) := int_is (by rw [wrap_i64]; omega)
      obtain ⟨v', st', k1, k2⟩ := hD.app (by simpa using hne) (by simp; omega) ((u % 10 : Nat) : Int)
      have hmod : (((UInt8.ofNat (48 + u % 10)).toNat - 48 : Nat) : Int) = ((u % 10 : Nat) : Int) := by rw [dig_nat (by omega)]; omega
      have hres : (if u = 0 then acc else dgs (decDigits u) ++ acc) = (if u / 10 = 0 then ((u % 10 : Nat) : Int) :: acc else dgs (decDigits (u / 10)) ++ (((u % 10 : Nat) : Int) :: acc)) := by
        rw [if_neg h0]
        by_cases h1 : u < 10
        · rw [if_pos (by omega), dec_small h1]
          have : u % 10 = u := by omega
          rw [this] at hmod ⊢
          simp only [dgs, List.map_cons, List.map_nil, List.cons_append, List.nil_append]
          rw [hmod]
        · rw [if_neg (by omega), dec_snoc h1]
          simp only [dgs, List.map_append, List.map_cons, List.map_nil, List.append_assoc, List.cons_append, List.nil_append]
          rw [hmod]
      rw [hres]
      have hi := fun h => ih (u / 10) (((u % 10 : Nat) : Int) :: acc) st' v' (by rw [Nat.pow_succ] at hu; omega) (by omega) (by omega) (by simp) (by simp; omega) h
      have hi := hi (by simpa [ic] using k2)
      refine V_unroll ?_
      have e3 : PV.int .u64 (IntKind.u64.wrap ((u : Int).tdiv 10)) = PV.int .u64 ((u / 10 : Nat) : Int) := int_is (by rw [Int.tdiv_eq_ediv_of_nonneg (by omega), wrap_u64]; omega)
      repeat' first | ((with_reducible show V _ _ _ _ _ _); first | refine V_re rfl hi ⟨rfl, rfl, trivial⟩ | refine V_O rfl ?_ | refine V_cT rfl rfl ?_ | refine V_cF rfl rfl ?_ | refine V_cEq rfl rfl ?_ | refine V_cNe rfl rfl ?_ | refine V_cB rfl rfl (fun _ => ?_) (fun _ => ?_) | refine V_fA rfl rfl ?_ | refine V_fAN rfl rfl ?_ | refine V_D rfl ?_) | ((with_reducible show VO _ _ _ _ _ _ _); first | refine O_is hpos rfl ?_ | refine O_is e1 rfl ?_ | refine O_is e2 rfl ?_ | refine O_is e3 rfl ?_ | refine O_append rfl rfl hD.src (ok_ic _) (by decide) (by decide) k1 ?_ | refine O_step rfl ?_ | refine O_nil' ?_ | refine O_gT' rfl ?_ | refine O_gU' rfl ?_ | refine O_gF' rfl rfl ?_ | refine O_gEq rfl ?_ | refine O_gNe rfl ?_ | refine O_gS rfl (fun _ => ?_) (fun _ => ?_)) | ((with_reducible show VD _ _ _ _ _ _ _); first | refine D_step rfl ?_ | refine D_nil' ?_ | refine D_gT' rfl ?_ | refine D_gU' rfl ?_ | refine D_gF' rfl rfl ?_ | refine D_gS rfl (fun _ => ?_) (fun _ => ?_))
open Go.Lib in
theorem rdig_first (u : Nat) (hu : u < 18446744073709551616) : V T (PE fun x e st' => x = .exit 0 ∧ ∃ v', e = ecOf [(4, v')] ∧ DL st' v' ((dgs (decDigits u)).map ic)) [.code (.loop lp_rambleref01_Digits_0)] .normal (ecOf [(3, .int .u64 u), (4, .nilSl)]) emptySt := by
  have e1 : PV.int .u64 ((u : Int).tmod 10) = PV.int .u64 ((u % 10 : Nat) : Int) := int_is (by rw [Int.tmod_eq_emod_of_nonneg (by omega)]; omega)
  have e2 : PV.int .i64 (IntKind.i64.wrap ((u % 10 : Nat) : Int)) = PV.int .i64 ((u % 10 : Nat) : Int) := int_is (by rw [wrap_i64]; omega)
  have e3 : PV.int .u64 (IntKind.u64.wrap ((u : Int).tdiv 10)) = PV.int .u64 ((u / 10 : Nat) : Int) := int_is (by rw [Int.tdiv_eq_ediv_of_nonneg (by omega), wrap_u64]; omega)
  have hmod : (((UInt8.ofNat (48 + u % 10)).toNat - 48 : Nat) : Int) = ((u % 10 : Nat) : Int) := by rw [dig_nat (by omega)]; omega
  have hi := rdig_loop 20 (u / 10) [((u % 10 : Nat) : Int)] emptySt (.sl [[.int .i64 ((u % 10 : Nat) : Int)]] true) (by rw [p20']; omega) (by omega) (by omega) (by simp) (by simp) (.inl rfl)
  have hres : dgs (decDigits u) = (if u / 10 = 0 then [((u % 10 : Nat) : Int)] else dgs (decDigits (u / 10)) ++ [((u % 10 : Nat) : Int)]) := by
    by_cases h1 : u < 10
    · rw [if_pos (by omega), dec_small h1]
      have : u % 10 = u := by omega
      rw [this] at hmod ⊢
      simp only [dgs, List.map_cons, List.map_nil]
      rw [hmod]
    · rw [if_neg (by omega), dec_snoc h1]
      simp only [dgs, List.map_append, List.map_cons, List.map_nil]
      rw [hmod]
  rw [← hres] at hi
  have hnone : appendTo emptySt 1 8 (.sl [[.int .i64 ((u % 10 : Nat) : Int)]] true) [] = some (.sl [[.int .i64 ((u % 10 : Nat) : Int)]] true, emptySt) := appendTo_none (.inr (.inl ⟨_, _, rfl⟩))
  refine V_unroll ?_
  by_cases h0 : u = 0
  · subst h0
    repeat' first | ((with_reducible show V _ _ _ _ _ _); first | refine V_re rfl hi ⟨rfl, rfl, trivial⟩ | refine V_O rfl ?_ | refine V_cT rfl rfl ?_ | refine V_cF rfl rfl ?_ | refine V_cEq rfl rfl ?_ | refine V_cNe rfl rfl ?_ | refine V_cB rfl rfl (fun _ => ?_) (fun _ => ?_) | refine V_fA rfl rfl ?_ | refine V_fAN rfl rfl ?_ | refine V_D rfl ?_) | ((with_reducible show VO _ _ _ _ _ _ _); first | refine O_is e1 rfl ?_ | refine O_is e2 rfl ?_ | refine O_is e3 rfl ?_ | refine O_append rfl rfl rfl rfl (by decide) (by decide) hnone ?_ | refine O_step rfl ?_ | refine O_nil' ?_ | refine O_gT' rfl ?_ | refine O_gU' rfl ?_ | refine O_gF' rfl rfl ?_ | refine O_gEq rfl ?_ | refine O_gNe rfl ?_ | refine O_gS rfl (fun _ => ?_) (fun _ => ?_)) | ((with_reducible show VD _ _ _ _ _ _ _); first | refine D_step rfl ?_ | refine D_nil' ?_ | refine D_gT' rfl ?_ | refine D_gU' rfl ?_ | refine D_gF' rfl rfl ?_ | refine D_gS rfl (fun _ => ?_) (fun _ => ?_))
  · have hpos : PV.bool (decide ((0 : Int) < u)) = PV.bool true := dec_is (by omega)
    repeat' first | ((with_reducible show V _ _ _ _ _ _); first | refine V_re rfl hi ⟨rfl, rfl, trivial⟩ | refine V_O rfl ?_ | refine V_cT rfl rfl ?_ | refine V_cF rfl rfl ?_ | refine V_cEq rfl rfl ?_ | refine V_cNe rfl rfl ?_ | refine V_cB rfl rfl (fun _ => ?_) (fun _ => ?_) | refine V_fA rfl rfl ?_ | refine V_fAN rfl rfl ?_ | refine V_D rfl ?_) | ((with_reducible show VO _ _ _ _ _ _ _); first | refine O_is hpos rfl ?_ | refine O_is e1 rfl ?_ | refine O_is e2 rfl ?_ | refine O_is e3 rfl ?_ | refine O_append rfl rfl rfl rfl (by decide) (by decide) hnone ?_ | refine O_step rfl ?_ | refine O_nil' ?_ | refine O_gT' rfl ?_ | refine O_gU' rfl ?_ | refine O_gF' rfl rfl ?_ | refine O_gEq rfl ?_ | refine O_gNe rfl ?_ | refine O_gS rfl (fun _ => ?_) (fun _ => ?_)) | ((with_reducible show VD _ _ _ _ _ _ _); first | refine D_step rfl ?_ | refine D_nil' ?_ | refine D_gT' rfl ?_ | refine D_gU' rfl ?_ | refine D_gF' rfl rfl ?_ | refine D_gS rfl (fun _ => ?_) (fun _ => ?_))
open Go.Lib in
theorem run_rDigits {n : Int} (h : R64 n) : ∃ f, T.R (.call n_rambleref01_Digits [.int .i64 n] (.sl ((dgs (decDigits n.natAbs)).map ic) f)) := by
  have hb := run_bare n h
  have hu : n.natAbs < 18446744073709551616 := by unfold R64 at h; omega
  have hl := rdig_first n.natAbs hu
  have key : ∃ r, T.R (.call n_rambleref01_Digits [.int .i64 n] r) ∧ ∃ f, r = .sl ((dgs (decDigits n.natAbs)).map ic) f := by
    refine call_VQ rfl rfl ?_
    repeat' first | ((with_reducible show V _ _ _ _ _ _); first | refine V_cutTo rfl hl ⟨rfl, rfl, trivial⟩ ?_ | refine V_O rfl ?_ | refine V_cT rfl rfl ?_ | refine V_cF rfl rfl ?_ | refine V_cEq rfl rfl ?_ | refine V_cNe rfl rfl ?_ | refine V_cB rfl rfl (fun _ => ?_) (fun _ => ?_) | refine V_fA rfl rfl ?_ | refine V_fAN rfl rfl ?_ | refine V_D rfl ?_) | ((with_reducible show VO _ _ _ _ _ _ _); first | refine O_cA rfl rfl hb ?_ | refine O_step rfl ?_ | refine O_nil' ?_ | refine O_gT' rfl ?_ | refine O_gU' rfl ?_ | refine O_gF' rfl rfl ?_ | refine O_gEq rfl ?_ | refine O_gNe rfl ?_ | refine O_gS rfl (fun _ => ?_) (fun _ => ?_)) | ((with_reducible show VD _ _ _ _ _ _ _); first | refine D_step rfl ?_ | refine D_nil' ?_ | refine D_gT' rfl ?_ | refine D_gU' rfl ?_ | refine D_gF' rfl rfl ?_ | refine D_gS rfl (fun _ => ?_) (fun _ => ?_))
    rintro x e' st' ⟨rfl, v', rfl, rfl | ⟨t, rfl, hg⟩⟩
    · have plv : Pl (.sl ((dgs (decDigits n.natAbs)).map ic) true) := .sl _ _ (pl_ic _)
      repeat' first | ((with_reducible show V _ _ _ _ _ _); first | refine V_O rfl ?_ | refine V_cT rfl rfl ?_ | refine V_cF rfl rfl ?_ | refine V_cEq rfl rfl ?_ | refine V_cNe rfl rfl ?_ | refine V_cB rfl rfl (fun _ => ?_) (fun _ => ?_) | refine V_fA rfl rfl ?_ | refine V_fAN rfl rfl ?_ | refine V_D rfl ?_) | ((with_reducible show VO _ _ _ _ _ _ _); first | refine O_step rfl ?_ | refine O_nil' ?_ | refine O_gT' rfl ?_ | refine O_gU' rfl ?_ | refine O_gF' rfl rfl ?_ | refine O_gEq rfl ?_ | refine O_gNe rfl ?_ | refine O_gS rfl (fun _ => ?_) (fun _ => ?_)) | ((with_reducible show VD _ _ _ _ _ _ _); first | refine D_step rfl ?_ | refine D_nil' ?_ | refine D_gT' rfl ?_ | refine D_gU' rfl ?_ | refine D_gF' rfl rfl ?_ | refine D_gS rfl (fun _ => ?_) (fun _ => ?_))
      exact ⟨_, rfl⟩
    · repeat' first | ((with_reducible show V _ _ _ _ _ _); first | refine V_fin rfl rfl (view_osl0 hg (.inl rfl) rfl (pl_ic _)) ⟨_, rfl⟩ | refine V_O rfl ?_ | refine V_cT rfl rfl ?_ | refine V_cF rfl rfl ?_ | refine V_cEq rfl rfl ?_ | refine V_cNe rfl rfl ?_ | refine V_cB rfl rfl (fun _ => ?_) (fun _ => ?_) | refine V_fA rfl rfl ?_ | refine V_fAN rfl rfl ?_ | refine V_D rfl ?_) | ((with_reducible show VO _ _ _ _ _ _ _); first | refine O_step rfl ?_ | refine O_nil' ?_ | refine O_gT' rfl ?_ | refine O_gU' rfl ?_ | refine O_gF' rfl rfl ?_ | refine O_gEq rfl ?_ | refine O_gNe rfl ?_ | refine O_gS rfl (fun _ => ?_) (fun _ => ?_)) | ((with_reducible show VD _ _ _ _ _ _ _); first | refine D_step rfl ?_ | refine D_nil' ?_ | refine D_gT' rfl ?_ | refine D_gU' rfl ?_ | refine D_gF' rfl rfl ?_ | refine D_gS rfl (fun _ => ?_) (fun _ => ?_))
  obtain ⟨r, h1, f, rfl⟩ := key
  exact ⟨f, h1⟩
theorem rtext_loop (p : PV) (cs : List UInt8) (hd : ∀ c ∈ cs, IsD c) (hp : LV ic p (dgs cs)) (hl0 : cs.length ≤ 1000) : ∀ (rest pre acc : List UInt8), cs = pre ++ rest → acc.length ≤ 1000 + pre.length →
    V T (PE fun x e st' => x = .exit 0 ∧ st' = emptySt ∧ e = ecOf [(3, .str (acc ++ rest))]) [.code (.loop lp_rambleref01_Text_0)] .normal (ecOf [(3, .str acc), (4, p), (5, .int .i64 pre.length)]) emptySt := by
  intro rest
  have hdl : (dgs cs).length = cs.length := by simp [dgs]
  induction rest with
  | nil =>
    intro pre acc hl hacc
    have hlt : decide ((pre.length : Int) < (dgs cs).length) = false := decide_eq_false (by rw [hdl]; subst hl; simp)
    refine V_unroll ?_
    repeat' first | ((with_reducible show V _ _ _ _ _ _); first | refine V_cH hlt rfl rfl ?_ | refine V_out [(3, .str acc)] rfl ⟨rfl, trivial⟩ ⟨rfl, rfl, by rw [List.append_nil]⟩ | refine V_O rfl ?_ | refine V_cT rfl rfl ?_ | refine V_cF rfl rfl ?_ | refine V_cEq rfl rfl ?_ | refine V_cNe rfl rfl ?_ | refine V_cB rfl rfl (fun _ => ?_) (fun _ => ?_) | refine V_fA rfl rfl ?_ | refine V_fAN rfl rfl ?_ | refine V_D rfl ?_) | ((with_reducible show VO _ _ _ _ _ _ _); first | refine O_lenL rfl hp ?_ | refine O_step rfl ?_ | refine O_nil' ?_ | refine O_gT' rfl ?_ | refine O_gU' rfl ?_ | refine O_gF' rfl rfl ?_ | refine O_gEq rfl ?_ | refine O_gNe rfl ?_ | refine O_gS rfl (fun _ => ?_) (fun _ => ?_)) | ((with_reducible show VD _ _ _ _ _ _ _); first | refine D_step rfl ?_ | refine D_nil' ?_ | refine D_gT' rfl ?_ | refine D_gU' rfl ?_ | refine D_gF' rfl rfl ?_ | refine D_gS rfl (fun _ => ?_) (fun _ => ?_))
  | cons c rest ih =>
    intro pre acc hl hacc
    have hlt : decide ((pre.length : Int) < (dgs cs).length) = true := decide_eq_true (by rw [hdl]; subst hl; simp; omega)
    have hpl : pre.length < cs.length := by subst hl; simp
    obtain ⟨hc1, hc2⟩ := hd c (by rw [hl]; simp)
    have hat : (dgs cs)[(pre.length : Int).toNat]? = some ((c.toNat - 48 : Nat) : Int) := by subst hl; simp [dgs]
    have hw : IntKind.i64.wrap ((pre.length : Int) + 1) = ((pre ++ [c]).length : Int) := by rw [wrap_i64]; simp; omega
    have e1 : PV.int .i64 (IntKind.i64.wrap (48 + ((c.toNat - 48 : Nat) : Int))) = PV.int .i64 (c.toNat : Int) := int_is (by rw [wrap_i64]; omega)
    have e2 : PV.int .u8 (IntKind.u8.wrap (c.toNat : Int)) = PV.int .u8 (c.toNat : Int) := int_is (by have := c.toNat_lt; rw [wrap_u8]; omega)
    have hbv : BV (.sl [[.int .u8 (c.toNat : Int)]] true) [c] := .sl [c] true
    have hi := ih (pre ++ [c]) (acc ++ [c]) (by rw [hl]; simp) (by simp; omega)
    rw [List.append_assoc, List.cons_append, List.nil_append] at hi
    refine V_unroll ?_
    repeat' first | ((with_reducible show V _ _ _ _ _ _); first | refine V_cHT hlt rfl rfl ?_ | refine V_re rfl hi ⟨rfl, rfl, some_int hw, trivial⟩ | refine V_O rfl ?_ | refine V_cT rfl rfl ?_ | refine V_cF rfl rfl ?_ | refine V_cEq rfl rfl ?_ | refine V_cNe rfl rfl ?_ | refine V_cB rfl rfl (fun _ => ?_) (fun _ => ?_) | refine V_fA rfl rfl ?_ | refine V_fAN rfl rfl ?_ | refine V_D rfl ?_) | ((with_reducible show VO _ _ _ _ _ _ _); first | refine O_lenL rfl hp ?_ | refine O_idxL _ rfl hp rfl (by omega) hat rfl ?_ | refine O_is e1 rfl ?_ | refine O_is e2 rfl ?_ | refine O_toStr rfl hbv ?_ | refine O_cat (by simp; omega) rfl rfl ?_ | refine O_step rfl ?_ | refine O_nil' ?_ | refine O_gT' rfl ?_ | refine O_gU' rfl ?_ | refine O_gF' rfl rfl ?_ | refine O_gEq rfl ?_ | refine O_gNe rfl ?_ | refine O_gS rfl (fun _ => ?_) (fun _ => ?_)) | ((with_reducible show VD _ _ _ _ _ _ _); first | refine D_step rfl ?_ | refine D_nil' ?_ | refine D_gT' rfl ?_ | refine D_gU' rfl ?_ | refine D_gF' rfl rfl ?_ | refine D_gS rfl (fun _ => ?_) (fun _ => ?_))
open Go.Lib in
theorem run_rText {n : Int} (h : R64 n) : T.R (.call n_rambleref01_Text [.int .i64 n] (.str (itoa n))) := by
  obtain ⟨f, hdg⟩ := run_rDigits h
  have hp : LV ic (.sl ((dgs (decDigits n.natAbs)).map ic) f) (dgs (decDigits n.natAbs)) := .sl _ _
  have hlen : (decDigits n.natAbs).length ≤ 1000 := by
    have p20 : (10 : Nat) ^ (19 + 1) = 100000000000000000000 := by decide
    have := dec_len 19 n.natAbs (by unfold R64 at h; rw [p20]; omega)
    omega
  by_cases hn : n < 0
  · have hl := rtext_loop _ _ (dec_good n.natAbs).2.1 hp hlen _ [] [45] rfl (by simp)
    have hit : [45] ++ decDigits n.natAbs = itoa n := by unfold itoa; rw [if_pos hn]; rfl
    rw [hit] at hl
    refine call_V rfl rfl ?_
    repeat' first | ((with_reducible show V _ _ _ _ _ _); first | refine V_cHT (decide_eq_true hn) rfl rfl ?_ | refine V_cutTo rfl hl ⟨rfl, rfl, rfl, trivial⟩ ?_ | refine V_O rfl ?_ | refine V_cT rfl rfl ?_ | refine V_cF rfl rfl ?_ | refine V_cEq rfl rfl ?_ | refine V_cNe rfl rfl ?_ | refine V_cB rfl rfl (fun _ => ?_) (fun _ => ?_) | refine V_fA rfl rfl ?_ | refine V_fAN rfl rfl ?_ | refine V_D rfl ?_) | ((with_reducible show VO _ _ _ _ _ _ _); first | refine O_cA rfl rfl hdg ?_ | refine O_step rfl ?_ | refine O_nil' ?_ | refine O_gT' rfl ?_ | refine O_gU' rfl ?_ | refine O_gF' rfl rfl ?_ | refine O_gEq rfl ?_ | refine O_gNe rfl ?_ | refine O_gS rfl (fun _ => ?_) (fun _ => ?_)) | ((with_reducible show VD _ _ _ _ _ _ _); first | refine D_step rfl ?_ | refine D_nil' ?_ | refine D_gT' rfl ?_ | refine D_gU' rfl ?_ | refine D_gF' rfl rfl ?_ | refine D_gS rfl (fun _ => ?_) (fun _ => ?_))
    rintro x e' st' ⟨rfl, rfl, rfl⟩
    repeat' first | ((with_reducible show V _ _ _ _ _ _); first | refine V_O rfl ?_ | refine V_cT rfl rfl ?_ | refine V_cF rfl rfl ?_ | refine V_cEq rfl rfl ?_ | refine V_cNe rfl rfl ?_ | refine V_cB rfl rfl (fun _ => ?_) (fun _ => ?_) | refine V_fA rfl rfl ?_ | refine V_fAN rfl rfl ?_ | refine V_D rfl ?_) | ((with_reducible show VO _ _ _ _ _ _ _); first | refine O_step rfl ?_ | refine O_nil' ?_ | refine O_gT' rfl ?_ | refine O_gU' rfl ?_ | refine O_gF' rfl rfl ?_ | refine O_gEq rfl ?_ | refine O_gNe rfl ?_ | refine O_gS rfl (fun _ => ?_) (fun _ => ?_)) | ((with_reducible show VD _ _ _ _ _ _ _); first | refine D_step rfl ?_ | refine D_nil' ?_ | refine D_gT' rfl ?_ | refine D_gU' rfl ?_ | refine D_gF' rfl rfl ?_ | refine D_gS rfl (fun _ => ?_) (fun _ => ?_))
    rfl
  · have hl := rtext_loop _ _ (dec_good n.natAbs).2.1 hp hlen _ [] [] rfl (by simp)
    have hit : [] ++ decDigits n.natAbs = itoa n := by unfold itoa; rw [if_neg hn, List.nil_append]; congr 1; omega
    rw [hit] at hl
    refine call_V rfl rfl ?_
    repeat' first | ((with_reducible show V _ _ _ _ _ _); first | refine V_cH (decide_eq_false hn) rfl rfl ?_ | refine V_cutTo rfl hl ⟨rfl, rfl, rfl, trivial⟩ ?_ | refine V_O rfl ?_ | refine V_cT rfl rfl ?_ | refine V_cF rfl rfl ?_ | refine V_cEq rfl rfl ?_ | refine V_cNe rfl rfl ?_ | refine V_cB rfl rfl (fun _ => ?_) (fun _ => ?_) | refine V_fA rfl rfl ?_ | refine V_fAN rfl rfl ?_ | refine V_D rfl ?_) | ((with_reducible show VO _ _ _ _ _ _ _); first | refine O_cA rfl rfl hdg ?_ | refine O_step rfl ?_ | refine O_nil' ?_ | refine O_gT' rfl ?_ | refine O_gU' rfl ?_ | refine O_gF' rfl rfl ?_ | refine O_gEq rfl ?_ | refine O_gNe rfl ?_ | refine O_gS rfl (fun _ => ?_) (fun _ => ?_)) | ((with_reducible show VD _ _ _ _ _ _ _); first | refine D_step rfl ?_ | refine D_nil' ?_ | refine D_gT' rfl ?_ | refine D_gU' rfl ?_ | refine D_gF' rfl rfl ?_ | refine D_gS rfl (fun _ => ?_) (fun _ => ?_))
    rintro x e' st' ⟨rfl, rfl, rfl⟩
    repeat' first | ((with_reducible show V _ _ _ _ _ _); first | refine V_O rfl ?_ | refine V_cT rfl rfl ?_ | refine V_cF rfl rfl ?_ | refine V_cEq rfl rfl ?_ | refine V_cNe rfl rfl ?_ | refine V_cB rfl rfl (fun _ => ?_) (fun _ => ?_) | refine V_fA rfl rfl ?_ | refine V_fAN rfl rfl ?_ | refine V_D rfl ?_) | ((with_reducible show VO _ _ _ _ _ _ _); first | refine O_step rfl ?_ | refine O_nil' ?_ | refine O_gT' rfl ?_ | refine O_gU' rfl ?_ | refine O_gF' rfl rfl ?_ | refine O_gEq rfl ?_ | refine O_gNe rfl ?_ | refine O_gS rfl (fun _ => ?_) (fun _ => ?_)) | ((with_reducible show VD _ _ _ _ _ _ _); first | refine D_step rfl ?_ | refine D_nil' ?_ | refine D_gT' rfl ?_ | refine D_gU' rfl ?_ | refine D_gF' rfl rfl ?_ | refine D_gS rfl (fun _ => ?_) (fun _ => ?_))
    rfl
end Go.Proofs.YtbeaalkfakjoiaaDoor
