/- num.Text, num.Parse. -/
import Derived.Test.YtbeaalkfakjoiaaDoorTextP
import Derived.Test.YtbeaalkfakjoiaaDoorAmZ
set_option linter.unusedVariables false
set_option linter.unusedSimpArgs false
namespace Go.Proofs.YtbeaalkfakjoiaaDoor
open Go Go.AM Go.RowKit
theorem run_FormatInt {n : Int} (h : R64 n) : T.R (.call n_strconv_FormatInt [.int .i64 n, .int .i64 10] (.str (Lib.itoa n))) := .prim _ _ _ (.inl ⟨rfl, n, h.1, h.2, rfl, rfl⟩)
theorem run_Text {n : Int} (h : R64 n) : T.R (.call n_num_Text [.int .i64 n] (.str (Lib.itoa n))) := by
  have hf := run_FormatInt h
  refine call_V rfl rfl ?_
  repeat' first | refine O_cA rfl rfl hf ?_ | refine V_O rfl ?_ | refine O_step rfl ?_ | refine O_nil' ?_ | refine V_cT rfl rfl ?_ | refine V_cF rfl rfl ?_ | refine V_cEq rfl rfl ?_ | refine V_cNe rfl rfl ?_ | refine V_cB rfl rfl (fun _ => ?_) (fun _ => ?_) | refine O_gT' rfl ?_ | refine O_gU' rfl ?_ | refine O_gF' rfl rfl ?_ | refine O_gEq rfl ?_ | refine O_gNe rfl ?_ | refine O_gS rfl (fun _ => ?_) (fun _ => ?_) | refine V_fA rfl rfl ?_ | refine V_fAN rfl rfl ?_ | refine V_D rfl ?_ | refine D_step rfl ?_ | refine D_nil' ?_ | refine D_gT' rfl ?_ | refine D_gU' rfl ?_ | refine D_gF' rfl rfl ?_ | refine D_gS rfl (fun _ => ?_) (fun _ => ?_)
  rfl
theorem run_notD (c : UInt8) : T.R (.call n_num_Parse_1 [.int .u8 c.toNat] (.bool (!decide (IsD c)))) := by
  refine call_V rfl rfl ?_
  repeat' first | refine V_O rfl ?_ | refine O_step rfl ?_ | refine O_nil' ?_ | refine V_cT rfl rfl ?_ | refine V_cF rfl rfl ?_ | refine V_cEq rfl rfl ?_ | refine V_cNe rfl rfl ?_ | refine V_cB rfl rfl (fun _ => ?_) (fun _ => ?_) | refine O_gT' rfl ?_ | refine O_gU' rfl ?_ | refine O_gF' rfl rfl ?_ | refine O_gEq rfl ?_ | refine O_gNe rfl ?_ | refine O_gS rfl (fun _ => ?_) (fun _ => ?_) | refine V_fA rfl rfl ?_ | refine V_fAN rfl rfl ?_ | refine V_D rfl ?_ | refine D_step rfl ?_ | refine D_nil' ?_ | refine D_gT' rfl ?_ | refine D_gU' rfl ?_ | refine D_gF' rfl rfl ?_ | refine D_gS rfl (fun _ => ?_) (fun _ => ?_)
  all_goals congr 1
  all_goals simp only [Bool.not_false, decide_eq_true_eq, decide_eq_false_iff_not] at *
  all_goals first | (rw [decide_eq_false (p := IsD c) (fun h => by have := h.1; omega)]; rfl) | (by_cases h2 : c.toNat ≤ 57; (· rw [decide_eq_true (p := IsD c) ⟨by omega, h2⟩, decide_eq_false (by omega)]; rfl); (· rw [decide_eq_false (p := IsD c) (fun h => h2 h.2), decide_eq_true (by omega)]; rfl))
def idxDP (b : List UInt8) : EX → EC → St → Prop := fun x e st => st = emptySt ∧ ((x = .exit 0 ∧ e = .nil ∧ ∀ c ∈ b, IsD c) ∨ (x = .ret ∧ ∃ i : Nat, e = ecOf [(4, .int .i64 i)] ∧ ¬ ∀ c ∈ b, IsD c))
theorem idxD_loop {p : PV} {b : List UInt8} (hp : BV p b) (hb : b.length ≤ 9223372036854775800) : ∀ (rest pre : List UInt8), b = pre ++ rest → (∀ c ∈ pre, IsD c) →
    V T (PE (idxDP b)) [.code (.loop lp_slices_IndexFunc_byte_byte_0)] .normal (ecOf [(0, p), (1, .func n_num_Parse_1 []), (7, .int .i64 b.length), (8, .int .i64 pre.length)]) emptySt := by
  intro rest
  induction rest with
  | nil =>
    intro pre hl hpre
    have hlt : decide ((pre.length : Int) < b.length) = false := decide_eq_false (by subst hl; simp)
    refine V_unroll ?_
    repeat' first | refine V_cH hlt rfl rfl ?_ | refine V_out [] rfl trivial ⟨rfl, .inl ⟨rfl, rfl, by rw [hl, List.append_nil]; exact hpre⟩⟩ | refine V_O rfl ?_ | refine O_step rfl ?_ | refine O_nil' ?_ | refine V_cT rfl rfl ?_ | refine V_cF rfl rfl ?_ | refine V_cEq rfl rfl ?_ | refine V_cNe rfl rfl ?_ | refine V_cB rfl rfl (fun _ => ?_) (fun _ => ?_) | refine O_gT' rfl ?_ | refine O_gU' rfl ?_ | refine O_gF' rfl rfl ?_ | refine O_gEq rfl ?_ | refine O_gNe rfl ?_ | refine O_gS rfl (fun _ => ?_) (fun _ => ?_) | refine V_fA rfl rfl ?_ | refine V_fAN rfl rfl ?_ | refine V_D rfl ?_ | refine D_step rfl ?_ | refine D_nil' ?_ | refine D_gT' rfl ?_ | refine D_gU' rfl ?_ | refine D_gF' rfl rfl ?_ | refine D_gS rfl (fun _ => ?_) (fun _ => ?_)
  | cons c rest ih =>
    intro pre hl hpre
    have hlt : decide ((pre.length : Int) < b.length) = true := decide_eq_true (by subst hl; simp; omega)
    have hat := hp.at (n := (pre.length : Int)) (b := c) (by omega) (by subst hl; simp)
    have hn := run_notD c
    have hpl : pre.length < b.length := by subst hl; simp
    refine V_unroll ?_
    by_cases hd : IsD c
    · rw [decide_eq_true hd] at hn
      have hw : IntKind.i64.wrap ((pre.length : Int) + 1) = ((pre ++ [c]).length : Int) := by rw [wrap_i64]; simp; omega
      have hi := ih (pre ++ [c]) (by rw [hl]; simp) (fun d h => by rcases List.mem_append.1 h with h | h; exact hpre d h; simp only [List.mem_singleton] at h; rw [h]; exact hd)
      repeat' first | refine V_cHT hlt rfl rfl ?_ | refine O_at rfl rfl hat ?_ | refine O_cA rfl rfl hn ?_ | refine V_re rfl hi ⟨rfl, rfl, rfl, some_int hw, trivial⟩ | refine V_O rfl ?_ | refine O_step rfl ?_ | refine O_nil' ?_ | refine V_cT rfl rfl ?_ | refine V_cF rfl rfl ?_ | refine V_cEq rfl rfl ?_ | refine V_cNe rfl rfl ?_ | refine V_cB rfl rfl (fun _ => ?_) (fun _ => ?_) | refine O_gT' rfl ?_ | refine O_gU' rfl ?_ | refine O_gF' rfl rfl ?_ | refine O_gEq rfl ?_ | refine O_gNe rfl ?_ | refine O_gS rfl (fun _ => ?_) (fun _ => ?_) | refine V_fA rfl rfl ?_ | refine V_fAN rfl rfl ?_ | refine V_D rfl ?_ | refine D_step rfl ?_ | refine D_nil' ?_ | refine D_gT' rfl ?_ | refine D_gU' rfl ?_ | refine D_gF' rfl rfl ?_ | refine D_gS rfl (fun _ => ?_) (fun _ => ?_)
    · rw [decide_eq_false hd] at hn
      repeat' first | refine V_cHT hlt rfl rfl ?_ | refine O_at rfl rfl hat ?_ | refine O_cA rfl rfl hn ?_ | refine V_out [(4, .int .i64 pre.length)] rfl ⟨rfl, trivial⟩ ⟨rfl, .inr ⟨rfl, pre.length, rfl, fun h => hd (h c (by rw [hl]; simp))⟩⟩ | refine V_O rfl ?_ | refine O_step rfl ?_ | refine O_nil' ?_ | refine V_cT rfl rfl ?_ | refine V_cF rfl rfl ?_ | refine V_cEq rfl rfl ?_ | refine V_cNe rfl rfl ?_ | refine V_cB rfl rfl (fun _ => ?_) (fun _ => ?_) | refine O_gT' rfl ?_ | refine O_gU' rfl ?_ | refine O_gF' rfl rfl ?_ | refine O_gEq rfl ?_ | refine O_gNe rfl ?_ | refine O_gS rfl (fun _ => ?_) (fun _ => ?_) | refine V_fA rfl rfl ?_ | refine V_fAN rfl rfl ?_ | refine V_D rfl ?_ | refine D_step rfl ?_ | refine D_nil' ?_ | refine D_gT' rfl ?_ | refine D_gU' rfl ?_ | refine D_gF' rfl rfl ?_ | refine D_gS rfl (fun _ => ?_) (fun _ => ?_)
theorem run_ContainsD {p : PV} {b : List UInt8} (hp : BV p b) (hb : b.length ≤ 9223372036854775800) : T.R (.call n_slices_ContainsFunc_byte_byte [p, .func n_num_Parse_1 []] (.bool (!decide (∀ c ∈ b, IsD c)))) := by
  have plp := hp.pl
  have hl := idxD_loop hp hb b [] rfl (fun c h => by cases h)
  have key : ∃ r, T.R (.call n_slices_IndexFunc_byte_byte [p, .func n_num_Parse_1 []] r) ∧ ∃ i : Int, r = .int .i64 i ∧ decide (0 ≤ i) = !decide (∀ c ∈ b, IsD c) := by
    refine call_VQ rfl rfl ?_
    repeat' first | refine O_lenB rfl hp ?_ | refine V_cutTo rfl hl ⟨rfl, rfl, rfl, rfl, trivial⟩ ?_ | refine V_O rfl ?_ | refine O_step rfl ?_ | refine O_nil' ?_ | refine V_cT rfl rfl ?_ | refine V_cF rfl rfl ?_ | refine V_cEq rfl rfl ?_ | refine V_cNe rfl rfl ?_ | refine V_cB rfl rfl (fun _ => ?_) (fun _ => ?_) | refine O_gT' rfl ?_ | refine O_gU' rfl ?_ | refine O_gF' rfl rfl ?_ | refine O_gEq rfl ?_ | refine O_gNe rfl ?_ | refine O_gS rfl (fun _ => ?_) (fun _ => ?_) | refine V_fA rfl rfl ?_ | refine V_fAN rfl rfl ?_ | refine V_D rfl ?_ | refine D_step rfl ?_ | refine D_nil' ?_ | refine D_gT' rfl ?_ | refine D_gU' rfl ?_ | refine D_gF' rfl rfl ?_ | refine D_gS rfl (fun _ => ?_) (fun _ => ?_)
    rintro x e' st' ⟨rfl, ⟨rfl, rfl, h⟩ | ⟨rfl, i, rfl, h⟩⟩
    · repeat' first | refine V_O rfl ?_ | refine O_step rfl ?_ | refine O_nil' ?_ | refine V_cT rfl rfl ?_ | refine V_cF rfl rfl ?_ | refine V_cEq rfl rfl ?_ | refine V_cNe rfl rfl ?_ | refine V_cB rfl rfl (fun _ => ?_) (fun _ => ?_) | refine O_gT' rfl ?_ | refine O_gU' rfl ?_ | refine O_gF' rfl rfl ?_ | refine O_gEq rfl ?_ | refine O_gNe rfl ?_ | refine O_gS rfl (fun _ => ?_) (fun _ => ?_) | refine V_fA rfl rfl ?_ | refine V_fAN rfl rfl ?_ | refine V_D rfl ?_ | refine D_step rfl ?_ | refine D_nil' ?_ | refine D_gT' rfl ?_ | refine D_gU' rfl ?_ | refine D_gF' rfl rfl ?_ | refine D_gS rfl (fun _ => ?_) (fun _ => ?_)
      exact ⟨-1, rfl, by rw [decide_eq_true h]; rfl⟩
    · repeat' first | refine V_O rfl ?_ | refine O_step rfl ?_ | refine O_nil' ?_ | refine V_cT rfl rfl ?_ | refine V_cF rfl rfl ?_ | refine V_cEq rfl rfl ?_ | refine V_cNe rfl rfl ?_ | refine V_cB rfl rfl (fun _ => ?_) (fun _ => ?_) | refine O_gT' rfl ?_ | refine O_gU' rfl ?_ | refine O_gF' rfl rfl ?_ | refine O_gEq rfl ?_ | refine O_gNe rfl ?_ | refine O_gS rfl (fun _ => ?_) (fun _ => ?_) | refine V_fA rfl rfl ?_ | refine V_fAN rfl rfl ?_ | refine V_D rfl ?_ | refine D_step rfl ?_ | refine D_nil' ?_ | refine D_gT' rfl ?_ | refine D_gU' rfl ?_ | refine D_gF' rfl rfl ?_ | refine D_gS rfl (fun _ => ?_) (fun _ => ?_)
      exact ⟨i, rfl, by rw [decide_eq_false h, decide_eq_true (by omega)]; rfl⟩
  obtain ⟨r, h1, i, rfl, hi⟩ := key
  rw [← hi]
  refine call_V rfl rfl ?_
  repeat' first | refine O_cA rfl rfl h1 ?_ | refine V_O rfl ?_ | refine O_step rfl ?_ | refine O_nil' ?_ | refine V_cT rfl rfl ?_ | refine V_cF rfl rfl ?_ | refine V_cEq rfl rfl ?_ | refine V_cNe rfl rfl ?_ | refine V_cB rfl rfl (fun _ => ?_) (fun _ => ?_) | refine O_gT' rfl ?_ | refine O_gU' rfl ?_ | refine O_gF' rfl rfl ?_ | refine O_gEq rfl ?_ | refine O_gNe rfl ?_ | refine O_gS rfl (fun _ => ?_) (fun _ => ?_) | refine V_fA rfl rfl ?_ | refine V_fAN rfl rfl ?_ | refine V_D rfl ?_ | refine D_step rfl ?_ | refine D_nil' ?_ | refine D_gT' rfl ?_ | refine D_gU' rfl ?_ | refine D_gF' rfl rfl ?_ | refine D_gS rfl (fun _ => ?_) (fun _ => ?_)
  rfl
def parC (n : Nat) : PC := (List.range n).foldl (fun c _ => match c with | .seq _ b => b | c => c) pf_num_Parse.body
theorem par_bad {s : List UInt8} (h : ¬ GoodD s) : parT s = (0, 10) := by unfold parT; rw [if_neg h]
theorem par_good {s : List UInt8} (h : GoodD s) : parT s = ans (sgnD s) := by unfold parT; rw [if_pos h]
theorem piPV_good {s : List UInt8} (h : GoodD s) : (R64 (sgnD s) ∧ piPV s = .tuple [.int .i64 (sgnD s), .nilIface]) ∨ ¬ R64 (sgnD s) ∧ ∃ v, piPV s = .tuple [.int .i64 v, .iface 102 .junk] := by
  have hp := parseInt_dig h
  unfold piPV
  by_cases hr : R64 (sgnD s)
  · rw [hp, if_pos hr]
    exact .inl ⟨hr, rfl⟩
  · rw [hp, if_neg hr]
    exact .inr ⟨hr, _, rfl⟩
theorem told_in {x : Int} (h : R64 x) : T.R (.call n_num_told [.int .i64 x, .bool true] (two (ans x))) := by
  have := run_told x true
  rw [if_pos rfl] at this
  unfold ans
  unfold R64 at h
  rw [if_pos h]
  exact this
theorem told_out {x : Int} (h : ¬ R64 x) (v : Int) : T.R (.call n_num_told [.int .i64 v, .bool false] (two (ans x))) := by
  have := run_told v false
  rw [if_neg (by simp)] at this
  unfold ans
  unfold R64 at h
  rw [if_neg h]
  exact this
set_option maxHeartbeats 2000000 in
theorem par2 {s : List UInt8} (hs : s.length ≤ 281474976710656) : ∀ (fr : List Fr) (x : EX), adv 200 fr x = adv 200 [.code (parC 3)] .normal → V T (Go.AM.Ends pf_num_Parse (· = two (parT s))) fr x (ecOf [(0, .str s), (4, .str (bodyD s))]) emptySt := by
  intro fr x hadv
  have hbl : (bodyD s).length ≤ s.length := by unfold bodyD; split <;> simp
  cases hb : bodyD s with
  | nil =>
    have hg : ¬ GoodD s := fun h => h.1 hb
    rw [par_bad hg]
    refine V_adv (hadv.trans rfl) ?_
    repeat' first | refine V_O rfl ?_ | refine O_step rfl ?_ | refine O_nil' ?_ | refine V_cT rfl rfl ?_ | refine V_cF rfl rfl ?_ | refine V_cEq rfl rfl ?_ | refine V_cNe rfl rfl ?_ | refine V_cB rfl rfl (fun _ => ?_) (fun _ => ?_) | refine O_gT' rfl ?_ | refine O_gU' rfl ?_ | refine O_gF' rfl rfl ?_ | refine O_gEq rfl ?_ | refine O_gNe rfl ?_ | refine O_gS rfl (fun _ => ?_) (fun _ => ?_) | refine V_fA rfl rfl ?_ | refine V_fAN rfl rfl ?_ | refine V_D rfl ?_ | refine D_step rfl ?_ | refine D_nil' ?_ | refine D_gT' rfl ?_ | refine D_gU' rfl ?_ | refine D_gF' rfl rfl ?_ | refine D_gS rfl (fun _ => ?_) (fun _ => ?_)
    rfl
  | cons c r =>
    have hbv : BV (.sl (byteCells (c :: r)) false) (c :: r) := .sl _ _
    have plv := hbv.pl
    have hcon := run_ContainsD hbv (by rw [← hb]; omega)
    have hch : ((c :: r) : List UInt8)[(0 : Int).toNat]? = some c := rfl
    by_cases hd : ∀ d ∈ c :: r, IsD d
    · rw [decide_eq_true hd] at hcon
      have hpi : ∀ v, piPV s = v → T.R (.call n_strconv_ParseInt [.str s, .int .i64 10, .int .i64 64] v) := fun v hv => .prim _ _ _ (.inr ⟨rfl, s, hs, rfl, hv.symm⟩)
      by_cases hc : c = 48
      · subst hc
        by_cases h0 : s = [48]
        · have hg : GoodD s := by
            refine ⟨by rw [hb]; simp, by rw [hb]; exact hd, fun _ => h0⟩
          rw [par_good hg]
          rcases piPV_good hg with ⟨hr, hv⟩ | ⟨hr, v, hv⟩
          · have hp := hpi _ hv
            have ht := told_in hr
            refine V_adv (hadv.trans rfl) ?_
            repeat' first | refine O_chr 48 rfl rfl (by decide) hch ?_ | refine O_is (ndec_is h0) rfl ?_ | refine O_cA rfl rfl hcon ?_ | refine O_cA rfl rfl hp ?_ | refine O_cA rfl rfl ht ?_ | refine V_O rfl ?_ | refine O_step rfl ?_ | refine O_nil' ?_ | refine V_cT rfl rfl ?_ | refine V_cF rfl rfl ?_ | refine V_cEq rfl rfl ?_ | refine V_cNe rfl rfl ?_ | refine V_cB rfl rfl (fun _ => ?_) (fun _ => ?_) | refine O_gT' rfl ?_ | refine O_gU' rfl ?_ | refine O_gF' rfl rfl ?_ | refine O_gEq rfl ?_ | refine O_gNe rfl ?_ | refine O_gS rfl (fun _ => ?_) (fun _ => ?_) | refine V_fA rfl rfl ?_ | refine V_fAN rfl rfl ?_ | refine V_D rfl ?_ | refine D_step rfl ?_ | refine D_nil' ?_ | refine D_gT' rfl ?_ | refine D_gU' rfl ?_ | refine D_gF' rfl rfl ?_ | refine D_gS rfl (fun _ => ?_) (fun _ => ?_)
            rfl
          · have hp := hpi _ hv
            have ht := told_out hr v
            refine V_adv (hadv.trans rfl) ?_
            repeat' first | refine O_chr 48 rfl rfl (by decide) hch ?_ | refine O_is (ndec_is h0) rfl ?_ | refine O_cA rfl rfl hcon ?_ | refine O_cA rfl rfl hp ?_ | refine O_cA rfl rfl ht ?_ | refine V_O rfl ?_ | refine O_step rfl ?_ | refine O_nil' ?_ | refine V_cT rfl rfl ?_ | refine V_cF rfl rfl ?_ | refine V_cEq rfl rfl ?_ | refine V_cNe rfl rfl ?_ | refine V_cB rfl rfl (fun _ => ?_) (fun _ => ?_) | refine O_gT' rfl ?_ | refine O_gU' rfl ?_ | refine O_gF' rfl rfl ?_ | refine O_gEq rfl ?_ | refine O_gNe rfl ?_ | refine O_gS rfl (fun _ => ?_) (fun _ => ?_) | refine V_fA rfl rfl ?_ | refine V_fAN rfl rfl ?_ | refine V_D rfl ?_ | refine D_step rfl ?_ | refine D_nil' ?_ | refine D_gT' rfl ?_ | refine D_gU' rfl ?_ | refine D_gF' rfl rfl ?_ | refine D_gS rfl (fun _ => ?_) (fun _ => ?_)
            rfl
        · have hg : ¬ GoodD s := fun h => h0 (h.2.2 (by rw [hb]; rfl))
          rw [par_bad hg]
          refine V_adv (hadv.trans rfl) ?_
          repeat' first | refine O_chr 48 rfl rfl (by decide) hch ?_ | refine O_is (ndec_not h0) rfl ?_ | refine O_cA rfl rfl hcon ?_ | refine V_O rfl ?_ | refine O_step rfl ?_ | refine O_nil' ?_ | refine V_cT rfl rfl ?_ | refine V_cF rfl rfl ?_ | refine V_cEq rfl rfl ?_ | refine V_cNe rfl rfl ?_ | refine V_cB rfl rfl (fun _ => ?_) (fun _ => ?_) | refine O_gT' rfl ?_ | refine O_gU' rfl ?_ | refine O_gF' rfl rfl ?_ | refine O_gEq rfl ?_ | refine O_gNe rfl ?_ | refine O_gS rfl (fun _ => ?_) (fun _ => ?_) | refine V_fA rfl rfl ?_ | refine V_fAN rfl rfl ?_ | refine V_D rfl ?_ | refine D_step rfl ?_ | refine D_nil' ?_ | refine D_gT' rfl ?_ | refine D_gU' rfl ?_ | refine D_gF' rfl rfl ?_ | refine D_gS rfl (fun _ => ?_) (fun _ => ?_)
          rfl
      · have hc' : ¬ (c.toNat : Int) = 48 := fun e => hc (UInt8.toNat_inj.1 (by have : (48 : UInt8).toNat = 48 := rfl; omega))
        have hg : GoodD s := by
          refine ⟨by rw [hb]; simp, by rw [hb]; exact hd, fun h => ?_⟩
          rw [hb] at h
          injection h with h
          exact absurd h hc
        rw [par_good hg]
        rcases piPV_good hg with ⟨hr, hv⟩ | ⟨hr, v, hv⟩
        · have hp := hpi _ hv
          have ht := told_in hr
          refine V_adv (hadv.trans rfl) ?_
          repeat' first | refine O_chr c rfl rfl (by decide) hch ?_ | refine O_is (dec_not hc') rfl ?_ | refine O_cA rfl rfl hcon ?_ | refine O_cA rfl rfl hp ?_ | refine O_cA rfl rfl ht ?_ | refine V_O rfl ?_ | refine O_step rfl ?_ | refine O_nil' ?_ | refine V_cT rfl rfl ?_ | refine V_cF rfl rfl ?_ | refine V_cEq rfl rfl ?_ | refine V_cNe rfl rfl ?_ | refine V_cB rfl rfl (fun _ => ?_) (fun _ => ?_) | refine O_gT' rfl ?_ | refine O_gU' rfl ?_ | refine O_gF' rfl rfl ?_ | refine O_gEq rfl ?_ | refine O_gNe rfl ?_ | refine O_gS rfl (fun _ => ?_) (fun _ => ?_) | refine V_fA rfl rfl ?_ | refine V_fAN rfl rfl ?_ | refine V_D rfl ?_ | refine D_step rfl ?_ | refine D_nil' ?_ | refine D_gT' rfl ?_ | refine D_gU' rfl ?_ | refine D_gF' rfl rfl ?_ | refine D_gS rfl (fun _ => ?_) (fun _ => ?_)
          rfl
        · have hp := hpi _ hv
          have ht := told_out hr v
          refine V_adv (hadv.trans rfl) ?_
          repeat' first | refine O_chr c rfl rfl (by decide) hch ?_ | refine O_is (dec_not hc') rfl ?_ | refine O_cA rfl rfl hcon ?_ | refine O_cA rfl rfl hp ?_ | refine O_cA rfl rfl ht ?_ | refine V_O rfl ?_ | refine O_step rfl ?_ | refine O_nil' ?_ | refine V_cT rfl rfl ?_ | refine V_cF rfl rfl ?_ | refine V_cEq rfl rfl ?_ | refine V_cNe rfl rfl ?_ | refine V_cB rfl rfl (fun _ => ?_) (fun _ => ?_) | refine O_gT' rfl ?_ | refine O_gU' rfl ?_ | refine O_gF' rfl rfl ?_ | refine O_gEq rfl ?_ | refine O_gNe rfl ?_ | refine O_gS rfl (fun _ => ?_) (fun _ => ?_) | refine V_fA rfl rfl ?_ | refine V_fAN rfl rfl ?_ | refine V_D rfl ?_ | refine D_step rfl ?_ | refine D_nil' ?_ | refine D_gT' rfl ?_ | refine D_gU' rfl ?_ | refine D_gF' rfl rfl ?_ | refine D_gS rfl (fun _ => ?_) (fun _ => ?_)
          rfl
    · rw [decide_eq_false hd] at hcon
      have hg : ¬ GoodD s := fun h => hd (by rw [← hb]; exact h.2.1)
      rw [par_bad hg]
      refine V_adv (hadv.trans rfl) ?_
      repeat' first | refine O_cA rfl rfl hcon ?_ | refine V_O rfl ?_ | refine O_step rfl ?_ | refine O_nil' ?_ | refine V_cT rfl rfl ?_ | refine V_cF rfl rfl ?_ | refine V_cEq rfl rfl ?_ | refine V_cNe rfl rfl ?_ | refine V_cB rfl rfl (fun _ => ?_) (fun _ => ?_) | refine O_gT' rfl ?_ | refine O_gU' rfl ?_ | refine O_gF' rfl rfl ?_ | refine O_gEq rfl ?_ | refine O_gNe rfl ?_ | refine O_gS rfl (fun _ => ?_) (fun _ => ?_) | refine V_fA rfl rfl ?_ | refine V_fAN rfl rfl ?_ | refine V_D rfl ?_ | refine D_step rfl ?_ | refine D_nil' ?_ | refine D_gT' rfl ?_ | refine D_gU' rfl ?_ | refine D_gF' rfl rfl ?_ | refine D_gS rfl (fun _ => ?_) (fun _ => ?_)
      rfl
theorem run_Parse {s : List UInt8} (hs : s.length ≤ 281474976710656) : T.R (.call n_num_Parse [.str s] (two (parT s))) := by
  have h2 := par2 hs
  cases s with
  | nil =>
    refine call_V rfl rfl ?_
    repeat' first | refine V_re rfl (h2 _ _ rfl) ⟨rfl, rfl, trivial⟩ | refine V_O rfl ?_ | refine O_step rfl ?_ | refine O_nil' ?_ | refine V_cT rfl rfl ?_ | refine V_cF rfl rfl ?_ | refine V_cEq rfl rfl ?_ | refine V_cNe rfl rfl ?_ | refine V_cB rfl rfl (fun _ => ?_) (fun _ => ?_) | refine O_gT' rfl ?_ | refine O_gU' rfl ?_ | refine O_gF' rfl rfl ?_ | refine O_gEq rfl ?_ | refine O_gNe rfl ?_ | refine O_gS rfl (fun _ => ?_) (fun _ => ?_) | refine V_fA rfl rfl ?_ | refine V_fAN rfl rfl ?_ | refine V_D rfl ?_ | refine D_step rfl ?_ | refine D_nil' ?_ | refine D_gT' rfl ?_ | refine D_gU' rfl ?_ | refine D_gF' rfl rfl ?_ | refine D_gS rfl (fun _ => ?_) (fun _ => ?_)
  | cons c r =>
    have hch : ((c :: r) : List UInt8)[(0 : Int).toNat]? = some c := rfl
    by_cases hc : c = 45
    · subst hc
      have hsl : ∀ look : Nat → Option Tok, sliceStr? (some (.int .i64 1)) none (.str (45 :: r)) = some (.str r) := fun _ => by
        simp [sliceStr?, bound?, int?]
        omega
      refine call_V rfl rfl ?_
      repeat' first | refine V_re rfl (h2 _ _ rfl) ⟨rfl, rfl, trivial⟩ | refine O_chr 45 rfl rfl (by decide) hch ?_ | refine O_step (hsl (fun _ => none)) ?_ | refine V_O rfl ?_ | refine O_step rfl ?_ | refine O_nil' ?_ | refine V_cT rfl rfl ?_ | refine V_cF rfl rfl ?_ | refine V_cEq rfl rfl ?_ | refine V_cNe rfl rfl ?_ | refine V_cB rfl rfl (fun _ => ?_) (fun _ => ?_) | refine O_gT' rfl ?_ | refine O_gU' rfl ?_ | refine O_gF' rfl rfl ?_ | refine O_gEq rfl ?_ | refine O_gNe rfl ?_ | refine O_gS rfl (fun _ => ?_) (fun _ => ?_) | refine V_fA rfl rfl ?_ | refine V_fAN rfl rfl ?_ | refine V_D rfl ?_ | refine D_step rfl ?_ | refine D_nil' ?_ | refine D_gT' rfl ?_ | refine D_gU' rfl ?_ | refine D_gF' rfl rfl ?_ | refine D_gS rfl (fun _ => ?_) (fun _ => ?_)
    · have hc' : ¬ (c.toNat : Int) = 45 := fun e => hc (UInt8.toNat_inj.1 (by have : (45 : UInt8).toNat = 45 := rfl; omega))
      have hbd : bodyD (c :: r) = c :: r := by unfold bodyD; rw [if_neg (by simp [hc])]
      rw [hbd] at h2
      refine call_V rfl rfl ?_
      repeat' first | refine V_re rfl (h2 _ _ rfl) ⟨rfl, rfl, trivial⟩ | refine O_chr c rfl rfl (by decide) hch ?_ | refine O_is (dec_not hc') rfl ?_ | refine V_O rfl ?_ | refine O_step rfl ?_ | refine O_nil' ?_ | refine V_cT rfl rfl ?_ | refine V_cF rfl rfl ?_ | refine V_cEq rfl rfl ?_ | refine V_cNe rfl rfl ?_ | refine V_cB rfl rfl (fun _ => ?_) (fun _ => ?_) | refine O_gT' rfl ?_ | refine O_gU' rfl ?_ | refine O_gF' rfl rfl ?_ | refine O_gEq rfl ?_ | refine O_gNe rfl ?_ | refine O_gS rfl (fun _ => ?_) (fun _ => ?_) | refine V_fA rfl rfl ?_ | refine V_fAN rfl rfl ?_ | refine V_D rfl ?_ | refine D_step rfl ?_ | refine D_nil' ?_ | refine D_gT' rfl ?_ | refine D_gU' rfl ?_ | refine D_gF' rfl rfl ?_ | refine D_gS rfl (fun _ => ?_) (fun _ => ?_)
end Go.Proofs.YtbeaalkfakjoiaaDoor
