/- rambleref25.asks, lineEnd, cut, number; strings.Contains of a line's end; script.text, keep. · script.Line, rambleref25.Line. -/
import Derived.Test.YtbeaalkfakjoiaaDoorStrAToScrA
set_option linter.unusedVariables false
set_option linter.unusedSimpArgs false
namespace Go.Proofs.YtbeaalkfakjoiaaDoor
open Go Go.AM Go.RowKit
theorem cat_q {look : Nat → Option Tok} {ρ : EC} {x y : Opd} {a b : List UInt8} (hl : a.length + b.length ≤ 9223372036854775807) (hx : x.get ρ = some (.str a)) (hy : y.get ρ = some (.str b)) : stepQ look ρ (.bin .add x y) = some (.str (a ++ b)) := by
  simp only [stepQ, get2, hx, hy, binOp?, binStr]
  rw [if_neg (by omega)]
structure Cm where
  k : Int
  se : Int
  t : List UInt8
  to : Int
  ke : Int
def cells (c : Cm) : List PV := [.int .i64 c.k, .int .i64 c.se, .str c.t, .int .i64 c.to, .int .i64 c.ke]
def isAsk (k : Int) : Bool := decide (k = 4) || decide (k = 5)
def keepC (c : Cm) : Cm := if c.k = 6 then ⟨c.k, 0, [], c.to, c.ke⟩ else if isAsk c.k = true then ⟨c.k, c.se, c.t, 0, 0⟩ else ⟨c.k, c.se, [], 0, 0⟩
def lineC (c : Cm) : List UInt8 := if c.k = 6 then wordL c.k ++ [32] ++ Lib.itoa c.to ++ [32] ++ Lib.itoa c.ke else if isAsk c.k = true then wordL c.k ++ [32] ++ Lib.itoa c.se ++ [32] ++ c.t else wordL c.k ++ [32] ++ Lib.itoa c.se
theorem wordL_len (k : Int) : (wordL k).length ≤ 8 := by
  unfold wordL
  split; decide
  split; decide
  split; decide
  split; decide
  split; decide
  split; decide
  decide
theorem run_asks (k : Int) : T.R (.call n_rambleref25_asks [.int .i64 k] (.bool (isAsk k))) := by
  unfold isAsk
  by_cases h4 : k = 4
  · subst h4
    refine call_V rfl rfl ?_
    repeat' first | ((with_reducible show V _ _ _ _ _ _); first | refine V_O rfl ?_ | refine V_cT rfl rfl ?_ | refine V_cF rfl rfl ?_ | refine V_cEq rfl rfl ?_ | refine V_cNe rfl rfl ?_ | refine V_cB rfl rfl (fun _ => ?_) (fun _ => ?_) | refine V_fA rfl rfl ?_ | refine V_fAN rfl rfl ?_ | refine V_D rfl ?_) | ((with_reducible show VO _ _ _ _ _ _ _); first | refine O_step rfl ?_ | refine O_nil' ?_ | refine O_gT' rfl ?_ | refine O_gU' rfl ?_ | refine O_gF' rfl rfl ?_ | refine O_gEq rfl ?_ | refine O_gNe rfl ?_ | refine O_gS rfl (fun _ => ?_) (fun _ => ?_)) | ((with_reducible show VD _ _ _ _ _ _ _); first | refine D_step rfl ?_ | refine D_nil' ?_ | refine D_gT' rfl ?_ | refine D_gU' rfl ?_ | refine D_gF' rfl rfl ?_ | refine D_gS rfl (fun _ => ?_) (fun _ => ?_))
    rfl
  · rw [decide_eq_false h4, Bool.false_or]
    refine call_V rfl rfl ?_
    repeat' first | ((with_reducible show V _ _ _ _ _ _); first | refine V_O rfl ?_ | refine V_cT rfl rfl ?_ | refine V_cF rfl rfl ?_ | refine V_cEq rfl rfl ?_ | refine V_cNe rfl rfl ?_ | refine V_cB rfl rfl (fun _ => ?_) (fun _ => ?_) | refine V_fA rfl rfl ?_ | refine V_fAN rfl rfl ?_ | refine V_D rfl ?_) | ((with_reducible show VO _ _ _ _ _ _ _); first | refine O_is (dec_not h4) rfl ?_ | refine O_step rfl ?_ | refine O_nil' ?_ | refine O_gT' rfl ?_ | refine O_gU' rfl ?_ | refine O_gF' rfl rfl ?_ | refine O_gEq rfl ?_ | refine O_gNe rfl ?_ | refine O_gS rfl (fun _ => ?_) (fun _ => ?_)) | ((with_reducible show VD _ _ _ _ _ _ _); first | refine D_step rfl ?_ | refine D_nil' ?_ | refine D_gT' rfl ?_ | refine D_gU' rfl ?_ | refine D_gF' rfl rfl ?_ | refine D_gS rfl (fun _ => ?_) (fun _ => ?_))
    rfl
theorem run_text {n : Int} (h : R64 n) : T.R (.call n_script_text [.int .i64 n] (.str (Lib.itoa n))) := by
  have ht := run_Text h
  refine call_V rfl rfl ?_
  repeat' first | ((with_reducible show V _ _ _ _ _ _); first | refine V_O rfl ?_ | refine V_cT rfl rfl ?_ | refine V_cF rfl rfl ?_ | refine V_cEq rfl rfl ?_ | refine V_cNe rfl rfl ?_ | refine V_cB rfl rfl (fun _ => ?_) (fun _ => ?_) | refine V_fA rfl rfl ?_ | refine V_fAN rfl rfl ?_ | refine V_D rfl ?_) | ((with_reducible show VO _ _ _ _ _ _ _); first | refine O_cA rfl rfl ht ?_ | refine O_step rfl ?_ | refine O_nil' ?_ | refine O_gT' rfl ?_ | refine O_gU' rfl ?_ | refine O_gF' rfl rfl ?_ | refine O_gEq rfl ?_ | refine O_gNe rfl ?_ | refine O_gS rfl (fun _ => ?_) (fun _ => ?_)) | ((with_reducible show VD _ _ _ _ _ _ _); first | refine D_step rfl ?_ | refine D_nil' ?_ | refine D_gT' rfl ?_ | refine D_gU' rfl ?_ | refine D_gF' rfl rfl ?_ | refine D_gS rfl (fun _ => ?_) (fun _ => ?_))
  rfl
theorem run_number {s : List UInt8} (hs : s.length ≤ 281474976710656) : T.R (.call n_rambleref25_number [.str s] (.tuple [.int .i64 (parT s).1, .bool (decide ((parT s).2 = 0))])) := by
  have h := run_rParse hs
  unfold two at h
  refine call_V rfl rfl ?_
  repeat' first | ((with_reducible show V _ _ _ _ _ _); first | refine V_O rfl ?_ | refine V_cT rfl rfl ?_ | refine V_cF rfl rfl ?_ | refine V_cEq rfl rfl ?_ | refine V_cNe rfl rfl ?_ | refine V_cB rfl rfl (fun _ => ?_) (fun _ => ?_) | refine V_fA rfl rfl ?_ | refine V_fAN rfl rfl ?_ | refine V_D rfl ?_) | ((with_reducible show VO _ _ _ _ _ _ _); first | refine O_cA rfl rfl h ?_ | refine O_step rfl ?_ | refine O_nil' ?_ | refine O_gT' rfl ?_ | refine O_gU' rfl ?_ | refine O_gF' rfl rfl ?_ | refine O_gEq rfl ?_ | refine O_gNe rfl ?_ | refine O_gS rfl (fun _ => ?_) (fun _ => ?_)) | ((with_reducible show VD _ _ _ _ _ _ _); first | refine D_step rfl ?_ | refine D_nil' ?_ | refine D_gT' rfl ?_ | refine D_gU' rfl ?_ | refine D_gF' rfl rfl ?_ | refine D_gS rfl (fun _ => ?_) (fun _ => ?_))
  rfl
theorem mem_cut (c : UInt8) (s : List UInt8) : decide (0 ≤ idxI c s) = decide (c ∈ s) := by
  unfold idxI
  cases h : cutB c s with
  | none => rw [decide_eq_false (cutB_none h)]; rfl
  | some p =>
    obtain ⟨x, y⟩ := p
    obtain ⟨h1, -⟩ := cutB_some h
    rw [decide_eq_true (by rw [h1]; simp : c ∈ s), decide_eq_true (by simp only; omega)]
theorem run_ContainsS (s : List UInt8) (c : UInt8) : T.R (.call n_strings_Contains [.str s, .str [c]] (.bool (decide (c ∈ s)))) := by
  have h := run_Index1S s c
  rw [← mem_cut]
  generalize idxI c s = r at h ⊢
  refine call_V rfl rfl ?_
  repeat' first | ((with_reducible show V _ _ _ _ _ _); first | refine V_O rfl ?_ | refine V_cT rfl rfl ?_ | refine V_cF rfl rfl ?_ | refine V_cEq rfl rfl ?_ | refine V_cNe rfl rfl ?_ | refine V_cB rfl rfl (fun _ => ?_) (fun _ => ?_) | refine V_fA rfl rfl ?_ | refine V_fAN rfl rfl ?_ | refine V_D rfl ?_) | ((with_reducible show VO _ _ _ _ _ _ _); first | refine O_cA rfl rfl h ?_ | refine O_step rfl ?_ | refine O_nil' ?_ | refine O_gT' rfl ?_ | refine O_gU' rfl ?_ | refine O_gF' rfl rfl ?_ | refine O_gEq rfl ?_ | refine O_gNe rfl ?_ | refine O_gS rfl (fun _ => ?_) (fun _ => ?_)) | ((with_reducible show VD _ _ _ _ _ _ _); first | refine D_step rfl ?_ | refine D_nil' ?_ | refine D_gT' rfl ?_ | refine D_gU' rfl ?_ | refine D_gF' rfl rfl ?_ | refine D_gS rfl (fun _ => ?_) (fun _ => ?_))
  rfl
def endP (s : List UInt8) : EX → EC → St → Prop := fun x e st => st = emptySt ∧ ((x = .exit 0 ∧ e = .nil ∧ 10 ∉ s) ∨ (x = .ret ∧ e = ecOf [(2, .bool true)] ∧ 10 ∈ s))
theorem end_loop {s : List UInt8} (hl0 : s.length ≤ 9223372036854775800) : ∀ (rest pre : List UInt8), s = pre ++ rest → 10 ∉ pre →
    V T (PE (endP s)) [.code (.loop lp_rambleref25_lineEnd_0)] .normal (ecOf [(0, .str s), (3, .int .i64 pre.length)]) emptySt := by
  intro rest
  induction rest with
  | nil =>
    intro pre hl hpre
    have hlt : decide ((pre.length : Int) < s.length) = false := decide_eq_false (by subst hl; simp)
    have hn : 10 ∉ s := by rw [hl, List.append_nil]; exact hpre
    refine V_unroll ?_
    repeat' first | ((with_reducible show V _ _ _ _ _ _); first | refine V_cH hlt rfl rfl ?_ | refine V_out [] rfl trivial ⟨rfl, .inl ⟨rfl, rfl, hn⟩⟩ | refine V_O rfl ?_ | refine V_cT rfl rfl ?_ | refine V_cF rfl rfl ?_ | refine V_cEq rfl rfl ?_ | refine V_cNe rfl rfl ?_ | refine V_cB rfl rfl (fun _ => ?_) (fun _ => ?_) | refine V_fA rfl rfl ?_ | refine V_fAN rfl rfl ?_ | refine V_D rfl ?_) | ((with_reducible show VO _ _ _ _ _ _ _); first | refine O_step rfl ?_ | refine O_nil' ?_ | refine O_gT' rfl ?_ | refine O_gU' rfl ?_ | refine O_gF' rfl rfl ?_ | refine O_gEq rfl ?_ | refine O_gNe rfl ?_ | refine O_gS rfl (fun _ => ?_) (fun _ => ?_)) | ((with_reducible show VD _ _ _ _ _ _ _); first | refine D_step rfl ?_ | refine D_nil' ?_ | refine D_gT' rfl ?_ | refine D_gU' rfl ?_ | refine D_gF' rfl rfl ?_ | refine D_gS rfl (fun _ => ?_) (fun _ => ?_))
  | cons c rest ih =>
    intro pre hl hpre
    have hlt : decide ((pre.length : Int) < s.length) = true := decide_eq_true (by subst hl; simp; omega)
    have hch : s[(pre.length : Int).toNat]? = some c := by subst hl; simp
    have hpl : pre.length < s.length := by subst hl; simp
    refine V_unroll ?_
    by_cases hc : c = 10
    · subst hc
      have hm : (10 : UInt8) ∈ s := by rw [hl]; simp
      repeat' first | ((with_reducible show V _ _ _ _ _ _); first | refine V_cHT hlt rfl rfl ?_ | refine V_out [(2, .bool true)] rfl ⟨rfl, trivial⟩ ⟨rfl, .inr ⟨rfl, rfl, hm⟩⟩ | refine V_O rfl ?_ | refine V_cT rfl rfl ?_ | refine V_cF rfl rfl ?_ | refine V_cEq rfl rfl ?_ | refine V_cNe rfl rfl ?_ | refine V_cB rfl rfl (fun _ => ?_) (fun _ => ?_) | refine V_fA rfl rfl ?_ | refine V_fAN rfl rfl ?_ | refine V_D rfl ?_) | ((with_reducible show VO _ _ _ _ _ _ _); first | refine O_chr 10 rfl rfl (by omega) hch ?_ | refine O_step rfl ?_ | refine O_nil' ?_ | refine O_gT' rfl ?_ | refine O_gU' rfl ?_ | refine O_gF' rfl rfl ?_ | refine O_gEq rfl ?_ | refine O_gNe rfl ?_ | refine O_gS rfl (fun _ => ?_) (fun _ => ?_)) | ((with_reducible show VD _ _ _ _ _ _ _); first | refine D_step rfl ?_ | refine D_nil' ?_ | refine D_gT' rfl ?_ | refine D_gU' rfl ?_ | refine D_gF' rfl rfl ?_ | refine D_gS rfl (fun _ => ?_) (fun _ => ?_))
    · have hc' : ¬ (c.toNat : Int) = 10 := fun e => hc (UInt8.toNat_inj.1 (by have : (10 : UInt8).toNat = 10 := rfl; omega))
      have hw : IntKind.i64.wrap ((pre.length : Int) + 1) = ((pre ++ [c]).length : Int) := by rw [wrap_i64]; simp; omega
      have hi := ih (pre ++ [c]) (by rw [hl]; simp) (by simp [hpre, Ne.symm hc])
      repeat' first | ((with_reducible show V _ _ _ _ _ _); first | refine V_cHT hlt rfl rfl ?_ | refine V_re rfl hi ⟨rfl, some_int hw, trivial⟩ | refine V_O rfl ?_ | refine V_cT rfl rfl ?_ | refine V_cF rfl rfl ?_ | refine V_cEq rfl rfl ?_ | refine V_cNe rfl rfl ?_ | refine V_cB rfl rfl (fun _ => ?_) (fun _ => ?_) | refine V_fA rfl rfl ?_ | refine V_fAN rfl rfl ?_ | refine V_D rfl ?_) | ((with_reducible show VO _ _ _ _ _ _ _); first | refine O_chr c rfl rfl (by omega) hch ?_ | refine O_is (dec_not hc') rfl ?_ | refine O_step rfl ?_ | refine O_nil' ?_ | refine O_gT' rfl ?_ | refine O_gU' rfl ?_ | refine O_gF' rfl rfl ?_ | refine O_gEq rfl ?_ | refine O_gNe rfl ?_ | refine O_gS rfl (fun _ => ?_) (fun _ => ?_)) | ((with_reducible show VD _ _ _ _ _ _ _); first | refine D_step rfl ?_ | refine D_nil' ?_ | refine D_gT' rfl ?_ | refine D_gU' rfl ?_ | refine D_gF' rfl rfl ?_ | refine D_gS rfl (fun _ => ?_) (fun _ => ?_))
theorem run_lineEnd {s : List UInt8} (hl0 : s.length ≤ 9223372036854775800) : T.R (.call n_rambleref25_lineEnd [.str s] (.bool (decide (10 ∈ s)))) := by
  have hl := end_loop hl0 s [] rfl (by simp)
  refine call_V rfl rfl ?_
  repeat' first | ((with_reducible show V _ _ _ _ _ _); first | refine V_cutTo rfl hl ⟨rfl, rfl, trivial⟩ ?_ | refine V_O rfl ?_ | refine V_cT rfl rfl ?_ | refine V_cF rfl rfl ?_ | refine V_cEq rfl rfl ?_ | refine V_cNe rfl rfl ?_ | refine V_cB rfl rfl (fun _ => ?_) (fun _ => ?_) | refine V_fA rfl rfl ?_ | refine V_fAN rfl rfl ?_ | refine V_D rfl ?_) | ((with_reducible show VO _ _ _ _ _ _ _); first | refine O_step rfl ?_ | refine O_nil' ?_ | refine O_gT' rfl ?_ | refine O_gU' rfl ?_ | refine O_gF' rfl rfl ?_ | refine O_gEq rfl ?_ | refine O_gNe rfl ?_ | refine O_gS rfl (fun _ => ?_) (fun _ => ?_)) | ((with_reducible show VD _ _ _ _ _ _ _); first | refine D_step rfl ?_ | refine D_nil' ?_ | refine D_gT' rfl ?_ | refine D_gU' rfl ?_ | refine D_gF' rfl rfl ?_ | refine D_gS rfl (fun _ => ?_) (fun _ => ?_))
  rintro x e' st' ⟨rfl, ⟨rfl, rfl, h⟩ | ⟨rfl, rfl, h⟩⟩
  · rw [decide_eq_false h]
    repeat' first | ((with_reducible show V _ _ _ _ _ _); first | refine V_O rfl ?_ | refine V_cT rfl rfl ?_ | refine V_cF rfl rfl ?_ | refine V_cEq rfl rfl ?_ | refine V_cNe rfl rfl ?_ | refine V_cB rfl rfl (fun _ => ?_) (fun _ => ?_) | refine V_fA rfl rfl ?_ | refine V_fAN rfl rfl ?_ | refine V_D rfl ?_) | ((with_reducible show VO _ _ _ _ _ _ _); first | refine O_step rfl ?_ | refine O_nil' ?_ | refine O_gT' rfl ?_ | refine O_gU' rfl ?_ | refine O_gF' rfl rfl ?_ | refine O_gEq rfl ?_ | refine O_gNe rfl ?_ | refine O_gS rfl (fun _ => ?_) (fun _ => ?_)) | ((with_reducible show VD _ _ _ _ _ _ _); first | refine D_step rfl ?_ | refine D_nil' ?_ | refine D_gT' rfl ?_ | refine D_gU' rfl ?_ | refine D_gF' rfl rfl ?_ | refine D_gS rfl (fun _ => ?_) (fun _ => ?_))
    rfl
  · rw [decide_eq_true h]
    repeat' first | ((with_reducible show V _ _ _ _ _ _); first | refine V_O rfl ?_ | refine V_cT rfl rfl ?_ | refine V_cF rfl rfl ?_ | refine V_cEq rfl rfl ?_ | refine V_cNe rfl rfl ?_ | refine V_cB rfl rfl (fun _ => ?_) (fun _ => ?_) | refine V_fA rfl rfl ?_ | refine V_fAN rfl rfl ?_ | refine V_D rfl ?_) | ((with_reducible show VO _ _ _ _ _ _ _); first | refine O_step rfl ?_ | refine O_nil' ?_ | refine O_gT' rfl ?_ | refine O_gU' rfl ?_ | refine O_gF' rfl rfl ?_ | refine O_gEq rfl ?_ | refine O_gNe rfl ?_ | refine O_gS rfl (fun _ => ?_) (fun _ => ?_)) | ((with_reducible show VD _ _ _ _ _ _ _); first | refine D_step rfl ?_ | refine D_nil' ?_ | refine D_gT' rfl ?_ | refine D_gU' rfl ?_ | refine D_gF' rfl rfl ?_ | refine D_gS rfl (fun _ => ?_) (fun _ => ?_))
    rfl
theorem cutB_pre {c : UInt8} : ∀ (pre rest : List UInt8), c ∉ pre → cutB c (pre ++ c :: rest) = some (pre, rest)
  | [], rest, _ => by simp [cutB]
  | b :: l, rest, h => by
    have h1 : ¬ b = c := fun e => h (by simp [e])
    have h2 : c ∉ l := fun e => h (by simp [e])
    rw [List.cons_append, cutB, if_neg h1, cutB_pre l rest h2]
    rfl
theorem cutB_nil {c : UInt8} : ∀ (s : List UInt8), c ∉ s → cutB c s = none
  | [], _ => rfl
  | b :: l, h => by
    have h1 : ¬ b = c := fun e => h (by simp [e])
    have h2 : c ∉ l := fun e => h (by simp [e])
    rw [cutB, if_neg h1, cutB_nil l h2]
    rfl
def rcutP (s : List UInt8) : EX → EC → St → Prop := fun x e st => st = emptySt ∧ ((x = .exit 0 ∧ e = ecOf [(0, .str s)] ∧ 32 ∉ s) ∨ (x = .ret ∧ ∃ a b, e = ecOf [(2, .str a), (3, .str b), (4, .bool true)] ∧ cutB 32 s = some (a, b)))
theorem rcut_loop {s : List UInt8} (hl0 : s.length ≤ 9223372036854775800) : ∀ (rest pre : List UInt8), s = pre ++ rest → 32 ∉ pre →
    V T (PE (rcutP s)) [.code (.loop lp_rambleref25_cut_0)] .normal (ecOf [(0, .str s), (5, .int .i64 pre.length)]) emptySt := by
  intro rest
  induction rest with
  | nil =>
    intro pre hl hpre
    have hlt : decide ((pre.length : Int) < s.length) = false := decide_eq_false (by subst hl; simp)
    have hn : 32 ∉ s := by rw [hl, List.append_nil]; exact hpre
    refine V_unroll ?_
    repeat' first | ((with_reducible show V _ _ _ _ _ _); first | refine V_cH hlt rfl rfl ?_ | refine V_out [(0, .str s)] rfl ⟨rfl, trivial⟩ ⟨rfl, .inl ⟨rfl, rfl, hn⟩⟩ | refine V_O rfl ?_ | refine V_cT rfl rfl ?_ | refine V_cF rfl rfl ?_ | refine V_cEq rfl rfl ?_ | refine V_cNe rfl rfl ?_ | refine V_cB rfl rfl (fun _ => ?_) (fun _ => ?_) | refine V_fA rfl rfl ?_ | refine V_fAN rfl rfl ?_ | refine V_D rfl ?_) | ((with_reducible show VO _ _ _ _ _ _ _); first | refine O_step rfl ?_ | refine O_nil' ?_ | refine O_gT' rfl ?_ | refine O_gU' rfl ?_ | refine O_gF' rfl rfl ?_ | refine O_gEq rfl ?_ | refine O_gNe rfl ?_ | refine O_gS rfl (fun _ => ?_) (fun _ => ?_)) | ((with_reducible show VD _ _ _ _ _ _ _); first | refine D_step rfl ?_ | refine D_nil' ?_ | refine D_gT' rfl ?_ | refine D_gU' rfl ?_ | refine D_gF' rfl rfl ?_ | refine D_gS rfl (fun _ => ?_) (fun _ => ?_))
  | cons c rest ih =>
    intro pre hl hpre
    have hlt : decide ((pre.length : Int) < s.length) = true := decide_eq_true (by subst hl; simp; omega)
    have hch : s[(pre.length : Int).toNat]? = some c := by subst hl; simp
    have hpl : pre.length < s.length := by subst hl; simp
    refine V_unroll ?_
    by_cases hc : c = 32
    · subst hc
      have hcut := cutB_pre pre rest hpre
      rw [← hl] at hcut
      have h1 : sliceStr? none (some (.int .i64 (pre.length : Int))) (.str s) = some (.str pre) := by rw [sliceTo (by omega), hl, List.take_left]
      have hw : PV.int .i64 (IntKind.i64.wrap ((pre.length : Int) + 1)) = PV.int .i64 ((pre.length + 1 : Nat) : Int) := int_is (by rw [wrap_i64]; omega)
      have h2 : sliceStr? (some (.int .i64 ((pre.length + 1 : Nat) : Int))) none (.str s) = some (.str rest) := by
        rw [sliceFrom (by omega), hl, show pre ++ 32 :: rest = (pre ++ [32]) ++ rest by simp, List.drop_left' (by simp)]
      repeat' first | ((with_reducible show V _ _ _ _ _ _); first | refine V_cHT hlt rfl rfl ?_ | refine V_out [(2, .str pre), (3, .str rest), (4, .bool true)] rfl ⟨rfl, rfl, rfl, trivial⟩ ⟨rfl, .inr ⟨rfl, pre, rest, rfl, hcut⟩⟩ | refine V_O rfl ?_ | refine V_cT rfl rfl ?_ | refine V_cF rfl rfl ?_ | refine V_cEq rfl rfl ?_ | refine V_cNe rfl rfl ?_ | refine V_cB rfl rfl (fun _ => ?_) (fun _ => ?_) | refine V_fA rfl rfl ?_ | refine V_fAN rfl rfl ?_ | refine V_D rfl ?_) | ((with_reducible show VO _ _ _ _ _ _ _); first | refine O_chr 32 rfl rfl (by omega) hch ?_ | refine O_step rfl ?_ | refine O_nil' ?_ | refine O_gT' rfl ?_ | refine O_gU' rfl ?_ | refine O_gF' rfl rfl ?_ | refine O_gEq rfl ?_ | refine O_gNe rfl ?_ | refine O_gS rfl (fun _ => ?_) (fun _ => ?_)) | ((with_reducible show VD _ _ _ _ _ _ _); first | refine D_step h1 ?_ | refine D_is hw rfl ?_ | refine D_step h2 ?_ | refine D_step rfl ?_ | refine D_nil' ?_ | refine D_gT' rfl ?_ | refine D_gU' rfl ?_ | refine D_gF' rfl rfl ?_ | refine D_gS rfl (fun _ => ?_) (fun _ => ?_))
    · have hc' : ¬ (c.toNat : Int) = 32 := fun e => hc (UInt8.toNat_inj.1 (by have : (32 : UInt8).toNat = 32 := rfl; omega))
      have hw : IntKind.i64.wrap ((pre.length : Int) + 1) = ((pre ++ [c]).length : Int) := by rw [wrap_i64]; simp; omega
      have hi := ih (pre ++ [c]) (by rw [hl]; simp) (by simp [hpre, Ne.symm hc])
      repeat' first | ((with_reducible show V _ _ _ _ _ _); first | refine V_cHT hlt rfl rfl ?_ | refine V_re rfl hi ⟨rfl, some_int hw, trivial⟩ | refine V_O rfl ?_ | refine V_cT rfl rfl ?_ | refine V_cF rfl rfl ?_ | refine V_cEq rfl rfl ?_ | refine V_cNe rfl rfl ?_ | refine V_cB rfl rfl (fun _ => ?_) (fun _ => ?_) | refine V_fA rfl rfl ?_ | refine V_fAN rfl rfl ?_ | refine V_D rfl ?_) | ((with_reducible show VO _ _ _ _ _ _ _); first | refine O_chr c rfl rfl (by omega) hch ?_ | refine O_is (dec_not hc') rfl ?_ | refine O_step rfl ?_ | refine O_nil' ?_ | refine O_gT' rfl ?_ | refine O_gU' rfl ?_ | refine O_gF' rfl rfl ?_ | refine O_gEq rfl ?_ | refine O_gNe rfl ?_ | refine O_gS rfl (fun _ => ?_) (fun _ => ?_)) | ((with_reducible show VD _ _ _ _ _ _ _); first | refine D_step rfl ?_ | refine D_nil' ?_ | refine D_gT' rfl ?_ | refine D_gU' rfl ?_ | refine D_gF' rfl rfl ?_ | refine D_gS rfl (fun _ => ?_) (fun _ => ?_))
theorem run_rCut {s : List UInt8} (hl0 : s.length ≤ 9223372036854775800) : T.R (.call n_rambleref25_cut [.str s] (cutT 32 s)) := by
  have hl := rcut_loop hl0 s [] rfl (by simp)
  refine call_V rfl rfl ?_
  repeat' first | ((with_reducible show V _ _ _ _ _ _); first | refine V_cutTo rfl hl ⟨rfl, rfl, trivial⟩ ?_ | refine V_O rfl ?_ | refine V_cT rfl rfl ?_ | refine V_cF rfl rfl ?_ | refine V_cEq rfl rfl ?_ | refine V_cNe rfl rfl ?_ | refine V_cB rfl rfl (fun _ => ?_) (fun _ => ?_) | refine V_fA rfl rfl ?_ | refine V_fAN rfl rfl ?_ | refine V_D rfl ?_) | ((with_reducible show VO _ _ _ _ _ _ _); first | refine O_step rfl ?_ | refine O_nil' ?_ | refine O_gT' rfl ?_ | refine O_gU' rfl ?_ | refine O_gF' rfl rfl ?_ | refine O_gEq rfl ?_ | refine O_gNe rfl ?_ | refine O_gS rfl (fun _ => ?_) (fun _ => ?_)) | ((with_reducible show VD _ _ _ _ _ _ _); first | refine D_step rfl ?_ | refine D_nil' ?_ | refine D_gT' rfl ?_ | refine D_gU' rfl ?_ | refine D_gF' rfl rfl ?_ | refine D_gS rfl (fun _ => ?_) (fun _ => ?_))
  unfold cutT
  rintro x e' st' ⟨rfl, ⟨rfl, rfl, h⟩ | ⟨rfl, a, b, rfl, h⟩⟩
  · rw [cutB_nil s h]
    repeat' first | ((with_reducible show V _ _ _ _ _ _); first | refine V_O rfl ?_ | refine V_cT rfl rfl ?_ | refine V_cF rfl rfl ?_ | refine V_cEq rfl rfl ?_ | refine V_cNe rfl rfl ?_ | refine V_cB rfl rfl (fun _ => ?_) (fun _ => ?_) | refine V_fA rfl rfl ?_ | refine V_fAN rfl rfl ?_ | refine V_D rfl ?_) | ((with_reducible show VO _ _ _ _ _ _ _); first | refine O_step rfl ?_ | refine O_nil' ?_ | refine O_gT' rfl ?_ | refine O_gU' rfl ?_ | refine O_gF' rfl rfl ?_ | refine O_gEq rfl ?_ | refine O_gNe rfl ?_ | refine O_gS rfl (fun _ => ?_) (fun _ => ?_)) | ((with_reducible show VD _ _ _ _ _ _ _); first | refine D_step rfl ?_ | refine D_nil' ?_ | refine D_gT' rfl ?_ | refine D_gU' rfl ?_ | refine D_gF' rfl rfl ?_ | refine D_gS rfl (fun _ => ?_) (fun _ => ?_))
    rfl
  · rw [h]
    repeat' first | ((with_reducible show V _ _ _ _ _ _); first | refine V_O rfl ?_ | refine V_cT rfl rfl ?_ | refine V_cF rfl rfl ?_ | refine V_cEq rfl rfl ?_ | refine V_cNe rfl rfl ?_ | refine V_cB rfl rfl (fun _ => ?_) (fun _ => ?_) | refine V_fA rfl rfl ?_ | refine V_fAN rfl rfl ?_ | refine V_D rfl ?_) | ((with_reducible show VO _ _ _ _ _ _ _); first | refine O_step rfl ?_ | refine O_nil' ?_ | refine O_gT' rfl ?_ | refine O_gU' rfl ?_ | refine O_gF' rfl rfl ?_ | refine O_gEq rfl ?_ | refine O_gNe rfl ?_ | refine O_gS rfl (fun _ => ?_) (fun _ => ?_)) | ((with_reducible show VD _ _ _ _ _ _ _); first | refine D_step rfl ?_ | refine D_nil' ?_ | refine D_gT' rfl ?_ | refine D_gU' rfl ?_ | refine D_gF' rfl rfl ?_ | refine D_gS rfl (fun _ => ?_) (fun _ => ?_))
    rfl
def kst (c p q : List PV) : St := ⟨0, 3, [(0, .var c), (1, .var p), (2, .var q)]⟩
def z5 : List PV := [.int .i64 0, .int .i64 0, .str [], .int .i64 0, .int .i64 0]
def k5 (k se : Int) (t : List UInt8) (to ke : Int) : List PV := [.int .i64 k, .int .i64 se, .str t, .int .i64 to, .int .i64 ke]
set_option maxHeartbeats 4000000 in
theorem run_keep {k se to ke : Int} {t : List UInt8} (h1 : R64 se) (h2 : R64 to) (h3 : R64 ke) (ht : t.length ≤ 140737488355328) :
    T.R (.call n_script_keep [.agg (k5 k se t to ke)] (.tuple [.agg (cells (keepC ⟨k, se, t, to, ke⟩)), .str (lineC ⟨k, se, t, to, ke⟩)])) := by
  have hw := run_word k
  have t1 := run_text h1
  have t2 := run_text h2
  have t3 := run_Text h3
  have l0 := wordL_len k
  have l1 := itoa_len h1
  have l2 := itoa_len h2
  have l3 := itoa_len h3
  generalize hW : wordL k = W at *
  generalize hS1 : Lib.itoa se = S1 at *
  generalize hS2 : Lib.itoa to = S2 at *
  generalize hS3 : Lib.itoa ke = S3 at *
  have c0 : W.length + ([32] : List UInt8).length ≤ 9223372036854775807 := by simp; omega
  by_cases h6 : k = 6
  · subst h6
    have hk : keepC ⟨6, se, t, to, ke⟩ = ⟨6, 0, [], to, ke⟩ := rfl
    have hl : lineC ⟨6, se, t, to, ke⟩ = W ++ [32] ++ S2 ++ [32] ++ S3 := by unfold lineC; simp only [if_true, hW, hS2, hS3]
    have c1 : (W ++ [32]).length + S2.length ≤ 9223372036854775807 := by simp; omega
    have c2 : (W ++ [32] ++ S2).length + ([32] : List UInt8).length ≤ 9223372036854775807 := by simp; omega
    have c3 : (W ++ [32] ++ S2 ++ [32]).length + S3.length ≤ 9223372036854775807 := by simp; omega
    rw [hk, hl]
    refine call_V rfl rfl ?_
    repeat' first | ((with_reducible show V _ _ _ _ _ _); first | refine V_MI 5 7 (St.two (kst (k5 6 se t to ke) z5 (k5 6 0 [] 0 0)) 2 (k5 6 0 [] 0 0) 3 (.int .i64 to) 4 (.int .i64 ke)) rfl rfl ?_ | refine V_M 11 (kst (k5 6 se t to ke) (k5 6 0 [] to ke) (k5 6 0 [] to ke)) rfl ?_ | refine V_O rfl ?_ | refine V_cT rfl rfl ?_ | refine V_cF rfl rfl ?_ | refine V_cEq rfl rfl ?_ | refine V_cNe rfl rfl ?_ | refine V_cB rfl rfl (fun _ => ?_) (fun _ => ?_) | refine V_fA rfl rfl ?_ | refine V_fAN rfl rfl ?_ | refine V_D rfl ?_) | ((with_reducible show VO _ _ _ _ _ _ _); first | refine O_cA rfl rfl hw ?_ | refine O_cat c0 rfl rfl ?_ | refine O_step rfl ?_ | refine O_stepL rfl ?_ | refine O_nil' ?_ | refine O_gT' rfl ?_ | refine O_gU' rfl ?_ | refine O_gF' rfl rfl ?_ | refine O_gEq rfl ?_ | refine O_gNe rfl ?_ | refine O_gS rfl (fun _ => ?_) (fun _ => ?_)) | ((with_reducible show VD _ _ _ _ _ _ _); first | refine D_step rfl ?_ | refine D_nil' ?_ | refine D_gT' rfl ?_ | refine D_gU' rfl ?_ | refine D_gF' rfl rfl ?_ | refine D_gS rfl (fun _ => ?_) (fun _ => ?_)) | ((with_reducible show VM _ _ _ _ _ _ _ _ _ _ _); first | refine M_call rfl (.inl rfl) rfl rfl (viewL_pl (by (repeat' (first | exact Pl.int _ _ | exact Pl.bool _ | exact Pl.str _ | exact Pl.nilSl | exact pl_nil | refine pl_cons ?_ ?_ | refine Pl.tuple _ ?_ | refine Pl.agg _ ?_ | refine Pl.func _ _ ?_ | assumption | refine Pl.iptr _ _ ?_ | exact pll_nil | refine pll_cons ?_ ?_ | refine Pl.sl _ _ ?_)); first | done | fail)) (viewL_pl (by (repeat' (first | exact Pl.int _ _ | exact Pl.bool _ | exact Pl.str _ | exact Pl.nilSl | exact pl_nil | refine pl_cons ?_ ?_ | refine Pl.tuple _ ?_ | refine Pl.agg _ ?_ | refine Pl.func _ _ ?_ | assumption | refine Pl.iptr _ _ ?_ | exact pll_nil | refine pll_cons ?_ ?_ | refine Pl.sl _ _ ?_)); first | done | fail)) t2 ?_ | refine M_call rfl (.inl rfl) rfl rfl (viewL_pl (by (repeat' (first | exact Pl.int _ _ | exact Pl.bool _ | exact Pl.str _ | exact Pl.nilSl | exact pl_nil | refine pl_cons ?_ ?_ | refine Pl.tuple _ ?_ | refine Pl.agg _ ?_ | refine Pl.func _ _ ?_ | assumption | refine Pl.iptr _ _ ?_ | exact pll_nil | refine pll_cons ?_ ?_ | refine Pl.sl _ _ ?_)); first | done | fail)) (viewL_pl (by (repeat' (first | exact Pl.int _ _ | exact Pl.bool _ | exact Pl.str _ | exact Pl.nilSl | exact pl_nil | refine pl_cons ?_ ?_ | refine Pl.tuple _ ?_ | refine Pl.agg _ ?_ | refine Pl.func _ _ ?_ | assumption | refine Pl.iptr _ _ ?_ | exact pll_nil | refine pll_cons ?_ ?_ | refine Pl.sl _ _ ?_)); first | done | fail)) t3 ?_ | refine M_step rfl (.inl rfl) (cat_q c1 rfl rfl) (cat_q c1 rfl rfl) ?_ | refine M_step rfl (.inl rfl) (cat_q c2 rfl rfl) (cat_q c2 rfl rfl) ?_ | refine M_step rfl (.inl rfl) (cat_q c3 rfl rfl) (cat_q c3 rfl rfl) ?_ | refine M_loud rfl rfl ?_ | refine M_step rfl (.inl rfl) rfl rfl ?_ | refine M_step rfl (.inr rfl) rfl rfl ?_ | refine M_nil ?_) | refine MI_st1 rfl rfl rfl rfl rfl rfl rfl rfl ?_ | refine MI_st2 rfl rfl rfl rfl rfl rfl rfl ?_ | refine MI_step rfl rfl rfl rfl rfl rfl ?_ | refine MI_nil ?_
    rfl
  · by_cases ha : isAsk k = true
    · have hk : keepC ⟨k, se, t, to, ke⟩ = ⟨k, se, t, 0, 0⟩ := by unfold keepC; rw [if_neg h6, if_pos ha]
      have hl : lineC ⟨k, se, t, to, ke⟩ = W ++ [32] ++ S1 ++ [32] ++ t := by unfold lineC; rw [if_neg h6, if_pos ha]; simp only [hW, hS1]
      have c1 : (W ++ [32]).length + S1.length ≤ 9223372036854775807 := by simp; omega
      have c2 : (W ++ [32] ++ S1).length + ([32] : List UInt8).length ≤ 9223372036854775807 := by simp; omega
      have c3 : (W ++ [32] ++ S1 ++ [32]).length + t.length ≤ 9223372036854775807 := by simp; omega
      rw [hk, hl]
      have h45 : k = 4 ∨ k = 5 := by unfold isAsk at ha; simpa using ha
      rcases h45 with rfl | rfl
      · refine call_V rfl rfl ?_
        repeat' first | ((with_reducible show V _ _ _ _ _ _); first | refine V_MI 5 7 (St.two (kst (k5 4 se t to ke) z5 (k5 4 0 [] 0 0)) 2 (k5 4 0 [] 0 0) 1 (.int .i64 se) 2 (.str t)) rfl rfl ?_ | refine V_M 10 (kst (k5 4 se t to ke) (k5 4 se t 0 0) (k5 4 se t 0 0)) rfl ?_ | refine V_O rfl ?_ | refine V_cT rfl rfl ?_ | refine V_cF rfl rfl ?_ | refine V_cEq rfl rfl ?_ | refine V_cNe rfl rfl ?_ | refine V_cB rfl rfl (fun _ => ?_) (fun _ => ?_) | refine V_fA rfl rfl ?_ | refine V_fAN rfl rfl ?_ | refine V_D rfl ?_) | ((with_reducible show VO _ _ _ _ _ _ _); first | refine O_cA rfl rfl hw ?_ | refine O_cat c0 rfl rfl ?_ | refine O_step rfl ?_ | refine O_stepL rfl ?_ | refine O_nil' ?_ | refine O_gT' rfl ?_ | refine O_gU' rfl ?_ | refine O_gF' rfl rfl ?_ | refine O_gEq rfl ?_ | refine O_gNe rfl ?_ | refine O_gS rfl (fun _ => ?_) (fun _ => ?_)) | ((with_reducible show VD _ _ _ _ _ _ _); first | refine D_step rfl ?_ | refine D_nil' ?_ | refine D_gT' rfl ?_ | refine D_gU' rfl ?_ | refine D_gF' rfl rfl ?_ | refine D_gS rfl (fun _ => ?_) (fun _ => ?_)) | ((with_reducible show VM _ _ _ _ _ _ _ _ _ _ _); first | refine M_call rfl (.inl rfl) rfl rfl (viewL_pl (by (repeat' (first | exact Pl.int _ _ | exact Pl.bool _ | exact Pl.str _ | exact Pl.nilSl | exact pl_nil | refine pl_cons ?_ ?_ | refine Pl.tuple _ ?_ | refine Pl.agg _ ?_ | refine Pl.func _ _ ?_ | assumption | refine Pl.iptr _ _ ?_ | exact pll_nil | refine pll_cons ?_ ?_ | refine Pl.sl _ _ ?_)); first | done | fail)) (viewL_pl (by (repeat' (first | exact Pl.int _ _ | exact Pl.bool _ | exact Pl.str _ | exact Pl.nilSl | exact pl_nil | refine pl_cons ?_ ?_ | refine Pl.tuple _ ?_ | refine Pl.agg _ ?_ | refine Pl.func _ _ ?_ | assumption | refine Pl.iptr _ _ ?_ | exact pll_nil | refine pll_cons ?_ ?_ | refine Pl.sl _ _ ?_)); first | done | fail)) t1 ?_ | refine M_step rfl (.inl rfl) (cat_q c1 rfl rfl) (cat_q c1 rfl rfl) ?_ | refine M_step rfl (.inl rfl) (cat_q c2 rfl rfl) (cat_q c2 rfl rfl) ?_ | refine M_step rfl (.inl rfl) (cat_q c3 rfl rfl) (cat_q c3 rfl rfl) ?_ | refine M_loud rfl rfl ?_ | refine M_step rfl (.inl rfl) rfl rfl ?_ | refine M_step rfl (.inr rfl) rfl rfl ?_ | refine M_nil ?_) | refine MI_st1 rfl rfl rfl rfl rfl rfl rfl rfl ?_ | refine MI_st2 rfl rfl rfl rfl rfl rfl rfl ?_ | refine MI_step rfl rfl rfl rfl rfl rfl ?_ | refine MI_nil ?_
        rfl
      · refine call_V rfl rfl ?_
        repeat' first | ((with_reducible show V _ _ _ _ _ _); first | refine V_MI 5 7 (St.two (kst (k5 5 se t to ke) z5 (k5 5 0 [] 0 0)) 2 (k5 5 0 [] 0 0) 1 (.int .i64 se) 2 (.str t)) rfl rfl ?_ | refine V_M 10 (kst (k5 5 se t to ke) (k5 5 se t 0 0) (k5 5 se t 0 0)) rfl ?_ | refine V_O rfl ?_ | refine V_cT rfl rfl ?_ | refine V_cF rfl rfl ?_ | refine V_cEq rfl rfl ?_ | refine V_cNe rfl rfl ?_ | refine V_cB rfl rfl (fun _ => ?_) (fun _ => ?_) | refine V_fA rfl rfl ?_ | refine V_fAN rfl rfl ?_ | refine V_D rfl ?_) | ((with_reducible show VO _ _ _ _ _ _ _); first | refine O_cA rfl rfl hw ?_ | refine O_cat c0 rfl rfl ?_ | refine O_step rfl ?_ | refine O_stepL rfl ?_ | refine O_nil' ?_ | refine O_gT' rfl ?_ | refine O_gU' rfl ?_ | refine O_gF' rfl rfl ?_ | refine O_gEq rfl ?_ | refine O_gNe rfl ?_ | refine O_gS rfl (fun _ => ?_) (fun _ => ?_)) | ((with_reducible show VD _ _ _ _ _ _ _); first | refine D_step rfl ?_ | refine D_nil' ?_ | refine D_gT' rfl ?_ | refine D_gU' rfl ?_ | refine D_gF' rfl rfl ?_ | refine D_gS rfl (fun _ => ?_) (fun _ => ?_)) | ((with_reducible show VM _ _ _ _ _ _ _ _ _ _ _); first | refine M_call rfl (.inl rfl) rfl rfl (viewL_pl (by (repeat' (first | exact Pl.int _ _ | exact Pl.bool _ | exact Pl.str _ | exact Pl.nilSl | exact pl_nil | refine pl_cons ?_ ?_ | refine Pl.tuple _ ?_ | refine Pl.agg _ ?_ | refine Pl.func _ _ ?_ | assumption | refine Pl.iptr _ _ ?_ | exact pll_nil | refine pll_cons ?_ ?_ | refine Pl.sl _ _ ?_)); first | done | fail)) (viewL_pl (by (repeat' (first | exact Pl.int _ _ | exact Pl.bool _ | exact Pl.str _ | exact Pl.nilSl | exact pl_nil | refine pl_cons ?_ ?_ | refine Pl.tuple _ ?_ | refine Pl.agg _ ?_ | refine Pl.func _ _ ?_ | assumption | refine Pl.iptr _ _ ?_ | exact pll_nil | refine pll_cons ?_ ?_ | refine Pl.sl _ _ ?_)); first | done | fail)) t1 ?_ | refine M_step rfl (.inl rfl) (cat_q c1 rfl rfl) (cat_q c1 rfl rfl) ?_ | refine M_step rfl (.inl rfl) (cat_q c2 rfl rfl) (cat_q c2 rfl rfl) ?_ | refine M_step rfl (.inl rfl) (cat_q c3 rfl rfl) (cat_q c3 rfl rfl) ?_ | refine M_loud rfl rfl ?_ | refine M_step rfl (.inl rfl) rfl rfl ?_ | refine M_step rfl (.inr rfl) rfl rfl ?_ | refine M_nil ?_) | refine MI_st1 rfl rfl rfl rfl rfl rfl rfl rfl ?_ | refine MI_st2 rfl rfl rfl rfl rfl rfl rfl ?_ | refine MI_step rfl rfl rfl rfl rfl rfl ?_ | refine MI_nil ?_
        rfl
    · have hk : keepC ⟨k, se, t, to, ke⟩ = ⟨k, se, [], 0, 0⟩ := by unfold keepC; rw [if_neg h6, if_neg ha]
      have hl : lineC ⟨k, se, t, to, ke⟩ = W ++ [32] ++ S1 := by unfold lineC; rw [if_neg h6, if_neg ha]; simp only [hW, hS1]
      have c1 : (W ++ [32]).length + S1.length ≤ 9223372036854775807 := by simp; omega
      rw [hk, hl]
      have h4 : ¬ k = 4 := fun e => ha (by rw [e]; rfl)
      have h5 : ¬ k = 5 := fun e => ha (by rw [e]; rfl)
      refine call_V rfl rfl ?_
      repeat' first | ((with_reducible show V _ _ _ _ _ _); first | refine V_M 6 (kst (k5 k se t to ke) (k5 k se [] 0 0) (k5 k se [] 0 0)) rfl ?_ | refine V_O rfl ?_ | refine V_cT rfl rfl ?_ | refine V_cF rfl rfl ?_ | refine V_cEq rfl rfl ?_ | refine V_cNe rfl rfl ?_ | refine V_cB rfl rfl (fun _ => ?_) (fun _ => ?_) | refine V_fA rfl rfl ?_ | refine V_fAN rfl rfl ?_ | refine V_D rfl ?_) | ((with_reducible show VO _ _ _ _ _ _ _); first | refine O_is (dec_not h6) rfl ?_ | refine O_is (dec_not h4) rfl ?_ | refine O_is (dec_not h5) rfl ?_ | refine O_cA rfl rfl hw ?_ | refine O_cat c0 rfl rfl ?_ | refine O_step rfl ?_ | refine O_stepL rfl ?_ | refine O_nil' ?_ | refine O_gT' rfl ?_ | refine O_gU' rfl ?_ | refine O_gF' rfl rfl ?_ | refine O_gEq rfl ?_ | refine O_gNe rfl ?_ | refine O_gS rfl (fun _ => ?_) (fun _ => ?_)) | ((with_reducible show VD _ _ _ _ _ _ _); first | refine D_step rfl ?_ | refine D_nil' ?_ | refine D_gT' rfl ?_ | refine D_gU' rfl ?_ | refine D_gF' rfl rfl ?_ | refine D_gS rfl (fun _ => ?_) (fun _ => ?_)) | ((with_reducible show VM _ _ _ _ _ _ _ _ _ _ _); first | refine M_call rfl (.inl rfl) rfl rfl (viewL_pl (by (repeat' (first | exact Pl.int _ _ | exact Pl.bool _ | exact Pl.str _ | exact Pl.nilSl | exact pl_nil | refine pl_cons ?_ ?_ | refine Pl.tuple _ ?_ | refine Pl.agg _ ?_ | refine Pl.func _ _ ?_ | assumption | refine Pl.iptr _ _ ?_ | exact pll_nil | refine pll_cons ?_ ?_ | refine Pl.sl _ _ ?_)); first | done | fail)) (viewL_pl (by (repeat' (first | exact Pl.int _ _ | exact Pl.bool _ | exact Pl.str _ | exact Pl.nilSl | exact pl_nil | refine pl_cons ?_ ?_ | refine Pl.tuple _ ?_ | refine Pl.agg _ ?_ | refine Pl.func _ _ ?_ | assumption | refine Pl.iptr _ _ ?_ | exact pll_nil | refine pll_cons ?_ ?_ | refine Pl.sl _ _ ?_)); first | done | fail)) t1 ?_ | refine M_step rfl (.inl rfl) (cat_q c1 rfl rfl) (cat_q c1 rfl rfl) ?_ | refine M_loud rfl rfl ?_ | refine M_step rfl (.inl rfl) rfl rfl ?_ | refine M_step rfl (.inr rfl) rfl rfl ?_ | refine M_nil ?_)
      rfl
end Go.Proofs.YtbeaalkfakjoiaaDoor
set_option linter.unusedVariables false
set_option linter.unusedSimpArgs false
namespace Go.Proofs.YtbeaalkfakjoiaaDoor
open Go Go.AM Go.RowKit
def eqC (a b : Cm) : Bool := decide (a.k = b.k) && (decide (a.se = b.se) && (decide (a.t = b.t) && (decide (a.to = b.to) && (decide (a.ke = b.ke) && true))))
theorem eqC_iff {a b : Cm} : eqC a b = true ↔ a = b := by
  obtain ⟨a1, a2, a3, a4, a5⟩ := a
  obtain ⟨b1, b2, b3, b4, b5⟩ := b
  simp [eqC]
def lineR (c : Cm) : List UInt8 × Int := if wordL c.k = [] then ([], 250) else if eqC (keepC c) c = false then ([], 250) else if 10 ∈ c.t then ([], 250) else if c.ke < 0 then ([], 250) else if 4096 < c.t.length then ([], 3) else (lineC c, 0)
def twoS (p : List UInt8 × Int) : PV := .tuple [.str p.1, .int .i64 p.2]
theorem pl_k5 (k se : Int) (t : List UInt8) (to ke : Int) : Pl (.agg (k5 k se t to ke)) := .agg _ (pl_cons (.int _ _) (pl_cons (.int _ _) (pl_cons (.str _) (pl_cons (.int _ _) (pl_cons (.int _ _) pl_nil)))))
theorem pl_cells (c : Cm) : Pl (.agg (cells c)) := pl_k5 _ _ _ _ _
set_option maxHeartbeats 4000000 in
theorem run_Line {k se to ke : Int} {t : List UInt8} (h1 : R64 se) (h2 : R64 to) (h3 : R64 ke) (ht : t.length ≤ 140737488355328) :
    T.R (.call n_script_Line [.agg (k5 k se t to ke)] (twoS (lineR ⟨k, se, t, to, ke⟩))) := by
  have hk := run_keep (k := k) h1 h2 h3 ht
  have hw := run_word k
  have hct := run_ContainsS t 10
  have plk := pl_k5 k se t to ke
  unfold lineR
  simp only
  generalize keepC ⟨k, se, t, to, ke⟩ = K at *
  generalize lineC ⟨k, se, t, to, ke⟩ = L at *
  generalize wordL k = W at *
  have plK := pl_cells K
  by_cases g1 : W = []
  · rw [if_pos g1]
    refine call_V rfl rfl ?_
    repeat' first | ((with_reducible show V _ _ _ _ _ _); first | refine V_O rfl ?_ | refine V_cT rfl rfl ?_ | refine V_cF rfl rfl ?_ | refine V_cEq rfl rfl ?_ | refine V_cNe rfl rfl ?_ | refine V_cB rfl rfl (fun _ => ?_) (fun _ => ?_) | refine V_fA rfl rfl ?_ | refine V_fAN rfl rfl ?_ | refine V_D rfl ?_) | ((with_reducible show VO _ _ _ _ _ _ _); first | refine O_cA rfl rfl hk ?_ | refine O_cA rfl rfl hw ?_ | refine O_is (dec_is g1) rfl ?_ | refine O_step rfl ?_ | refine O_stepL rfl ?_ | refine O_nil' ?_ | refine O_gT' rfl ?_ | refine O_gU' rfl ?_ | refine O_gF' rfl rfl ?_ | refine O_gEq rfl ?_ | refine O_gNe rfl ?_ | refine O_gS rfl (fun _ => ?_) (fun _ => ?_)) | ((with_reducible show VD _ _ _ _ _ _ _); first | refine D_step rfl ?_ | refine D_nil' ?_ | refine D_gT' rfl ?_ | refine D_gU' rfl ?_ | refine D_gF' rfl rfl ?_ | refine D_gS rfl (fun _ => ?_) (fun _ => ?_))
    rfl
  · rw [if_neg g1]
    cases g2 : eqC K ⟨k, se, t, to, ke⟩ with
    | false =>
      rw [if_pos rfl]
      have e2 : PV.bool (!eqC K ⟨k, se, t, to, ke⟩) = PV.bool true := by rw [g2]; rfl
      refine call_V rfl rfl ?_
      repeat' first | ((with_reducible show V _ _ _ _ _ _); first | refine V_O rfl ?_ | refine V_cT rfl rfl ?_ | refine V_cF rfl rfl ?_ | refine V_cEq rfl rfl ?_ | refine V_cNe rfl rfl ?_ | refine V_cB rfl rfl (fun _ => ?_) (fun _ => ?_) | refine V_fA rfl rfl ?_ | refine V_fAN rfl rfl ?_ | refine V_D rfl ?_) | ((with_reducible show VO _ _ _ _ _ _ _); first | refine O_cA rfl rfl hk ?_ | refine O_cA rfl rfl hw ?_ | refine O_is (dec_not g1) rfl ?_ | refine O_is e2 rfl ?_ | refine O_step rfl ?_ | refine O_stepL rfl ?_ | refine O_nil' ?_ | refine O_gT' rfl ?_ | refine O_gU' rfl ?_ | refine O_gF' rfl rfl ?_ | refine O_gEq rfl ?_ | refine O_gNe rfl ?_ | refine O_gS rfl (fun _ => ?_) (fun _ => ?_)) | ((with_reducible show VD _ _ _ _ _ _ _); first | refine D_step rfl ?_ | refine D_nil' ?_ | refine D_gT' rfl ?_ | refine D_gU' rfl ?_ | refine D_gF' rfl rfl ?_ | refine D_gS rfl (fun _ => ?_) (fun _ => ?_))
      rfl
    | true =>
      rw [if_neg (by simp)]
      have e2 : PV.bool (!eqC K ⟨k, se, t, to, ke⟩) = PV.bool false := by rw [g2]; rfl
      by_cases g3 : 10 ∈ t
      · rw [if_pos g3]
        rw [decide_eq_true g3] at hct
        refine call_V rfl rfl ?_
        repeat' first | ((with_reducible show V _ _ _ _ _ _); first | refine V_O rfl ?_ | refine V_cT rfl rfl ?_ | refine V_cF rfl rfl ?_ | refine V_cEq rfl rfl ?_ | refine V_cNe rfl rfl ?_ | refine V_cB rfl rfl (fun _ => ?_) (fun _ => ?_) | refine V_fA rfl rfl ?_ | refine V_fAN rfl rfl ?_ | refine V_D rfl ?_) | ((with_reducible show VO _ _ _ _ _ _ _); first | refine O_cA rfl rfl hk ?_ | refine O_cA rfl rfl hw ?_ | refine O_is (dec_not g1) rfl ?_ | refine O_is e2 rfl ?_ | refine O_cA rfl rfl hct ?_ | refine O_step rfl ?_ | refine O_stepL rfl ?_ | refine O_nil' ?_ | refine O_gT' rfl ?_ | refine O_gU' rfl ?_ | refine O_gF' rfl rfl ?_ | refine O_gEq rfl ?_ | refine O_gNe rfl ?_ | refine O_gS rfl (fun _ => ?_) (fun _ => ?_)) | ((with_reducible show VD _ _ _ _ _ _ _); first | refine D_step rfl ?_ | refine D_nil' ?_ | refine D_gT' rfl ?_ | refine D_gU' rfl ?_ | refine D_gF' rfl rfl ?_ | refine D_gS rfl (fun _ => ?_) (fun _ => ?_))
        rfl
      · rw [if_neg g3]
        rw [decide_eq_false g3] at hct
        by_cases g4 : ke < 0
        · rw [if_pos g4]
          refine call_V rfl rfl ?_
          repeat' first | ((with_reducible show V _ _ _ _ _ _); first | refine V_O rfl ?_ | refine V_cT rfl rfl ?_ | refine V_cF rfl rfl ?_ | refine V_cEq rfl rfl ?_ | refine V_cNe rfl rfl ?_ | refine V_cB rfl rfl (fun _ => ?_) (fun _ => ?_) | refine V_fA rfl rfl ?_ | refine V_fAN rfl rfl ?_ | refine V_D rfl ?_) | ((with_reducible show VO _ _ _ _ _ _ _); first | refine O_cA rfl rfl hk ?_ | refine O_cA rfl rfl hw ?_ | refine O_is (dec_not g1) rfl ?_ | refine O_is e2 rfl ?_ | refine O_cA rfl rfl hct ?_ | refine O_is (dec_is g4) rfl ?_ | refine O_step rfl ?_ | refine O_stepL rfl ?_ | refine O_nil' ?_ | refine O_gT' rfl ?_ | refine O_gU' rfl ?_ | refine O_gF' rfl rfl ?_ | refine O_gEq rfl ?_ | refine O_gNe rfl ?_ | refine O_gS rfl (fun _ => ?_) (fun _ => ?_)) | ((with_reducible show VD _ _ _ _ _ _ _); first | refine D_step rfl ?_ | refine D_nil' ?_ | refine D_gT' rfl ?_ | refine D_gU' rfl ?_ | refine D_gF' rfl rfl ?_ | refine D_gS rfl (fun _ => ?_) (fun _ => ?_))
          rfl
        · rw [if_neg g4]
          by_cases g5 : 4096 < t.length
          · rw [if_pos g5]
            have g5' : (4096 : Int) < t.length := by omega
            refine call_V rfl rfl ?_
            repeat' first | ((with_reducible show V _ _ _ _ _ _); first | refine V_O rfl ?_ | refine V_cT rfl rfl ?_ | refine V_cF rfl rfl ?_ | refine V_cEq rfl rfl ?_ | refine V_cNe rfl rfl ?_ | refine V_cB rfl rfl (fun _ => ?_) (fun _ => ?_) | refine V_fA rfl rfl ?_ | refine V_fAN rfl rfl ?_ | refine V_D rfl ?_) | ((with_reducible show VO _ _ _ _ _ _ _); first | refine O_cA rfl rfl hk ?_ | refine O_cA rfl rfl hw ?_ | refine O_is (dec_not g1) rfl ?_ | refine O_is e2 rfl ?_ | refine O_cA rfl rfl hct ?_ | refine O_is (dec_not g4) rfl ?_ | refine O_is (dec_is g5') rfl ?_ | refine O_step rfl ?_ | refine O_stepL rfl ?_ | refine O_nil' ?_ | refine O_gT' rfl ?_ | refine O_gU' rfl ?_ | refine O_gF' rfl rfl ?_ | refine O_gEq rfl ?_ | refine O_gNe rfl ?_ | refine O_gS rfl (fun _ => ?_) (fun _ => ?_)) | ((with_reducible show VD _ _ _ _ _ _ _); first | refine D_step rfl ?_ | refine D_nil' ?_ | refine D_gT' rfl ?_ | refine D_gU' rfl ?_ | refine D_gF' rfl rfl ?_ | refine D_gS rfl (fun _ => ?_) (fun _ => ?_))
            rfl
          · rw [if_neg g5]
            have g5' : ¬ (4096 : Int) < t.length := by omega
            refine call_V rfl rfl ?_
            repeat' first | ((with_reducible show V _ _ _ _ _ _); first | refine V_O rfl ?_ | refine V_cT rfl rfl ?_ | refine V_cF rfl rfl ?_ | refine V_cEq rfl rfl ?_ | refine V_cNe rfl rfl ?_ | refine V_cB rfl rfl (fun _ => ?_) (fun _ => ?_) | refine V_fA rfl rfl ?_ | refine V_fAN rfl rfl ?_ | refine V_D rfl ?_) | ((with_reducible show VO _ _ _ _ _ _ _); first | refine O_cA rfl rfl hk ?_ | refine O_cA rfl rfl hw ?_ | refine O_is (dec_not g1) rfl ?_ | refine O_is e2 rfl ?_ | refine O_cA rfl rfl hct ?_ | refine O_is (dec_not g4) rfl ?_ | refine O_is (dec_not g5') rfl ?_ | refine O_step rfl ?_ | refine O_stepL rfl ?_ | refine O_nil' ?_ | refine O_gT' rfl ?_ | refine O_gU' rfl ?_ | refine O_gF' rfl rfl ?_ | refine O_gEq rfl ?_ | refine O_gNe rfl ?_ | refine O_gS rfl (fun _ => ?_) (fun _ => ?_)) | ((with_reducible show VD _ _ _ _ _ _ _); first | refine D_step rfl ?_ | refine D_nil' ?_ | refine D_gT' rfl ?_ | refine D_gU' rfl ?_ | refine D_gF' rfl rfl ?_ | refine D_gS rfl (fun _ => ?_) (fun _ => ?_))
            rfl
end Go.Proofs.YtbeaalkfakjoiaaDoor
