/- Shapes, predicates, steps: parse's badStep. -/
import Derived.Test.YtinojffgmgjblaaGreatDoorStpB
set_option linter.unusedVariables false
set_option linter.unusedSimpArgs false
namespace Go.Proofs.YtinojffgmgjblaaGreatDoor
open Go Go.AM Go.RowKit
def shp (op : Int) : List Int :=
  if op = 1 ∨ op = 2 then [0, 0, 0, 32, 0, 0, 0, 0, 0, 0]
  else if op = 3 then [0, 0, 0, 0, 0, 0, 0, 32, 0, 0]
  else if op = 4 ∨ op = 15 ∨ op = 16 ∨ op = 42 ∨ op = 46 ∨ op = 47 then [1, 1, 0, 0, 0, 0, 0, 0, 0, 0]
  else if op = 5 ∨ op = 6 ∨ op = 7 ∨ op = 8 ∨ op = 9 ∨ op = 10 ∨ op = 32 ∨ op = 33 then [0, 32, 0, 0, 0, 0, 0, 0, 0, 0]
  else if op = 17 ∨ op = 43 then [1, 32, 0, 0, 0, 0, 0, 0, 0, 0]
  else if op = 48 then [0, 1, 0, 0, 0, 0, 0, 0, 0, 0]
  else if op = 14 then [1, 1, 0, 0, 1, 1, 0, 0, 0, 0]
  else if op = 18 then [0, 0, 1, 32, 0, 0, 0, 0, 0, 0]
  else if op = 19 then [0, 0, 0, 0, 1, 1, 0, 0, 0, 0]
  else if op = 20 ∨ op = 21 ∨ op = 52 then [0, 0, 0, 0, 0, 0, 0, 0, 1, 1]
  else if op = 22 ∨ op = 23 ∨ op = 50 ∨ op = 51 then [0, 0, 0, 0, 0, 0, 0, 0, 1, 32]
  else if op = 53 then [0, 0, 0, 0, 0, 0, 0, 0, 3, 3]
  else if op = 26 ∨ op = 27 ∨ op = 29 then [0, 0, 1, 1, 0, 0, 0, 0, 0, 0]
  else if op = 28 then [0, 0, 2, 2, 0, 0, 0, 0, 0, 0]
  else if op = 34 then [0, 0, 0, 0, 0, 0, 1, 1, 0, 0]
  else if op = 54 ∨ op = 56 then [0, 0, 1, 1, 0, 0, 0, 0, 1, 1]
  else if op = 55 then [0, 0, 0, 0, 0, 0, 0, 0, 2, 2]
  else if op = 57 then [3, 3, 0, 0, 0, 0, 0, 0, 0, 0]
  else if op = 58 then [1, 1, 0, 0, 0, 0, 1, 1, 0, 0]
  else [0, 0, 0, 0, 0, 0, 0, 0, 0, 0]
def intP (n : Int) : PV := .int .i64 n
theorem ite_len {p : Prop} [Decidable p] {a b : List Int} {n : Nat} (h1 : a.length = n) (h2 : b.length = n) : (if p then a else b).length = n := by
  by_cases h : p
  · rw [if_pos h]; exact h1
  · rw [if_neg h]; exact h2
theorem shp_ten (op : Int) : ∃ a b c d e f g h i j : Int, shp op = [a, b, c, d, e, f, g, h, i, j] := by
  have h : (shp op).length = 10 := by
    unfold shp
    repeat (refine ite_len rfl ?_)
    rfl
  match shp op, h with
  | [a, b, c, d, e, f, g, hh, i, j], _ => exact ⟨a, b, c, d, e, f, g, hh, i, j, rfl⟩
theorem run_from (n : Int) : T.R (.call n_parse_from [.int .i64 n] (.agg [.int .i64 n, .int .i64 32])) := by
  refine call_V rfl rfl ?_
  repeat' first | refine O_step rfl ?_ | refine O_stepL rfl ?_ | refine V_O rfl ?_ | refine O_step rfl ?_ | refine O_nil' ?_ | refine V_cT rfl rfl ?_ | refine V_cF rfl rfl ?_ | refine V_cEq rfl rfl ?_ | refine V_cNe rfl rfl ?_ | refine V_cB rfl rfl (fun _ => ?_) (fun _ => ?_) | refine O_gT' rfl ?_ | refine O_gU' rfl ?_ | refine O_gF' rfl rfl ?_ | refine O_gEq rfl ?_ | refine O_gNe rfl ?_ | refine O_gS rfl (fun _ => ?_) (fun _ => ?_) | refine V_fA rfl rfl ?_ | refine V_fAN rfl rfl ?_ | refine V_D rfl ?_ | refine D_step rfl ?_ | refine D_nil' ?_ | refine D_gT' rfl ?_ | refine D_gU' rfl ?_ | refine D_gF' rfl rfl ?_ | refine D_gS rfl (fun _ => ?_) (fun _ => ?_)
  rfl
theorem run_just (n : Int) : T.R (.call n_parse_just [.int .i64 n] (.agg [.int .i64 n, .int .i64 n])) := by
  refine call_V rfl rfl ?_
  repeat' first | refine O_step rfl ?_ | refine O_stepL rfl ?_ | refine V_O rfl ?_ | refine O_step rfl ?_ | refine O_nil' ?_ | refine V_cT rfl rfl ?_ | refine V_cF rfl rfl ?_ | refine V_cEq rfl rfl ?_ | refine V_cNe rfl rfl ?_ | refine V_cB rfl rfl (fun _ => ?_) (fun _ => ?_) | refine O_gT' rfl ?_ | refine O_gU' rfl ?_ | refine O_gF' rfl rfl ?_ | refine O_gEq rfl ?_ | refine O_gNe rfl ?_ | refine O_gS rfl (fun _ => ?_) (fun _ => ?_) | refine V_fA rfl rfl ?_ | refine V_fAN rfl rfl ?_ | refine V_D rfl ?_ | refine D_step rfl ?_ | refine D_nil' ?_ | refine D_gT' rfl ?_ | refine D_gU' rfl ?_ | refine D_gF' rfl rfl ?_ | refine D_gS rfl (fun _ => ?_) (fun _ => ?_)
  rfl
set_option maxHeartbeats 4000000 in
theorem run_shapeOf (op : Int) : T.R (.call n_parse_shapeOf [.int .i64 op] (.agg ((shp op).map intP))) := by
  refine call_V rfl rfl ?_
  repeat' first | refine V_cT rfl rfl ?_ | refine V_cF rfl rfl ?_ | refine V_cS rfl rfl (fun _ => ?_) (fun _ => ?_) | refine O_step rfl ?_ | refine O_stepL rfl ?_ | refine O_cA rfl rfl (run_from _) ?_ | refine O_cA rfl rfl (run_just _) ?_ | refine V_O rfl ?_ | refine O_step rfl ?_ | refine O_nil' ?_ | refine V_cT rfl rfl ?_ | refine V_cF rfl rfl ?_ | refine V_cEq rfl rfl ?_ | refine V_cNe rfl rfl ?_ | refine V_cB rfl rfl (fun _ => ?_) (fun _ => ?_) | refine O_gT' rfl ?_ | refine O_gU' rfl ?_ | refine O_gF' rfl rfl ?_ | refine O_gEq rfl ?_ | refine O_gNe rfl ?_ | refine O_gS rfl (fun _ => ?_) (fun _ => ?_) | refine V_fA rfl rfl ?_ | refine V_fAN rfl rfl ?_ | refine V_D rfl ?_ | refine D_step rfl ?_ | refine D_nil' ?_ | refine D_gT' rfl ?_ | refine D_gU' rfl ?_ | refine D_gF' rfl rfl ?_ | refine D_gS rfl (fun _ => ?_) (fun _ => ?_)
  all_goals simp only [decide_eq_true_eq, decide_eq_false_iff_not] at *
  all_goals first | (subst_vars; rfl) | (unfold shp; simp only [*, or_self, if_false]; rfl)
def hasB (a b : Int) (n : Nat) : Bool := decide (a ≤ (n : Int)) && decide ((n : Int) ≤ b)
theorem run_has (a b : Int) (n : Nat) : T.R (.call n_parse_span_has [.agg [.int .i64 a, .int .i64 b], .int .i64 n] (.bool (hasB a b n))) := by
  unfold hasB
  refine call_V rfl rfl ?_
  repeat' first | refine O_step rfl ?_ | refine O_stepL rfl ?_ | refine V_O rfl ?_ | refine O_step rfl ?_ | refine O_nil' ?_ | refine V_cT rfl rfl ?_ | refine V_cF rfl rfl ?_ | refine V_cEq rfl rfl ?_ | refine V_cNe rfl rfl ?_ | refine V_cB rfl rfl (fun _ => ?_) (fun _ => ?_) | refine O_gT' rfl ?_ | refine O_gU' rfl ?_ | refine O_gF' rfl rfl ?_ | refine O_gEq rfl ?_ | refine O_gNe rfl ?_ | refine O_gS rfl (fun _ => ?_) (fun _ => ?_) | refine V_fA rfl rfl ?_ | refine V_fAN rfl rfl ?_ | refine V_D rfl ?_ | refine D_step rfl ?_ | refine D_nil' ?_ | refine D_gT' rfl ?_ | refine D_gU' rfl ?_ | refine D_gF' rfl rfl ?_ | refine D_gS rfl (fun _ => ?_) (fun _ => ?_)
  all_goals simp_all
  all_goals omega
def opnd (op : Int) : Int × Int := if op = 7 ∨ op = 8 then (0, 32) else if op = 9 then (2, 2) else (1, 1)
theorem run_operands (op : Int) : T.R (.call n_parse_operands [.int .i64 op] (.agg [.int .i64 (opnd op).1, .int .i64 (opnd op).2])) := by
  refine call_V rfl rfl ?_
  repeat' first | refine V_cT rfl rfl ?_ | refine V_cF rfl rfl ?_ | refine V_cS rfl rfl (fun _ => ?_) (fun _ => ?_) | refine O_step rfl ?_ | refine O_stepL rfl ?_ | refine O_cA rfl rfl (run_from _) ?_ | refine O_cA rfl rfl (run_just _) ?_ | refine V_O rfl ?_ | refine O_step rfl ?_ | refine O_nil' ?_ | refine V_cT rfl rfl ?_ | refine V_cF rfl rfl ?_ | refine V_cEq rfl rfl ?_ | refine V_cNe rfl rfl ?_ | refine V_cB rfl rfl (fun _ => ?_) (fun _ => ?_) | refine O_gT' rfl ?_ | refine O_gU' rfl ?_ | refine O_gF' rfl rfl ?_ | refine O_gEq rfl ?_ | refine O_gNe rfl ?_ | refine O_gS rfl (fun _ => ?_) (fun _ => ?_) | refine V_fA rfl rfl ?_ | refine V_fAN rfl rfl ?_ | refine V_D rfl ?_ | refine D_step rfl ?_ | refine D_nil' ?_ | refine D_gT' rfl ?_ | refine D_gU' rfl ?_ | refine D_gF' rfl rfl ?_ | refine D_gS rfl (fun _ => ?_) (fun _ => ?_)
  all_goals simp only [decide_eq_true_eq, decide_eq_false_iff_not] at *
  all_goals first | (subst_vars; rfl) | (unfold opnd; simp only [*, or_self, if_false]; rfl)
def wPreds : List UInt8 := [101, 113, 32, 110, 101, 113, 32, 108, 116, 32, 108, 116, 101, 32, 103, 116, 32, 103, 116, 101, 32, 119, 105, 116, 104, 105, 110, 32, 119, 105, 116, 104, 111, 117, 116, 32, 98, 101, 116, 119, 101, 101, 110]
def wSteps : List UInt8 := [86, 32, 69, 32, 105, 110, 106, 101, 99, 116, 32, 97, 100, 100, 86, 32, 111, 117, 116, 32, 105, 110, 32, 98, 111, 116, 104, 32, 111, 117, 116, 69, 32, 105, 110, 69, 32, 98, 111, 116, 104, 69, 32, 111, 117, 116, 86, 32, 105, 110, 86, 32, 98, 111, 116, 104, 86, 32, 104, 97, 115, 32, 104, 97, 115, 75, 101, 121, 32, 104, 97, 115, 78, 111, 116, 32, 104, 97, 115, 76, 97, 98, 101, 108, 32, 104, 97, 115, 73, 100, 32, 105, 115, 32, 119, 104, 101, 114, 101, 32, 110, 111, 116, 32, 97, 110, 100, 32, 111, 114, 32, 100, 101, 100, 117, 112, 32, 115, 105, 109, 112, 108, 101, 80, 97, 116, 104, 32, 108, 105, 109, 105, 116, 32, 115, 107, 105, 112, 32, 114, 97, 110, 103, 101, 32, 116, 97, 105, 108, 32, 105, 100, 32, 108, 97, 98, 101, 108, 32, 118, 97, 108, 117, 101, 115, 32, 118, 97, 108, 117, 101, 77, 97, 112, 32, 99, 111, 110, 115, 116, 97, 110, 116, 32, 99, 111, 117, 110, 116, 32, 115, 117, 109, 32, 109, 105, 110, 32, 109, 97, 120, 32, 102, 111, 108, 100, 32, 117, 110, 102, 111, 108, 100, 32, 112, 97, 116, 104, 32, 97, 115, 32, 115, 101, 108, 101, 99, 116, 32, 111, 114, 100, 101, 114, 32, 111, 114, 100, 101, 114, 68, 101, 115, 99, 32, 111, 114, 100, 101, 114, 66, 121, 32, 111, 114, 100, 101, 114, 66, 121, 68, 101, 115, 99, 32, 103, 114, 111, 117, 112, 67, 111, 117, 110, 116, 32, 108, 111, 111, 112, 115, 32, 117, 110, 105, 111, 110, 32, 99, 111, 97, 108, 101, 115, 99, 101, 32, 111, 112, 116, 105, 111, 110, 97, 108, 32, 99, 104, 111, 111, 115, 101, 32, 116, 105, 109, 101, 115, 32, 117, 110, 116, 105, 108, 32, 101, 109, 105, 116, 32, 97, 100, 100, 69, 32, 112, 114, 111, 112, 101, 114, 116, 121, 32, 100, 114, 111, 112, 32, 105, 100, 101, 110, 116, 105, 116, 121]
def stepW (op : Int) : List UInt8 := wordAt (splitB 32 wSteps) op
def predW (op : Int) : List UInt8 := wordAt (splitB 32 wPreds) op
theorem steps_60 : (splitB 32 wSteps).length = 60 ∧ (splitB 32 wSteps).all (fun w => !w.isEmpty) = true := by decide +kernel
theorem preds_9 : (splitB 32 wPreds).length = 9 ∧ (splitB 32 wPreds).all (fun w => !w.isEmpty) = true := by decide +kernel
theorem wordAt_ne {W : List (List UInt8)} (h : W.all (fun w => !w.isEmpty) = true) (n : Int) : decide (wordAt W n = []) = !(decide (1 ≤ n) && decide (n ≤ (W.length : Int))) := by
  unfold wordAt
  by_cases hn : 1 ≤ n ∧ n ≤ W.length
  · rw [if_pos hn, decide_eq_true hn.1, decide_eq_true hn.2]
    have hlt : (n - 1).toNat < W.length := by omega
    rw [List.getElem?_eq_getElem hlt]
    have := List.all_eq_true.1 h W[(n - 1).toNat] (List.getElem_mem _)
    simp only [Option.getD_some]
    cases hw : W[(n - 1).toNat] with
    | nil => rw [hw] at this; cases this
    | cons a b => simp
  · rw [if_neg hn]
    have : ¬ (decide (1 ≤ n) && decide (n ≤ (W.length : Int))) = true := by simpa using hn
    simp only [Bool.not_eq_true] at this
    rw [this]
    rfl
def opB (op : Int) : Bool := decide (1 ≤ op) && decide (op ≤ 60)
theorem stepW_ne (op : Int) : decide (stepW op = []) = !opB op := by
  have := wordAt_ne steps_60.2 op
  rw [steps_60.1] at this
  exact this
theorem predW_ne (op : Int) : decide (predW op = []) = !(decide (1 ≤ op) && decide (op ≤ 9)) := by
  have := wordAt_ne preds_9.2 op
  rw [preds_9.1] at this
  exact this
theorem run_Word {op : Int} (h : I64 op) : T.R (.call n_parse_Word [.int .i64 op] (.str (stepW op))) := by
  have hx : T.R (.call n_parse_word [.str wSteps, .int .i64 op] (.str (stepW op))) := run_pword (by decide +kernel) op h
  generalize stepW op = w at hx ⊢
  refine call_V rfl rfl ?_
  repeat' first | refine O_cA rfl rfl hx ?_ | refine V_O rfl ?_ | refine O_step rfl ?_ | refine O_nil' ?_ | refine V_cT rfl rfl ?_ | refine V_cF rfl rfl ?_ | refine V_cEq rfl rfl ?_ | refine V_cNe rfl rfl ?_ | refine V_cB rfl rfl (fun _ => ?_) (fun _ => ?_) | refine O_gT' rfl ?_ | refine O_gU' rfl ?_ | refine O_gF' rfl rfl ?_ | refine O_gEq rfl ?_ | refine O_gNe rfl ?_ | refine O_gS rfl (fun _ => ?_) (fun _ => ?_) | refine V_fA rfl rfl ?_ | refine V_fAN rfl rfl ?_ | refine V_D rfl ?_ | refine D_step rfl ?_ | refine D_nil' ?_ | refine D_gT' rfl ?_ | refine D_gU' rfl ?_ | refine D_gF' rfl rfl ?_ | refine D_gS rfl (fun _ => ?_) (fun _ => ?_)
  rfl
def predB : Prd → Bool
  | .mk op l => (decide (1 ≤ op) && decide (op ≤ 9)) && hasB (opnd op).1 (opnd op).2 l.length && l.all (mayV 8)
theorem any_not {α : Type} (P : α → Bool) (l : List α) : (l.any fun a => !P a) = !l.all P := by
  induction l with
  | nil => rfl
  | cons v l ih => simp [ih]
theorem run_ctVal {p : PV} {l : List Val} (hp : LR VC p l) : T.R (.call n_slices_ContainsFunc_api_Value [p, .func n_parse_badValue []] (.bool (!l.all (mayV 8)))) := by
  rw [← any_not]
  exact run_ContainsG (f' := n_slices_IndexFunc_api_Value) (sz := 4) (agg := true) (val := .agg) rfl rfl hp (fun _ _ h => h.len4) (fun _ _ h => load_agg h.len4 _) (fun _ _ h => .agg _ h.pl) (hp.pl fun _ _ _ h => h.pl) pl_nil (fun a _ cs h => run_badValue h)
set_option maxHeartbeats 4000000 in
theorem run_badPred {x : Prd} {cs : List PV} (h : PrC x cs) : T.R (.call n_parse_badPred [.agg cs] (.bool (!predB x))) := by
  obtain ⟨op, l⟩ := x
  obtain ⟨ho, p, rfl, hp⟩ := h
  have plp : Pl p := hp.pl fun _ _ _ h => h.pl
  obtain ⟨lp1, lp2, lp3⟩ := hp.len
  have hx : T.R (.call n_parse_word [.str wPreds, .int .i64 op] (.str (predW op))) := run_pword (by decide +kernel) op ho
  have hc := run_ctVal hp
  have ho' := run_operands op
  have hh := run_has (opnd op).1 (opnd op).2 l.length
  show T.R (.call n_parse_badPred [.agg [.int .i64 op, p]] (.bool (!((decide (1 ≤ op) && decide (op ≤ 9)) && hasB (opnd op).1 (opnd op).2 l.length && l.all (mayV 8)))))
  rw [show (decide (1 ≤ op) && decide (op ≤ 9)) = !decide (predW op = []) by rw [predW_ne]; simp]
  generalize predW op = w at hx ⊢
  generalize hasB (opnd op).1 (opnd op).2 l.length = b1 at hh ⊢
  generalize l.all (mayV 8) = b2 at hc ⊢
  generalize (opnd op).1 = o1 at *
  generalize (opnd op).2 = o2 at *
  refine call_V rfl rfl ?_
  repeat' first | refine O_stepL rfl ?_ | refine D_cA rfl rfl hx ?_ | refine D_cA rfl rfl ho' ?_ | refine D_lenO rfl lp1 lp2 ?_ | refine D_cA rfl rfl hh ?_ | refine D_cA rfl rfl hc ?_ | refine V_O rfl ?_ | refine O_step rfl ?_ | refine O_nil' ?_ | refine V_cT rfl rfl ?_ | refine V_cF rfl rfl ?_ | refine V_cEq rfl rfl ?_ | refine V_cNe rfl rfl ?_ | refine V_cB rfl rfl (fun _ => ?_) (fun _ => ?_) | refine O_gT' rfl ?_ | refine O_gU' rfl ?_ | refine O_gF' rfl rfl ?_ | refine O_gEq rfl ?_ | refine O_gNe rfl ?_ | refine O_gS rfl (fun _ => ?_) (fun _ => ?_) | refine V_fA rfl rfl ?_ | refine V_fAN rfl rfl ?_ | refine V_D rfl ?_ | refine D_step rfl ?_ | refine D_nil' ?_ | refine D_gT' rfl ?_ | refine D_gU' rfl ?_ | refine D_gF' rfl rfl ?_ | refine D_gS rfl (fun _ => ?_) (fun _ => ?_)
  all_goals simp_all
def argB (op : Int) (names : List (List UInt8)) (nums : List Int) (preds : List Prd) (vals : List Val) (k : Nat) : Bool :=
  match shp op with
  | [a, b, c, d, e, f, g, h, i, j] => hasB a b names.length && hasB c d nums.length && hasB e f preds.length && hasB g h vals.length && hasB i j k
  | _ => false
def stepB (op : Int) (names : List (List UInt8)) (nums : List Int) (preds : List Prd) (vals : List Val) (k : Nat) : Bool :=
  opB op && argB op names nums preds vals k && names.all nameB && nums.all numB && preds.all predB && vals.all (mayV 8)
set_option maxHeartbeats 4000000 in
theorem run_badStep {n : Nat} {op : Int} {names : List (List UInt8)} {nums : List Int} {preds : List Prd} {vals : List Val} {subs : List (List Stp)} {cs : List PV} (h : SC n (.mk op names nums preds vals subs) cs) :
    T.R (.call n_parse_badStep [.agg cs] (.bool (!stepB op names nums preds vals subs.length))) := by
  cases n with
  | zero => exact h.elim
  | succ n =>
  have plcs := h.pl
  obtain ⟨ho, pa, pb, pc, pd, pe, rfl, h1, h2, h3, h4, h5⟩ := h
  have pla : Pl pa := h1.pl fun _ _ _ h => h.pl
  have plb : Pl pb := h2.pl fun _ _ _ h => h.pl
  have plc : Pl pc := h3.pl fun _ _ _ h => h.pl
  have pld : Pl pd := h4.pl fun _ _ _ h => h.pl
  have ple : Pl pe := plcs pe (by simp)
  obtain ⟨la1, la2, la3⟩ := h1.len
  obtain ⟨lb1, lb2, lb3⟩ := h2.len
  obtain ⟨lc1, lc2, lc3⟩ := h3.len
  obtain ⟨ld1, ld2, ld3⟩ := h4.len
  obtain ⟨le1, le2, le3⟩ := h5.len
  have hw := run_Word ho
  have hs := run_shapeOf op
  have c1 : T.R (.call n_slices_ContainsFunc_string_string [pa, .func n_parse_badName []] (.bool (!names.all nameB))) := by
    rw [← any_not]
    exact run_ContainsG (f' := n_slices_IndexFunc_string_string) (sz := 1) (agg := false) (val := fun cs => cs.headD .junk) rfl rfl h1 (fun _ _ h => h.len1) (fun _ _ h => by obtain ⟨_, rfl⟩ := h; rfl) (fun _ _ h => by obtain ⟨_, rfl⟩ := h; exact .str _) pla pl_nil (fun a _ cs h => by obtain ⟨hl, rfl⟩ := h; exact run_badName hl)
  have c2 : T.R (.call n_slices_ContainsFunc_int64_int64 [pb, .func n_parse_badNum []] (.bool (!nums.all numB))) := by
    rw [← any_not]
    exact run_ContainsG (f' := n_slices_IndexFunc_int64_int64) (sz := 1) (agg := false) (val := fun cs => cs.headD .junk) rfl rfl h2 (fun _ _ h => h.len1) (fun _ _ h => by obtain ⟨_, rfl⟩ := h; rfl) (fun _ _ h => by obtain ⟨_, rfl⟩ := h; exact .int _ _) plb pl_nil (fun a _ cs h => by obtain ⟨hl, rfl⟩ := h; exact run_badNum _)
  have c3 : T.R (.call n_slices_ContainsFunc_api_Pred [pc, .func n_parse_badPred []] (.bool (!preds.all predB))) := by
    rw [← any_not]
    exact run_ContainsG (f' := n_slices_IndexFunc_api_Pred) (sz := 2) (agg := true) (val := .agg) rfl rfl h3 (fun _ _ h => h.len2) (fun _ _ h => load_agg h.len2 _) (fun _ _ h => .agg _ h.pl) plc pl_nil (fun a _ cs h => run_badPred h)
  have c4 := run_ctVal h4
  obtain ⟨a, b, c, d, e, f, g, hh, i, j, hten⟩ := shp_ten op
  unfold stepB argB
  rw [hten] at hs ⊢
  rw [show opB op = !decide (stepW op = []) by rw [stepW_ne]; simp]
  simp only [List.map_cons, List.map_nil, intP] at hs ⊢
  have k1 := run_has a b names.length
  have k2 := run_has c d nums.length
  have k3 := run_has e f preds.length
  have k4 := run_has g hh vals.length
  have k5 := run_has i j subs.length
  generalize stepW op = w at hw ⊢
  generalize hasB a b names.length = b1 at k1 ⊢
  generalize hasB c d nums.length = b2 at k2 ⊢
  generalize hasB e f preds.length = b3 at k3 ⊢
  generalize hasB g hh vals.length = b4 at k4 ⊢
  generalize hasB i j subs.length = b5 at k5 ⊢
  generalize names.all nameB = b6 at c1 ⊢
  generalize nums.all numB = b7 at c2 ⊢
  generalize preds.all predB = b8 at c3 ⊢
  generalize vals.all (mayV 8) = b9 at c4 ⊢
  refine call_V rfl rfl ?_
  repeat' first | refine O_stepL rfl ?_ | refine O_cA rfl rfl hs ?_ | refine O_cA rfl rfl hw ?_ | refine O_lenO rfl la1 la2 ?_ | refine O_lenO rfl lb1 lb2 ?_ | refine O_lenO rfl lc1 lc2 ?_ | refine O_lenO rfl ld1 ld2 ?_ | refine O_lenO rfl le1 le2 ?_ | refine O_cA rfl rfl k1 ?_ | refine O_cA rfl rfl k2 ?_ | refine O_cA rfl rfl k3 ?_ | refine O_cA rfl rfl k4 ?_ | refine O_cA rfl rfl k5 ?_ | refine O_cA rfl rfl c1 ?_ | refine O_cA rfl rfl c2 ?_ | refine O_cA rfl rfl c3 ?_ | refine O_cA rfl rfl c4 ?_ | refine V_O rfl ?_ | refine O_step rfl ?_ | refine O_nil' ?_ | refine V_cT rfl rfl ?_ | refine V_cF rfl rfl ?_ | refine V_cEq rfl rfl ?_ | refine V_cNe rfl rfl ?_ | refine V_cB rfl rfl (fun _ => ?_) (fun _ => ?_) | refine O_gT' rfl ?_ | refine O_gU' rfl ?_ | refine O_gF' rfl rfl ?_ | refine O_gEq rfl ?_ | refine O_gNe rfl ?_ | refine O_gS rfl (fun _ => ?_) (fun _ => ?_) | refine V_fA rfl rfl ?_ | refine V_fAN rfl rfl ?_ | refine V_D rfl ?_ | refine D_step rfl ?_ | refine D_nil' ?_ | refine D_gT' rfl ?_ | refine D_gU' rfl ?_ | refine D_gF' rfl rfl ?_ | refine D_gS rfl (fun _ => ?_) (fun _ => ?_)
  all_goals clear hs hw k1 k2 k3 k4 k5 c1 c2 c3 c4 la1 lb1 lc1 ld1 le1 h1 h2 h3 h4 h5
  all_goals simp_all
end Go.Proofs.YtinojffgmgjblaaGreatDoor
