/- rambleref25.Parse: its loop and the whole; the law ScriptTexts over plain values. · rambleref25.Parse: the first line, the whole. · rambleref25.Parse; the law ScriptTexts over plain values. · The law ScriptTexts over plain values. · What the row's listed variables give: what is known of the world. · A command that is handed to a row. · A script that is handed to a row. -/
import Derived.Test.YtbeaalkfakjoiaaDoorScrU
import Derived.Test.YtbeaalkfakjoiaaDoorScrHToScrQ
import Derived.Test.YtbeaalkfakjoiaaDoorRows
import Derived.Test.YtbeaalkfakjoiaaDoorPrimNToScrX
import Derived.Stop.LaidErr
import Derived.LaidMore
import Derived.Test.YtbeaalkfakjoiaaDoorScrBToScrC
import Derived.Test.YtbeaalkfakjoiaaDoorAmZ
import Derived.Test.YtbeaalkfakjoiaaDoorScrNb
set_option linter.unusedVariables false
set_option linter.unusedSimpArgs false
namespace Go.Proofs.YtbeaalkfakjoiaaDoor
open Go Go.AM Go.RowKit
def RpQ (h : Int × Int × Int) (r : Option (List Cm) × Int) : EX → EC → St → Prop := fun x e st' => (∃ (cs' : List Cm) (n : Int) (v' : PV), r = (some cs', n) ∧ x = .exit 0 ∧ e = ecOf [(2, .ptr 0 0), (5, .ptr 1 0)] ∧ PS st' h v' cs' ∧ cs'.length ≤ 1024) ∨ (∃ n : Int, r = (none, n) ∧ x = .ret ∧ e = ecOf [(2, .ptr 0 0), (3, .int .i64 n), (4, .int .i64 251)] ∧ st'.get 0 = some (.var z4))
theorem line_c (x : List UInt8) (hx : x.length ≤ 1000000000) : ∃ (c : Cm) (isb : Bool), T.R (.call n_rambleref25_ParseLine [.str x] (.tuple [.agg (cells c), .bool isb])) ∧ ((isb = true ∧ plO x = some c) ∨ (isb = false ∧ plO x = none)) := by
  obtain ⟨o, hc, hs⟩ := run_rParseLine (s := x) (by omega)
  have ho := plO_eq hs
  cases o with
  | none => exact ⟨⟨0, 0, [], 0, 0⟩, false, hc, .inr ⟨rfl, ho⟩⟩
  | some c => exact ⟨c, true, hc, .inl ⟨rfl, ho⟩⟩
theorem last_of {t : List UInt8} (h : t ≠ []) : ∃ d : UInt8, t[t.length - 1]? = some d ∧ ends t = decide (d = 10) := by
  have hp : 0 < t.length := List.length_pos_iff.2 h
  refine ⟨t[t.length - 1], List.getElem?_eq_getElem (by omega), ?_⟩
  unfold ends
  rw [List.getLast?_eq_getElem?, List.getElem?_eq_getElem (by omega)]
  congr 1
  exact propext ⟨fun e => by injection e, fun e => by rw [e]⟩
theorem rp_loop {t : List UInt8} (htl : t.length ≤ 1000000000) {ls : List (List UInt8)} {p : PV} (hp : LV sc p ls) (hls : linesB t = ls) (hlen : ls.length ≤ 1000000000) (h : Int × Int × Int) : ∀ (rest pre : List (List UInt8)) (cs : List Cm) (st : St) (v : PV), ls = pre ++ rest → 1 ≤ pre.length → (rest = [] → ends t = true) → PS st h v cs → cs.length ≤ 1024 →
    V T (PE (RpQ h (parG (ends t) rest (pre.length + 1) cs))) [.code (.loop lp_rambleref25_Parse_0)] .normal (ecOf [(0, .str t), (2, .ptr 0 0), (5, .ptr 1 0), (6, p), (7, .int .i64 (pre.length : Int))]) st := by
  intro rest
  induction rest with
  | nil =>
    intro pre cs st v hc h1 he ps hl
    have e1 : binInt .lss .i64 (pre.length : Int) (ls.length : Int) = some (.bool false) := lt_f (by rw [hc]; simp)
    have hr : parG (ends t) [] (pre.length + 1) cs = (some cs, 0) := by rw [parG, if_pos (he rfl)]
    rw [hr]
    refine V_unroll ?_
    repeat' first | ((with_reducible show V _ _ _ _ _ _); first | refine V_out [(2, .ptr 0 0), (5, .ptr 1 0)] rfl ⟨rfl, rfl, trivial⟩ (.inl ⟨cs, 0, v, rfl, rfl, rfl, ps, hl⟩) | refine V_O rfl ?_ | refine V_cT rfl rfl ?_ | refine V_cF rfl rfl ?_ | refine V_cEq rfl rfl ?_ | refine V_cNe rfl rfl ?_ | refine V_cB rfl rfl (fun _ => ?_) (fun _ => ?_) | refine V_fA rfl rfl ?_ | refine V_fAN rfl rfl ?_ | refine V_D rfl ?_) | ((with_reducible show VO _ _ _ _ _ _ _); first | refine O_lenL rfl hp ?_ | refine O_bin e1 rfl rfl ?_ | refine O_step rfl ?_ | refine O_stepL rfl ?_ | refine O_nil' ?_ | refine O_gT' rfl ?_ | refine O_gU' rfl ?_ | refine O_gF' rfl rfl ?_ | refine O_gEq rfl ?_ | refine O_gNe rfl ?_ | refine O_gS rfl (fun _ => ?_) (fun _ => ?_)) | ((with_reducible show VD _ _ _ _ _ _ _); first | refine D_step rfl ?_ | refine D_nil' ?_ | refine D_gT' rfl ?_ | refine D_gU' rfl ?_ | refine D_gF' rfl rfl ?_ | refine D_gS rfl (fun _ => ?_) (fun _ => ?_))
  | cons x rest ih =>
    intro pre cs st v hc h1 _ ps hl
    have hxl : x.length ≤ 1000000000 := by
      have := lines_len t x (by rw [hls, hc]; simp)
      omega
    obtain ⟨c, isb, hcall, hpl⟩ := line_c x hxl
    have hat : ls[pre.length]? = some x := by rw [hc]; simp
    have hll : ls.length = pre.length + 1 + rest.length := by rw [hc]; simp; omega
    have hstop : (isb && decide (cs.length < 1024)) = false → parG (ends t) (x :: rest) (pre.length + 1) cs = (none, ((pre.length + 1 : Nat) : Int)) := fun hb => by
      rw [parG]
      rcases hpl with ⟨rfl, hp⟩ | ⟨rfl, hp⟩
      · rw [hp]
        show (if cs.length = 1024 then _ else _) = _
        rw [if_pos (by simp at hb; omega)]
      · rw [hp]
    have hgo : (isb && decide (cs.length < 1024)) = true → cs.length < 1024 ∧ parG (ends t) (x :: rest) (pre.length + 1) cs = parG (ends t) rest (pre.length + 1 + 1) (cs ++ [c]) := fun hb => by
      rw [Bool.and_eq_true, decide_eq_true_eq] at hb
      rw [parG]
      rcases hpl with ⟨rfl, hp⟩ | ⟨rfl, hp⟩
      · rw [hp]
        show _ ∧ (if cs.length = 1024 then _ else _) = _
        rw [if_neg (by omega)]
        exact ⟨hb.2, rfl⟩
      · exact absurd hb.1 (by decide)
    have hpl1 : ((pre ++ [x]).length : Int) = ((pre.length + 1 : Nat) : Int) := by simp
    by_cases hr : rest = []
    · subst hr
      have ht0 : t ≠ [] := by
        rintro rfl
        rw [show linesB [] = [] from rfl] at hls
        rw [← hls] at hll
        simp at hll
      obtain ⟨d, hd, hend⟩ := last_of ht0
      refine rp_last htl hp hlen (i := pre.length) h1 (by simp at hll; omega) hd hat c isb hcall ps hl (ends t) hend (decide (cs.length < 1024)) rfl ?_ ?_
      · intro hb S4 v' p4
        rw [Bool.and_eq_true] at hb
        obtain ⟨g1, g2⟩ := hgo hb.2
        rw [g2]
        have := ih (pre ++ [x]) (cs ++ [c]) S4 v' (by rw [hc]; simp) (by simp) (fun _ => hb.1) p4 (by simp; omega)
        rw [hpl1] at this
        have e2 : (pre ++ [x]).length + 1 = pre.length + 1 + 1 := by simp
        rw [e2] at this
        exact this
      · intro hb S5 h5
        refine .inr ⟨_, ?_, rfl, rfl, h5⟩
        cases hb2 : (isb && decide (cs.length < 1024)) with
        | false => exact hstop hb2
        | true =>
          rw [hb2, Bool.and_true] at hb
          rw [(hgo hb2).2, parG, hb, if_neg (by decide)]
          congr 1
          omega
    · have hrl : 0 < rest.length := List.length_pos_iff.2 hr
      refine rp_body htl hp hlen (i := pre.length) h1 (by omega) hat c isb hcall ps hl (decide (cs.length < 1024)) rfl ?_ ?_
      · intro hb S4 v' p4
        rw [Bool.true_and] at hb
        obtain ⟨g1, g2⟩ := hgo hb
        rw [g2]
        have := ih (pre ++ [x]) (cs ++ [c]) S4 v' (by rw [hc]; simp) (by simp) (fun e => absurd e hr) p4 (by simp; omega)
        rw [hpl1] at this
        have e2 : (pre ++ [x]).length + 1 = pre.length + 1 + 1 := by simp
        rw [e2] at this
        exact this
      · intro hb S5 h5
        rw [Bool.true_and] at hb
        exact .inr ⟨_, hstop hb, rfl, rfl, h5⟩
end Go.Proofs.YtbeaalkfakjoiaaDoor
set_option linter.unusedVariables false
set_option linter.unusedSimpArgs false
namespace Go.Proofs.YtbeaalkfakjoiaaDoor
open Go Go.AM Go.RowKit
theorem resG3 {e : EC} {look : Nat → Option Tok} {t : Nat} {cs : List PV} {a b : PV} (ha : e.get 2 = some (.ptr t 0)) (hg : look t = some (.var cs)) (hl : cs.length = 4) (h3 : e.get 3 = some a) (h4 : e.get 4 = some b) : resG e look [.cell 2 4 true, .tmp 3, .tmp 4] = some (.tuple [.agg cs, a, b]) := by
  have hld : loadAt look 4 true (.ptr t 0) = some (.agg cs) := by
    simp only [loadAt, behind, hg, Option.bind_some]
    rw [← hl]
    simp [slice?]
  simp [resG, resGs, resG1, ha, hld, h3, h4]
theorem view_sc {look : Nat → Option Tok} {h : Int × Int × Int} {v q : PV} (hv : View true look v q) (a b : Int) : View true look (.tuple [.agg [.int .i64 h.1, .int .i64 h.2.1, .int .i64 h.2.2, v], .int .i64 a, .int .i64 b]) (.tuple [scA h q, .int .i64 a, .int .i64 b]) := by
  refine .tuple _ _ rfl fun i c d hc hd => ?_
  match i, hc, hd with
  | 0, hc, hd =>
    injection hc with hc
    injection hd with hd
    subst hc hd
    refine .agg _ _ rfl fun j c d hc hd => ?_
    match j, hc, hd with
    | 0, hc, hd => injection hc with hc; injection hd with hd; subst hc hd; exact .int _ _
    | 1, hc, hd => injection hc with hc; injection hd with hd; subst hc hd; exact .int _ _
    | 2, hc, hd => injection hc with hc; injection hd with hd; subst hc hd; exact .int _ _
    | 3, hc, hd => injection hc with hc; injection hd with hd; subst hc hd; exact hv
    | j + 4, hc, hd => cases hc
  | 1, hc, hd => injection hc with hc; injection hd with hd; subst hc hd; exact .int _ _
  | 2, hc, hd => injection hc with hc; injection hd with hd; subst hc hd; exact .int _ _
  | i + 3, hc, hd => cases hc
def RParQ (t : List UInt8) (r : PV) : Prop := (∃ n : Int, parR t = (none, n) ∧ r = .tuple [scA (0, 0, 0) .nilSl, .int .i64 n, .int .i64 251]) ∨ ∃ (h : Int × Int × Int) (cs : List Cm) (q : PV), parR t = (some (h, cs), 0) ∧ LV cells q cs ∧ r = .tuple [scA h q, .int .i64 0, .int .i64 0]
def st2 : St := ⟨0, 2, [(0, .var z4), (1, .var z4)]⟩
def st3 (h : Int × Int × Int) : St := ⟨0, 3, [(0, .var z4), (1, .var [.int .i64 h.1, .int .i64 h.2.1, .int .i64 h.2.2, .nilSl]), (2, .var [.int .i64 h.1, .int .i64 h.2.1, .int .i64 h.2.2, .nilSl])]⟩
theorem ps3 (h : Int × Int × Int) : PS (st3 h) h .nilSl [] := ⟨show 2 ≤ 3 by decide, rfl, rfl, .inl ⟨rfl, rfl⟩, fun t e => by cases e⟩
set_option maxHeartbeats 4000000 in
set_option maxRecDepth 100000 in
theorem rp_first {t : List UInt8} (htl : t.length ≤ 1000000000) {ls : List (List UInt8)} {p : PV} (hp : LV sc p ls) (hlen : ls.length ≤ 1000000000) {x : List UInt8} (hx : ls[0]? = some x) (hl1 : 1 < ls.length) {h : Int × Int × Int} (isb : Bool) (hcall : T.R (.call n_rambleref25_parseHead [.str x] (headT h isb))) {Q : EX → EC → St → Prop}
    (hc : (true && isb) = true → V T (PE Q) [.code (.loop lp_rambleref25_Parse_0)] .normal (ecOf [(0, .str t), (2, .ptr 0 0), (5, .ptr 1 0), (6, p), (7, .int .i64 1)]) (st3 h))
    (hs : (true && isb) = false → Q .ret (ecOf [(2, .ptr 0 0), (3, .int .i64 1), (4, .int .i64 251)]) (st3 h)) :
    V T (PE Q) [.code (.loop lp_rambleref25_Parse_0)] .normal (ecOf [(0, .str t), (2, .ptr 0 0), (5, .ptr 1 0), (6, p), (7, .int .i64 0)]) st2 := by
  unfold headT at hcall
  have e1 : binInt .lss .i64 0 (ls.length : Int) = some (.bool true) := lt_t (by omega)
  have hx0 : ls[(0 : Int).toNat]? = some x := hx
  have hw1 : binInt .sub .i64 (ls.length : Int) 1 = some (.int .i64 ((ls.length - 1 : Nat) : Int)) := congrArg some (int_is (by rw [wrap_i64]; omega))
  have e2 : binInt .lss .i64 0 ((ls.length - 1 : Nat) : Int) = some (.bool true) := lt_t (by omega)
  have plg : Pl (.agg [.int .i64 h.1, .int .i64 h.2.1, .int .i64 h.2.2, .nilSl]) := .agg _ (pl_cons (.int _ _) (pl_cons (.int _ _) (pl_cons (.int _ _) (pl_cons .nilSl pl_nil))))
  refine V_unroll ?_
  cases isb
  all_goals repeat' first | ((with_reducible show V _ _ _ _ _ _); first | refine V_re rfl (hc rfl) ⟨rfl, rfl, rfl, rfl, rfl, trivial⟩ | refine V_out [(2, .ptr 0 0), (3, .int .i64 1), (4, .int .i64 251)] rfl ⟨rfl, rfl, rfl, trivial⟩ (hs rfl) | refine V_O rfl ?_ | refine V_cT rfl rfl ?_ | refine V_cF rfl rfl ?_ | refine V_cEq rfl rfl ?_ | refine V_cNe rfl rfl ?_ | refine V_cB rfl rfl (fun _ => ?_) (fun _ => ?_) | refine V_fA rfl rfl ?_ | refine V_fAN rfl rfl ?_ | refine V_D rfl ?_) | ((with_reducible show VO _ _ _ _ _ _ _); first | refine O_lenL rfl hp ?_ | refine O_bin e1 rfl rfl ?_ | refine O_bin hw1 rfl rfl ?_ | refine O_bin e2 rfl rfl ?_ | refine O_idxL x rfl hp rfl (by omega) hx0 rfl ?_ | refine O_cA rfl rfl hcall ?_ | refine O_step rfl ?_ | refine O_stepL rfl ?_ | refine O_nil' ?_ | refine O_gT' rfl ?_ | refine O_gU' rfl ?_ | refine O_gF' rfl rfl ?_ | refine O_gEq rfl ?_ | refine O_gNe rfl ?_ | refine O_gS rfl (fun _ => ?_) (fun _ => ?_)) | ((with_reducible show VD _ _ _ _ _ _ _); first | refine D_step rfl ?_ | refine D_nil' ?_ | refine D_gT' rfl ?_ | refine D_gU' rfl ?_ | refine D_gF' rfl rfl ?_ | refine D_gS rfl (fun _ => ?_) (fun _ => ?_))
set_option maxHeartbeats 4000000 in
set_option maxRecDepth 100000 in
theorem rp_one {t : List UInt8} (htl : t.length ≤ 1000000000) {ls : List (List UInt8)} {p : PV} (hp : LV sc p ls) (hlen : ls.length ≤ 1000000000) {x : List UInt8} (hx : ls[0]? = some x) (hl1 : ls.length = 1) {d : UInt8} (hd : t[t.length - 1]? = some d) (okb : Bool) (hokb : okb = decide (d = 10)) {h : Int × Int × Int} (isb : Bool) (hcall : T.R (.call n_rambleref25_parseHead [.str x] (headT h isb))) {Q : EX → EC → St → Prop}
    (hc : (okb && isb) = true → V T (PE Q) [.code (.loop lp_rambleref25_Parse_0)] .normal (ecOf [(0, .str t), (2, .ptr 0 0), (5, .ptr 1 0), (6, p), (7, .int .i64 1)]) (st3 h))
    (hs : (okb && isb) = false → Q .ret (ecOf [(2, .ptr 0 0), (3, .int .i64 1), (4, .int .i64 251)]) (st3 h)) :
    V T (PE Q) [.code (.loop lp_rambleref25_Parse_0)] .normal (ecOf [(0, .str t), (2, .ptr 0 0), (5, .ptr 1 0), (6, p), (7, .int .i64 0)]) st2 := by
  unfold headT at hcall
  have e1 : binInt .lss .i64 0 (ls.length : Int) = some (.bool true) := lt_t (by omega)
  have hx0 : ls[(0 : Int).toNat]? = some x := hx
  have hw1 : binInt .sub .i64 (ls.length : Int) 1 = some (.int .i64 ((ls.length - 1 : Nat) : Int)) := congrArg some (int_is (by rw [wrap_i64]; omega))
  have e2 : binInt .lss .i64 0 ((ls.length - 1 : Nat) : Int) = some (.bool false) := lt_f (by omega)
  have plg : Pl (.agg [.int .i64 h.1, .int .i64 h.2.1, .int .i64 h.2.2, .nilSl]) := .agg _ (pl_cons (.int _ _) (pl_cons (.int _ _) (pl_cons (.int _ _) (pl_cons .nilSl pl_nil))))
  have hw3 : binInt .sub .i64 (t.length : Int) 1 = some (.int .i64 ((t.length - 1 : Nat) : Int)) := congrArg some (int_is (by
    have := (List.getElem?_eq_some_iff.1 hd).1
    rw [wrap_i64]
    omega))
  have hch : t[((t.length - 1 : Nat) : Int).toNat]? = some d := hd
  have e4 : binInt .eql .u8 (d.toNat : Int) 10 = some (.bool okb) := by
    rw [hokb]
    refine congrArg some (congrArg PV.bool ?_)
    rw [Bool.eq_iff_iff, decide_eq_true_eq, decide_eq_true_eq]
    constructor
    · intro e
      exact UInt8.toNat_inj.1 (by have : (10 : UInt8).toNat = 10 := rfl; omega)
    · rintro rfl
      rfl
  clear hokb
  refine V_unroll ?_
  cases isb <;> cases okb
  all_goals repeat' first | ((with_reducible show V _ _ _ _ _ _); first | refine V_re rfl (hc rfl) ⟨rfl, rfl, rfl, rfl, rfl, trivial⟩ | refine V_out [(2, .ptr 0 0), (3, .int .i64 1), (4, .int .i64 251)] rfl ⟨rfl, rfl, rfl, trivial⟩ (hs rfl) | refine V_O rfl ?_ | refine V_cT rfl rfl ?_ | refine V_cF rfl rfl ?_ | refine V_cEq rfl rfl ?_ | refine V_cNe rfl rfl ?_ | refine V_cB rfl rfl (fun _ => ?_) (fun _ => ?_) | refine V_fA rfl rfl ?_ | refine V_fAN rfl rfl ?_ | refine V_D rfl ?_) | ((with_reducible show VO _ _ _ _ _ _ _); first | refine O_lenL rfl hp ?_ | refine O_bin e1 rfl rfl ?_ | refine O_bin hw1 rfl rfl ?_ | refine O_bin e2 rfl rfl ?_ | refine O_bin hw3 rfl rfl ?_ | refine O_chr d rfl rfl (by omega) hch ?_ | refine O_bin e4 rfl rfl ?_ | refine O_idxL x rfl hp rfl (by omega) hx0 rfl ?_ | refine O_cA rfl rfl hcall ?_ | refine O_step rfl ?_ | refine O_stepL rfl ?_ | refine O_nil' ?_ | refine O_gT' rfl ?_ | refine O_gU' rfl ?_ | refine O_gF' rfl rfl ?_ | refine O_gEq rfl ?_ | refine O_gNe rfl ?_ | refine O_gS rfl (fun _ => ?_) (fun _ => ?_)) | ((with_reducible show VD _ _ _ _ _ _ _); first | refine D_step rfl ?_ | refine D_nil' ?_ | refine D_gT' rfl ?_ | refine D_gU' rfl ?_ | refine D_gF' rfl rfl ?_ | refine D_gS rfl (fun _ => ?_) (fun _ => ?_))
end Go.Proofs.YtbeaalkfakjoiaaDoor
set_option linter.unusedVariables false
set_option linter.unusedSimpArgs false
namespace Go.Proofs.YtbeaalkfakjoiaaDoor
open Go Go.AM Go.RowKit
theorem parR_0 {t x : List UInt8} {rest : List (List UInt8)} (hls : linesB t = x :: rest) (hx : hdO x = none) : parR t = (none, 1) := by
  unfold parR
  rw [hls]
  show (match hdO x with | none => _ | some h => _) = _
  rw [hx]
theorem parR_1 {t x : List UInt8} {rest : List (List UInt8)} {h : Int × Int × Int} {cs : List Cm} {n : Int} (hls : linesB t = x :: rest) (hx : hdO x = some h) (hg : parG (ends t) rest 2 [] = (some cs, n)) : parR t = (some (h, cs), 0) := by
  unfold parR
  rw [hls]
  show (match hdO x with | none => _ | some h => _) = _
  rw [hx]
  show (match parG (ends t) rest 2 [] with | (some cs, _) => _ | (none, n) => _) = _
  rw [hg]
theorem parR_2 {t x : List UInt8} {rest : List (List UInt8)} {h : Int × Int × Int} {n : Int} (hls : linesB t = x :: rest) (hx : hdO x = some h) (hg : parG (ends t) rest 2 [] = (none, n)) : parR t = (none, n) := by
  unfold parR
  rw [hls]
  show (match hdO x with | none => _ | some h => _) = _
  rw [hx]
  show (match parG (ends t) rest 2 [] with | (some cs, _) => _ | (none, n) => _) = _
  rw [hg]
def FinQ (t : List UInt8) : EX → EC → St → Prop := fun x e st' => (∃ (h : Int × Int × Int) (cs : List Cm) (v' : PV), parR t = (some (h, cs), 0) ∧ x = .exit 0 ∧ e = ecOf [(2, .ptr 0 0), (5, .ptr 1 0)] ∧ PS st' h v' cs) ∨ (∃ n : Int, parR t = (none, n) ∧ x = .ret ∧ e = ecOf [(2, .ptr 0 0), (3, .int .i64 n), (4, .int .i64 251)] ∧ st'.get 0 = some (.var z4))
theorem rp_all {t : List UInt8} (htl : t.length ≤ 1000000000) {x : List UInt8} {rest : List (List UInt8)} (hls : linesB t = x :: rest) {p : PV} (hp : LV sc p (x :: rest)) (hlen : (x :: rest).length ≤ 1000000000) :
    V T (PE (FinQ t)) [.code (.loop lp_rambleref25_Parse_0)] .normal (ecOf [(0, .str t), (2, .ptr 0 0), (5, .ptr 1 0), (6, p), (7, .int .i64 0)]) st2 := by
  have hxl : x.length ≤ 1000000000 := by
    have := lines_len t x (by rw [hls]; simp)
    omega
  obtain ⟨h, hR, hcall, hh⟩ := run_rParseHead hxl
  have ht0 : t ≠ [] := by
    rintro rfl
    cases hls
  obtain ⟨d, hd, hend⟩ := last_of ht0
  have hsome : (hdO x).isSome = true → hdO x = some h := fun e => by
    cases hx : hdO x with
    | none => rw [hx] at e; cases e
    | some k => rw [hh k hx]
  have hnone : (hdO x).isSome = false → hdO x = none := fun e => by
    cases hx : hdO x with
    | none => rfl
    | some k => rw [hx] at e; cases e
  have go : hdO x = some h → (rest = [] → ends t = true) → V T (PE (FinQ t)) [.code (.loop lp_rambleref25_Parse_0)] .normal (ecOf [(0, .str t), (2, .ptr 0 0), (5, .ptr 1 0), (6, p), (7, .int .i64 1)]) (st3 h) := fun hx he => by
    have := rp_loop htl hp hls hlen h rest [x] [] (st3 h) .nilSl rfl (Nat.le_refl 1) he (ps3 h) (Nat.zero_le _)
    refine V_monoP this ?_
    rintro y e st (⟨cs', n, v', h1, h2, h3, h4, h5⟩ | ⟨n, h1, h2, h3, h4⟩)
    · exact .inl ⟨h, cs', v', parR_1 hls hx h1, h2, h3, h4⟩
    · exact .inr ⟨n, parR_2 hls hx h1, h2, h3, h4⟩
  cases rest with
  | nil =>
    refine rp_one htl hp hlen (x := x) rfl rfl hd (ends t) hend (hdO x).isSome hcall ?_ ?_
    · intro hb
      rw [Bool.and_eq_true] at hb
      exact go (hsome hb.2) (fun _ => hb.1)
    · intro hb
      refine .inr ⟨1, ?_, rfl, rfl, rfl⟩
      cases hs : (hdO x).isSome with
      | false => exact parR_0 hls (hnone hs)
      | true =>
        rw [hs, Bool.and_true] at hb
        exact parR_2 hls (hsome hs) (by rw [parG, hb, if_neg (by decide)]; rfl)
  | cons y rest =>
    refine rp_first htl hp hlen (x := x) rfl (by simp) (hdO x).isSome hcall ?_ ?_
    · intro hb
      rw [Bool.true_and] at hb
      exact go (hsome hb) (fun e => by cases e)
    · intro hb
      rw [Bool.true_and] at hb
      exact .inr ⟨1, parR_0 hls (hnone hb), rfl, rfl, rfl⟩
theorem lines_cnt : ∀ (t : List UInt8), (linesB t).length ≤ t.length
  | [] => by simp [linesB]
  | c :: s => by
    have ih := lines_cnt s
    rw [linesB]
    split
    · simp; omega
    · cases hl : linesB s with
      | nil => simp
      | cons p ps => rw [hl] at ih; simp at ih ⊢; omega
set_option maxHeartbeats 4000000 in
theorem run_rParseS {t : List UInt8} (htl : t.length ≤ 1000000000) : ∃ r, T.R (.call n_rambleref25_Parse [.str t] r) ∧ RParQ t r := by
  obtain ⟨p, hL, hp⟩ := run_rLines htl
  have plp : Pl p := hp.pl fun a _ x hx => by
    have : x = .str a := by simpa [sc] using hx
    rw [this]
    exact .str _
  have hcnt := lines_cnt t
  refine call_VQ rfl rfl ?_
  cases hls : linesB t with
  | nil =>
    rw [hls] at hp
    have hpar : parR t = (none, 1) := by
      unfold parR
      rw [hls]
    repeat' first | ((with_reducible show V _ _ _ _ _ _); first | refine V_O rfl ?_ | refine V_cT rfl rfl ?_ | refine V_cF rfl rfl ?_ | refine V_cEq rfl rfl ?_ | refine V_cNe rfl rfl ?_ | refine V_cB rfl rfl (fun _ => ?_) (fun _ => ?_) | refine V_fA rfl rfl ?_ | refine V_fAN rfl rfl ?_ | refine V_D rfl ?_) | ((with_reducible show VO _ _ _ _ _ _ _); first | refine O_cA rfl rfl hL ?_ | refine O_lenL rfl hp ?_ | refine O_step rfl ?_ | refine O_stepL rfl ?_ | refine O_nil' ?_ | refine O_gT' rfl ?_ | refine O_gU' rfl ?_ | refine O_gF' rfl rfl ?_ | refine O_gEq rfl ?_ | refine O_gNe rfl ?_ | refine O_gS rfl (fun _ => ?_) (fun _ => ?_)) | ((with_reducible show VD _ _ _ _ _ _ _); first | refine D_step rfl ?_ | refine D_nil' ?_ | refine D_gT' rfl ?_ | refine D_gU' rfl ?_ | refine D_gF' rfl rfl ?_ | refine D_gS rfl (fun _ => ?_) (fun _ => ?_))
    exact .inl ⟨1, hpar, rfl⟩
  | cons x rest =>
    rw [hls] at hp hcnt
    have hlo := rp_all htl hls hp (by omega)
    have e0 : binInt .eql .i64 ((x :: rest).length : Int) 0 = some (.bool false) := congrArg some (dec_not (by simp; omega))
    generalize x :: rest = ls at *
    repeat' first | ((with_reducible show V _ _ _ _ _ _); first | refine V_cutTo rfl hlo ⟨rfl, rfl, rfl, rfl, rfl, trivial⟩ ?_ | refine V_O rfl ?_ | refine V_cT rfl rfl ?_ | refine V_cF rfl rfl ?_ | refine V_cEq rfl rfl ?_ | refine V_cNe rfl rfl ?_ | refine V_cB rfl rfl (fun _ => ?_) (fun _ => ?_) | refine V_fA rfl rfl ?_ | refine V_fAN rfl rfl ?_ | refine V_D rfl ?_) | ((with_reducible show VO _ _ _ _ _ _ _); first | refine O_cA rfl rfl hL ?_ | refine O_lenL rfl hp ?_ | refine O_bin e0 rfl rfl ?_ | refine O_step rfl ?_ | refine O_stepL rfl ?_ | refine O_nil' ?_ | refine O_gT' rfl ?_ | refine O_gU' rfl ?_ | refine O_gF' rfl rfl ?_ | refine O_gEq rfl ?_ | refine O_gNe rfl ?_ | refine O_gS rfl (fun _ => ?_) (fun _ => ?_)) | ((with_reducible show VD _ _ _ _ _ _ _); first | refine D_step rfl ?_ | refine D_nil' ?_ | refine D_gT' rfl ?_ | refine D_gU' rfl ?_ | refine D_gF' rfl rfl ?_ | refine D_gS rfl (fun _ => ?_) (fun _ => ?_))
    rintro y e st (⟨h, cs, v', h1, rfl, rfl, ps⟩ | ⟨n, h1, rfl, rfl, h4⟩)
    · have hone : [PV.int .i64 h.1, .int .i64 h.2.1, .int .i64 h.2.2, v'].all PV.one = true := by
        have := ps.one.1
        show (PV.one _ && (PV.one _ && (PV.one _ && (PV.one v' && true)))) = true
        rw [this]
        rfl
      have hview : ∃ q, View true (st.put 0 (.var [.int .i64 h.1, .int .i64 h.2.1, .int .i64 h.2.2, v'])).get v' q ∧ LV cells q cs := by
        rcases ps.acc with ⟨rfl, h0⟩ | ⟨t', g, rfl, hg, hlt⟩
        · have : cs = [] := by simpa using h0
          subst this
          exact ⟨_, .nilSl, .nil⟩
        · have h2 := ps.tok t' rfl
          exact ⟨_, view_osl0 (by rw [St.get_put_old (by omega)]; exact hg) (.inl rfl) rfl (pl_cm cs), .sl cs false⟩
      obtain ⟨q, hv, hq⟩ := hview
      repeat' first | ((with_reducible show V _ _ _ _ _ _); first | refine V_fin rfl (resG3 rfl St.get_put rfl rfl rfl) (view_sc hv 0 0) (.inr ⟨h, cs, q, h1, hq, rfl⟩) | refine V_O rfl ?_ | refine V_cT rfl rfl ?_ | refine V_cF rfl rfl ?_ | refine V_cEq rfl rfl ?_ | refine V_cNe rfl rfl ?_ | refine V_cB rfl rfl (fun _ => ?_) (fun _ => ?_) | refine V_fA rfl rfl ?_ | refine V_fAN rfl rfl ?_ | refine V_D rfl ?_) | ((with_reducible show VO _ _ _ _ _ _ _); first | refine O_loadA ps.scr rfl rfl ?_ | refine O_storeA ps.res rfl hone rfl rfl rfl rfl rfl ?_ | refine O_step rfl ?_ | refine O_stepL rfl ?_ | refine O_nil' ?_ | refine O_gT' rfl ?_ | refine O_gU' rfl ?_ | refine O_gF' rfl rfl ?_ | refine O_gEq rfl ?_ | refine O_gNe rfl ?_ | refine O_gS rfl (fun _ => ?_) (fun _ => ?_)) | ((with_reducible show VD _ _ _ _ _ _ _); first | refine D_step rfl ?_ | refine D_nil' ?_ | refine D_gT' rfl ?_ | refine D_gU' rfl ?_ | refine D_gF' rfl rfl ?_ | refine D_gS rfl (fun _ => ?_) (fun _ => ?_))
    · repeat' first | ((with_reducible show V _ _ _ _ _ _); first | refine V_fin rfl (resG3 rfl h4 rfl rfl rfl) (view_sc (h := (0, 0, 0)) .nilSl n 251) (.inl ⟨n, h1, rfl⟩) | refine V_O rfl ?_ | refine V_cT rfl rfl ?_ | refine V_cF rfl rfl ?_ | refine V_cEq rfl rfl ?_ | refine V_cNe rfl rfl ?_ | refine V_cB rfl rfl (fun _ => ?_) (fun _ => ?_) | refine V_fA rfl rfl ?_ | refine V_fAN rfl rfl ?_ | refine V_D rfl ?_) | ((with_reducible show VO _ _ _ _ _ _ _); first | refine O_step rfl ?_ | refine O_stepL rfl ?_ | refine O_nil' ?_ | refine O_gT' rfl ?_ | refine O_gU' rfl ?_ | refine O_gF' rfl rfl ?_ | refine O_gEq rfl ?_ | refine O_gNe rfl ?_ | refine O_gS rfl (fun _ => ?_) (fun _ => ?_)) | ((with_reducible show VD _ _ _ _ _ _ _); first | refine D_step rfl ?_ | refine D_nil' ?_ | refine D_gT' rfl ?_ | refine D_gU' rfl ?_ | refine D_gF' rfl rfl ?_ | refine D_gS rfl (fun _ => ?_) (fun _ => ?_))
end Go.Proofs.YtbeaalkfakjoiaaDoor
set_option linter.unusedVariables false
set_option linter.unusedSimpArgs false
namespace Go.Proofs.YtbeaalkfakjoiaaDoor
open Go Go.AM Go.RowKit
set_option maxHeartbeats 4000000 in
theorem run_Texts {h : Int × Int × Int} {cs : List Cm} {q : PV} {t : List UInt8} (hh : HR h) (hc : ∀ c ∈ cs, CR c ∧ c.t.length ≤ 140737488355328) (hq : LV cells q cs) (hll : cs.length ≤ 9223372036854775800) (ht : t.length ≤ 1000000000) :
    T2.R (.call n_ramblelaw25_ScriptTexts [scA h q, .str t] (.bool true)) := by
  have hbg := lift run_begun
  have hp1 := priT2 hh hc hq
  have hp1r := lift (run_rPrint hh hc hq hll)
  have plq := lv_pl hq
  have hp2 := parT2 ht
  obtain ⟨r, hr, hQ⟩ := run_rParseS ht
  have hp2r := lift hr
  generalize printR h cs = R at *
  have e1 : PV.bool (decide (R.1 = R.1)) = PV.bool true := dec_is rfl
  have e2 : PV.bool (decide (R.2 = R.2)) = PV.bool true := dec_is rfl
  unfold scA at *
  rcases hQ with ⟨n, hn, rfl⟩ | ⟨k, ds, q2, hn, hv, rfl⟩
  · rw [hn] at hp2
    simp only [parPV] at hp2
    have hs := lift (run_Same (h := (0, 0, 0)) (p := .nilSl) (q := .nilSl) (cs := []) .nil .nil (by simp))
    unfold scA at *
    have e3 : PV.bool (decide (n = n)) = PV.bool true := dec_is rfl
    refine call_V rfl rfl ?_
    repeat' first | ((with_reducible show V _ _ _ _ _ _); first | refine V_O rfl ?_ | refine V_cT rfl rfl ?_ | refine V_cF rfl rfl ?_ | refine V_cEq rfl rfl ?_ | refine V_cNe rfl rfl ?_ | refine V_cB rfl rfl (fun _ => ?_) (fun _ => ?_) | refine V_fA rfl rfl ?_ | refine V_fAN rfl rfl ?_ | refine V_D rfl ?_) | ((with_reducible show VO _ _ _ _ _ _ _); first | refine O_cA rfl rfl hbg ?_ | refine O_cA rfl rfl hp1 ?_ | refine O_cA rfl rfl hp1r ?_ | refine O_cA rfl rfl hp2 ?_ | refine O_cA rfl rfl hp2r ?_ | refine O_cA rfl rfl hs ?_ | refine O_is e1 rfl ?_ | refine O_is e2 rfl ?_ | refine O_is e3 rfl ?_ | refine O_step rfl ?_ | refine O_stepL rfl ?_ | refine O_nil' ?_ | refine O_gT' rfl ?_ | refine O_gU' rfl ?_ | refine O_gF' rfl rfl ?_ | refine O_gEq rfl ?_ | refine O_gNe rfl ?_ | refine O_gS rfl (fun _ => ?_) (fun _ => ?_)) | ((with_reducible show VD _ _ _ _ _ _ _); first | refine D_step rfl ?_ | refine D_nil' ?_ | refine D_gT' rfl ?_ | refine D_gU' rfl ?_ | refine D_gF' rfl rfl ?_ | refine D_gS rfl (fun _ => ?_) (fun _ => ?_))
    rfl
  · rw [hn] at hp2
    simp only [parPV] at hp2
    have hds : ds.length ≤ 1024 := (print_par hn).2.2.1
    have hs := lift (run_Same (h := k) (lv_slC ds) hv (by omega))
    have lv1 := lv_slC ds
    have pl1 := lv_pl lv1
    have pl2 := lv_pl hv
    unfold scA at *
    generalize slC ds = q1 at *
    refine call_V rfl rfl ?_
    repeat' first | ((with_reducible show V _ _ _ _ _ _); first | refine V_O rfl ?_ | refine V_cT rfl rfl ?_ | refine V_cF rfl rfl ?_ | refine V_cEq rfl rfl ?_ | refine V_cNe rfl rfl ?_ | refine V_cB rfl rfl (fun _ => ?_) (fun _ => ?_) | refine V_fA rfl rfl ?_ | refine V_fAN rfl rfl ?_ | refine V_D rfl ?_) | ((with_reducible show VO _ _ _ _ _ _ _); first | refine O_storeS lv1 rfl rfl rfl ?_ | refine O_storeS hv rfl rfl rfl ?_ | refine O_cA rfl rfl hbg ?_ | refine O_cA rfl rfl hp1 ?_ | refine O_cA rfl rfl hp1r ?_ | refine O_cA rfl rfl hp2 ?_ | refine O_cA rfl rfl hp2r ?_ | refine O_cA rfl rfl hs ?_ | refine O_is e1 rfl ?_ | refine O_is e2 rfl ?_ | refine O_step rfl ?_ | refine O_stepL rfl ?_ | refine O_nil' ?_ | refine O_gT' rfl ?_ | refine O_gU' rfl ?_ | refine O_gF' rfl rfl ?_ | refine O_gEq rfl ?_ | refine O_gNe rfl ?_ | refine O_gS rfl (fun _ => ?_) (fun _ => ?_)) | ((with_reducible show VD _ _ _ _ _ _ _); first | refine D_step rfl ?_ | refine D_nil' ?_ | refine D_gT' rfl ?_ | refine D_gU' rfl ?_ | refine D_gF' rfl rfl ?_ | refine D_gS rfl (fun _ => ?_) (fun _ => ?_))
    rfl
end Go.Proofs.YtbeaalkfakjoiaaDoor
set_option linter.unusedVariables false
set_option linter.unusedSimpArgs false
namespace Go.Proofs.YtbeaalkfakjoiaaDoor
open Go Go.AM Go.RowKit
theorem star0 : "*" ++ "errors.errorString" = "*errors.errorString" := by decide
theorem row77 (u : TypeId) (h : Tryd.prog.typeName? 3 u = some "*errors.errorString") : u = 125 :=
  typeName_ptr_named (nm := "errors.errorString") (by rw [star0]; kernel_rfl) (by kernel_rfl) (by decide) u (by rw [star0]; exact h)
theorem gl_of {W : World} (h : laidMet Tryd.prog [("math/bits.deBruijn32tab", Rows.laid_math_bits_deBruijn32tab), ("math/bits.deBruijn64tab", Rows.laid_math_bits_deBruijn64tab), ("internal/strconv.uint64pow10", Rows.laid_internal_strconv_uint64pow10), ("unicode/utf8.acceptRanges", Rows.laid_unicode_utf8_acceptRanges), ("strconv.ErrRange", Rows.laid_strconv_ErrRange), ("strconv.ErrSyntax", Rows.laid_strconv_ErrSyntax), ("unicode/utf8.first", Rows.laid_unicode_utf8_first)] W) : Gl.ok W := by
  have h1 : laidMet Tryd.prog (("internal/strconv.uint64pow10", Lib.tabData .u64 Lib.pow10Tab) :: [("unicode/utf8.acceptRanges", Rows.laid_unicode_utf8_acceptRanges), ("strconv.ErrRange", Rows.laid_strconv_ErrRange), ("strconv.ErrSyntax", Rows.laid_strconv_ErrSyntax), ("unicode/utf8.first", Rows.laid_unicode_utf8_first)]) W := h.tail.tail
  have h2 := h.tail.tail.tail.tail
  obtain ⟨a0, s0, hv0, -, -, -⟩ := laid_sentinel h2 (g := 2) (by kernel_rfl) (by kernel_rfl) Tryd.underlying63 row77 Tryd.underlying125 Tryd.underlying127 rfl rfl Tryd.underlying9 (by kernel_rfl) (by kernel_rfl)
  obtain ⟨a1, s1, hv1, -, -, -⟩ := laid_sentinel h2.tail (g := 1) (by kernel_rfl) (by kernel_rfl) Tryd.underlying63 row77 Tryd.underlying125 Tryd.underlying127 rfl rfl Tryd.underlying9 (by kernel_rfl) (by kernel_rfl)
  exact ⟨Lib.tabIs_of_head (g := 3) (by kernel_rfl) (by kernel_rfl) Tryd.underlying122 Tryd.underlying89 (by kernel_rfl) (by kernel_rfl) h1, ⟨_, _, hv1⟩, _, _, hv0⟩
theorem X_sem : ∀ f args r, X f args r → SemExt Tryd.prog f args r := by
  rintro f args r (h | h)
  · exact h.sem Tryd.func82 (by kernel_rfl) (by kernel_rfl) (by kernel_rfl) (by kernel_rfl)
  · exact h.sem Tryd.func81 (by kernel_rfl) (by kernel_rfl) (by kernel_rfl) (by kernel_rfl)
end Go.Proofs.YtbeaalkfakjoiaaDoor
set_option linter.unusedVariables false
set_option linter.unusedSimpArgs false
namespace Go.Proofs.YtbeaalkfakjoiaaDoor
open Go Go.AM Go.RowKit
theorem r64_of {n : Int} (h : IntKind.i64.min ≤ n ∧ n ≤ IntKind.i64.max) : R64 n := by
  unfold R64
  have h1 : IntKind.i64.min = -9223372036854775808 := rfl
  have h2 : IntKind.i64.max = 9223372036854775807 := rfl
  rw [h1, h2] at h
  exact h
theorem five {α : Type} {l : List α} (h : l.length = 5) : ∃ a b c d e, l = [a, b, c, d, e] := by
  match l, h with
  | [a, b, c, d, e], _ => exact ⟨a, b, c, d, e, rfl⟩
end Go.Proofs.YtbeaalkfakjoiaaDoor
set_option linter.unusedVariables false
set_option linter.unusedSimpArgs false
namespace Go.Proofs.YtbeaalkfakjoiaaDoor
open Go Go.AM Go.RowKit
instance : Inhabited Cm := ⟨⟨0, 0, [], 0, 0⟩⟩
def CmR (c : Cm) (xs : List PV) : Prop := xs = cells c ∧ CR c ∧ c.t.length ≤ 140737488355328
theorem four {α : Type} {l : List α} (h : l.length = 4) : ∃ a b c d, l = [a, b, c, d] := by
  match l, h with
  | [a, b, c, d], _ => exact ⟨a, b, c, d, rfl⟩
theorem lr_lv {q : PV} {cs : List Cm} (h : LR CmR q cs) : LV cells q cs ∧ (∀ c ∈ cs, CR c ∧ c.t.length ≤ 140737488355328) ∧ cs.length ≤ 140737488355328 := by
  rcases h with ⟨rfl, rfl⟩ | ⟨xs, full, rfl, hb, hl, hf⟩
  · exact ⟨.nil, (fun c m => nomatch m), Nat.zero_le _⟩
  · have hx : xs = cs.map cells := by
      apply List.ext_getElem?
      intro j
      rw [List.getElem?_map]
      cases hj : cs[j]? with
      | none =>
        have := List.getElem?_eq_none_iff.1 hj
        rw [List.getElem?_eq_none (by omega)]
        rfl
      | some c =>
        have hlt := (List.getElem?_eq_some_iff.1 hj).1
        have hk : xs[j]? = some xs[j] := List.getElem?_eq_getElem (by omega)
        rw [hk, (hf j c _ hj hk).1]
        rfl
    subst hx
    refine ⟨.sl cs full, fun c m => ?_, by simpa using hb⟩
    obtain ⟨j, hj⟩ := List.getElem?_of_mem m
    exact (hf j c _ hj (by rw [List.getElem?_map, hj]; rfl)).2
set_option maxRecDepth 100000 in
theorem scr_arg {H : Type} {d : DataW H} {q : PV} (h : AV Tryd.prog 37 d q) (hw : Wgt Tryd.prog 37 d) : ∃ (k : Int × Int × Int) (p : PV) (cs : List Cm), cs.length ≤ 140737488355328 ∧ q = .agg [.int .i64 k.1, .int .i64 k.2.1, .int .i64 k.2.2, p] ∧ HR k ∧ LV cells p cs ∧ ∀ c ∈ cs, CR c ∧ c.t.length ≤ 140737488355328 := by
  have hagg : isAggT Tryd.prog 37 = true := by kernel_rfl
  obtain ⟨qs, rfl, hv⟩ := av_agg hagg h
  obtain ⟨ds, qss, rfl, rfl, hd, hq, hf⟩ := tv_struct Tryd.underlying37 hv
  have hbf := wgt_ok.st Tryd.underlying37 hw
  obtain ⟨d0, d1, d2, d3, rfl⟩ := four hd
  obtain ⟨q0, q1, q2, q3, rfl⟩ := four hq
  obtain ⟨a, rfl, rfl, h0⟩ := tv_int Tryd.underlying3 (hf 0 _ d0 q0 rfl rfl rfl)
  obtain ⟨b, rfl, rfl, h1⟩ := tv_int Tryd.underlying3 (hf 1 _ d1 q1 rfl rfl rfl)
  obtain ⟨c, rfl, rfl, h2⟩ := tv_int Tryd.underlying3 (hf 2 _ d2 q2 rfl rfl rfl)
  obtain ⟨p, cs, rfl, hl⟩ := lr_of (R := CmR) wgt_ok Tryd.underlying35 (of_decide_eq_true (by kernel_rfl)) (of_decide_eq_true (by kernel_rfl)) (hf 3 _ d3 q3 rfl rfl rfl) (hbf 3 _ _ rfl rfl) (fun x xs _ hx hbx => by
    obtain ⟨es, ess, rfl, rfl, hd, hq, hg⟩ := tv_struct Tryd.underlying23 hx
    have hbg := wgt_ok.st Tryd.underlying23 hbx
    obtain ⟨e0, e1, e2, e3, e4, rfl⟩ := five hd
    obtain ⟨x0, x1, x2, x3, x4, rfl⟩ := five hq
    obtain ⟨k, rfl, rfl, _⟩ := tv_int Tryd.underlying3 (hg 0 _ e0 x0 rfl rfl rfl)
    obtain ⟨se, rfl, rfl, g1⟩ := tv_int Tryd.underlying3 (hg 1 _ e1 x1 rfl rfl rfl)
    obtain ⟨t, rfl, rfl, _⟩ := tv_str Tryd.underlying9 (hg 2 _ e2 x2 rfl rfl rfl)
    obtain ⟨to, rfl, rfl, g2⟩ := tv_int Tryd.underlying3 (hg 3 _ e3 x3 rfl rfl rfl)
    obtain ⟨ke, rfl, rfl, g3⟩ := tv_int Tryd.underlying2 (hg 4 _ e4 x4 rfl rfl rfl)
    exact ⟨⟨k, se, t, to, ke⟩, rfl, ⟨r64_of g1, r64_of g2, r64_of g3⟩, wgt_ok.str (hbg 2 _ _ rfl rfl)⟩)
  obtain ⟨e1, e2, e3⟩ := lr_lv hl
  exact ⟨(a, b, c), p, cs, e3, rfl, ⟨r64_of h0, r64_of h1, r64_of h2⟩, e1, e2⟩
end Go.Proofs.YtbeaalkfakjoiaaDoor
