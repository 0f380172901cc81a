/- begun; the law ScriptApart over plain values. · The table with script.Parse and script.Print; rambleref25.Same. · The law ScriptBack over plain values. · What the row's listed variables give: what is known of the world. · A command that is handed to a row. · A script that is handed to a row. -/
import Derived.Test.YtbeaalkfakjoiaaDoorScrEToScrJ
import Derived.Test.YtbeaalkfakjoiaaDoorScrM
import Derived.Test.YtbeaalkfakjoiaaDoorScrNb
import Derived.Test.YtbeaalkfakjoiaaDoorRows
import Derived.Test.YtbeaalkfakjoiaaDoorPrimNToScrX
import Derived.Stop.LaidErr
import Derived.LaidMore
import Derived.Test.YtbeaalkfakjoiaaDoorScrAToScrC
import Derived.Test.YtbeaalkfakjoiaaDoorAmZ
set_option linter.unusedVariables false
set_option linter.unusedSimpArgs false
namespace Go.Proofs.YtbeaalkfakjoiaaDoor
open Go Go.AM Go.RowKit
def gV : List UInt8 := [103, 46, 86, 40, 41]
def qLine : List UInt8 := [113, 117, 101, 114, 121, 32, 48, 32, 103, 46, 86, 40, 41]
open Go.Lib in
theorem itoa0 : Lib.itoa 0 = [48] := by
  unfold Lib.itoa
  rw [if_neg (by decide)]
  exact dec_small (by decide)
theorem acc_begun : acc ⟨4, 0, gV, 0, 0⟩ qLine := by
  have h : lineR ⟨4, 0, gV, 0, 0⟩ = (qLine, 0) := by
    have hl : lineC ⟨4, 0, gV, 0, 0⟩ = qLine := by
      unfold lineC
      rw [if_neg (by decide), if_pos (by decide)]
      simp only [itoa0]
      rfl
    unfold lineR
    rw [if_neg (by decide), if_neg (by decide), if_neg (by decide), if_neg (by decide), if_neg (by decide), hl]
  unfold acc
  rw [h]
  exact ⟨rfl, rfl⟩
theorem run_begun : T.R (.call n_ramblelaw25_begun [] (.bool true)) := by
  obtain ⟨o, h1, h2⟩ := run_ParseLine (s := qLine) (by decide)
  have ho := h2.inj (says_of acc_begun (by decide) (by decide) (by decide))
  subst ho
  obtain ⟨p, k1, k2⟩ := run_Keep (n := 5) (by decide)
  have hb : bitsI 5 = [true, false, true] := by decide
  rw [hb] at k2
  have he := run_EqualB k2 (.sl [true, false, true] true) (by decide)
  have plk := pl_k5 4 0 gV 0 0
  have plp : Pl p := k2.pl (fun a _ x hx => by
    have : x = .bool a := by simpa [bc] using hx
    rw [this]; exact .bool _)
  have plb : Pl (.sl ([true, false, true].map bc) true) := .sl _ _ (pl_bc _)
  have e1 : PV.bool (eqC ⟨4, 0, gV, 0, 0⟩ ⟨4, 0, gV, 0, 0⟩) = PV.bool true := by rw [eqC_iff.2 rfl]
  unfold twoC at h1
  refine call_V rfl rfl ?_
  repeat' first | ((with_reducible show V _ _ _ _ _ _); first | refine V_O rfl ?_ | refine V_cT rfl rfl ?_ | refine V_cF rfl rfl ?_ | refine V_cEq rfl rfl ?_ | refine V_cNe rfl rfl ?_ | refine V_cB rfl rfl (fun _ => ?_) (fun _ => ?_) | refine V_fA rfl rfl ?_ | refine V_fAN rfl rfl ?_ | refine V_D rfl ?_) | ((with_reducible show VO _ _ _ _ _ _ _); first | refine O_cA rfl rfl h1 ?_ | refine O_cA rfl rfl k1 ?_ | refine O_cA rfl rfl he ?_ | refine O_is e1 rfl ?_ | refine O_step rfl ?_ | refine O_stepL rfl ?_ | refine O_nil' ?_ | refine O_gT' rfl ?_ | refine O_gU' rfl ?_ | refine O_gF' rfl rfl ?_ | refine O_gEq rfl ?_ | refine O_gNe rfl ?_ | refine O_gS rfl (fun _ => ?_) (fun _ => ?_)) | ((with_reducible show VD _ _ _ _ _ _ _); first | refine D_step rfl ?_ | refine D_nil' ?_ | refine D_gT' rfl ?_ | refine D_gU' rfl ?_ | refine D_gF' rfl rfl ?_ | refine D_gS rfl (fun _ => ?_) (fun _ => ?_))
  rfl
end Go.Proofs.YtbeaalkfakjoiaaDoor
set_option linter.unusedVariables false
set_option linter.unusedSimpArgs false
namespace Go.Proofs.YtbeaalkfakjoiaaDoor
open Go Go.AM Go.RowKit
def scA (h : Int × Int × Int) (q : PV) : PV := .agg [.int .i64 h.1, .int .i64 h.2.1, .int .i64 h.2.2, q]
def ParP (f : Nat) (args : List PV) (r : PV) : Prop := f = n_script_Parse ∧ ∃ t : List UInt8, t.length ≤ 1000000000 ∧ args = [.str t] ∧ r = parPV (parR t)
def PriP (f : Nat) (args : List PV) (r : PV) : Prop := f = n_script_Print ∧ ∃ (h : Int × Int × Int) (cs : List Cm) (q : PV), HR h ∧ (∀ c ∈ cs, CR c ∧ c.t.length ≤ 140737488355328) ∧ LV cells q cs ∧ args = [scA h q] ∧ r = .tuple [.str (printR h cs).1, .int .i64 (printR h cs).2]
def T2 : Tb := ⟨tbl, fun f a r => T.R (.call f a r) ∨ ParP f a r ∨ PriP f a r, X⟩
theorem lift {f : Nat} {a : List PV} {r : PV} (h : T.R (.call f a r)) : T2.R (.call f a r) := .prim f a r (.inl h)
theorem parT2 {t : List UInt8} (ht : t.length ≤ 1000000000) : T2.R (.call n_script_Parse [.str t] (parPV (parR t))) := .prim _ _ _ (.inr (.inl ⟨rfl, t, ht, rfl, rfl⟩))
theorem priT2 {h : Int × Int × Int} {cs : List Cm} {q : PV} (hh : HR h) (hc : ∀ c ∈ cs, CR c ∧ c.t.length ≤ 140737488355328) (hq : LV cells q cs) : T2.R (.call n_script_Print [scA h q] (.tuple [.str (printR h cs).1, .int .i64 (printR h cs).2])) := .prim _ _ _ (.inr (.inr ⟨rfl, h, cs, q, hh, hc, hq, rfl, rfl⟩))
theorem pl_cm (cs : List Cm) : ∀ xs ∈ cs.map cells, ∀ x ∈ xs, Pl x := by
  intro xs h x hx
  obtain ⟨c, _, rfl⟩ := List.mem_map.1 h
  unfold cells at hx
  simp only [List.mem_cons, List.not_mem_nil, or_false] at hx
  rcases hx with rfl | rfl | rfl | rfl | rfl
  · exact .int _ _
  · exact .int _ _
  · exact .str _
  · exact .int _ _
  · exact .int _ _
theorem lv_pl {q : PV} {cs : List Cm} (h : LV cells q cs) : Pl q := h.pl fun c _ x hx => pl_cm [c] (cells c) (by simp) x hx
theorem P2_sem : ∀ f args r, T2.prim f args r → SemCall Tryd.prog f args r := by
  rintro f args r (h | ⟨rfl, t, ht, rfl, rfl⟩ | ⟨rfl, h, cs, q, hh, hc, hq, rfl, rfl⟩)
  · exact sem_of h
  · refine ⟨⟨_, _, Tryd.func17, rfl, by kernel_rfl⟩, fun F w vals hF hg hs hr => ?_⟩
    have h0 := rep_str (hr 0 _ rfl)
    obtain rfl : vals = #[.string ⟨t.toArray⟩] := by
      obtain ⟨l⟩ := vals
      match l, hs with
      | [a], _ => rw [← h0]; rfl
    exact callsIn_wide.1 (parse_in t ht w hg hF)
  · refine ⟨⟨_, _, Tryd.func15, rfl, by kernel_rfl⟩, fun F w vals hF hg hs hr => ?_⟩
    obtain ⟨vs, h0, hz, hv⟩ := rep_agg (hr 0 _ rfl)
    have e0 := rep_int (hv 0 _ rfl)
    have e1 := rep_int (hv 1 _ rfl)
    have e2 := rep_int (hv 2 _ rfl)
    have e3 := hv 3 _ rfl
    obtain rfl : vals = #[.agg #[.int .i64 h.1, .int .i64 h.2.1, .int .i64 h.2.2, vs.getD 3 undef]] := by
      obtain ⟨l⟩ := vals
      match l, hs with
      | [a], _ => rw [← e0, ← e1, ← e2, ← arr4 hz, ← h0]; rfl
    have hq' : (q = .nilSl ∧ cs = []) ∨ ∃ full, q = .sl (cs.map cells) full := by
      cases hq with
      | nil => exact .inl ⟨rfl, rfl⟩
      | sl l full => exact .inr ⟨full, rfl⟩
    refine (print_in hh hc (lv_pl hq) hq' e3 hg).mono ?_
    rintro e w' ⟨rfl, hb⟩
    refine ⟨_, rfl, hb, .tuple _ _ rfl fun i c hi => ?_⟩
    match i, hi with
    | 0, hi => injection hi with hi; subst hi; exact .str _
    | 1, hi => injection hi with hi; subst hi; exact .int _ _
    | i + 2, hi => cases hi
theorem one_lv {q : PV} {cs : List Cm} (h : LV cells q cs) : PV.one q = true := by cases h <;> rfl
section
variable {T : Tb} {Q : Post} {k : List Fr} {ρ : EC} {st : St} {l : List POp} {kill : List Nat}
theorem O_storeS {a x : Opd} {t : Nat} {a1 a2 a3 : Int} {q c0 c1 c2 c3 : PV} {cs : List Cm} (hv : LV cells q cs) (ha : a.get ρ = some (.ptr t 0)) (hx : x.get ρ = some (.agg [.int .i64 a1, .int .i64 a2, .int .i64 a3, q])) (hg : st.get t = some (.var [c0, c1, c2, c3]))
    (h : VO T Q l kill k (ρ.sets none (.tuple [])) (st.put t (.var [.int .i64 a1, .int .i64 a2, .int .i64 a3, q]))) : VO T Q (⟨none, none, .store 4 a x⟩ :: l) kill k ρ st :=
  O_storeV ha hx (by have h1 := one_lv hv; show (PV.one _ && (PV.one _ && (PV.one _ && (PV.one q && true)))) = true; rw [h1]; rfl) rfl rfl (storeAt_whole hg rfl) h
end
def S2 (h : Int × Int × Int) (p q : PV) : St := A1 [.int .i64 h.1, .int .i64 h.2.1, .int .i64 h.2.2, p] [.int .i64 h.1, .int .i64 h.2.1, .int .i64 h.2.2, q]
set_option maxHeartbeats 2000000 in
theorem sm_loop {h : Int × Int × Int} {p q : PV} {cs : List Cm} (hp : LV cells p cs) (hq : LV cells q cs) (hl : cs.length ≤ 9223372036854775800) : ∀ (rest pre : List Cm), cs = pre ++ rest →
    V T (PE fun x e st' => x = .exit 0 ∧ st' = S2 h p q ∧ e = .nil) [.code (.loop lp_rambleref25_Same_0)] .normal (ecOf [(2, .ptr 0 0), (3, .ptr 1 0), (5, .int .i64 pre.length)]) (S2 h p q) := by
  intro rest
  induction rest with
  | nil =>
    intro pre hc
    have hlt : PV.bool (decide ((pre.length : Int) < cs.length)) = PV.bool false := dec_not (by subst hc; simp)
    refine V_unroll ?_
    repeat' first | ((with_reducible show V _ _ _ _ _ _); first | refine V_out [] rfl trivial ⟨rfl, rfl, rfl⟩ | refine V_O rfl ?_ | refine V_cT rfl rfl ?_ | refine V_cF rfl rfl ?_ | refine V_cEq rfl rfl ?_ | refine V_cNe rfl rfl ?_ | refine V_cB rfl rfl (fun _ => ?_) (fun _ => ?_) | refine V_fA rfl rfl ?_ | refine V_fAN rfl rfl ?_ | refine V_D rfl ?_) | ((with_reducible show VO _ _ _ _ _ _ _); first | refine O_lenL rfl hp ?_ | refine O_is hlt rfl ?_ | refine O_step rfl ?_ | refine O_stepL rfl ?_ | refine O_nil' ?_ | refine O_gT' rfl ?_ | refine O_gU' rfl ?_ | refine O_gF' rfl rfl ?_ | refine O_gEq rfl ?_ | refine O_gNe rfl ?_ | refine O_gS rfl (fun _ => ?_) (fun _ => ?_)) | ((with_reducible show VD _ _ _ _ _ _ _); first | refine D_step rfl ?_ | refine D_nil' ?_ | refine D_gT' rfl ?_ | refine D_gU' rfl ?_ | refine D_gF' rfl rfl ?_ | refine D_gS rfl (fun _ => ?_) (fun _ => ?_))
  | cons c rest ih =>
    intro pre hc
    have hlt : PV.bool (decide ((pre.length : Int) < cs.length)) = PV.bool true := dec_is (by subst hc; simp; omega)
    have hat : cs[(pre.length : Int).toNat]? = some c := by subst hc; simp
    have hw : IntKind.i64.wrap ((pre.length : Int) + 1) = ((pre ++ [c]).length : Int) := by rw [wrap_i64]; subst hc; simp at *; omega
    have hi := ih (pre ++ [c]) (by rw [hc]; simp)
    have hne : PV.bool (!eqC c c) = PV.bool false := by rw [eqC_iff.2 rfl]; rfl
    refine V_unroll ?_
    repeat' first | ((with_reducible show V _ _ _ _ _ _); first | refine V_re rfl hi ⟨rfl, rfl, some_int hw, trivial⟩ | refine V_O rfl ?_ | refine V_cT rfl rfl ?_ | refine V_cF rfl rfl ?_ | refine V_cEq rfl rfl ?_ | refine V_cNe rfl rfl ?_ | refine V_cB rfl rfl (fun _ => ?_) (fun _ => ?_) | refine V_fA rfl rfl ?_ | refine V_fAN rfl rfl ?_ | refine V_D rfl ?_) | ((with_reducible show VO _ _ _ _ _ _ _); first | refine O_lenL rfl hp ?_ | refine O_is hlt rfl ?_ | refine O_step rfl ?_ | refine O_stepL rfl ?_ | refine O_nil' ?_ | refine O_gT' rfl ?_ | refine O_gU' rfl ?_ | refine O_gF' rfl rfl ?_ | refine O_gEq rfl ?_ | refine O_gNe rfl ?_ | refine O_gS rfl (fun _ => ?_) (fun _ => ?_)) | ((with_reducible show VD _ _ _ _ _ _ _); first | refine D_idxL c rfl hp rfl (by omega) hat rfl ?_ | refine D_idxL c rfl hq rfl (by omega) hat rfl ?_ | refine D_is hne rfl ?_ | refine D_step rfl ?_ | refine D_nil' ?_ | refine D_gT' rfl ?_ | refine D_gU' rfl ?_ | refine D_gF' rfl rfl ?_ | refine D_gS rfl (fun _ => ?_) (fun _ => ?_))
set_option maxHeartbeats 2000000 in
theorem run_Same {h : Int × Int × Int} {p q : PV} {cs : List Cm} (hp : LV cells p cs) (hq : LV cells q cs) (hl : cs.length ≤ 9223372036854775800) : T.R (.call n_rambleref25_Same [scA h p, scA h q] (.bool true)) := by
  have hlo := sm_loop (h := h) hp hq hl cs [] rfl
  have h1 : PV.bool (!decide (h.1 = h.1)) = PV.bool false := ndec_is rfl
  have h2 : PV.bool (!decide (h.2.1 = h.2.1)) = PV.bool false := ndec_is rfl
  have h3 : PV.bool (!decide (h.2.2 = h.2.2)) = PV.bool false := ndec_is rfl
  have h4 : PV.bool (!decide ((cs.length : Int) = cs.length)) = PV.bool false := ndec_is rfl
  have plp := lv_pl hp
  have plq := lv_pl hq
  refine call_V rfl rfl ?_
  repeat' first | ((with_reducible show V _ _ _ _ _ _); first | refine V_cutTo rfl hlo ⟨rfl, rfl, rfl, trivial⟩ ?_ | refine V_O rfl ?_ | refine V_cT rfl rfl ?_ | refine V_cF rfl rfl ?_ | refine V_cEq rfl rfl ?_ | refine V_cNe rfl rfl ?_ | refine V_cB rfl rfl (fun _ => ?_) (fun _ => ?_) | refine V_fA rfl rfl ?_ | refine V_fAN rfl rfl ?_ | refine V_D rfl ?_) | ((with_reducible show VO _ _ _ _ _ _ _); first | refine O_is h1 rfl ?_ | refine O_is h2 rfl ?_ | refine O_is h3 rfl ?_ | refine O_lenL rfl hp ?_ | refine O_lenL rfl hq ?_ | refine O_is h4 rfl ?_ | refine O_step rfl ?_ | refine O_stepL rfl ?_ | refine O_nil' ?_ | refine O_gT' rfl ?_ | refine O_gU' rfl ?_ | refine O_gF' rfl rfl ?_ | refine O_gEq rfl ?_ | refine O_gNe rfl ?_ | refine O_gS rfl (fun _ => ?_) (fun _ => ?_)) | ((with_reducible show VD _ _ _ _ _ _ _); first | refine D_step rfl ?_ | refine D_nil' ?_ | refine D_gT' rfl ?_ | refine D_gU' rfl ?_ | refine D_gF' rfl rfl ?_ | refine D_gS rfl (fun _ => ?_) (fun _ => ?_))
  rintro x e' st' ⟨rfl, rfl, rfl⟩
  repeat' first | ((with_reducible show V _ _ _ _ _ _); first | refine V_O rfl ?_ | refine V_cT rfl rfl ?_ | refine V_cF rfl rfl ?_ | refine V_cEq rfl rfl ?_ | refine V_cNe rfl rfl ?_ | refine V_cB rfl rfl (fun _ => ?_) (fun _ => ?_) | refine V_fA rfl rfl ?_ | refine V_fAN rfl rfl ?_ | refine V_D rfl ?_) | ((with_reducible show VO _ _ _ _ _ _ _); first | refine O_step rfl ?_ | refine O_stepL rfl ?_ | refine O_nil' ?_ | refine O_gT' rfl ?_ | refine O_gU' rfl ?_ | refine O_gF' rfl rfl ?_ | refine O_gEq rfl ?_ | refine O_gNe rfl ?_ | refine O_gS rfl (fun _ => ?_) (fun _ => ?_)) | ((with_reducible show VD _ _ _ _ _ _ _); first | refine D_step rfl ?_ | refine D_nil' ?_ | refine D_gT' rfl ?_ | refine D_gU' rfl ?_ | refine D_gF' rfl rfl ?_ | refine D_gS rfl (fun _ => ?_) (fun _ => ?_))
  rfl
end Go.Proofs.YtbeaalkfakjoiaaDoor
set_option linter.unusedVariables false
set_option linter.unusedSimpArgs false
namespace Go.Proofs.YtbeaalkfakjoiaaDoor
open Go Go.AM Go.RowKit
theorem printG_len : ∀ (cs : List Cm) (a : List UInt8), (∀ c ∈ cs, CR c) → (printG cs a).1.length ≤ a.length + cs.length * 5001
  | [], a, _ => by simp [printG]
  | c :: r, a, h => by
    rw [printG]
    split
    · have h1 := printG_len r (a ++ ((lineR c).1 ++ [10])) fun d hd => h d (List.mem_cons_of_mem _ hd)
      have h2 := lineR_len (h c (List.mem_cons_self ..))
      simp only [List.length_append, List.length_cons, List.length_nil] at h1 ⊢
      omega
    · simp
theorem printR_len {h : Int × Int × Int} {cs : List Cm} (hh : HR h) (hc : ∀ c ∈ cs, CR c) : (printR h cs).1.length ≤ 1000000000 := by
  unfold printR
  split
  · simp
  · have h1 := printG_len cs (headL h ++ [10]) hc
    have h2 := headL_len hh
    simp only [List.length_append, List.length_cons, List.length_nil] at h1
    omega
theorem lv_slC (cs : List Cm) : LV cells (slC cs) cs := by
  unfold slC
  split
  · rename_i h
    rw [h]
    exact .nil
  · exact .sl cs false
theorem pl_slC (cs : List Cm) : Pl (slC cs) := lv_pl (lv_slC cs)
set_option maxHeartbeats 4000000 in
theorem run_Back {h : Int × Int × Int} {cs : List Cm} {q : PV} {t : List UInt8} (hh : HR h) (hc : ∀ c ∈ cs, CR c ∧ c.t.length ≤ 140737488355328) (hq : LV cells q cs) (ht : t.length ≤ 1000000000) :
    T2.R (.call n_ramblelaw25_ScriptBack [scA h q, .str t] (.bool true)) := by
  have hbg := lift run_begun
  have hp1 := priT2 hh hc hq
  have plq := lv_pl hq
  have hp2 := parT2 ht
  have second : (∃ n : Int, parR t = (none, n)) ∨ ∃ (k : Int × Int × Int) (ds : List Cm), parR t = (some (k, ds), 0) ∧ T2.R (.call n_script_Print [scA k (slC ds)] (.tuple [.str t, .int .i64 0])) := by
    rcases he : parR t with ⟨o, n⟩
    cases o with
    | none => exact .inl ⟨n, rfl⟩
    | some kd =>
      obtain ⟨k, ds⟩ := kd
      obtain ⟨e1, e2, e3, e4⟩ := print_par he
      refine .inr ⟨k, ds, ?_, ?_⟩
      · rw [← he]
        exact par_print e2 (fun c m => (e4 c m).2) e1
      · have := priT2 (h := k) (cs := ds) (q := slC ds) e2 (fun c m => ⟨(e4 c m).2, by have := (acc_short (s := (lineR c).1) ⟨(e4 c m).1, rfl⟩).1; omega⟩) (lv_slC ds)
        rw [e1] at this
        exact this
  have et : PV.bool (decide (t = t)) = PV.bool true := dec_is rfl
  rcases hpe : printR h cs with ⟨pt, pe⟩
  rw [hpe] at hp1
  simp only at hp1
  have hlen := printR_len hh (fun c m => (hc c m).1)
  rw [hpe] at hlen
  simp only at hlen
  by_cases h0 : pe = 0
  · subst h0
    have hpar := par_print hh (fun c m => (hc c m).1) hpe
    have hp3 := parT2 hlen
    rw [hpar] at hp3
    have hs := lift (run_Same (h := h) (lv_slC cs) hq (by
      have : cs.length ≤ 1024 := by
        unfold printR at hpe
        split at hpe
        · exact absurd (Prod.mk.inj hpe).2 (by decide)
        · omega
      omega))
    have plc := pl_slC cs
    have q0 : PV.bool (decide ((0 : Int) = 0)) = PV.bool true := dec_is rfl
    have q1 : PV.bool (!decide ((0 : Int) = 0)) = PV.bool false := ndec_is rfl
    simp only [parPV] at hp3
    unfold scA at *
    have lv1 := lv_slC cs
    generalize slC cs = q1 at *
    rcases second with ⟨n, hn⟩ | ⟨k, ds, hn, hp4⟩
    · rw [hn] at hp2
      simp only [parPV] at hp2
      refine call_V rfl rfl ?_
      repeat' first | ((with_reducible show V _ _ _ _ _ _); first | refine V_O rfl ?_ | refine V_cT rfl rfl ?_ | refine V_cF rfl rfl ?_ | refine V_cEq rfl rfl ?_ | refine V_cNe rfl rfl ?_ | refine V_cB rfl rfl (fun _ => ?_) (fun _ => ?_) | refine V_fA rfl rfl ?_ | refine V_fAN rfl rfl ?_ | refine V_D rfl ?_) | ((with_reducible show VO _ _ _ _ _ _ _); first | refine O_storeS lv1 rfl rfl rfl ?_ | refine O_cA rfl rfl hbg ?_ | refine O_cA rfl rfl hp1 ?_ | refine O_cA rfl rfl hp3 ?_ | refine O_cA rfl rfl hs ?_ | refine O_cA rfl rfl hp2 ?_ | refine O_step rfl ?_ | refine O_stepL rfl ?_ | refine O_nil' ?_ | refine O_gT' rfl ?_ | refine O_gU' rfl ?_ | refine O_gF' rfl rfl ?_ | refine O_gEq rfl ?_ | refine O_gNe rfl ?_ | refine O_gS rfl (fun _ => ?_) (fun _ => ?_)) | ((with_reducible show VD _ _ _ _ _ _ _); first | refine D_step rfl ?_ | refine D_nil' ?_ | refine D_gT' rfl ?_ | refine D_gU' rfl ?_ | refine D_gF' rfl rfl ?_ | refine D_gS rfl (fun _ => ?_) (fun _ => ?_))
      rfl
    · rw [hn] at hp2
      simp only [parPV] at hp2
      have pld := pl_slC ds
      have lv2 := lv_slC ds
      generalize slC ds = q2 at *
      refine call_V rfl rfl ?_
      repeat' first | ((with_reducible show V _ _ _ _ _ _); first | refine V_O rfl ?_ | refine V_cT rfl rfl ?_ | refine V_cF rfl rfl ?_ | refine V_cEq rfl rfl ?_ | refine V_cNe rfl rfl ?_ | refine V_cB rfl rfl (fun _ => ?_) (fun _ => ?_) | refine V_fA rfl rfl ?_ | refine V_fAN rfl rfl ?_ | refine V_D rfl ?_) | ((with_reducible show VO _ _ _ _ _ _ _); first | refine O_storeS lv1 rfl rfl rfl ?_ | refine O_storeS lv2 rfl rfl rfl ?_ | refine O_cA rfl rfl hbg ?_ | refine O_cA rfl rfl hp1 ?_ | refine O_cA rfl rfl hp3 ?_ | refine O_cA rfl rfl hs ?_ | refine O_cA rfl rfl hp2 ?_ | refine O_cA rfl rfl hp4 ?_ | refine O_is et rfl ?_ | refine O_step rfl ?_ | refine O_stepL rfl ?_ | refine O_nil' ?_ | refine O_gT' rfl ?_ | refine O_gU' rfl ?_ | refine O_gF' rfl rfl ?_ | refine O_gEq rfl ?_ | refine O_gNe rfl ?_ | refine O_gS rfl (fun _ => ?_) (fun _ => ?_)) | ((with_reducible show VD _ _ _ _ _ _ _); first | refine D_step rfl ?_ | refine D_nil' ?_ | refine D_gT' rfl ?_ | refine D_gU' rfl ?_ | refine D_gF' rfl rfl ?_ | refine D_gS rfl (fun _ => ?_) (fun _ => ?_))
      rfl
  · have q0 : PV.bool (decide (pe = 0)) = PV.bool false := dec_not h0
    unfold scA at *
    rcases second with ⟨n, hn⟩ | ⟨k, ds, hn, hp4⟩
    · rw [hn] at hp2
      simp only [parPV] at hp2
      refine call_V rfl rfl ?_
      repeat' first | ((with_reducible show V _ _ _ _ _ _); first | refine V_O rfl ?_ | refine V_cT rfl rfl ?_ | refine V_cF rfl rfl ?_ | refine V_cEq rfl rfl ?_ | refine V_cNe rfl rfl ?_ | refine V_cB rfl rfl (fun _ => ?_) (fun _ => ?_) | refine V_fA rfl rfl ?_ | refine V_fAN rfl rfl ?_ | refine V_D rfl ?_) | ((with_reducible show VO _ _ _ _ _ _ _); first | refine O_cA rfl rfl hbg ?_ | refine O_cA rfl rfl hp1 ?_ | refine O_is q0 rfl ?_ | refine O_cA rfl rfl hp2 ?_ | refine O_step rfl ?_ | refine O_stepL rfl ?_ | refine O_nil' ?_ | refine O_gT' rfl ?_ | refine O_gU' rfl ?_ | refine O_gF' rfl rfl ?_ | refine O_gEq rfl ?_ | refine O_gNe rfl ?_ | refine O_gS rfl (fun _ => ?_) (fun _ => ?_)) | ((with_reducible show VD _ _ _ _ _ _ _); first | refine D_step rfl ?_ | refine D_nil' ?_ | refine D_gT' rfl ?_ | refine D_gU' rfl ?_ | refine D_gF' rfl rfl ?_ | refine D_gS rfl (fun _ => ?_) (fun _ => ?_))
      rfl
    · rw [hn] at hp2
      simp only [parPV] at hp2
      have pld := pl_slC ds
      have lv2 := lv_slC ds
      generalize slC ds = q2 at *
      refine call_V rfl rfl ?_
      repeat' first | ((with_reducible show V _ _ _ _ _ _); first | refine V_O rfl ?_ | refine V_cT rfl rfl ?_ | refine V_cF rfl rfl ?_ | refine V_cEq rfl rfl ?_ | refine V_cNe rfl rfl ?_ | refine V_cB rfl rfl (fun _ => ?_) (fun _ => ?_) | refine V_fA rfl rfl ?_ | refine V_fAN rfl rfl ?_ | refine V_D rfl ?_) | ((with_reducible show VO _ _ _ _ _ _ _); first | refine O_storeS lv2 rfl rfl rfl ?_ | refine O_cA rfl rfl hbg ?_ | refine O_cA rfl rfl hp1 ?_ | refine O_is q0 rfl ?_ | refine O_cA rfl rfl hp2 ?_ | refine O_cA rfl rfl hp4 ?_ | refine O_is et rfl ?_ | refine O_step rfl ?_ | refine O_stepL rfl ?_ | refine O_nil' ?_ | refine O_gT' rfl ?_ | refine O_gU' rfl ?_ | refine O_gF' rfl rfl ?_ | refine O_gEq rfl ?_ | refine O_gNe rfl ?_ | refine O_gS rfl (fun _ => ?_) (fun _ => ?_)) | ((with_reducible show VD _ _ _ _ _ _ _); first | refine D_step rfl ?_ | refine D_nil' ?_ | refine D_gT' rfl ?_ | refine D_gU' rfl ?_ | refine D_gF' rfl rfl ?_ | refine D_gS rfl (fun _ => ?_) (fun _ => ?_))
      rfl
end Go.Proofs.YtbeaalkfakjoiaaDoor
set_option linter.unusedVariables false
set_option linter.unusedSimpArgs false
namespace Go.Proofs.YtbeaalkfakjoiaaDoor
open Go Go.AM Go.RowKit
theorem star0 : "*" ++ "errors.errorString" = "*errors.errorString" := by decide
theorem row77 (u : TypeId) (h : Tryd.prog.typeName? 3 u = some "*errors.errorString") : u = 125 :=
  typeName_ptr_named (nm := "errors.errorString") (by rw [star0]; kernel_rfl) (by kernel_rfl) (by decide) u (by rw [star0]; exact h)
theorem gl_of {W : World} (h : laidMet Tryd.prog [("math/bits.deBruijn32tab", Rows.laid_math_bits_deBruijn32tab), ("math/bits.deBruijn64tab", Rows.laid_math_bits_deBruijn64tab), ("internal/strconv.uint64pow10", Rows.laid_internal_strconv_uint64pow10), ("unicode/utf8.acceptRanges", Rows.laid_unicode_utf8_acceptRanges), ("strconv.ErrRange", Rows.laid_strconv_ErrRange), ("strconv.ErrSyntax", Rows.laid_strconv_ErrSyntax), ("unicode/utf8.first", Rows.laid_unicode_utf8_first)] W) : Gl.ok W := by
  have h1 : laidMet Tryd.prog (("internal/strconv.uint64pow10", Lib.tabData .u64 Lib.pow10Tab) :: [("unicode/utf8.acceptRanges", Rows.laid_unicode_utf8_acceptRanges), ("strconv.ErrRange", Rows.laid_strconv_ErrRange), ("strconv.ErrSyntax", Rows.laid_strconv_ErrSyntax), ("unicode/utf8.first", Rows.laid_unicode_utf8_first)]) W := h.tail.tail
  have h2 := h.tail.tail.tail.tail
  obtain ⟨a0, s0, hv0, -, -, -⟩ := laid_sentinel h2 (g := 2) (by kernel_rfl) (by kernel_rfl) Tryd.underlying63 row77 Tryd.underlying125 Tryd.underlying127 rfl rfl Tryd.underlying9 (by kernel_rfl) (by kernel_rfl)
  obtain ⟨a1, s1, hv1, -, -, -⟩ := laid_sentinel h2.tail (g := 1) (by kernel_rfl) (by kernel_rfl) Tryd.underlying63 row77 Tryd.underlying125 Tryd.underlying127 rfl rfl Tryd.underlying9 (by kernel_rfl) (by kernel_rfl)
  exact ⟨Lib.tabIs_of_head (g := 3) (by kernel_rfl) (by kernel_rfl) Tryd.underlying122 Tryd.underlying89 (by kernel_rfl) (by kernel_rfl) h1, ⟨_, _, hv1⟩, _, _, hv0⟩
theorem X_sem : ∀ f args r, X f args r → SemExt Tryd.prog f args r := by
  rintro f args r (h | h)
  · exact h.sem Tryd.func82 (by kernel_rfl) (by kernel_rfl) (by kernel_rfl) (by kernel_rfl)
  · exact h.sem Tryd.func81 (by kernel_rfl) (by kernel_rfl) (by kernel_rfl) (by kernel_rfl)
end Go.Proofs.YtbeaalkfakjoiaaDoor
set_option linter.unusedVariables false
set_option linter.unusedSimpArgs false
namespace Go.Proofs.YtbeaalkfakjoiaaDoor
open Go Go.AM Go.RowKit
theorem r64_of {n : Int} (h : IntKind.i64.min ≤ n ∧ n ≤ IntKind.i64.max) : R64 n := by
  unfold R64
  have h1 : IntKind.i64.min = -9223372036854775808 := rfl
  have h2 : IntKind.i64.max = 9223372036854775807 := rfl
  rw [h1, h2] at h
  exact h
theorem five {α : Type} {l : List α} (h : l.length = 5) : ∃ a b c d e, l = [a, b, c, d, e] := by
  match l, h with
  | [a, b, c, d, e], _ => exact ⟨a, b, c, d, e, rfl⟩
end Go.Proofs.YtbeaalkfakjoiaaDoor
set_option linter.unusedVariables false
set_option linter.unusedSimpArgs false
namespace Go.Proofs.YtbeaalkfakjoiaaDoor
open Go Go.AM Go.RowKit
instance : Inhabited Cm := ⟨⟨0, 0, [], 0, 0⟩⟩
def CmR (c : Cm) (xs : List PV) : Prop := xs = cells c ∧ CR c ∧ c.t.length ≤ 140737488355328
theorem four {α : Type} {l : List α} (h : l.length = 4) : ∃ a b c d, l = [a, b, c, d] := by
  match l, h with
  | [a, b, c, d], _ => exact ⟨a, b, c, d, rfl⟩
theorem lr_lv {q : PV} {cs : List Cm} (h : LR CmR q cs) : LV cells q cs ∧ ∀ c ∈ cs, CR c ∧ c.t.length ≤ 140737488355328 := by
  rcases h with ⟨rfl, rfl⟩ | ⟨xs, full, rfl, _, hl, hf⟩
  · exact ⟨.nil, fun c m => by cases m⟩
  · have hx : xs = cs.map cells := by
      apply List.ext_getElem?
      intro j
      rw [List.getElem?_map]
      cases hj : cs[j]? with
      | none =>
        have := List.getElem?_eq_none_iff.1 hj
        rw [List.getElem?_eq_none (by omega)]
        rfl
      | some c =>
        have hlt := (List.getElem?_eq_some_iff.1 hj).1
        have hk : xs[j]? = some xs[j] := List.getElem?_eq_getElem (by omega)
        rw [hk, (hf j c _ hj hk).1]
        rfl
    subst hx
    refine ⟨.sl cs full, fun c m => ?_⟩
    obtain ⟨j, hj⟩ := List.getElem?_of_mem m
    exact (hf j c _ hj (by rw [List.getElem?_map, hj]; rfl)).2
set_option maxRecDepth 100000 in
theorem scr_arg {H : Type} {d : DataW H} {q : PV} (h : AV Tryd.prog 37 d q) (hw : Wgt Tryd.prog 37 d) : ∃ (k : Int × Int × Int) (p : PV) (cs : List Cm) (l : List (DataW H)), q = .agg [.int .i64 k.1, .int .i64 k.2.1, .int .i64 k.2.2, p] ∧ HR k ∧ LV cells p cs ∧ ∀ c ∈ cs, CR c ∧ c.t.length ≤ 140737488355328 := by
  have hagg : isAggT Tryd.prog 37 = true := by kernel_rfl
  obtain ⟨qs, rfl, hv⟩ := av_agg hagg h
  obtain ⟨ds, qss, rfl, rfl, hd, hq, hf⟩ := tv_struct Tryd.underlying37 hv
  have hbf := wgt_ok.st Tryd.underlying37 hw
  obtain ⟨d0, d1, d2, d3, rfl⟩ := four hd
  obtain ⟨q0, q1, q2, q3, rfl⟩ := four hq
  obtain ⟨a, rfl, rfl, h0⟩ := tv_int Tryd.underlying3 (hf 0 _ d0 q0 rfl rfl rfl)
  obtain ⟨b, rfl, rfl, h1⟩ := tv_int Tryd.underlying3 (hf 1 _ d1 q1 rfl rfl rfl)
  obtain ⟨c, rfl, rfl, h2⟩ := tv_int Tryd.underlying3 (hf 2 _ d2 q2 rfl rfl rfl)
  obtain ⟨p, cs, rfl, hl⟩ := lr_of (R := CmR) wgt_ok Tryd.underlying35 (of_decide_eq_true (by kernel_rfl)) (of_decide_eq_true (by kernel_rfl)) (hf 3 _ d3 q3 rfl rfl rfl) (hbf 3 _ _ rfl rfl) (fun x xs _ hx hbx => by
    obtain ⟨es, ess, rfl, rfl, hd, hq, hg⟩ := tv_struct Tryd.underlying23 hx
    have hbg := wgt_ok.st Tryd.underlying23 hbx
    obtain ⟨e0, e1, e2, e3, e4, rfl⟩ := five hd
    obtain ⟨x0, x1, x2, x3, x4, rfl⟩ := five hq
    obtain ⟨k, rfl, rfl, _⟩ := tv_int Tryd.underlying3 (hg 0 _ e0 x0 rfl rfl rfl)
    obtain ⟨se, rfl, rfl, g1⟩ := tv_int Tryd.underlying3 (hg 1 _ e1 x1 rfl rfl rfl)
    obtain ⟨t, rfl, rfl, _⟩ := tv_str Tryd.underlying9 (hg 2 _ e2 x2 rfl rfl rfl)
    obtain ⟨to, rfl, rfl, g2⟩ := tv_int Tryd.underlying3 (hg 3 _ e3 x3 rfl rfl rfl)
    obtain ⟨ke, rfl, rfl, g3⟩ := tv_int Tryd.underlying2 (hg 4 _ e4 x4 rfl rfl rfl)
    exact ⟨⟨k, se, t, to, ke⟩, rfl, ⟨r64_of g1, r64_of g2, r64_of g3⟩, wgt_ok.str (hbg 2 _ _ rfl rfl)⟩)
  obtain ⟨e1, e2⟩ := lr_lv hl
  exact ⟨(a, b, c), p, cs, [], rfl, ⟨r64_of h0, r64_of h1, r64_of h2⟩, e1, e2⟩
end Go.Proofs.YtbeaalkfakjoiaaDoor
