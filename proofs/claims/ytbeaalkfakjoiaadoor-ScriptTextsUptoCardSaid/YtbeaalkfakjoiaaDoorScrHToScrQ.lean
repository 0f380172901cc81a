/- begun; the law ScriptApart over plain values. · The table with script.Parse and script.Print; rambleref25.Same. · The law ScriptBack over plain values. · rambleref25.head, rambleref25.parseHead. -/
import Derived.Test.YtbeaalkfakjoiaaDoorScrEToScrJ
import Derived.Test.YtbeaalkfakjoiaaDoorScrM
import Derived.Test.YtbeaalkfakjoiaaDoorScrNb
import Derived.Test.YtbeaalkfakjoiaaDoorScrOToScrP
set_option linter.unusedVariables false
set_option linter.unusedSimpArgs false
namespace Go.Proofs.YtbeaalkfakjoiaaDoor
open Go Go.AM Go.RowKit
def gV : List UInt8 := [103, 46, 86, 40, 41]
def qLine : List UInt8 := [113, 117, 101, 114, 121, 32, 48, 32, 103, 46, 86, 40, 41]
open Go.Lib in
theorem itoa0 : Lib.itoa 0 = [48] := by
  unfold Lib.itoa
  rw [if_neg (by decide)]
  exact dec_small (by decide)
theorem acc_begun : acc ⟨4, 0, gV, 0, 0⟩ qLine := by
  have h : lineR ⟨4, 0, gV, 0, 0⟩ = (qLine, 0) := by
    have hl : lineC ⟨4, 0, gV, 0, 0⟩ = qLine := by
      unfold lineC
      rw [if_neg (by decide), if_pos (by decide)]
      simp only [itoa0]
      rfl
    unfold lineR
    rw [if_neg (by decide), if_neg (by decide), if_neg (by decide), if_neg (by decide), if_neg (by decide), hl]
  unfold acc
  rw [h]
  exact ⟨rfl, rfl⟩
theorem run_begun : T.R (.call n_ramblelaw25_begun [] (.bool true)) := by
  obtain ⟨o, h1, h2⟩ := run_ParseLine (s := qLine) (by decide)
  have ho := h2.inj (says_of acc_begun (by decide) (by decide) (by decide))
  subst ho
  obtain ⟨p, k1, k2⟩ := run_Keep (n := 5) (by decide)
  have hb : bitsI 5 = [true, false, true] := by decide
  rw [hb] at k2
  have he := run_EqualB k2 (.sl [true, false, true] true) (by decide)
  have plk := pl_k5 4 0 gV 0 0
  have plp : Pl p := k2.pl (fun a _ x hx => by
    have : x = .bool a := by simpa [bc] using hx
    rw [this]; exact .bool _)
  have plb : Pl (.sl ([true, false, true].map bc) true) := .sl _ _ (pl_bc _)
  have e1 : PV.bool (eqC ⟨4, 0, gV, 0, 0⟩ ⟨4, 0, gV, 0, 0⟩) = PV.bool true := by rw [eqC_iff.2 rfl]
  unfold twoC at h1
  refine call_V rfl rfl ?_
  repeat' first | ((with_reducible show V _ _ _ _ _ _); first | refine V_O rfl ?_ | refine V_cT rfl rfl ?_ | refine V_cF rfl rfl ?_ | refine V_cEq rfl rfl ?_ | refine V_cNe rfl rfl ?_ | refine V_cB rfl rfl (fun _ => ?_) (fun _ => ?_) | refine V_fA rfl rfl ?_ | refine V_fAN rfl rfl ?_ | refine V_D rfl ?_) | ((with_reducible show VO _ _ _ _ _ _ _); first | refine O_cA rfl rfl h1 ?_ | refine O_cA rfl rfl k1 ?_ | refine O_cA rfl rfl he ?_ | refine O_is e1 rfl ?_ | refine O_step rfl ?_ | refine O_stepL rfl ?_ | refine O_nil' ?_ | refine O_gT' rfl ?_ | refine O_gU' rfl ?_ | refine O_gF' rfl rfl ?_ | refine O_gEq rfl ?_ | refine O_gNe rfl ?_ | refine O_gS rfl (fun _ => ?_) (fun _ => ?_)) | ((with_reducible show VD _ _ _ _ _ _ _); first | refine D_step rfl ?_ | refine D_nil' ?_ | refine D_gT' rfl ?_ | refine D_gU' rfl ?_ | refine D_gF' rfl rfl ?_ | refine D_gS rfl (fun _ => ?_) (fun _ => ?_))
  rfl
end Go.Proofs.YtbeaalkfakjoiaaDoor
set_option linter.unusedVariables false
set_option linter.unusedSimpArgs false
namespace Go.Proofs.YtbeaalkfakjoiaaDoor
open Go Go.AM Go.RowKit
def scA (h : Int × Int × Int) (q : PV) : PV := .agg [.int .i64 h.1, .int .i64 h.2.1, .int .i64 h.2.2, q]
def ParP (f : Nat) (args : List PV) (r : PV) : Prop := f = n_script_Parse ∧ ∃ t : List UInt8, t.length ≤ 1000000000 ∧ args = [.str t] ∧ r = parPV (parR t)
def PriP (f : Nat) (args : List PV) (r : PV) : Prop := f = n_script_Print ∧ ∃ (h : Int × Int × Int) (cs : List Cm) (q : PV), HR h ∧ (∀ c ∈ cs, CR c ∧ c.t.length ≤ 140737488355328) ∧ LV cells q cs ∧ args = [scA h q] ∧ r = .tuple [.str (printR h cs).1, .int .i64 (printR h cs).2]
def T2 : Tb := ⟨tbl, fun f a r => T.R (.call f a r) ∨ ParP f a r ∨ PriP f a r, X⟩
theorem lift {f : Nat} {a : List PV} {r : PV} (h : T.R (.call f a r)) : T2.R (.call f a r) := .prim f a r (.inl h)
theorem parT2 {t : List UInt8} (ht : t.length ≤ 1000000000) : T2.R (.call n_script_Parse [.str t] (parPV (parR t))) := .prim _ _ _ (.inr (.inl ⟨rfl, t, ht, rfl, rfl⟩))
theorem priT2 {h : Int × Int × Int} {cs : List Cm} {q : PV} (hh : HR h) (hc : ∀ c ∈ cs, CR c ∧ c.t.length ≤ 140737488355328) (hq : LV cells q cs) : T2.R (.call n_script_Print [scA h q] (.tuple [.str (printR h cs).1, .int .i64 (printR h cs).2])) := .prim _ _ _ (.inr (.inr ⟨rfl, h, cs, q, hh, hc, hq, rfl, rfl⟩))
theorem pl_cm (cs : List Cm) : ∀ xs ∈ cs.map cells, ∀ x ∈ xs, Pl x := by
  intro xs h x hx
  obtain ⟨c, _, rfl⟩ := List.mem_map.1 h
  unfold cells at hx
  simp only [List.mem_cons, List.not_mem_nil, or_false] at hx
  rcases hx with rfl | rfl | rfl | rfl | rfl
  · exact .int _ _
  · exact .int _ _
  · exact .str _
  · exact .int _ _
  · exact .int _ _
theorem lv_pl {q : PV} {cs : List Cm} (h : LV cells q cs) : Pl q := h.pl fun c _ x hx => pl_cm [c] (cells c) (by simp) x hx
theorem P2_sem : ∀ f args r, T2.prim f args r → SemCall Tryd.prog f args r := by
  rintro f args r (h | ⟨rfl, t, ht, rfl, rfl⟩ | ⟨rfl, h, cs, q, hh, hc, hq, rfl, rfl⟩)
  · exact sem_of h
  · refine ⟨⟨_, _, Tryd.func17, rfl, by kernel_rfl⟩, fun F w vals hF hg hs hr => ?_⟩
    have h0 := rep_str (hr 0 _ rfl)
    obtain rfl : vals = #[.string ⟨t.toArray⟩] := by
      obtain ⟨l⟩ := vals
      match l, hs with
      | [a], _ => rw [← h0]; rfl
    exact callsIn_wide.1 (parse_in t ht w hg hF)
  · refine ⟨⟨_, _, Tryd.func15, rfl, by kernel_rfl⟩, fun F w vals hF hg hs hr => ?_⟩
    obtain ⟨vs, h0, hz, hv⟩ := rep_agg (hr 0 _ rfl)
    have e0 := rep_int (hv 0 _ rfl)
    have e1 := rep_int (hv 1 _ rfl)
    have e2 := rep_int (hv 2 _ rfl)
    have e3 := hv 3 _ rfl
    obtain rfl : vals = #[.agg #[.int .i64 h.1, .int .i64 h.2.1, .int .i64 h.2.2, vs.getD 3 undef]] := by
      obtain ⟨l⟩ := vals
      match l, hs with
      | [a], _ => rw [← e0, ← e1, ← e2, ← arr4 hz, ← h0]; rfl
    have hq' : (q = .nilSl ∧ cs = []) ∨ ∃ full, q = .sl (cs.map cells) full := by
      cases hq with
      | nil => exact .inl ⟨rfl, rfl⟩
      | sl l full => exact .inr ⟨full, rfl⟩
    refine (print_in hh hc (lv_pl hq) hq' e3 hg).mono ?_
    rintro e w' ⟨rfl, hb⟩
    refine ⟨_, rfl, hb, .tuple _ _ rfl fun i c hi => ?_⟩
    match i, hi with
    | 0, hi => injection hi with hi; subst hi; exact .str _
    | 1, hi => injection hi with hi; subst hi; exact .int _ _
    | i + 2, hi => cases hi
theorem one_lv {q : PV} {cs : List Cm} (h : LV cells q cs) : PV.one q = true := by cases h <;> rfl
section
variable {T : Tb} {Q : Post} {k : List Fr} {ρ : EC} {st : St} {l : List POp} {kill : List Nat}
theorem O_storeS {a x : Opd} {t : Nat} {a1 a2 a3 : Int} {q c0 c1 c2 c3 : PV} {cs : List Cm} (hv : LV cells q cs) (ha : a.get ρ = some (.ptr t 0)) (hx : x.get ρ = some (.agg [.int .i64 a1, .int .i64 a2, .int .i64 a3, q])) (hg : st.get t = some (.var [c0, c1, c2, c3]))
    (h : VO T Q l kill k (ρ.sets none (.tuple [])) (st.put t (.var [.int .i64 a1, .int .i64 a2, .int .i64 a3, q]))) : VO T Q (⟨none, none, .store 4 a x⟩ :: l) kill k ρ st :=
  O_storeV ha hx (by have h1 := one_lv hv; show (PV.one _ && (PV.one _ && (PV.one _ && (PV.one q && true)))) = true; rw [h1]; rfl) rfl rfl (storeAt_whole hg rfl) h
end
def S2 (h : Int × Int × Int) (p q : PV) : St := A1 [.int .i64 h.1, .int .i64 h.2.1, .int .i64 h.2.2, p] [.int .i64 h.1, .int .i64 h.2.1, .int .i64 h.2.2, q]
set_option maxHeartbeats 2000000 in
theorem sm_loop {h : Int × Int × Int} {p q : PV} {cs : List Cm} (hp : LV cells p cs) (hq : LV cells q cs) (hl : cs.length ≤ 9223372036854775800) : ∀ (rest pre : List Cm), cs = pre ++ rest →
    V T (PE fun x e st' => x = .exit 0 ∧ st' = S2 h p q ∧ e = .nil) [.code (.loop lp_rambleref25_Same_0)] .normal (ecOf [(2, .ptr 0 0), (3, .ptr 1 0), (5, .int .i64 pre.length)]) (S2 h p q) := by
  intro rest
  induction rest with
  | nil =>
    intro pre hc
    have hlt : PV.bool (decide ((pre.length : Int) < cs.length)) = PV.bool false := dec_not (by subst hc; simp)
    refine V_unroll ?_
    repeat' first | ((with_reducible show V _ _ _ _ _ _); first | refine V_out [] rfl trivial ⟨rfl, rfl, rfl⟩ | refine V_O rfl ?_ | refine V_cT rfl rfl ?_ | refine V_cF rfl rfl ?_ | refine V_cEq rfl rfl ?_ | refine V_cNe rfl rfl ?_ | refine V_cB rfl rfl (fun _ => ?_) (fun _ => ?_) | refine V_fA rfl rfl ?_ | refine V_fAN rfl rfl ?_ | refine V_D rfl ?_) | ((with_reducible show VO _ _ _ _ _ _ _); first | refine O_lenL rfl hp ?_ | refine O_is hlt rfl ?_ | refine O_step rfl ?_ | refine O_stepL rfl ?_ | refine O_nil' ?_ | refine O_gT' rfl ?_ | refine O_gU' rfl ?_ | refine O_gF' rfl rfl ?_ | refine O_gEq rfl ?_ | refine O_gNe rfl ?_ | refine O_gS rfl (fun _ => ?_) (fun _ => ?_)) | ((with_reducible show VD _ _ _ _ _ _ _); first | refine D_step rfl ?_ | refine D_nil' ?_ | refine D_gT' rfl ?_ | refine D_gU' rfl ?_ | refine D_gF' rfl rfl ?_ | refine D_gS rfl (fun _ => ?_) (fun _ => ?_))
  | cons c rest ih =>
    intro pre hc
    have hlt : PV.bool (decide ((pre.length : Int) < cs.length)) = PV.bool true := dec_is (by subst hc; simp; omega)
    have hat : cs[(pre.length : Int).toNat]? = some c := by subst hc; simp
    have hw : IntKind.i64.wrap ((pre.length : Int) + 1) = ((pre ++ [c]).length : Int) := by rw [wrap_i64]; subst hc; simp at *; omega
    have hi := ih (pre ++ [c]) (by rw [hc]; simp)
    have hne : PV.bool (!eqC c c) = PV.bool false := by rw [eqC_iff.2 rfl]; rfl
    refine V_unroll ?_
    repeat' first | ((with_reducible show V _ _ _ _ _ _); first | refine V_re rfl hi ⟨rfl, rfl, some_int hw, trivial⟩ | refine V_O rfl ?_ | refine V_cT rfl rfl ?_ | refine V_cF rfl rfl ?_ | refine V_cEq rfl rfl ?_ | refine V_cNe rfl rfl ?_ | refine V_cB rfl rfl (fun _ => ?_) (fun _ => ?_) | refine V_fA rfl rfl ?_ | refine V_fAN rfl rfl ?_ | refine V_D rfl ?_) | ((with_reducible show VO _ _ _ _ _ _ _); first | refine O_lenL rfl hp ?_ | refine O_is hlt rfl ?_ | refine O_step rfl ?_ | refine O_stepL rfl ?_ | refine O_nil' ?_ | refine O_gT' rfl ?_ | refine O_gU' rfl ?_ | refine O_gF' rfl rfl ?_ | refine O_gEq rfl ?_ | refine O_gNe rfl ?_ | refine O_gS rfl (fun _ => ?_) (fun _ => ?_)) | ((with_reducible show VD _ _ _ _ _ _ _); first | refine D_idxL c rfl hp rfl (by omega) hat rfl ?_ | refine D_idxL c rfl hq rfl (by omega) hat rfl ?_ | refine D_is hne rfl ?_ | refine D_step rfl ?_ | refine D_nil' ?_ | refine D_gT' rfl ?_ | refine D_gU' rfl ?_ | refine D_gF' rfl rfl ?_ | refine D_gS rfl (fun _ => ?_) (fun _ => ?_))
set_option maxHeartbeats 2000000 in
theorem run_Same {h : Int × Int × Int} {p q : PV} {cs : List Cm} (hp : LV cells p cs) (hq : LV cells q cs) (hl : cs.length ≤ 9223372036854775800) : T.R (.call n_rambleref25_Same [scA h p, scA h q] (.bool true)) := by
  have hlo := sm_loop (h := h) hp hq hl cs [] rfl
  have h1 : PV.bool (!decide (h.1 = h.1)) = PV.bool false := ndec_is rfl
  have h2 : PV.bool (!decide (h.2.1 = h.2.1)) = PV.bool false := ndec_is rfl
  have h3 : PV.bool (!decide (h.2.2 = h.2.2)) = PV.bool false := ndec_is rfl
  have h4 : PV.bool (!decide ((cs.length : Int) = cs.length)) = PV.bool false := ndec_is rfl
  have plp := lv_pl hp
  have plq := lv_pl hq
  refine call_V rfl rfl ?_
  repeat' first | ((with_reducible show V _ _ _ _ _ _); first | refine V_cutTo rfl hlo ⟨rfl, rfl, rfl, trivial⟩ ?_ | refine V_O rfl ?_ | refine V_cT rfl rfl ?_ | refine V_cF rfl rfl ?_ | refine V_cEq rfl rfl ?_ | refine V_cNe rfl rfl ?_ | refine V_cB rfl rfl (fun _ => ?_) (fun _ => ?_) | refine V_fA rfl rfl ?_ | refine V_fAN rfl rfl ?_ | refine V_D rfl ?_) | ((with_reducible show VO _ _ _ _ _ _ _); first | refine O_is h1 rfl ?_ | refine O_is h2 rfl ?_ | refine O_is h3 rfl ?_ | refine O_lenL rfl hp ?_ | refine O_lenL rfl hq ?_ | refine O_is h4 rfl ?_ | refine O_step rfl ?_ | refine O_stepL rfl ?_ | refine O_nil' ?_ | refine O_gT' rfl ?_ | refine O_gU' rfl ?_ | refine O_gF' rfl rfl ?_ | refine O_gEq rfl ?_ | refine O_gNe rfl ?_ | refine O_gS rfl (fun _ => ?_) (fun _ => ?_)) | ((with_reducible show VD _ _ _ _ _ _ _); first | refine D_step rfl ?_ | refine D_nil' ?_ | refine D_gT' rfl ?_ | refine D_gU' rfl ?_ | refine D_gF' rfl rfl ?_ | refine D_gS rfl (fun _ => ?_) (fun _ => ?_))
  rintro x e' st' ⟨rfl, rfl, rfl⟩
  repeat' first | ((with_reducible show V _ _ _ _ _ _); first | refine V_O rfl ?_ | refine V_cT rfl rfl ?_ | refine V_cF rfl rfl ?_ | refine V_cEq rfl rfl ?_ | refine V_cNe rfl rfl ?_ | refine V_cB rfl rfl (fun _ => ?_) (fun _ => ?_) | refine V_fA rfl rfl ?_ | refine V_fAN rfl rfl ?_ | refine V_D rfl ?_) | ((with_reducible show VO _ _ _ _ _ _ _); first | refine O_step rfl ?_ | refine O_stepL rfl ?_ | refine O_nil' ?_ | refine O_gT' rfl ?_ | refine O_gU' rfl ?_ | refine O_gF' rfl rfl ?_ | refine O_gEq rfl ?_ | refine O_gNe rfl ?_ | refine O_gS rfl (fun _ => ?_) (fun _ => ?_)) | ((with_reducible show VD _ _ _ _ _ _ _); first | refine D_step rfl ?_ | refine D_nil' ?_ | refine D_gT' rfl ?_ | refine D_gU' rfl ?_ | refine D_gF' rfl rfl ?_ | refine D_gS rfl (fun _ => ?_) (fun _ => ?_))
  rfl
end Go.Proofs.YtbeaalkfakjoiaaDoor
set_option linter.unusedVariables false
set_option linter.unusedSimpArgs false
namespace Go.Proofs.YtbeaalkfakjoiaaDoor
open Go Go.AM Go.RowKit
theorem lv_slC (cs : List Cm) : LV cells (slC cs) cs := by
  unfold slC
  split
  · rename_i h
    rw [h]
    exact .nil
  · exact .sl cs false
end Go.Proofs.YtbeaalkfakjoiaaDoor
set_option linter.unusedVariables false
set_option linter.unusedSimpArgs false
namespace Go.Proofs.YtbeaalkfakjoiaaDoor
open Go Go.AM Go.RowKit
section
variable {T : Tb} {Q : Post} {k : List Fr} {ρ : EC} {st : St} {l : List POp} {kill : List Nat} {m j : Nat} {A B : St} {d : Option Nat} {op : Go.AM.PI} {n : Nat} {w : Bool}
theorem M_gT (hk : Nat.beq j m = false) (hg : ρ.get n = some (.bool w)) (h : VM T Q m A B j (⟨d, none, op⟩ :: l) kill k ρ st) : VM T Q m A B j (⟨d, some (n, w), op⟩ :: l) kill k ρ st := fun r hr => by
  obtain ⟨ρ1, st1, h1, h2⟩ := h r hr
  have hj := Nat.ne_of_beq_eq_false hk
  have g : gd (getA · r) (some (n, w)) = some true := by simp [gd, hr _ _ hg]
  refine ⟨ρ1, st1, ?_, h2⟩
  cases h1
  case dlSkip => exact absurd (by assumption : gd (getA · r) none = some false) (by simp [gd])
  case dlQuiet => exact .dlQuiet _ _ _ _ _ _ _ _ _ _ _ hj (by assumption) g (by assumption) (by assumption)
  case dlCall => exact .dlCall _ _ _ _ _ _ _ _ _ _ _ _ _ _ _ _ hj (by assumption) g (by assumption) (by assumption) (by assumption) (by assumption) (by assumption)
  case dlLoud => exact absurd rfl hj
  case dlRaw => exact absurd rfl hj
theorem M_gF {a : Bool} (hk : Nat.beq j m = false) (hs : st = A ∨ st = B) (hg : ρ.get n = some (.bool a)) (hb : a = !w) (h : VM T Q m A B (j + 1) l kill k (ρ.sets d (.tuple [])) st) : VM T Q m A B j (⟨d, some (n, w), op⟩ :: l) kill k ρ st := fun r hr => by
  obtain ⟨ρ1, st1, h1, h2⟩ := h _ (hr.sets d _)
  exact ⟨ρ1, st1, .dlSkip _ _ _ _ _ _ _ _ _ _ (Nat.ne_of_beq_eq_false hk) hs (by subst hb; simp [gd, hr _ _ hg]) h1, h2⟩
theorem M_gU (hk : Nat.beq j m = false) (hs : st = A ∨ st = B) (hg : ρ.get n = some (.tuple [])) (h : VM T Q m A B (j + 1) l kill k (ρ.sets d (.tuple [])) st) : VM T Q m A B j (⟨d, some (n, w), op⟩ :: l) kill k ρ st := fun r hr => by
  obtain ⟨ρ1, st1, h1, h2⟩ := h _ (hr.sets d _)
  exact ⟨ρ1, st1, .dlSkip _ _ _ _ _ _ _ _ _ _ (Nat.ne_of_beq_eq_false hk) hs (by simp [gd, hr _ _ hg]) h1, h2⟩
end
set_option maxHeartbeats 2000000 in
theorem run_rHead {a b c : Int} {q : PV} (hh : HR (a, b, c)) (plq : Pl q) : T.R (.call n_rambleref25_head [.agg [.int .i64 a, .int .i64 b, .int .i64 c, q]] (.str (headL (a, b, c)))) := by
  have t1 := run_rText hh.1
  have t2 := run_rText hh.2.1
  have t3 := run_rText hh.2.2
  have l1 := itoa_len hh.1
  have l2 := itoa_len hh.2.1
  have l3 := itoa_len hh.2.2
  rw [headL_eq]
  simp only at *
  generalize Lib.itoa a = A at *
  generalize Lib.itoa b = B at *
  generalize Lib.itoa c = C at *
  have pla : Pl (.agg [.int .i64 a, .int .i64 b, .int .i64 c, q]) := .agg _ (pl_cons (.int _ _) (pl_cons (.int _ _) (pl_cons (.int _ _) (pl_cons plq pl_nil))))
  have c0 : ram7.length + A.length ≤ 9223372036854775807 := by simp [ram7]; omega
  have c1 : (ram7 ++ A).length + ([32] : List UInt8).length ≤ 9223372036854775807 := by simp [ram7]; omega
  have c2 : (ram7 ++ A ++ [32]).length + B.length ≤ 9223372036854775807 := by simp [ram7]; omega
  have c3 : (ram7 ++ A ++ [32] ++ B).length + ([32] : List UInt8).length ≤ 9223372036854775807 := by simp [ram7]; omega
  have c4 : (ram7 ++ A ++ [32] ++ B ++ [32]).length + C.length ≤ 9223372036854775807 := by simp [ram7]; omega
  refine call_V rfl rfl ?_
  repeat' first | ((with_reducible show V _ _ _ _ _ _); first | refine V_O rfl ?_ | refine V_cT rfl rfl ?_ | refine V_cF rfl rfl ?_ | refine V_cEq rfl rfl ?_ | refine V_cNe rfl rfl ?_ | refine V_cB rfl rfl (fun _ => ?_) (fun _ => ?_) | refine V_fA rfl rfl ?_ | refine V_fAN rfl rfl ?_ | refine V_D rfl ?_) | ((with_reducible show VO _ _ _ _ _ _ _); first | refine O_step rfl ?_ | refine O_stepL rfl ?_ | refine O_nil' ?_ | refine O_gT' rfl ?_ | refine O_gU' rfl ?_ | refine O_gF' rfl rfl ?_ | refine O_gEq rfl ?_ | refine O_gNe rfl ?_ | refine O_gS rfl (fun _ => ?_) (fun _ => ?_)) | ((with_reducible show VD _ _ _ _ _ _ _); first | refine D_cA rfl rfl t1 ?_ | refine D_cA rfl rfl t2 ?_ | refine D_cA rfl rfl t3 ?_ | refine D_step (cat_q c0 rfl rfl) ?_ | refine D_step (cat_q c1 rfl rfl) ?_ | refine D_step (cat_q c2 rfl rfl) ?_ | refine D_step (cat_q c3 rfl rfl) ?_ | refine D_step (cat_q c4 rfl rfl) ?_ | refine D_step rfl ?_ | refine D_nil' ?_ | refine D_gT' rfl ?_ | refine D_gU' rfl ?_ | refine D_gF' rfl rfl ?_ | refine D_gS rfl (fun _ => ?_) (fun _ => ?_))
  rfl
def hasB (s : List UInt8) : Bool := (cutB 32 s).isSome
theorem cutT_H (s : List UInt8) : cutT 32 s = .tuple [.str (cutP s).1, .str (cutP s).2, .bool (hasB s)] := by
  unfold cutT cutP hasB
  cases cutB 32 s with
  | none => rfl
  | some p => rfl
def setN (k : Nat) (n : Int × Int × Int) (v : Int) : Int × Int × Int := if k = 0 then (n.1, n.2.1, v) else if k = 1 then (n.1, v, n.2.2) else (v, n.2.1, n.2.2)
noncomputable def phL : Nat → List UInt8 → Bool → Int × Int × Int → (Int × Int × Int) × Bool
  | 0, _, ok, n => (n, ok)
  | k + 1, rest, ok, n => if ok = true then phL k (cutP rest).2 (decide ((parT (cutP rest).1).2 = 0) && (hasB rest == decide (k ≠ 0))) (setN k n (parT (cutP rest).1).1) else (n, false)
theorem phL_r : ∀ (k : Nat) (rest : List UInt8) (ok : Bool) (n : Int × Int × Int), HR n → HR (phL k rest ok n).1 := by
  intro k
  induction k with
  | zero => intro rest ok n h; exact h
  | succ k ih =>
    intro rest ok n h
    rw [phL]
    split
    · refine ih _ _ _ ?_
      unfold setN
      split
      · exact ⟨h.1, h.2.1, parT_r _⟩
      split
      · exact ⟨h.1, parT_r _, h.2.2⟩
      · exact ⟨parT_r _, h.2.1, h.2.2⟩
    · exact h
def PhP (s : List UInt8) (r : (Int × Int × Int) × Bool) : Post := PE fun x e st => x = .exit 0 ∧ e = ecOf [(0, .str s), (2, .ptr 0 0), (4, .ptr 1 0), (8, .bool r.2)] ∧ st = A1 z4 (n3 r.1.1 r.1.2.1 r.1.2.2)
def phE (s rest : List UInt8) (ok : Bool) (i : Int) : EC := ecOf [(0, .str s), (2, .ptr 0 0), (4, .ptr 1 0), (6, .str rest), (8, .bool ok), (9, .int .i64 i)]
theorem rph0 (s rest : List UInt8) (ok : Bool) (a b c : Int) : V T (PhP s (phL 0 rest ok (a, b, c))) [.code (.loop lp_rambleref25_parseHead_0)] .normal (phE s rest ok 3) (A1 z4 (n3 a b c)) := by
  refine V_unroll ?_
  repeat' first | ((with_reducible show V _ _ _ _ _ _); first | refine V_out [(0, .str s), (2, .ptr 0 0), (4, .ptr 1 0), (8, .bool ok)] rfl ⟨rfl, rfl, rfl, rfl, trivial⟩ ⟨rfl, rfl, rfl⟩ | refine V_O rfl ?_ | refine V_cT rfl rfl ?_ | refine V_cF rfl rfl ?_ | refine V_cEq rfl rfl ?_ | refine V_cNe rfl rfl ?_ | refine V_cB rfl rfl (fun _ => ?_) (fun _ => ?_) | refine V_fA rfl rfl ?_ | refine V_fAN rfl rfl ?_ | refine V_D rfl ?_) | ((with_reducible show VO _ _ _ _ _ _ _); first | refine O_step rfl ?_ | refine O_stepL rfl ?_ | refine O_nil' ?_ | refine O_gT' rfl ?_ | refine O_gU' rfl ?_ | refine O_gF' rfl rfl ?_ | refine O_gEq rfl ?_ | refine O_gNe rfl ?_ | refine O_gS rfl (fun _ => ?_) (fun _ => ?_)) | ((with_reducible show VD _ _ _ _ _ _ _); first | refine D_step rfl ?_ | refine D_nil' ?_ | refine D_gT' rfl ?_ | refine D_gU' rfl ?_ | refine D_gF' rfl rfl ?_ | refine D_gS rfl (fun _ => ?_) (fun _ => ?_))
set_option maxHeartbeats 2000000 in
theorem rph1 (s rest : List UInt8) (hl : rest.length ≤ 1000000000) (ok : Bool) (a b c : Int) : V T (PhP s (phL 1 rest ok (a, b, c))) [.code (.loop lp_rambleref25_parseHead_0)] .normal (phE s rest ok 2) (A1 z4 (n3 a b c)) := by
  cases ok with
  | false =>
    refine V_unroll ?_
    repeat' first | ((with_reducible show V _ _ _ _ _ _); first | refine V_out [(0, .str s), (2, .ptr 0 0), (4, .ptr 1 0), (8, .bool false)] rfl ⟨rfl, rfl, rfl, rfl, trivial⟩ ⟨rfl, rfl, rfl⟩ | refine V_O rfl ?_ | refine V_cT rfl rfl ?_ | refine V_cF rfl rfl ?_ | refine V_cEq rfl rfl ?_ | refine V_cNe rfl rfl ?_ | refine V_cB rfl rfl (fun _ => ?_) (fun _ => ?_) | refine V_fA rfl rfl ?_ | refine V_fAN rfl rfl ?_ | refine V_D rfl ?_) | ((with_reducible show VO _ _ _ _ _ _ _); first | refine O_step rfl ?_ | refine O_stepL rfl ?_ | refine O_nil' ?_ | refine O_gT' rfl ?_ | refine O_gU' rfl ?_ | refine O_gF' rfl rfl ?_ | refine O_gEq rfl ?_ | refine O_gNe rfl ?_ | refine O_gS rfl (fun _ => ?_) (fun _ => ?_)) | ((with_reducible show VD _ _ _ _ _ _ _); first | refine D_step rfl ?_ | refine D_nil' ?_ | refine D_gT' rfl ?_ | refine D_gU' rfl ?_ | refine D_gF' rfl rfl ?_ | refine D_gS rfl (fun _ => ?_) (fun _ => ?_))
  | true =>
    have hcut := run_rCut (s := rest) (by omega)
    rw [cutT_H] at hcut
    have hcl := cutP_len rest
    have hnum := run_number (s := (cutP rest).1) (by omega)
    have ih := fun ok' a' b' c' => rph0 s (cutP rest).2 ok' a' b' c'
    rw [phL, if_pos rfl]
    generalize parT (cutP rest).1 = q at *
    generalize (cutP rest).1 = w1 at *
    generalize (cutP rest).2 = w2 at *
    generalize decide (q.2 = 0) = o1 at *
    generalize hasB rest = o2 at *
    refine V_unroll ?_
    cases o1 with
    | false =>
      have ih' := ih false a b q.1
      repeat' first | ((with_reducible show V _ _ _ _ _ _); first | refine V_re rfl ih' ⟨rfl, rfl, rfl, rfl, rfl, rfl, trivial⟩ | refine V_O rfl ?_ | refine V_cT rfl rfl ?_ | refine V_cF rfl rfl ?_ | refine V_cEq rfl rfl ?_ | refine V_cNe rfl rfl ?_ | refine V_cB rfl rfl (fun _ => ?_) (fun _ => ?_) | refine V_fA rfl rfl ?_ | refine V_fAN rfl rfl ?_ | refine V_D rfl ?_) | ((with_reducible show VO _ _ _ _ _ _ _); first | refine O_cA rfl rfl hcut ?_ | refine O_cA rfl rfl hnum ?_ | refine O_step rfl ?_ | refine O_stepL rfl ?_ | refine O_nil' ?_ | refine O_gT' rfl ?_ | refine O_gU' rfl ?_ | refine O_gF' rfl rfl ?_ | refine O_gEq rfl ?_ | refine O_gNe rfl ?_ | refine O_gS rfl (fun _ => ?_) (fun _ => ?_)) | ((with_reducible show VD _ _ _ _ _ _ _); first | refine D_step rfl ?_ | refine D_nil' ?_ | refine D_gT' rfl ?_ | refine D_gU' rfl ?_ | refine D_gF' rfl rfl ?_ | refine D_gS rfl (fun _ => ?_) (fun _ => ?_))
    | true =>
      have ih' := ih (o2 == decide (0 ≠ 0)) a b q.1
      cases o2
      · repeat' first | ((with_reducible show V _ _ _ _ _ _); first | refine V_re rfl ih' ⟨rfl, rfl, rfl, rfl, rfl, rfl, trivial⟩ | refine V_O rfl ?_ | refine V_cT rfl rfl ?_ | refine V_cF rfl rfl ?_ | refine V_cEq rfl rfl ?_ | refine V_cNe rfl rfl ?_ | refine V_cB rfl rfl (fun _ => ?_) (fun _ => ?_) | refine V_fA rfl rfl ?_ | refine V_fAN rfl rfl ?_ | refine V_D rfl ?_) | ((with_reducible show VO _ _ _ _ _ _ _); first | refine O_cA rfl rfl hcut ?_ | refine O_cA rfl rfl hnum ?_ | refine O_step rfl ?_ | refine O_stepL rfl ?_ | refine O_nil' ?_ | refine O_gT' rfl ?_ | refine O_gU' rfl ?_ | refine O_gF' rfl rfl ?_ | refine O_gEq rfl ?_ | refine O_gNe rfl ?_ | refine O_gS rfl (fun _ => ?_) (fun _ => ?_)) | ((with_reducible show VD _ _ _ _ _ _ _); first | refine D_step rfl ?_ | refine D_nil' ?_ | refine D_gT' rfl ?_ | refine D_gU' rfl ?_ | refine D_gF' rfl rfl ?_ | refine D_gS rfl (fun _ => ?_) (fun _ => ?_))
      · repeat' first | ((with_reducible show V _ _ _ _ _ _); first | refine V_re rfl ih' ⟨rfl, rfl, rfl, rfl, rfl, rfl, trivial⟩ | refine V_O rfl ?_ | refine V_cT rfl rfl ?_ | refine V_cF rfl rfl ?_ | refine V_cEq rfl rfl ?_ | refine V_cNe rfl rfl ?_ | refine V_cB rfl rfl (fun _ => ?_) (fun _ => ?_) | refine V_fA rfl rfl ?_ | refine V_fAN rfl rfl ?_ | refine V_D rfl ?_) | ((with_reducible show VO _ _ _ _ _ _ _); first | refine O_cA rfl rfl hcut ?_ | refine O_cA rfl rfl hnum ?_ | refine O_step rfl ?_ | refine O_stepL rfl ?_ | refine O_nil' ?_ | refine O_gT' rfl ?_ | refine O_gU' rfl ?_ | refine O_gF' rfl rfl ?_ | refine O_gEq rfl ?_ | refine O_gNe rfl ?_ | refine O_gS rfl (fun _ => ?_) (fun _ => ?_)) | ((with_reducible show VD _ _ _ _ _ _ _); first | refine D_step rfl ?_ | refine D_nil' ?_ | refine D_gT' rfl ?_ | refine D_gU' rfl ?_ | refine D_gF' rfl rfl ?_ | refine D_gS rfl (fun _ => ?_) (fun _ => ?_))
set_option maxHeartbeats 2000000 in
theorem rph2 (s rest : List UInt8) (hl : rest.length ≤ 1000000000) (ok : Bool) (a b c : Int) : V T (PhP s (phL 2 rest ok (a, b, c))) [.code (.loop lp_rambleref25_parseHead_0)] .normal (phE s rest ok 1) (A1 z4 (n3 a b c)) := by
  cases ok with
  | false =>
    refine V_unroll ?_
    repeat' first | ((with_reducible show V _ _ _ _ _ _); first | refine V_out [(0, .str s), (2, .ptr 0 0), (4, .ptr 1 0), (8, .bool false)] rfl ⟨rfl, rfl, rfl, rfl, trivial⟩ ⟨rfl, rfl, rfl⟩ | refine V_O rfl ?_ | refine V_cT rfl rfl ?_ | refine V_cF rfl rfl ?_ | refine V_cEq rfl rfl ?_ | refine V_cNe rfl rfl ?_ | refine V_cB rfl rfl (fun _ => ?_) (fun _ => ?_) | refine V_fA rfl rfl ?_ | refine V_fAN rfl rfl ?_ | refine V_D rfl ?_) | ((with_reducible show VO _ _ _ _ _ _ _); first | refine O_step rfl ?_ | refine O_stepL rfl ?_ | refine O_nil' ?_ | refine O_gT' rfl ?_ | refine O_gU' rfl ?_ | refine O_gF' rfl rfl ?_ | refine O_gEq rfl ?_ | refine O_gNe rfl ?_ | refine O_gS rfl (fun _ => ?_) (fun _ => ?_)) | ((with_reducible show VD _ _ _ _ _ _ _); first | refine D_step rfl ?_ | refine D_nil' ?_ | refine D_gT' rfl ?_ | refine D_gU' rfl ?_ | refine D_gF' rfl rfl ?_ | refine D_gS rfl (fun _ => ?_) (fun _ => ?_))
  | true =>
    have hcut := run_rCut (s := rest) (by omega)
    rw [cutT_H] at hcut
    have hcl := cutP_len rest
    have hnum := run_number (s := (cutP rest).1) (by omega)
    have ih := fun ok' a' b' c' => rph1 s (cutP rest).2 (by omega) ok' a' b' c'
    rw [phL, if_pos rfl]
    generalize parT (cutP rest).1 = q at *
    generalize (cutP rest).1 = w1 at *
    generalize (cutP rest).2 = w2 at *
    generalize decide (q.2 = 0) = o1 at *
    generalize hasB rest = o2 at *
    refine V_unroll ?_
    cases o1 with
    | false =>
      have ih' := ih false a q.1 c
      repeat' first | ((with_reducible show V _ _ _ _ _ _); first | refine V_re rfl ih' ⟨rfl, rfl, rfl, rfl, rfl, rfl, trivial⟩ | refine V_O rfl ?_ | refine V_cT rfl rfl ?_ | refine V_cF rfl rfl ?_ | refine V_cEq rfl rfl ?_ | refine V_cNe rfl rfl ?_ | refine V_cB rfl rfl (fun _ => ?_) (fun _ => ?_) | refine V_fA rfl rfl ?_ | refine V_fAN rfl rfl ?_ | refine V_D rfl ?_) | ((with_reducible show VO _ _ _ _ _ _ _); first | refine O_cA rfl rfl hcut ?_ | refine O_cA rfl rfl hnum ?_ | refine O_step rfl ?_ | refine O_stepL rfl ?_ | refine O_nil' ?_ | refine O_gT' rfl ?_ | refine O_gU' rfl ?_ | refine O_gF' rfl rfl ?_ | refine O_gEq rfl ?_ | refine O_gNe rfl ?_ | refine O_gS rfl (fun _ => ?_) (fun _ => ?_)) | ((with_reducible show VD _ _ _ _ _ _ _); first | refine D_step rfl ?_ | refine D_nil' ?_ | refine D_gT' rfl ?_ | refine D_gU' rfl ?_ | refine D_gF' rfl rfl ?_ | refine D_gS rfl (fun _ => ?_) (fun _ => ?_))
    | true =>
      have ih' := ih (o2 == decide (1 ≠ 0)) a q.1 c
      cases o2
      · repeat' first | ((with_reducible show V _ _ _ _ _ _); first | refine V_re rfl ih' ⟨rfl, rfl, rfl, rfl, rfl, rfl, trivial⟩ | refine V_O rfl ?_ | refine V_cT rfl rfl ?_ | refine V_cF rfl rfl ?_ | refine V_cEq rfl rfl ?_ | refine V_cNe rfl rfl ?_ | refine V_cB rfl rfl (fun _ => ?_) (fun _ => ?_) | refine V_fA rfl rfl ?_ | refine V_fAN rfl rfl ?_ | refine V_D rfl ?_) | ((with_reducible show VO _ _ _ _ _ _ _); first | refine O_cA rfl rfl hcut ?_ | refine O_cA rfl rfl hnum ?_ | refine O_step rfl ?_ | refine O_stepL rfl ?_ | refine O_nil' ?_ | refine O_gT' rfl ?_ | refine O_gU' rfl ?_ | refine O_gF' rfl rfl ?_ | refine O_gEq rfl ?_ | refine O_gNe rfl ?_ | refine O_gS rfl (fun _ => ?_) (fun _ => ?_)) | ((with_reducible show VD _ _ _ _ _ _ _); first | refine D_step rfl ?_ | refine D_nil' ?_ | refine D_gT' rfl ?_ | refine D_gU' rfl ?_ | refine D_gF' rfl rfl ?_ | refine D_gS rfl (fun _ => ?_) (fun _ => ?_))
      · repeat' first | ((with_reducible show V _ _ _ _ _ _); first | refine V_re rfl ih' ⟨rfl, rfl, rfl, rfl, rfl, rfl, trivial⟩ | refine V_O rfl ?_ | refine V_cT rfl rfl ?_ | refine V_cF rfl rfl ?_ | refine V_cEq rfl rfl ?_ | refine V_cNe rfl rfl ?_ | refine V_cB rfl rfl (fun _ => ?_) (fun _ => ?_) | refine V_fA rfl rfl ?_ | refine V_fAN rfl rfl ?_ | refine V_D rfl ?_) | ((with_reducible show VO _ _ _ _ _ _ _); first | refine O_cA rfl rfl hcut ?_ | refine O_cA rfl rfl hnum ?_ | refine O_step rfl ?_ | refine O_stepL rfl ?_ | refine O_nil' ?_ | refine O_gT' rfl ?_ | refine O_gU' rfl ?_ | refine O_gF' rfl rfl ?_ | refine O_gEq rfl ?_ | refine O_gNe rfl ?_ | refine O_gS rfl (fun _ => ?_) (fun _ => ?_)) | ((with_reducible show VD _ _ _ _ _ _ _); first | refine D_step rfl ?_ | refine D_nil' ?_ | refine D_gT' rfl ?_ | refine D_gU' rfl ?_ | refine D_gF' rfl rfl ?_ | refine D_gS rfl (fun _ => ?_) (fun _ => ?_))
set_option maxHeartbeats 2000000 in
theorem rph3 (s rest : List UInt8) (hl : rest.length ≤ 1000000000) (ok : Bool) (a b c : Int) : V T (PhP s (phL 3 rest ok (a, b, c))) [.code (.loop lp_rambleref25_parseHead_0)] .normal (phE s rest ok 0) (A1 z4 (n3 a b c)) := by
  cases ok with
  | false =>
    refine V_unroll ?_
    repeat' first | ((with_reducible show V _ _ _ _ _ _); first | refine V_out [(0, .str s), (2, .ptr 0 0), (4, .ptr 1 0), (8, .bool false)] rfl ⟨rfl, rfl, rfl, rfl, trivial⟩ ⟨rfl, rfl, rfl⟩ | refine V_O rfl ?_ | refine V_cT rfl rfl ?_ | refine V_cF rfl rfl ?_ | refine V_cEq rfl rfl ?_ | refine V_cNe rfl rfl ?_ | refine V_cB rfl rfl (fun _ => ?_) (fun _ => ?_) | refine V_fA rfl rfl ?_ | refine V_fAN rfl rfl ?_ | refine V_D rfl ?_) | ((with_reducible show VO _ _ _ _ _ _ _); first | refine O_step rfl ?_ | refine O_stepL rfl ?_ | refine O_nil' ?_ | refine O_gT' rfl ?_ | refine O_gU' rfl ?_ | refine O_gF' rfl rfl ?_ | refine O_gEq rfl ?_ | refine O_gNe rfl ?_ | refine O_gS rfl (fun _ => ?_) (fun _ => ?_)) | ((with_reducible show VD _ _ _ _ _ _ _); first | refine D_step rfl ?_ | refine D_nil' ?_ | refine D_gT' rfl ?_ | refine D_gU' rfl ?_ | refine D_gF' rfl rfl ?_ | refine D_gS rfl (fun _ => ?_) (fun _ => ?_))
  | true =>
    have hcut := run_rCut (s := rest) (by omega)
    rw [cutT_H] at hcut
    have hcl := cutP_len rest
    have hnum := run_number (s := (cutP rest).1) (by omega)
    have ih := fun ok' a' b' c' => rph2 s (cutP rest).2 (by omega) ok' a' b' c'
    rw [phL, if_pos rfl]
    generalize parT (cutP rest).1 = q at *
    generalize (cutP rest).1 = w1 at *
    generalize (cutP rest).2 = w2 at *
    generalize decide (q.2 = 0) = o1 at *
    generalize hasB rest = o2 at *
    refine V_unroll ?_
    cases o1 with
    | false =>
      have ih' := ih false q.1 b c
      repeat' first | ((with_reducible show V _ _ _ _ _ _); first | refine V_re rfl ih' ⟨rfl, rfl, rfl, rfl, rfl, rfl, trivial⟩ | refine V_O rfl ?_ | refine V_cT rfl rfl ?_ | refine V_cF rfl rfl ?_ | refine V_cEq rfl rfl ?_ | refine V_cNe rfl rfl ?_ | refine V_cB rfl rfl (fun _ => ?_) (fun _ => ?_) | refine V_fA rfl rfl ?_ | refine V_fAN rfl rfl ?_ | refine V_D rfl ?_) | ((with_reducible show VO _ _ _ _ _ _ _); first | refine O_cA rfl rfl hcut ?_ | refine O_cA rfl rfl hnum ?_ | refine O_step rfl ?_ | refine O_stepL rfl ?_ | refine O_nil' ?_ | refine O_gT' rfl ?_ | refine O_gU' rfl ?_ | refine O_gF' rfl rfl ?_ | refine O_gEq rfl ?_ | refine O_gNe rfl ?_ | refine O_gS rfl (fun _ => ?_) (fun _ => ?_)) | ((with_reducible show VD _ _ _ _ _ _ _); first | refine D_step rfl ?_ | refine D_nil' ?_ | refine D_gT' rfl ?_ | refine D_gU' rfl ?_ | refine D_gF' rfl rfl ?_ | refine D_gS rfl (fun _ => ?_) (fun _ => ?_))
    | true =>
      have ih' := ih (o2 == decide (2 ≠ 0)) q.1 b c
      cases o2
      · repeat' first | ((with_reducible show V _ _ _ _ _ _); first | refine V_re rfl ih' ⟨rfl, rfl, rfl, rfl, rfl, rfl, trivial⟩ | refine V_O rfl ?_ | refine V_cT rfl rfl ?_ | refine V_cF rfl rfl ?_ | refine V_cEq rfl rfl ?_ | refine V_cNe rfl rfl ?_ | refine V_cB rfl rfl (fun _ => ?_) (fun _ => ?_) | refine V_fA rfl rfl ?_ | refine V_fAN rfl rfl ?_ | refine V_D rfl ?_) | ((with_reducible show VO _ _ _ _ _ _ _); first | refine O_cA rfl rfl hcut ?_ | refine O_cA rfl rfl hnum ?_ | refine O_step rfl ?_ | refine O_stepL rfl ?_ | refine O_nil' ?_ | refine O_gT' rfl ?_ | refine O_gU' rfl ?_ | refine O_gF' rfl rfl ?_ | refine O_gEq rfl ?_ | refine O_gNe rfl ?_ | refine O_gS rfl (fun _ => ?_) (fun _ => ?_)) | ((with_reducible show VD _ _ _ _ _ _ _); first | refine D_step rfl ?_ | refine D_nil' ?_ | refine D_gT' rfl ?_ | refine D_gU' rfl ?_ | refine D_gF' rfl rfl ?_ | refine D_gS rfl (fun _ => ?_) (fun _ => ?_))
      · repeat' first | ((with_reducible show V _ _ _ _ _ _); first | refine V_re rfl ih' ⟨rfl, rfl, rfl, rfl, rfl, rfl, trivial⟩ | refine V_O rfl ?_ | refine V_cT rfl rfl ?_ | refine V_cF rfl rfl ?_ | refine V_cEq rfl rfl ?_ | refine V_cNe rfl rfl ?_ | refine V_cB rfl rfl (fun _ => ?_) (fun _ => ?_) | refine V_fA rfl rfl ?_ | refine V_fAN rfl rfl ?_ | refine V_D rfl ?_) | ((with_reducible show VO _ _ _ _ _ _ _); first | refine O_cA rfl rfl hcut ?_ | refine O_cA rfl rfl hnum ?_ | refine O_step rfl ?_ | refine O_stepL rfl ?_ | refine O_nil' ?_ | refine O_gT' rfl ?_ | refine O_gU' rfl ?_ | refine O_gF' rfl rfl ?_ | refine O_gEq rfl ?_ | refine O_gNe rfl ?_ | refine O_gS rfl (fun _ => ?_) (fun _ => ?_)) | ((with_reducible show VD _ _ _ _ _ _ _); first | refine D_step rfl ?_ | refine D_nil' ?_ | refine D_gT' rfl ?_ | refine D_gU' rfl ?_ | refine D_gF' rfl rfl ?_ | refine D_gS rfl (fun _ => ?_) (fun _ => ?_))
theorem cut_head {x y : List UInt8} (h : (32 : UInt8) ∉ x) : cutP (x ++ 32 :: y) = (x, y) ∧ hasB (x ++ 32 :: y) = true := by
  unfold cutP hasB
  rw [cutB_pre x y h]
  exact ⟨rfl, rfl⟩
theorem cut_last {x : List UInt8} (h : (32 : UInt8) ∉ x) : cutP x = (x, []) ∧ hasB x = false := by
  unfold cutP hasB
  rw [cutB_nil x h]
  exact ⟨rfl, rfl⟩
theorem phL_head {h : Int × Int × Int} (hh : HR h) : phL 3 (Lib.itoa h.1 ++ 32 :: (Lib.itoa h.2.1 ++ 32 :: Lib.itoa h.2.2)) true (0, 0, 0) = (h, true) := by
  have e1 := cut_head (x := Lib.itoa h.1) (y := Lib.itoa h.2.1 ++ 32 :: Lib.itoa h.2.2) itoa_no
  have e2 := cut_head (x := Lib.itoa h.2.1) (y := Lib.itoa h.2.2) itoa_no
  have e3 := cut_last (x := Lib.itoa h.2.2) itoa_no
  have g1 := itoa_good hh.1
  have g2 := itoa_good hh.2.1
  have g3 := itoa_good hh.2.2
  rw [phL, if_pos rfl, e1.1, e1.2]
  simp only [g1]
  rw [phL, if_pos (by decide), e2.1, e2.2]
  simp only [g2]
  rw [phL, if_pos (by decide), e3.1, e3.2]
  simp only [g3]
  rfl
set_option maxHeartbeats 4000000 in
theorem run_rParseHead {s : List UInt8} (hs : s.length ≤ 1000000000) : ∃ h, HR h ∧ T.R (.call n_rambleref25_parseHead [.str s] (headT h (hdO s).isSome)) ∧ ∀ h', hdO s = some h' → h' = h := by
  have hcut := run_rCut (s := s) (by omega)
  rw [cutT_H] at hcut
  have hcl := cutP_len s
  obtain ⟨ok0, hok0⟩ : ∃ b : Bool, (hasB s && decide ((cutP s).1 = wRam)) = b := ⟨_, rfl⟩
  obtain ⟨r, hr⟩ : ∃ r, phL 3 (cutP s).2 ok0 (0, 0, 0) = r := ⟨_, rfl⟩
  have hR : HR r.1 := by
    rw [← hr]
    exact phL_r 3 _ _ _ ⟨(by decide : R64 0), (by decide : R64 0), (by decide : R64 0)⟩
  have key : (r.2 && decide (headL r.1 = s)) = (hdO s).isSome ∧ ∀ h', hdO s = some h' → h' = r.1 := by
    cases hx : hdO s with
    | none =>
      refine ⟨?_, fun h' e => by cases e⟩
      have : ¬ headL r.1 = s := fun e => by
        rw [← e, hdO_some hR] at hx
        cases hx
      rw [decide_eq_false this, Bool.and_false]
      rfl
    | some h =>
      obtain ⟨k1, k2⟩ := hdO_spec hx
      have e0 := cut_head (x := wRam) (y := Lib.itoa h.1 ++ 32 :: (Lib.itoa h.2.1 ++ 32 :: Lib.itoa h.2.2)) (by decide)
      have es : s = wRam ++ 32 :: (Lib.itoa h.1 ++ 32 :: (Lib.itoa h.2.1 ++ 32 :: Lib.itoa h.2.2)) := k2.symm
      have hr' : r = (h, true) := by
        rw [← hr, ← hok0, es, e0.1, e0.2]
        exact phL_head k1
      rw [hr']
      exact ⟨by rw [decide_eq_true k2]; rfl, fun h' e => by injection e with e; exact e.symm⟩
  have hl := rph3 s (cutP s).2 (by omega) ok0 0 0 0
  rw [hr] at hl
  refine ⟨r.1, hR, ?_, key.2⟩
  rw [← key.1]
  have hh := run_rHead hR (q := .nilSl) .nilSl
  unfold headT
  clear hr hR key
  obtain ⟨⟨a, b, c⟩, okf⟩ := r
  simp only at *
  generalize headL (a, b, c) = L at *
  generalize (cutP s).1 = w1 at *
  generalize (cutP s).2 = w2 at *
  generalize hasB s = o1 at *
  have plg : Pl (.agg [.int .i64 a, .int .i64 b, .int .i64 c, .nilSl]) := .agg _ (pl_cons (.int _ _) (pl_cons (.int _ _) (pl_cons (.int _ _) (pl_cons .nilSl pl_nil))))
  subst hok0
  cases o1 <;> cases okf
  · refine call_V rfl rfl ?_
    repeat' first | ((with_reducible show V _ _ _ _ _ _); first | refine V_cutTo rfl hl ⟨rfl, rfl, rfl, rfl, rfl, rfl, trivial⟩ ?_ | refine V_O rfl ?_ | refine V_cT rfl rfl ?_ | refine V_cF rfl rfl ?_ | refine V_cEq rfl rfl ?_ | refine V_cNe rfl rfl ?_ | refine V_cB rfl rfl (fun _ => ?_) (fun _ => ?_) | refine V_fA rfl rfl ?_ | refine V_fAN rfl rfl ?_ | refine V_D rfl ?_) | ((with_reducible show VO _ _ _ _ _ _ _); first | refine O_cA rfl rfl hcut ?_ | refine O_step rfl ?_ | refine O_stepL rfl ?_ | refine O_nil' ?_ | refine O_gT' rfl ?_ | refine O_gU' rfl ?_ | refine O_gF' rfl rfl ?_ | refine O_gEq rfl ?_ | refine O_gNe rfl ?_ | refine O_gS rfl (fun _ => ?_) (fun _ => ?_)) | ((with_reducible show VD _ _ _ _ _ _ _); first | refine D_step rfl ?_ | refine D_nil' ?_ | refine D_gT' rfl ?_ | refine D_gU' rfl ?_ | refine D_gF' rfl rfl ?_ | refine D_gS rfl (fun _ => ?_) (fun _ => ?_))
    rintro x e' st' ⟨rfl, rfl, rfl⟩
    repeat' first | ((with_reducible show V _ _ _ _ _ _); first | refine V_M 8 (kst [.int .i64 a, .int .i64 b, .int .i64 c, .nilSl] (n3 a b c) [.int .i64 a, .int .i64 b, .int .i64 c, .nilSl]) rfl ?_ | refine V_O rfl ?_ | refine V_cT rfl rfl ?_ | refine V_cF rfl rfl ?_ | refine V_cEq rfl rfl ?_ | refine V_cNe rfl rfl ?_ | refine V_cB rfl rfl (fun _ => ?_) (fun _ => ?_) | refine V_fA rfl rfl ?_ | refine V_fAN rfl rfl ?_ | refine V_D rfl ?_) | ((with_reducible show VO _ _ _ _ _ _ _); first | refine O_step rfl ?_ | refine O_stepL rfl ?_ | refine O_nil' ?_ | refine O_gT' rfl ?_ | refine O_gU' rfl ?_ | refine O_gF' rfl rfl ?_ | refine O_gEq rfl ?_ | refine O_gNe rfl ?_ | refine O_gS rfl (fun _ => ?_) (fun _ => ?_)) | ((with_reducible show VD _ _ _ _ _ _ _); first | refine D_step rfl ?_ | refine D_nil' ?_ | refine D_gT' rfl ?_ | refine D_gU' rfl ?_ | refine D_gF' rfl rfl ?_ | refine D_gS rfl (fun _ => ?_) (fun _ => ?_)) | ((with_reducible show VM _ _ _ _ _ _ _ _ _ _ _); first | refine M_call rfl (.inl rfl) rfl rfl (viewL_pl (by (repeat' (first | exact Pl.int _ _ | exact Pl.bool _ | exact Pl.str _ | exact Pl.nilSl | exact pl_nil | refine pl_cons ?_ ?_ | refine Pl.tuple _ ?_ | refine Pl.agg _ ?_ | refine Pl.func _ _ ?_ | assumption | refine Pl.iptr _ _ ?_ | exact pll_nil | refine pll_cons ?_ ?_ | refine Pl.sl _ _ ?_)); first | done | fail)) (viewL_pl (by (repeat' (first | exact Pl.int _ _ | exact Pl.bool _ | exact Pl.str _ | exact Pl.nilSl | exact pl_nil | refine pl_cons ?_ ?_ | refine Pl.tuple _ ?_ | refine Pl.agg _ ?_ | refine Pl.func _ _ ?_ | assumption | refine Pl.iptr _ _ ?_ | exact pll_nil | refine pll_cons ?_ ?_ | refine Pl.sl _ _ ?_)); first | done | fail)) hh ?_ | refine M_loud rfl rfl ?_ | refine M_gT rfl rfl ?_ | refine M_gF rfl (.inl rfl) rfl rfl ?_ | refine M_gU rfl (.inl rfl) rfl ?_ | refine M_step rfl (.inl rfl) rfl rfl ?_ | refine M_step rfl (.inr rfl) rfl rfl ?_ | refine M_nil ?_)
    rfl
  · refine call_V rfl rfl ?_
    repeat' first | ((with_reducible show V _ _ _ _ _ _); first | refine V_cutTo rfl hl ⟨rfl, rfl, rfl, rfl, rfl, rfl, trivial⟩ ?_ | refine V_O rfl ?_ | refine V_cT rfl rfl ?_ | refine V_cF rfl rfl ?_ | refine V_cEq rfl rfl ?_ | refine V_cNe rfl rfl ?_ | refine V_cB rfl rfl (fun _ => ?_) (fun _ => ?_) | refine V_fA rfl rfl ?_ | refine V_fAN rfl rfl ?_ | refine V_D rfl ?_) | ((with_reducible show VO _ _ _ _ _ _ _); first | refine O_cA rfl rfl hcut ?_ | refine O_step rfl ?_ | refine O_stepL rfl ?_ | refine O_nil' ?_ | refine O_gT' rfl ?_ | refine O_gU' rfl ?_ | refine O_gF' rfl rfl ?_ | refine O_gEq rfl ?_ | refine O_gNe rfl ?_ | refine O_gS rfl (fun _ => ?_) (fun _ => ?_)) | ((with_reducible show VD _ _ _ _ _ _ _); first | refine D_step rfl ?_ | refine D_nil' ?_ | refine D_gT' rfl ?_ | refine D_gU' rfl ?_ | refine D_gF' rfl rfl ?_ | refine D_gS rfl (fun _ => ?_) (fun _ => ?_))
    rintro x e' st' ⟨rfl, rfl, rfl⟩
    repeat' first | ((with_reducible show V _ _ _ _ _ _); first | refine V_M 8 (kst [.int .i64 a, .int .i64 b, .int .i64 c, .nilSl] (n3 a b c) [.int .i64 a, .int .i64 b, .int .i64 c, .nilSl]) rfl ?_ | refine V_O rfl ?_ | refine V_cT rfl rfl ?_ | refine V_cF rfl rfl ?_ | refine V_cEq rfl rfl ?_ | refine V_cNe rfl rfl ?_ | refine V_cB rfl rfl (fun _ => ?_) (fun _ => ?_) | refine V_fA rfl rfl ?_ | refine V_fAN rfl rfl ?_ | refine V_D rfl ?_) | ((with_reducible show VO _ _ _ _ _ _ _); first | refine O_step rfl ?_ | refine O_stepL rfl ?_ | refine O_nil' ?_ | refine O_gT' rfl ?_ | refine O_gU' rfl ?_ | refine O_gF' rfl rfl ?_ | refine O_gEq rfl ?_ | refine O_gNe rfl ?_ | refine O_gS rfl (fun _ => ?_) (fun _ => ?_)) | ((with_reducible show VD _ _ _ _ _ _ _); first | refine D_step rfl ?_ | refine D_nil' ?_ | refine D_gT' rfl ?_ | refine D_gU' rfl ?_ | refine D_gF' rfl rfl ?_ | refine D_gS rfl (fun _ => ?_) (fun _ => ?_)) | ((with_reducible show VM _ _ _ _ _ _ _ _ _ _ _); first | refine M_call rfl (.inl rfl) rfl rfl (viewL_pl (by (repeat' (first | exact Pl.int _ _ | exact Pl.bool _ | exact Pl.str _ | exact Pl.nilSl | exact pl_nil | refine pl_cons ?_ ?_ | refine Pl.tuple _ ?_ | refine Pl.agg _ ?_ | refine Pl.func _ _ ?_ | assumption | refine Pl.iptr _ _ ?_ | exact pll_nil | refine pll_cons ?_ ?_ | refine Pl.sl _ _ ?_)); first | done | fail)) (viewL_pl (by (repeat' (first | exact Pl.int _ _ | exact Pl.bool _ | exact Pl.str _ | exact Pl.nilSl | exact pl_nil | refine pl_cons ?_ ?_ | refine Pl.tuple _ ?_ | refine Pl.agg _ ?_ | refine Pl.func _ _ ?_ | assumption | refine Pl.iptr _ _ ?_ | exact pll_nil | refine pll_cons ?_ ?_ | refine Pl.sl _ _ ?_)); first | done | fail)) hh ?_ | refine M_loud rfl rfl ?_ | refine M_gT rfl rfl ?_ | refine M_gF rfl (.inl rfl) rfl rfl ?_ | refine M_gU rfl (.inl rfl) rfl ?_ | refine M_step rfl (.inl rfl) rfl rfl ?_ | refine M_step rfl (.inr rfl) rfl rfl ?_ | refine M_nil ?_)
    rfl
  · refine call_V rfl rfl ?_
    repeat' first | ((with_reducible show V _ _ _ _ _ _); first | refine V_cutTo rfl hl ⟨rfl, rfl, rfl, rfl, rfl, rfl, trivial⟩ ?_ | refine V_O rfl ?_ | refine V_cT rfl rfl ?_ | refine V_cF rfl rfl ?_ | refine V_cEq rfl rfl ?_ | refine V_cNe rfl rfl ?_ | refine V_cB rfl rfl (fun _ => ?_) (fun _ => ?_) | refine V_fA rfl rfl ?_ | refine V_fAN rfl rfl ?_ | refine V_D rfl ?_) | ((with_reducible show VO _ _ _ _ _ _ _); first | refine O_cA rfl rfl hcut ?_ | refine O_step rfl ?_ | refine O_stepL rfl ?_ | refine O_nil' ?_ | refine O_gT' rfl ?_ | refine O_gU' rfl ?_ | refine O_gF' rfl rfl ?_ | refine O_gEq rfl ?_ | refine O_gNe rfl ?_ | refine O_gS rfl (fun _ => ?_) (fun _ => ?_)) | ((with_reducible show VD _ _ _ _ _ _ _); first | refine D_step rfl ?_ | refine D_nil' ?_ | refine D_gT' rfl ?_ | refine D_gU' rfl ?_ | refine D_gF' rfl rfl ?_ | refine D_gS rfl (fun _ => ?_) (fun _ => ?_))
    rintro x e' st' ⟨rfl, rfl, rfl⟩
    repeat' first | ((with_reducible show V _ _ _ _ _ _); first | refine V_M 8 (kst [.int .i64 a, .int .i64 b, .int .i64 c, .nilSl] (n3 a b c) [.int .i64 a, .int .i64 b, .int .i64 c, .nilSl]) rfl ?_ | refine V_O rfl ?_ | refine V_cT rfl rfl ?_ | refine V_cF rfl rfl ?_ | refine V_cEq rfl rfl ?_ | refine V_cNe rfl rfl ?_ | refine V_cB rfl rfl (fun _ => ?_) (fun _ => ?_) | refine V_fA rfl rfl ?_ | refine V_fAN rfl rfl ?_ | refine V_D rfl ?_) | ((with_reducible show VO _ _ _ _ _ _ _); first | refine O_step rfl ?_ | refine O_stepL rfl ?_ | refine O_nil' ?_ | refine O_gT' rfl ?_ | refine O_gU' rfl ?_ | refine O_gF' rfl rfl ?_ | refine O_gEq rfl ?_ | refine O_gNe rfl ?_ | refine O_gS rfl (fun _ => ?_) (fun _ => ?_)) | ((with_reducible show VD _ _ _ _ _ _ _); first | refine D_step rfl ?_ | refine D_nil' ?_ | refine D_gT' rfl ?_ | refine D_gU' rfl ?_ | refine D_gF' rfl rfl ?_ | refine D_gS rfl (fun _ => ?_) (fun _ => ?_)) | ((with_reducible show VM _ _ _ _ _ _ _ _ _ _ _); first | refine M_call rfl (.inl rfl) rfl rfl (viewL_pl (by (repeat' (first | exact Pl.int _ _ | exact Pl.bool _ | exact Pl.str _ | exact Pl.nilSl | exact pl_nil | refine pl_cons ?_ ?_ | refine Pl.tuple _ ?_ | refine Pl.agg _ ?_ | refine Pl.func _ _ ?_ | assumption | refine Pl.iptr _ _ ?_ | exact pll_nil | refine pll_cons ?_ ?_ | refine Pl.sl _ _ ?_)); first | done | fail)) (viewL_pl (by (repeat' (first | exact Pl.int _ _ | exact Pl.bool _ | exact Pl.str _ | exact Pl.nilSl | exact pl_nil | refine pl_cons ?_ ?_ | refine Pl.tuple _ ?_ | refine Pl.agg _ ?_ | refine Pl.func _ _ ?_ | assumption | refine Pl.iptr _ _ ?_ | exact pll_nil | refine pll_cons ?_ ?_ | refine Pl.sl _ _ ?_)); first | done | fail)) hh ?_ | refine M_loud rfl rfl ?_ | refine M_gT rfl rfl ?_ | refine M_gF rfl (.inl rfl) rfl rfl ?_ | refine M_gU rfl (.inl rfl) rfl ?_ | refine M_step rfl (.inl rfl) rfl rfl ?_ | refine M_step rfl (.inr rfl) rfl rfl ?_ | refine M_nil ?_)
    rfl
  · refine call_V rfl rfl ?_
    repeat' first | ((with_reducible show V _ _ _ _ _ _); first | refine V_cutTo rfl hl ⟨rfl, rfl, rfl, rfl, rfl, rfl, trivial⟩ ?_ | refine V_O rfl ?_ | refine V_cT rfl rfl ?_ | refine V_cF rfl rfl ?_ | refine V_cEq rfl rfl ?_ | refine V_cNe rfl rfl ?_ | refine V_cB rfl rfl (fun _ => ?_) (fun _ => ?_) | refine V_fA rfl rfl ?_ | refine V_fAN rfl rfl ?_ | refine V_D rfl ?_) | ((with_reducible show VO _ _ _ _ _ _ _); first | refine O_cA rfl rfl hcut ?_ | refine O_step rfl ?_ | refine O_stepL rfl ?_ | refine O_nil' ?_ | refine O_gT' rfl ?_ | refine O_gU' rfl ?_ | refine O_gF' rfl rfl ?_ | refine O_gEq rfl ?_ | refine O_gNe rfl ?_ | refine O_gS rfl (fun _ => ?_) (fun _ => ?_)) | ((with_reducible show VD _ _ _ _ _ _ _); first | refine D_step rfl ?_ | refine D_nil' ?_ | refine D_gT' rfl ?_ | refine D_gU' rfl ?_ | refine D_gF' rfl rfl ?_ | refine D_gS rfl (fun _ => ?_) (fun _ => ?_))
    rintro x e' st' ⟨rfl, rfl, rfl⟩
    repeat' first | ((with_reducible show V _ _ _ _ _ _); first | refine V_M 8 (kst [.int .i64 a, .int .i64 b, .int .i64 c, .nilSl] (n3 a b c) [.int .i64 a, .int .i64 b, .int .i64 c, .nilSl]) rfl ?_ | refine V_O rfl ?_ | refine V_cT rfl rfl ?_ | refine V_cF rfl rfl ?_ | refine V_cEq rfl rfl ?_ | refine V_cNe rfl rfl ?_ | refine V_cB rfl rfl (fun _ => ?_) (fun _ => ?_) | refine V_fA rfl rfl ?_ | refine V_fAN rfl rfl ?_ | refine V_D rfl ?_) | ((with_reducible show VO _ _ _ _ _ _ _); first | refine O_step rfl ?_ | refine O_stepL rfl ?_ | refine O_nil' ?_ | refine O_gT' rfl ?_ | refine O_gU' rfl ?_ | refine O_gF' rfl rfl ?_ | refine O_gEq rfl ?_ | refine O_gNe rfl ?_ | refine O_gS rfl (fun _ => ?_) (fun _ => ?_)) | ((with_reducible show VD _ _ _ _ _ _ _); first | refine D_step rfl ?_ | refine D_nil' ?_ | refine D_gT' rfl ?_ | refine D_gU' rfl ?_ | refine D_gF' rfl rfl ?_ | refine D_gS rfl (fun _ => ?_) (fun _ => ?_)) | ((with_reducible show VM _ _ _ _ _ _ _ _ _ _ _); first | refine M_call rfl (.inl rfl) rfl rfl (viewL_pl (by (repeat' (first | exact Pl.int _ _ | exact Pl.bool _ | exact Pl.str _ | exact Pl.nilSl | exact pl_nil | refine pl_cons ?_ ?_ | refine Pl.tuple _ ?_ | refine Pl.agg _ ?_ | refine Pl.func _ _ ?_ | assumption | refine Pl.iptr _ _ ?_ | exact pll_nil | refine pll_cons ?_ ?_ | refine Pl.sl _ _ ?_)); first | done | fail)) (viewL_pl (by (repeat' (first | exact Pl.int _ _ | exact Pl.bool _ | exact Pl.str _ | exact Pl.nilSl | exact pl_nil | refine pl_cons ?_ ?_ | refine Pl.tuple _ ?_ | refine Pl.agg _ ?_ | refine Pl.func _ _ ?_ | assumption | refine Pl.iptr _ _ ?_ | exact pll_nil | refine pll_cons ?_ ?_ | refine Pl.sl _ _ ?_)); first | done | fail)) hh ?_ | refine M_loud rfl rfl ?_ | refine M_gT rfl rfl ?_ | refine M_gF rfl (.inl rfl) rfl rfl ?_ | refine M_gU rfl (.inl rfl) rfl ?_ | refine M_step rfl (.inl rfl) rfl rfl ?_ | refine M_step rfl (.inr rfl) rfl rfl ?_ | refine M_nil ?_)
    rfl
end Go.Proofs.YtbeaalkfakjoiaaDoor
