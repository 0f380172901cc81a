/- script.Print walked. -/
import Derived.Test.YtbeaalkfakjoiaaDoorScrN
import Derived.Test.YtbeaalkfakjoiaaDoorScrMa
import Derived.Lib.OthersKept
set_option linter.unusedVariables false
set_option linter.unusedSimpArgs false
namespace Go.Proofs.YtbeaalkfakjoiaaDoor
open Go Go.AM Go.RowKit Go.Shelf
theorem bld_bel {T e : TypeId} {B b : Nat} {bs : List Value} {w w' : World} (h : Lib.IsBuilderF T e B b bs w) (hb : Below w.heap.size w w') : Lib.IsBuilderF T e B b bs w' := by
  have key : ∀ {p : Value}, Lib.BuilderAtF T e B b p bs w → Lib.BuilderAtF T e B b p bs w' := by
    rintro p ⟨h1, v, h2, h3, h4⟩
    refine ⟨h1, v, (hb.block b (Array.getElem?_eq_some_iff.1 h2).1).trans h2, h3.kept (grown_of hb) ?_, h4⟩
    cases hv : v.ownBlock with
    | none => exact .inl rfl
    | some x => exact .inr (by simp)
  exact h.elim (fun x => .inl (key x)) (fun x => .inr (key x))
def rowAt (w : World) (ao : Option Addr) (cs : List Cm) : Prop := ∀ (j : Nat) (c : Cm), cs[j]? = some c → ∃ b o, ao = some ⟨b, o, none⟩ ∧ b < w.heap.size ∧ ∀ i, i < 5 → w.cell? ⟨b, o + j * 5 + i, none⟩ = (cmC c)[i]?
theorem row_rep {F : Nat → Prop} {w : World} {v : Value} {q : PV} {cs : List Cm} (h : Rep noG F w v q) (hq : (q = .nilSl ∧ cs = []) ∨ ∃ full, q = .sl (cs.map cells) full) : ∃ ao cap, v = .slice ao cs.length cap ∧ rowAt w ao cs := by
  rcases hq with ⟨rfl, rfl⟩ | ⟨full, rfl⟩
  · cases h
    exact ⟨none, 0, rfl, fun j c hj => by simp at hj⟩
  · cases h with
    | sl xs full b o cap sz adr u hcap hfull hadr hsz hc hr =>
      refine ⟨some adr, cap, by simp, fun j c hj => ?_⟩
      have hjl : j < cs.length := (List.getElem?_eq_some_iff.1 hj).1
      have hm : (cs.map cells)[j]? = some (cells c) := by rw [List.getElem?_map, hj]; rfl
      have h5 : sz = 5 := (hsz j _ hm).symm
      subst h5
      have hc0 := hc j (cells c) 0 _ hm rfl
      refine ⟨b, o, by rw [hadr (by simp at hcap; omega)], cellAt_lt hc0.1, fun i hi => ?_⟩
      have hk : ∀ p, (cells c)[i]? = some p → (cmC c)[i]? = some (u j i) := fun p hp => by
        have hrp := hr j (cells c) i p hm hp
        match i, hp with
        | 0, hp => injection hp with hp; subst hp; rw [rep_int hrp]; rfl
        | 1, hp => injection hp with hp; subst hp; rw [rep_int hrp]; rfl
        | 2, hp => injection hp with hp; subst hp; rw [rep_str hrp]; rfl
        | 3, hp => injection hp with hp; subst hp; rw [rep_int hrp]; rfl
        | 4, hp => injection hp with hp; subst hp; rw [rep_int hrp]; rfl
        | i + 5, hp => cases hp
      obtain ⟨p, hp⟩ : ∃ p, (cells c)[i]? = some p := ⟨_, List.getElem?_eq_getElem (by simpa [cells] using hi)⟩
      rw [hk p hp]
      exact (hc j (cells c) i p hm hp).1
theorem headP_in {h : Int × Int × Int} (hh : HR h) {q : PV} (plq : Pl q) {F : Nat → Prop} {v : Value} {w : World} (hv : Rep noG F w v q) (hg : Gl.ok w) :
    Calls Tryd.prog 32 #[.agg #[.int .i64 h.1, .int .i64 h.2.1, .int .i64 h.2.2, v]] w fun e w' => e = .returned (.string ⟨(headL h).toArray⟩) ∧ Below w.heap.size w w' := by
  have hc := run_head (a := h.1) (b := h.2.1) (c := h.2.2) hh plq
  have hv' : Rep noG (fun _ => False) w v q := hv.mono (S := fun _ => False) (fun _ _ _ h => h) (Chg.refl _ _) (fun _ h => h.elim) (fun _ h => h.elim)
  refine (call_plain hc hg (vals := #[.agg #[.int .i64 h.1, .int .i64 h.2.1, .int .i64 h.2.2, v]]) rfl ?_).mono ?_
  · intro i c hi
    match i, hi with
    | 0, hi =>
      injection hi with hi
      subst hi
      refine .agg _ _ rfl fun j d hj => ?_
      match j, hj with
      | 0, hj => injection hj with hj; subst hj; exact .int _ _
      | 1, hj => injection hj with hj; subst hj; exact .int _ _
      | 2, hj => injection hj with hj; subst hj; exact .int _ _
      | 3, hj => injection hj with hj; subst hj; exact hv'
      | j + 4, hj => cases hj
    | i + 1, hi => cases hi
  · rintro e w' ⟨u, he, hbl, hr⟩
    exact ⟨by rw [he, rep_str hr], hbl⟩
theorem lineP_in {c : Cm} (hc : CR c) (ht : c.t.length ≤ 140737488355328) {w : World} (hg : Gl.ok w) :
    Calls Tryd.prog 7 #[.agg #[.int .i64 c.k, .int .i64 c.se, .string ⟨c.t.toArray⟩, .int .i64 c.to, .int .i64 c.ke]] w fun e w' => e = .returned (.tuple #[.string ⟨(lineR c).1.toArray⟩, .int .i64 (lineR c).2]) ∧ Below w.heap.size w w' := by
  have hr := run_Line (k := c.k) hc.1 hc.2.1 hc.2.2 ht
  refine (call_plain hr hg (vals := #[.agg #[.int .i64 c.k, .int .i64 c.se, .string ⟨c.t.toArray⟩, .int .i64 c.to, .int .i64 c.ke]]) rfl ?_).mono ?_
  · intro i d hi
    match i, hi with
    | 0, hi =>
      injection hi with hi
      subst hi
      refine .agg _ _ rfl fun j d hj => ?_
      match j, hj with
      | 0, hj => injection hj with hj; subst hj; exact .int _ _
      | 1, hj => injection hj with hj; subst hj; exact .int _ _
      | 2, hj => injection hj with hj; subst hj; exact .str _
      | 3, hj => injection hj with hj; subst hj; exact .int _ _
      | 4, hj => injection hj with hj; subst hj; exact .int _ _
      | j + 5, hj => cases hj
    | i + 1, hi => cases hi
  · rintro e w' ⟨u, he, hbl, hr⟩
    obtain ⟨vs, rfl, hz, hv⟩ := rep_tuple hr
    have e0 := rep_str (hv 0 _ rfl)
    have e1 := rep_int (hv 1 _ rfl)
    refine ⟨?_, hbl⟩
    rw [he, arr2 hz, e0, e1]
theorem lineR_len {c : Cm} (hc : CR c) : (lineR c).1.length ≤ 5000 := by
  unfold lineR
  split; simp
  split; simp
  split; simp
  split; simp
  split; simp
  have l1 := itoa_len hc.1
  have l2 := itoa_len hc.2.1
  have l3 := itoa_len hc.2.2
  have l4 := wordL_len c.k
  unfold lineC
  split
  · simp
    omega
  · split
    · simp
      omega
    · simp
      omega
theorem writeL (B : Nat) (acc l : List UInt8) (w : World) (h : Lib.IsBuilderF 61 5 B B (Lib.byteCells acc) w) (hl : acc.length + l.length ≤ 1000000000) (hBw : B ≤ w.heap.size) :
    Calls Tryd.prog 31 #[.pointer (some ⟨B, 0, none⟩), .string (⟨l.toArray⟩ ++ ⟨#[10]⟩)] w fun e w' => ∃ v, e = .returned v ∧ Lib.IsBuilderF 61 5 B B (Lib.byteCells (acc ++ (l ++ [10]))) w' ∧ Below B w w' := by
  have hs : ((⟨l.toArray⟩ ++ ⟨#[10]⟩ : ByteArray)) = ⟨(l ++ [10]).toArray⟩ := by
    apply ByteArray.ext
    simp
  rw [hs]
  refine (writeS_f B B _ _ w h ?_ hBw).mono ?_
  · rw [Lib.byteCells_length]
    show _ + (l ++ [10]).toArray.size ≤ _
    simp
    omega
  · rintro e w' ⟨rfl, h1, h2⟩
    refine ⟨_, rfl, ?_, h2⟩
    rw [Lib.byteCells_append, ← Lib.strCells_toArray (l ++ [10])]
    exact .inr h1
set_option maxHeartbeats 4000000 in
set_option maxRecDepth 100000 in
theorem print_in {h : Int × Int × Int} {cs : List Cm} (hh : HR h) (hcs : ∀ c ∈ cs, CR c ∧ c.t.length ≤ 140737488355328) {q : PV} (plq : Pl q) (hq : (q = .nilSl ∧ cs = []) ∨ ∃ full, q = .sl (cs.map cells) full) {F : Nat → Prop} {v : Value} {w : World} (hv : Rep noG F w v q) (hg : Gl.ok w) :
    Calls Tryd.prog 15 #[.agg #[.int .i64 h.1, .int .i64 h.2.1, .int .i64 h.2.2, v]] w fun e w' => e = .returned (.tuple #[.string ⟨(printR h cs).1.toArray⟩, .int .i64 (printR h cs).2]) ∧ Below w.heap.size w w' := by
  obtain ⟨ao, cap, rfl, hrow⟩ := row_rep hv hq
  go_enter Tryd.func15, Tryd.ntmps15
  by_cases hl : 1024 < cs.length
  · have hl' : (1024 : Int) < (cs.length : Int) := by omega
    go_wp2
    refine bodyPost_ret (results_tmp2 rfl _ _ _) rfl ?_
    refine ⟨?_, (Below.refl _ w).alloc (Nat.le_refl _) _⟩
    unfold printR
    rw [if_pos hl]
    rfl
  · have hl' : ¬ (1024 : Int) < (cs.length : Int) := by omega
    have hvB : ∀ {W : World}, Below w.heap.size w W → Rep noG F W (.slice ao cs.length cap) q := fun hb => hv.mono (S := fun _ => False) (fun _ _ _ h => h) (chg_of_below hb) (fun _ h => h.elim) (fun _ h => .inl h)
    have hgB : ∀ {W : World}, Below w.heap.size w W → Gl.ok W := fun hb => Gl.stab hb hg
    have hb1 : Below w.heap.size w ((w.alloc (.cells #[.int .i64 h.1, .int .i64 h.2.1, .int .i64 h.2.2, .slice ao cs.length cap] 37)).alloc (.cells #[.pointer none, .slice none 0 0] 61)) := ((Below.refl _ w).alloc (Nat.le_refl _) _).alloc (by simp) _
    have hB0 := (Lib.IsBuilderF.of (Lib.fresh_isBuilder 61 5 (w.alloc (.cells #[.int .i64 h.1, .int .i64 h.2.1, .int .i64 h.2.2, .slice ao cs.length cap] 37))))
    rw [World.size_alloc] at hB0
    have hlh := headL_len hh
    have hN0 := (World.alloc_heap_new w (.cells #[.int .i64 h.1, .int .i64 h.2.1, .int .i64 h.2.2, .slice ao cs.length cap] 37))
    have hN1 := keep_cells hN0 (World.grownBy_alloc _ (.cells #[.pointer none, .slice none 0 0] 61) none) (by simp)
    go_wp2_with (first | (go_at_call 32; refine (headP_in hh plq (hvB hb1) (hgB hb1)).mono ?_; rintro e W1 ⟨rfl, hb2⟩; have hB1 := bld_bel hB0 hb2) | (go_at_call 31; refine (writeL (w.heap.size + 1) [] (headL h) _ hB1 (by simp; omega) (by have := hb2.size; simp at this; omega)).mono ?_; rintro e W2 ⟨u, rfl, hB2, hb3⟩; have hN2 := (hb3.block w.heap.size (by omega)).trans (keep_cells hN1 (grown_of hb2) (by simp)); have d3 : W2.cell? ⟨w.heap.size, 3, none⟩ = _ := Lib.cell_of_heap hN2 3; simp at d3))
    go_loopw [20] (fun p wr => ∃ (j : Nat) (acc : List UInt8), p = .int .i64 (j : Int) ∧ j ≤ cs.length ∧ Lib.IsBuilderF 61 5 (w.heap.size + 1) (w.heap.size + 1) (Lib.byteCells acc) wr ∧ Below w.heap.size w wr ∧ w.heap.size + 1 ≤ wr.heap.size ∧ printG (cs.drop j) acc = printG cs (headL h ++ [10]) ∧ acc.length ≤ 101 + j * 5001 ∧ acc ≠ []) (fun p wr => cs.length - (intOf p).toNat)
    case atStart =>
      have hbw2 : Below w.heap.size w W2 := (hb1.trans (hb2.mono hb1.size)).trans (hb3.mono (by omega))
      exact ⟨0, _, rfl, Nat.zero_le _, hB2, hbw2, by have h2 := hb2.size; have h3 := hb3.size; simp at h2; omega, rfl, by simp; omega, by simp⟩
    case round =>
      clear hb1 hB0 hN0 hN1 hb2 hB1 hB2 hb3 hN2 d3
      obtain ⟨j, acc, rfl, hj, hB, hbw, hsz, hpr, hal, hne⟩ := hrel
      rcases Nat.lt_or_ge j cs.length with hlt | hge
      · have hlt' : (j : Int) < (cs.length : Int) := by omega
        obtain ⟨c, hc⟩ : ∃ c, cs[j]? = some c := ⟨_, List.getElem?_eq_getElem hlt⟩
        obtain ⟨b, o, rfl, hb, hcell⟩ := hrow j c hc
        have hadd : ((⟨b, o, none⟩ : Addr).add (j * 5)) = ⟨b, o + j * 5, none⟩ := by
          unfold Addr.add
          split
          · rename_i e
            rw [e]
            rfl
          · rfl
        have k0 : wr.cell? ⟨b, o + j * 5, none⟩ = some (.int .i64 c.k) := (hbw.cell (p := ⟨b, o + j * 5, none⟩) hb).trans (hcell 0 (by omega))
        have k1 : wr.cell? ⟨b, o + j * 5 + 1, none⟩ = some (.int .i64 c.se) := (hbw.cell (p := ⟨b, o + j * 5 + 1, none⟩) hb).trans (hcell 1 (by omega))
        have k2 : wr.cell? ⟨b, o + j * 5 + 2, none⟩ = some (.string ⟨c.t.toArray⟩) := (hbw.cell (p := ⟨b, o + j * 5 + 2, none⟩) hb).trans (hcell 2 (by omega))
        have k3 : wr.cell? ⟨b, o + j * 5 + 3, none⟩ = some (.int .i64 c.to) := (hbw.cell (p := ⟨b, o + j * 5 + 3, none⟩) hb).trans (hcell 3 (by omega))
        have k4 : wr.cell? ⟨b, o + j * 5 + 4, none⟩ = some (.int .i64 c.ke) := (hbw.cell (p := ⟨b, o + j * 5 + 4, none⟩) hb).trans (hcell 4 (by omega))
        obtain ⟨hCR, htl⟩ := hcs c (List.mem_of_getElem? hc)
        have hw1 : Below w.heap.size w (wr.alloc (.cells #[.int .i64 c.k, .int .i64 c.se, .string ⟨c.t.toArray⟩, .int .i64 c.to, .int .i64 c.ke] 23)) := hbw.alloc hbw.size _
        have hll := lineR_len hCR
        have hdr : cs.drop j = c :: cs.drop (j + 1) := by
          rw [List.drop_eq_getElem_cons hlt]
          congr 1
          rw [List.getElem?_eq_getElem hlt] at hc
          injection hc
        rw [hdr, printG] at hpr
        by_cases h0 : (lineR c).2 = 0
        · rw [if_pos h0] at hpr
          go_wp2_with (first | (go_at_call 7; refine (lineP_in hCR htl (hgB hw1)).mono ?_; rintro e W3 ⟨rfl, hb4⟩; have hB3 := bld_bel (hB.alloc _) hb4; have hw3 := hw1.trans (hb4.mono hw1.size)) | (go_at_call 31; refine (writeL (w.heap.size + 1) acc (lineR c).1 _ hB3 (by omega) (by have h4 := hb4.size; simp at h4; omega)).mono ?_; rintro e W4 ⟨u', rfl, hB4, hb5⟩))
          go_roundw
          case rel =>
            exact ⟨j + 1, _, by simp, by omega, hB4, hw3.trans (hb5.mono (by omega)), by have h4 := hb4.size; have h5 := hb5.size; simp at h4; omega, hpr, by simp; omega, by simp⟩
          case measure =>
            simp only [intOf]
            omega
        · rw [if_neg h0] at hpr
          go_wp2_with (first | (go_at_call 7; refine (lineP_in hCR htl (hgB hw1)).mono ?_; rintro e W3 ⟨rfl, hb4⟩; have hw3 := hw1.trans (hb4.mono hw1.size)))
          refine bodyPost_ret (results_tmp2 rfl _ _ _) rfl ?_
          refine ⟨?_, hw3⟩
          unfold printR
          rw [if_neg hl, ← hpr]
          rfl
      · have hle : j = cs.length := by omega
        subst hle
        rw [List.drop_length, printG] at hpr
        go_wp2_with (go_at_call 33; refine (Tryd.Builder_String_f (w.heap.size + 1) (w.heap.size + 1) acc _ hB hne).mono ?_; rintro e W3 ⟨rfl, hB3, hb4⟩)
        refine bodyPost_ret (results_tmp2 rfl _ _ _) rfl ?_
        refine ⟨?_, hbw.trans (hb4.mono (by omega))⟩
        unfold printR
        rw [if_neg hl, ← hpr]
        rfl
end Go.Proofs.YtbeaalkfakjoiaaDoor
