/- script.Parse walked. -/
import Derived.Test.YtbeaalkfakjoiaaDoorScrMa
set_option linter.unusedVariables false
set_option linter.unusedSimpArgs false
namespace Go.Proofs.YtbeaalkfakjoiaaDoor
open Go Go.AM Go.RowKit Go.Shelf Go.RangeBox
attribute [local go_sem] Oper.semAt_some
set_option maxHeartbeats 4000000 in
set_option maxRecDepth 100000 in
theorem parse_in (t : List UInt8) (ht : t.length ≤ 1000000000) (w : World) (hg : Gl.ok w) {F : Nat → Prop} (hF : ∀ b, F b → b < w.heap.size) :
    CallsIn Fence.wide 5 Tryd.prog 17 #[.string ⟨t.toArray⟩] w fun e W' => ∃ u, e = .returned u ∧ Below w.heap.size w W' ∧ Rep noG F W' u (parPV (parR t)) := by
  refine callsIn_of_wp_marks Tryd.func17 rfl trivial ?_ rfl
  simp only [Tryd.ntmps17, List.size_toArray, List.length_cons, List.length_nil, Nat.reduceAdd, Nat.reduceSub, Array.replicate_succ, Array.replicate_zero, List.push_toArray, List.append_toArray, List.nil_append, List.cons_append]
  gi_wp2
  refine wpIn_wide.2 (wp_scope_straight ((wpIn_wide (n := 5)).1 ?_))
  gi_wp2
  refine wpIn_label ?_
  gi_wp2_with (refine ⟨trivial, ?_⟩; refine (Lines_in t _ _).mono ?_; rintro e w' ⟨rfl, rfl⟩)
  obtain ⟨W0, hW0⟩ : ∃ W0, (((((w.alloc (.cells #[.int .i64 0, .int .i64 0, .int .i64 0, .slice none 0 0] 37)).alloc (.cells #[.int .i64 0, .int .i64 0, .int .i64 0, .slice none 0 0] 37)).alloc (.cells #[.int .i64 1] 3)).alloc (.cells #[.int .i64 0] 3)).alloc (.cells #[.string ⟨t.toArray⟩] 9)) = W0 := ⟨_, rfl⟩
  have hsz : W0.heap.size = w.heap.size + 1 + 1 + 1 + 1 + 1 := by rw [← hW0]; simp
  have g1 : ∀ {A : World} {b : Nat} {us : Array Value} {T : TypeId} (o : Obj), A.heap[b]? = some (.cells us T (0, 0)) → (A.alloc o).heap[b]? = some (.cells us T (0, 0)) := fun o h => keep_cells h (World.grownBy_alloc _ o none) (by simp)
  have hb0 : W0.heap[w.heap.size + 1 + 1 + 1 + 1]? = some (.cells #[.string ⟨t.toArray⟩] 9 (0, 0)) := by
    rw [← hW0]
    have := World.alloc_heap_new ((((w.alloc (.cells #[.int .i64 0, .int .i64 0, .int .i64 0, .slice none 0 0] 37)).alloc (.cells #[.int .i64 0, .int .i64 0, .int .i64 0, .slice none 0 0] 37)).alloc (.cells #[.int .i64 1] 3)).alloc (.cells #[.int .i64 0] 3)) (.cells #[.string ⟨t.toArray⟩] 9)
    simpa using this
  have h0 : PI w (0, 0, 0) [] 1 0 W0 := by
    rw [← hW0]
    have n0 := World.alloc_heap_new w (.cells #[.int .i64 0, .int .i64 0, .int .i64 0, .slice none 0 0] 37)
    have n1 := World.alloc_heap_new (w.alloc (.cells #[.int .i64 0, .int .i64 0, .int .i64 0, .slice none 0 0] 37)) (.cells #[.int .i64 0, .int .i64 0, .int .i64 0, .slice none 0 0] 37)
    have n2 := World.alloc_heap_new ((w.alloc (.cells #[.int .i64 0, .int .i64 0, .int .i64 0, .slice none 0 0] 37)).alloc (.cells #[.int .i64 0, .int .i64 0, .int .i64 0, .slice none 0 0] 37)) (.cells #[.int .i64 1] 3)
    have n3 := World.alloc_heap_new (((w.alloc (.cells #[.int .i64 0, .int .i64 0, .int .i64 0, .slice none 0 0] 37)).alloc (.cells #[.int .i64 0, .int .i64 0, .int .i64 0, .slice none 0 0] 37)).alloc (.cells #[.int .i64 1] 3)) (.cells #[.int .i64 0] 3)
    rw [World.size_alloc] at n1 n2 n3
    rw [World.size_alloc] at n2 n3
    rw [World.size_alloc] at n3
    refine ⟨?_, g1 _ (g1 _ (g1 _ (g1 _ n0))), ⟨_, g1 _ (g1 _ (g1 _ n1)), World.ownsRow_nil _ _ _ _, by simp⟩, g1 _ (g1 _ n2), g1 _ n3, ⟨_, by rw [hW0]; exact hb0⟩⟩
    exact ((((((Below.refl w.heap.size w).alloc (Nat.le_refl _) _).alloc (by simp) _).alloc (by simp; omega) _).alloc (by simp; omega) _).alloc (by simp; omega) _)
  rw [hW0]
  refine wpIn_rangeFunc_steps rfl (by decide) (gf := 52) (lb := #[.pointer (some ⟨w.heap.size + 1 + 1 + 1 + 1, 0, none⟩)]) rfl trivial (enters_of Tryd.func52 (by kernel_rfl) rfl)
    (lines_seq (w.heap.size + 1 + 1 + 1 + 1) t (by omega) W0 hb0 _) ?hSt ?hKt ?hKb (Below.refl _ _) (fun _ => rfl) (PIn w) (PIx w) ?hI ?hIx ?hIW ?hIS ?hIxS ⟨[], (0, 0, 0), [], rfl, ⟨rfl, rfl⟩, h0⟩
    (fun x => { tmps := #[.string ⟨t.toArray⟩, undef, .pointer (some ⟨w.heap.size, 0, none⟩), .int .i64 0, .int .i64 0, .pointer (some ⟨w.heap.size + 1, 0, none⟩), .pointer (some ⟨w.heap.size + 1 + 1, 0, none⟩), .pointer (some ⟨w.heap.size + 1 + 1 + 1, 0, none⟩), .int .i64 x.1, .string ⟨x.2.toArray⟩, undef, undef, undef, undef, .string ⟨t.toArray⟩, .func (.func 52) #[] #[.pointer (some ⟨w.heap.size + 1 + 1 + 1 + 1, 0, none⟩)], .int .i64 x.1, .string ⟨x.2.toArray⟩, undef, undef, undef, undef, undef, undef, undef, undef, undef, undef, undef, undef, undef, undef, undef, undef, undef, undef, undef, undef, undef, undef, undef, undef, undef, undef, undef, undef, undef, undef, undef, undef, undef, undef, undef, undef, undef, undef, undef, undef, undef, undef, undef, undef], defers := [] }) ?assign ?body ?done ?stop
  case hSt =>
    rintro A B k o ⟨v, rfl⟩ ho hc
    exact (KeepsOthers.setCell A _ _).same k o ho hc
  case hKt => exact fun h1 h2 => h2.trans h1
  case hKb =>
    intro W l o o' hl ho _ _
    exact World.putObj_heap_other (by omega)
  case hI =>
    rintro s A B row ⟨ls, h, cs, e, hok, hp⟩ hg hr
    exact ⟨ls, h, cs, e, hok, hp.grown hg fun r e => ⟨by have := (hr r e).1; omega, (hr r e).2⟩⟩
  case hIx =>
    rintro c s A B row ⟨e0, ls, x, h, cs, h', cs', e, hok, hf, hp⟩ hg hr
    exact ⟨e0, ls, x, h, cs, h', cs', e, hok, hf, hp.grown hg fun r e => ⟨by have := (hr r e).1; omega, (hr r e).2⟩⟩
  case hIW =>
    rintro s A ⟨ls, h, cs, e, hok, hp⟩
    exact Gl.stab hp.below hg
  case hIS =>
    rintro s A B ⟨ls, h, cs, e, hok, hp⟩ ⟨v, rfl⟩
    exact ⟨ls, h, cs, e, hok, hp.setI v⟩
  case hIxS =>
    rintro c s A B ⟨e0, ls, x, h, cs, h', cs', e, hok, hf, hp⟩ ⟨v, rfl⟩
    exact ⟨e0, ls, x, h, cs, h', cs', e, hok, hf, hp.setI v⟩
  case assign =>
    intro l x W K hK
    unfold encX
    gi_wp2
    exact hK
  case body =>
    clear hW0 h0 hb0
    rintro l pre x W ⟨ls, h, cs, rfl, hok, hpi⟩ ⟨rest, hgd⟩
    obtain ⟨hx1, b, hx2⟩ := numL_split hgd
    have hx3 : x.2.length ≤ 1000000000 := by
      have := lines_len t x.2 (by rw [hx2]; simp)
      omega
    clear hgd hx2
    generalize hwr : (if ls = [] then (1 : Int) else 0) = wr at hpi
    clear hwr
    obtain ⟨la, hla⟩ : ∃ la : Int, (ls.length : Int) = la := ⟨_, rfl⟩
    rw [hla] at hpi
    clear hla
    obtain ⟨x1, x2⟩ := x
    simp only at hx1 hx3
    have cw := hpi.wro.cell
    have fw := hpi.wro.frozen
    have cl := hpi.las.cell
    have fl := hpi.las.frozen
    by_cases hls : ls = []
    · subst hls
      simp only [List.length_nil, Nat.add_zero, Int.natCast_one] at hx1
      subst hx1
      have p1 := (hpi.setW 1).setL 1
      gi_wp2_with (refine ⟨trivial, ?_⟩; refine ((callsIn_wide.2 (head_in hx3 (Gl.stab p1.below hg))).inRound l).mono ?_; rintro e W1 ⟨h1, rfl, hh, hb1⟩; have p2 := p1.bel hb1; have p3 := p2.alloc (.cells #[.int .i64 h1.1, .int .i64 h1.2.1, .int .i64 h1.2.2, .slice none 0 0] 37); obtain ⟨v, s1, s2, s3, c0, c1, c2, c3, f0, f1, f2, f3⟩ := p3.cells; have cw3 := p3.wro.cell; have fw3 := p3.wro.frozen)
      · have hn : (hdO x2).isNone = true := by assumption
        have hn' : hdO x2 = none := Option.isNone_iff_eq_none.1 hn
        have rd := ((Rd.set (b := w.heap.size + 1 + 1 + 1 + 1) W (w.heap.size + 1 + 1) 0 (.int .i64 1) (by omega)).trans (Rd.set _ (w.heap.size + 1 + 1 + 1) 0 (.int .i64 1) (by omega))).trans ((Rd.bel hb1).trans (Rd.alloc _ _ (.cells #[.int .i64 h1.1, .int .i64 h1.2.1, .int .i64 h1.2.2, .slice none 0 0] 37)))
        exact ⟨rd.others.from _, rfl, [], x2, h, cs, _, _, rfl, hok, .inl ⟨rfl, hn'⟩, p3⟩
      · have hn : (hdO x2).isNone = false := by assumption
        obtain ⟨h2, hn'⟩ : ∃ h2, hdO x2 = some h2 := by
          cases e : hdO x2 with
          | none => rw [e] at hn; cases hn
          | some y => exact ⟨y, rfl⟩
        obtain rfl := hh h2 hn'
        have rd := ((Rd.set (b := w.heap.size + 1 + 1 + 1 + 1) W (w.heap.size + 1 + 1) 0 (.int .i64 1) (by omega)).trans (Rd.set _ (w.heap.size + 1 + 1 + 1) 0 (.int .i64 1) (by omega))).trans ((Rd.bel hb1).trans (Rd.alloc _ _ (.cells #[.int .i64 h2.1, .int .i64 h2.2.1, .int .i64 h2.2.2, .slice none 0 0] 37)))
        have rd2 := rd.trans (((((Rd.set _ (w.heap.size + 1) 0 (.int .i64 h2.1) (by omega)).trans (Rd.set _ (w.heap.size + 1) 1 (.int .i64 h2.2.1) (by omega))).trans (Rd.set _ (w.heap.size + 1) 2 (.int .i64 h2.2.2) (by omega))).trans (Rd.set _ (w.heap.size + 1) 3 (.slice none 0 0) (by omega))).trans (Rd.set _ (w.heap.size + 1 + 1) 0 (.int .i64 0) (by omega)))
        obtain ⟨rfl, rfl⟩ := hok
        have hlt : w.heap.size + 1 + 1 + 1 + 1 < W.heap.size := by
          obtain ⟨i, hi⟩ := hpi.itr
          exact hi.lt
        exact ⟨rd2.others.from _, rd2.itr hlt, [x2], h2, [], rfl, ⟨hn', rfl, by simp⟩, (p3.setH h2).setW 0⟩
    · have hne : ¬ x1 = 1 := by
        have : 0 < ls.length := List.length_pos_iff.2 hls
        omega
      have hxe : (ls.length : Int) + 1 = x1 := by omega
      clear hx1
      obtain ⟨i0, hi, hz0, hz1, hz2⟩ := info_parts info23
      have hcs : cs.length ≤ 1024 := by
        cases ls with
        | nil => exact absurd rfl hls
        | cons y r => exact hok.2.2
      have p1 := (hpi.setW x1).setL x1
      have hlt : w.heap.size + 1 + 1 + 1 + 1 < W.heap.size := by
        obtain ⟨i, hi⟩ := hpi.itr
        exact hi.lt
      have rd0 := (Rd.set (b := w.heap.size + 1 + 1 + 1 + 1) W (w.heap.size + 1 + 1) 0 (.int .i64 x1) (by omega)).trans (Rd.set _ (w.heap.size + 1 + 1 + 1) 0 (.int .i64 x1) (by omega))
      have L := line_in hx3 (Gl.stab p1.below hg)
      have hpre : numL 1 ls ++ [(x1, x2)] = numL 1 (ls ++ [x2]) := by
        rw [numL_app, numL]
        congr 2
        simp [numL]
        omega
      rw [hpre]
      rcases hpl : plO x2 with _ | cc
      · rw [hpl] at L
        simp only [Option.isSome_none] at L
        gi_wp2_with (refine ⟨trivial, ?_⟩; refine ((callsIn_wide.2 L).inRound l).mono ?_; rintro e W1 ⟨c, rfl, hh, hb1⟩; have p2 := p1.bel hb1; have p3 := p2.alloc (.cells #[.int .i64 c.k, .int .i64 c.se, .string ⟨c.t.toArray⟩, .int .i64 c.to, .int .i64 c.ke] 23); obtain ⟨v, s2, s3, s1, c0, c1, c2, c3, f0, f1, f2, f3⟩ := p3.cells; obtain ⟨ad, cap, hv⟩ := own_shape s2; subst hv)
        have rd := rd0.trans ((Rd.bel hb1).trans (Rd.alloc _ _ (.cells #[.int .i64 c.k, .int .i64 c.se, .string ⟨c.t.toArray⟩, .int .i64 c.to, .int .i64 c.ke] 23)))
        rw [← hxe] at p3
        exact ⟨rd.others.from _, rfl, ls, x2, h, cs, _, _, rfl, hok, .inr ⟨hls, .inl hpl⟩, p3⟩
      · rw [hpl] at L
        simp only [Option.isSome_some] at L
        by_cases hfull : cs.length = 1024
        · have hfe : ((cs.length : Int) == 1024) = true := by simp; omega
          gi_wp2_with (refine ⟨trivial, ?_⟩; refine ((callsIn_wide.2 L).inRound l).mono ?_; rintro e W1 ⟨c, rfl, hh, hb1⟩; have p2 := p1.bel hb1; have p3 := p2.alloc (.cells #[.int .i64 c.k, .int .i64 c.se, .string ⟨c.t.toArray⟩, .int .i64 c.to, .int .i64 c.ke] 23); obtain ⟨v, s2, s3, s1, c0, c1, c2, c3, f0, f1, f2, f3⟩ := p3.cells; obtain ⟨ad, cap, hv⟩ := own_shape s2; subst hv)
          have rd := rd0.trans ((Rd.bel hb1).trans (Rd.alloc _ _ (.cells #[.int .i64 c.k, .int .i64 c.se, .string ⟨c.t.toArray⟩, .int .i64 c.to, .int .i64 c.ke] 23)))
          rw [← hxe] at p3
          exact ⟨rd.others.from _, rfl, ls, x2, h, cs, _, _, rfl, hok, .inr ⟨hls, .inr hfull⟩, p3⟩
        · have hfe : ((cs.length : Int) == 1024) = false := by simp; omega
          gi_wp2_with (first | (refine ⟨trivial, ?_⟩; refine ((callsIn_wide.2 L).inRound l).mono ?_; rintro e W1 ⟨c, rfl, hh, hb1⟩; have p2 := p1.bel hb1; have p3 := p2.alloc (.cells #[.int .i64 c.k, .int .i64 c.se, .string ⟨c.t.toArray⟩, .int .i64 c.to, .int .i64 c.ke] 23); obtain ⟨v, s2, s3, s1, c0, c1, c2, c3, f0, f1, f2, f3⟩ := p3.cells; obtain ⟨ad, cap, hv⟩ := own_shape s2; subst hv) | (gi_at_builtin; refine wpListIn_append_own _ rfl _ _ 35 rfl w.heap.size 23 i0 (.agg #[.int .i64 0, .int .i64 0, .string ⟨#[]⟩, .int .i64 0, .int .i64 0]) 5 48 Tryd.underlying35 hi hz0 hz1 hz2 rfl (by decide) _ _ _ rfl (s2.alloc _) ⟨W1.heap.size + 1, 0, none⟩ 1 1 (cmC c) rfl rfl (cell_new5 _ c 23 (by simp)) (by simp [cmC, Value.oneCell']) (by simp [maxLen]; omega) (by omega) (by have := p3.below.size; simp at this ⊢; omega) ?_; intro v' w1 hown' hgrow _; obtain ⟨g', cap', rfl⟩ := ownsRow_succ hown'; obtain ⟨q1, q2, q3, q4⟩ := p3.app c s1 s2 hown' hgrow; have d3 : w1.cell? ⟨w.heap.size + 1, 3, none⟩ = _ := Lib.cell_of_heap q1 3; have g3 := Lib.frozen_of_heap q1 3; have d4 := q2.cell; have g4 := q2.frozen; simp at d3))
          obtain rfl := hh cc rfl
          have rd := rd0.trans ((Rd.bel hb1).trans ((Rd.alloc _ _ (.cells #[.int .i64 cc.k, .int .i64 cc.se, .string ⟨cc.t.toArray⟩, .int .i64 cc.to, .int .i64 cc.ke] 23)).trans (q4.trans (Rd.set _ (w.heap.size + 1 + 1) 0 (.int .i64 0) (by omega)))))
          refine ⟨rd.others.from _, rd.itr hlt, ls ++ [x2], h, cs ++ [cc], rfl, ?_, ?_⟩
          · cases ls with
            | nil => exact absurd rfl hls
            | cons y r => exact ⟨hok.1, by show List.map plO (r ++ [x2]) = _; rw [List.map_append, hok.2.1, List.map_append, List.map_cons, List.map_nil, hpl]; rfl, by simp; omega⟩
          · have q5 := q3.setW 0
            rw [← hxe] at q5
            rw [if_neg (by simp)]
            simpa using q5
  case done =>
    rintro D ys W hD rfl ⟨ls, h, cs, hpre, hok, hpi⟩ hK
    have hls := numL_inj 1 _ _ hpre
    clear hW0 h0 hb0 hpre
    have hgW : Gl.ok W := Gl.stab hpi.below hg
    have hmix : Tryd.prog.follows .mixedOrders = true := by kernel_rfl
    obtain ⟨r0, r1, r2, r3, e0, e1, e2, e3⟩ := hpi.rcells
    have cw := hpi.wro.cell
    have fw := hpi.wro.frozen
    by_cases hl : ls = []
    · rw [if_pos hl] at hpi cw
      have hres : parR t = (none, 1) := by
        unfold parR
        rw [hls, hl]
      gi_wp2_with (refine ⟨trivial, ?_⟩)
      first | (gi_region_with_o (skip)) | fail
      all_goals gi_wp2
      all_goals
        obtain ⟨m1, m2, m3, m4⟩ := hpi.fin (0, 0, 0) (.slice none 0 0) rfl
        have hK' := m4 hK rfl
        have hDn : w.heap.size < D := by omega
        show bodyPostM _ _ _ _ _ Exit.ret _ _
        refine ⟨by simp, .inl ⟨_, _, rfl, run_takeDeferred hK', ?_⟩⟩
        exact ⟨_, res17 rfl rfl rfl ((World.putObj_heap_other (by omega)).trans m2), _, rfl, m1.drew.trans (belowK_b (w := w) (Nat.le_refl _) _ D _ _ (by omega) hK' rfl rfl), by rw [hres]; exact rep_bad _⟩
    · rw [if_neg hl] at hpi cw
      have cl := hpi.las.cell
      have fl := hpi.las.frozen
      have hL := suff_in (s := t) ht hgW
      cases hen : ends t with
      | false =>
        have hres : parR t = (none, (ls.length : Int)) := by
          rw [parR_end hls hok hl, hen]
          rfl
        rw [hen] at hL
        have hll : ((ls.length : Int) == 0) = false := by
          have : 0 < ls.length := List.length_pos_iff.2 hl
          simp
          omega
        clear r0 r1 r2 r3 e0 e1 e2 e3
        gi_wp2_with (refine ⟨trivial, ?_⟩; refine (callsIn_wide.2 hL).mono ?_; rintro e W1 ⟨rfl, hb1⟩; have p1 := hpi.bel hb1; have cw1 := p1.wro.cell; have fw1 := p1.wro.frozen; have cl1 := p1.las.cell; have fl1 := p1.las.frozen; have p2 := p1.setW (ls.length : Int); have cw2 := p2.wro.cell; obtain ⟨r0, r1, r2, r3, e0, e1, e2, e3⟩ := p2.rcells; have hK1 := (Rd.bel (b := 0) hb1).others.same D _ hK rfl; have hK2 := (KeepsOthers.setCell W1 ⟨w.heap.size + 1 + 1, 0, none⟩ (.int .i64 (ls.length : Int))).same D _ hK1 rfl)
        first | (gi_region_with_o (skip)) | fail
        all_goals gi_wp2
        all_goals
          obtain ⟨m1, m2, m3, m4⟩ := p2.fin (0, 0, 0) (.slice none 0 0) rfl
          have hK' := m4 hK2 rfl
          have hDn : w.heap.size < D := by omega
          show bodyPostM _ _ _ _ _ Exit.ret _ _
          refine ⟨by simp, .inl ⟨_, _, rfl, run_takeDeferred hK', ?_⟩⟩
          exact ⟨_, res17 rfl rfl rfl ((World.putObj_heap_other (by omega)).trans m2), _, rfl, m1.drew.trans (belowK_b (w := w) (Nat.le_refl _) _ D _ _ (by omega) hK' rfl rfl), by rw [hres]; exact rep_bad _⟩
      | true =>
        have hres : parR t = (some (h, cs), 0) := by
          rw [parR_end hls hok hl, hen]
          rfl
        rw [hen] at hL
        gi_wp2_with (refine ⟨trivial, ?_⟩; refine (callsIn_wide.2 hL).mono ?_; rintro e W1 ⟨rfl, hb1⟩; have p1 := hpi.bel hb1; obtain ⟨v, s2, s3, s1, c0, c1, c2, c3, f0, f1, f2, f3⟩ := p1.cells; obtain ⟨ad, cap, hv⟩ := own_shape s2; subst hv; obtain ⟨q0, q1, q2, q3, k0, k1, k2, k3⟩ := p1.rcells; have cw1 := p1.wro.cell; have fw1 := p1.wro.frozen)
        obtain ⟨m1, m2, m3, m4⟩ := p1.fin h (.slice ad cs.length cap) rfl
        have hK1 := (Rd.bel (b := 0) hb1).others.same D _ hK rfl
        have hK' := m4 hK1 rfl
        have hDn : w.heap.size < D := by omega
        show bodyPostM _ _ _ _ _ Exit.ret _ _
        refine ⟨by simp, .inl ⟨_, _, rfl, run_takeDeferred hK', ?_⟩⟩
        exact ⟨_, res17 rfl rfl rfl ((World.putObj_heap_other (by omega)).trans m2), _, rfl, m1.trans (belowK_b (w := w) (Nat.le_refl _) _ D _ _ (by omega) hK' rfl rfl), by rw [hres]; exact rep_good (rep_row hF (ownsRow_putObj (m3 s2) _ hK' rfl) s3) _⟩
  case stop =>
    rintro D c pre W hD ⟨rest, hsp⟩ ⟨rfl, ls, x, h, cs, h', cs', rfl, hok, hf, hpi⟩ hK
    clear hW0 h0 hb0
    have hres : parR t = (none, (ls.length : Int) + 1) := by
      rw [numL_app, numL, List.append_assoc, List.cons_append] at hsp
      obtain ⟨_, b, hb⟩ := numL_split hsp
      exact parR_bad hb hok hf
    have hmix : Tryd.prog.follows .mixedOrders = true := by kernel_rfl
    obtain ⟨r0, r1, r2, r3, e0, e1, e2, e3⟩ := hpi.rcells
    have cw := hpi.wro.cell
    have fw := hpi.wro.frozen
    obtain ⟨la, hla⟩ : ∃ la : Int, (ls.length : Int) + 1 = la := ⟨_, rfl⟩
    have hll : (la == 0) = false := by simp; omega
    have hll2 : ¬ la = 0 := by omega
    rw [hla] at hpi hres cw
    clear hla
    gi_wp2_with (refine ⟨trivial, ?_⟩)
    first | (gi_region_with_o (skip)) | fail
    all_goals gi_wp2
    all_goals
      obtain ⟨m1, m2, m3, m4⟩ := hpi.fin (0, 0, 0) (.slice none 0 0) rfl
      have hK' := m4 hK rfl
      have hDn : w.heap.size < D := by omega
      show bodyPostM _ _ _ _ _ Exit.ret _ _
      refine ⟨by simp, .inl ⟨_, _, rfl, run_takeDeferred hK', ?_⟩⟩
      exact ⟨_, res17 rfl rfl rfl ((World.putObj_heap_other (by omega)).trans m2), _, rfl, m1.drew.trans (belowK_b (w := w) (Nat.le_refl _) _ D _ _ (by omega) hK' rfl rfl), by rw [hres]; exact rep_bad _⟩
end Go.Proofs.YtbeaalkfakjoiaaDoor
