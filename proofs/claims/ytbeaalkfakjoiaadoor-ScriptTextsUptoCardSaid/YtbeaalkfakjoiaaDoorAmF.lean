/- The abstract machine: AM22: a run of plain code is a run of the machine. · AM23: a run, found step by step. · AM24: steps that reckon themselves. -/
import Derived.Test.YtbeaalkfakjoiaaDoorAmE
set_option linter.unusedSectionVars false
set_option linter.unusedVariables false
set_option linter.unusedSimpArgs false
namespace Go.AM
open Go.RowKit
variable [Gl]
section
variable {P : Program} {X : Cx} {st : St} {G : Gh} {w : World} {n : Nat} {ρ : Env} {a : Act}
def ghBel (G : Gh) (m : Nat) : Gh := fun t g => if t < m then G t g else none
theorem rep_bel {own own' : Nat → Prop} {m : Nat} (ho : ∀ b, own' b → own b) {v : Value} {p : PV} (h : Rep G own w v p) : Bel m p → Rep (ghBel G m) own' w v p := by
  have g : ∀ {t g' : Nat} {L : Loc}, t < m → G t g' = some L → ghBel G m t g' = some L := fun h1 h2 => by simp [ghBel, h1, h2]
  have mem : ∀ {α : Type} {l : List α} {i : Nat} {x : α}, l[i]? = some x → x ∈ l := fun h => List.mem_of_getElem? h
  induction h with
  | junk v => intro _; exact .junk v
  | bool b => intro _; exact .bool b
  | int k n => intro _; exact .int k n
  | str s => intro _; exact .str s
  | nilPtr => intro _; exact .nilPtr
  | ptr t off L h => intro hb; cases hb with | ptr _ _ h' => exact .ptr t off L (g h' h)
  | rptr t g' i off L h => intro hb; cases hb with | rptr _ _ _ _ h' => exact .rptr t g' i off L (g h' h)
  | iptr cells off b o u hc hr ih => intro hb; cases hb with | iptr _ _ h' => exact .iptr cells off b o u (fun i c hi => ⟨(hc i c hi).1, fun x => (hc i c hi).2 (ho b x)⟩) (fun i c hi => ih i c hi (h' c (mem hi)))
  | nilSl => intro _; exact .nilSl
  | sl xs full b o cap sz adr u hcap hfull hadr hsz hc hr ih =>
    intro hb
    cases hb with
    | sl _ _ h' => exact .sl xs full b o cap sz adr u hcap hfull hadr hsz (fun j cs i c hj hi => ⟨(hc j cs i c hj hi).1, fun x => (hc j cs i c hj hi).2 (ho b x)⟩) (fun j cs i c hj hi => ih j cs i c hj hi (h' cs (mem hj) c (mem hi)))
  | osl t g' off len full L cap a h hcap hL hfull ha hs => intro hb; cases hb with | osl _ _ _ _ _ h' => exact .osl t g' off len full L cap a (g h' h) hcap hL hfull ha hs
  | vsl t off sz len L cap a h hcap ha hs => intro hb; cases hb with | vsl _ _ _ _ h' => exact .vsl t off sz len L cap a (g h' h) hcap ha hs
  | func f caps vs hs h ih => intro hb; cases hb with | func _ _ h' => exact .func f caps vs hs (fun i c hi => ih i c hi (h' c (mem hi)))
  | nilFunc => intro _; exact .nilFunc
  | iface ty v p h ih => intro hb; cases hb with | iface _ _ h' => exact .iface ty v p (ih h')
  | nilIface => intro _; exact .nilIface
  | agg cs vs hs h ih => intro hb; cases hb with | agg _ h' => exact .agg cs vs hs (fun i c hi => ih i c hi (h' c (mem hi)))
  | tuple cs vs hs h ih => intro hb; cases hb with | tuple _ h' => exact .tuple cs vs hs (fun i c hi => ih i c hi (h' c (mem hi)))
  | mapv t L h => intro hb; cases hb with | mapv _ h' => exact .mapv t L (g h' h)
theorem weak_inv (hI : Inv X st G w) (hE : EnvRep G (OwnF X st G) w n ρ a) {ρ' : Env} {st' : St} (hw : Weak ρ st ρ' st') : ∃ G', Inv X st' G' w ∧ EnvRep G' (OwnF X st' G') w n ρ' a := by
  have gb : ∀ {t g : Nat} {L : Loc}, ghBel G st'.next t g = some L → t < st'.next ∧ G t g = some L := by
    intro t g L h
    unfold ghBel at h
    split at h
    · rename_i hlt; exact ⟨hlt, h⟩
    · cases h
  have bg : ∀ {t g : Nat} {L : Loc}, t < st'.next → G t g = some L → ghBel G st'.next t g = some L := fun h1 h2 => by simp [ghBel, h1, h2]
  have hlive : ∀ {t : Nat} {k : Tok}, st'.get t = some k → k.live = true → st.get t = some k := by
    intro t k h hl
    rcases (hw.toks t k h).2.2 with h1 | ⟨g, sz, es, rfl, _⟩
    · exact h1
    · cases hl
  have hown : ∀ b, Own st' (ghBel G st'.next) b → Own st G b := by
    rintro b ⟨t, k, L, h1, h2, h3, h4⟩
    exact ⟨t, k, L, hlive h1 h2, h2, (gb h3).2, h4⟩
  have hownF : ∀ b, OwnF X st' (ghBel G st'.next) b → OwnF X st G b := fun b h => h.imp id (hown b)
  have hbn := hw.next
  have hbb := hw.base
  refine ⟨ghBel G st'.next, ⟨fun t g L h => ⟨(gb h).1, (hI.low t g L (gb h).2).2⟩, hbn.1, fun t g L h => ?_, fun t k h => ?_, fun t k g L h hg => ?_, ?_, fun t g L h => ?_, fun t k h => ?_, hI.frame, fun b h => hI.ownb b (hown b h), hI.foreign, hI.glob⟩, hE.defers, hE.size, fun t p hp => ?_⟩
  · have := hI.old t g L h
    exact ⟨by omega, bg (by omega) this.2⟩
  · obtain ⟨hlt, hbel, hk⟩ := hw.toks t k h
    rcases hk with hk | ⟨g, sz, es, rfl, hk⟩
    · have htr := hI.toks t k hk
      cases k with
      | var cs =>
        obtain ⟨L, h1, h2, h3⟩ := htr
        exact ⟨L, bg hlt h1, h2, fun i p hi => by
          obtain ⟨v, e1, e2⟩ := h3 i p hi
          exact ⟨v, e1, rep_bel hownF e2 (hbel p (List.mem_of_getElem? hi))⟩⟩
      | row g sz es lv =>
        obtain ⟨L, h1, h2, h3, h4, h5, h6⟩ := htr
        exact ⟨L, bg hlt h1, h2, h3, h4, fun j cs hj => ⟨(h5 j cs hj).1, fun i p hi => by
          obtain ⟨v, e1, e2⟩ := (h5 j cs hj).2 i p hi
          exact ⟨v, e1, rep_bel hownF e2 (hbel cs (List.mem_of_getElem? hj) p (List.mem_of_getElem? hi))⟩⟩, fun hl ho => h6 hl (hownF _ ho)⟩
      | mp es =>
        obtain ⟨L, ms, clock, h1, h2, h3, h4⟩ := htr
        exact ⟨L, ms, clock, bg hlt h1, h2, h3, fun i s p hi => by
          obtain ⟨e, e1, e2, e3⟩ := h4 i s p hi
          exact ⟨e, e1, e2, rep_bel hownF e3 (hbel _ (List.mem_of_getElem? hi))⟩⟩
    · obtain ⟨L, h1, h2, h3, h4, h5, h6⟩ := hI.toks t _ hk
      refine ⟨L, bg hlt h1, h2, h3, h4, fun j cs hj => ⟨(h5 j cs hj).1, fun i p hi => by
          obtain ⟨v, e1, e2⟩ := (h5 j cs hj).2 i p hi
          exact ⟨v, e1, rep_bel hownF e2 (hbel cs (List.mem_of_getElem? hj) p (List.mem_of_getElem? hi))⟩⟩, fun _ ho => ?_⟩
      rcases ho with ho | ⟨t', k', L', e1, e2, e3, e4⟩
      · exact hI.f_own ho ⟨t, _, L, hk, rfl, h1, rfl⟩
      · have := hI.inj t' t k' _ L' L (hlive e1 e2) hk e2 rfl (gb e3).2 h1 e4
        subst this
        rw [h] at e1
        injection e1 with e1
        subst e1
        cases e2
  · obtain ⟨hlt, hbel, hk⟩ := hw.toks t k h
    rcases hk with hk | ⟨g', sz, es, rfl, hk⟩
    · exact hI.gens t k g L hk (gb hg).2
    · exact (hI.gens t _ g L hk (gb hg).2 : g ≤ g')
  · intro t t' k k' L L' h1 h2 l1 l2 g1 g2 he
    exact hI.inj t t' k k' L L' (hlive h1 l1) (hlive h2 l2) l1 l2 (gb g1).2 (gb g2).2 he
  · rw [hbb]
    exact hI.newg t g L (gb h).2
  · rw [hbb]
    rcases (hw.toks t k h).2.2 with h1 | ⟨g, sz, es, _, h1⟩
    · exact hI.dom t k h1
    · exact hI.dom t _ h1
  · rcases hw.env t p hp with rfl | ⟨h1, h2⟩
    · exact .junk _
    · exact rep_bel hownF (hE.reps t p h1) h2
theorem St.get_put' (st : St) (t u : Nat) (k : Tok) : (st.put t k).get u = if t = u then some k else st.get u := getA_putA t u k st.toks
theorem frozen_inv (hI : Inv X st G w) (hE : EnvRep G (OwnF X st G) w n ρ a) {t g sz : Nat} {es : List (List PV)} (hg : st.get t = some (.row g sz es true)) : Inv X (st.put t (.row g sz es false)) G w ∧ EnvRep G (OwnF X (st.put t (.row g sz es false)) G) w n ρ a := by
  have hlive : ∀ {u : Nat} {k : Tok}, (st.put t (.row g sz es false)).get u = some k → k.live = true → st.get u = some k ∧ u ≠ t := by
    intro u k h hl
    rw [St.get_put'] at h
    split at h
    · injection h with h
      subst h
      cases hl
    · rename_i hne
      exact ⟨h, fun e => hne e.symm⟩
  have hold : ∀ {u : Nat} {k : Tok}, (st.put t (.row g sz es false)).get u = some k → ∃ k0, st.get u = some k0 ∧ k0.gen = k.gen := by
    intro u k h
    rw [St.get_put'] at h
    split at h
    · rename_i e
      subst e
      injection h with h
      subst h
      exact ⟨_, hg, rfl⟩
    · exact ⟨k, h, rfl⟩
  have hown : ∀ b, Own (st.put t (.row g sz es false)) G b → Own st G b := by
    rintro b ⟨u, k, L, h1, h2, h3, h4⟩
    exact ⟨u, k, L, (hlive h1 h2).1, h2, h3, h4⟩
  have hownF : ∀ b, OwnF X (st.put t (.row g sz es false)) G b → OwnF X st G b := fun b h => h.imp id (hown b)
  have hrep : ∀ {v : Value} {p : PV}, Rep G (OwnF X st G) w v p → Rep G (OwnF X (st.put t (.row g sz es false)) G) w v p := fun h =>
    h.mono (fun _ _ _ h => h) (Chg.refl (fun _ => False) w) (fun b h => h.elim) (fun b h => .inl (hownF b h))
  refine ⟨⟨hI.low, hI.base, hI.old, fun u k h => ?_, fun u k g' L h hg' => ?_, ?_, hI.newg, fun u k h => ?_, hI.frame, fun b h => hI.ownb b (hown b h), hI.foreign, hI.glob⟩, hE.defers, hE.size, fun u p hp => hrep (hE.reps u p hp)⟩
  · rw [St.get_put'] at h
    split at h
    · rename_i e
      subst e
      injection h with h
      subst h
      obtain ⟨L, h1, h2, h3, h4, h5, h6⟩ := hI.toks t _ hg
      refine ⟨L, h1, h2, h3, h4, fun j cs hj => ⟨(h5 j cs hj).1, fun i p hi => by
          obtain ⟨v, e1, e2⟩ := (h5 j cs hj).2 i p hi
          exact ⟨v, e1, hrep e2⟩⟩, fun _ ho => ?_⟩
      rcases ho with ho | ⟨t', k', L', e1, e2, e3, e4⟩
      · exact hI.f_own ho ⟨t, _, L, hg, rfl, h1, rfl⟩
      · obtain ⟨a1, a2⟩ := hlive e1 e2
        exact a2 (hI.inj t' t k' _ L' L a1 hg e2 rfl e3 h1 e4)
    · have htr := hI.toks u k h
      cases k with
      | var cs =>
        obtain ⟨L, h1, h2, h3⟩ := htr
        exact ⟨L, h1, h2, fun i p hi => by
          obtain ⟨v, e1, e2⟩ := h3 i p hi
          exact ⟨v, e1, hrep e2⟩⟩
      | row g' sz' es' lv =>
        obtain ⟨L, h1, h2, h3, h4, h5, h6⟩ := htr
        exact ⟨L, h1, h2, h3, h4, fun j cs hj => ⟨(h5 j cs hj).1, fun i p hi => by
          obtain ⟨v, e1, e2⟩ := (h5 j cs hj).2 i p hi
          exact ⟨v, e1, hrep e2⟩⟩, fun hl ho => h6 hl (hownF _ ho)⟩
      | mp es' =>
        obtain ⟨L, ms, clock, h1, h2, h3, h4⟩ := htr
        exact ⟨L, ms, clock, h1, h2, h3, fun i s p hi => by
          obtain ⟨e, e1, e2, e3⟩ := h4 i s p hi
          exact ⟨e, e1, e2, hrep e3⟩⟩
  · obtain ⟨k0, e1, e2⟩ := hold h
    rw [← e2]
    exact hI.gens u k0 g' L e1 hg'
  · intro u u' k k' L L' h1 h2 l1 l2 g1 g2 he
    exact hI.inj u u' k k' L L' (hlive h1 l1).1 (hlive h2 l2).1 l1 l2 g1 g2 he
  · obtain ⟨k0, e1, e2⟩ := hold h
    exact hI.dom u k0 e1
theorem seenV_rep (hI : Inv X st G w) {p q : PV} (h : SeenV st p q) {v : Value} (hr : Rep G (OwnF X st G) w v p) : Rep G (OwnF X st G) w v q := by
  rcases h with rfl | h
  · exact hr
  · exact noG_rep (view_rep hI (own := OwnF X st G) (fun _ h => h) (fun h => by cases h) h hr) (fun _ h => h)
theorem seenL_rep (hI : Inv X st G w) {cs ds : List PV} (h : SeenL st cs ds) {b o : Nat} (hr : CellsAt G (OwnF X st G) w b o cs) : CellsAt G (OwnF X st G) w b o ds := fun i d hd => by
  obtain ⟨c, hc⟩ := get_some h.1 hd
  obtain ⟨v, e1, e2⟩ := hr i c hc
  exact ⟨v, e1, seenV_rep hI (h.2 i c d hc hd) e2⟩
theorem seen_inv (hI : Inv X st G w) (hE : EnvRep G (OwnF X st G) w n ρ a) {ρ' : Env} {st' : St} (hw : Seen ρ st ρ' st') : Inv X st' G w ∧ EnvRep G (OwnF X st' G) w n ρ' a := by
  have hgl : ∀ {k k' : Tok}, SeenT st k k' → k'.gen = k.gen ∧ k'.live = k.live := by
    intro k k' h
    cases k <;> cases k' <;> simp only [SeenT] at h
    · exact ⟨rfl, rfl⟩
    · obtain ⟨rfl, _, rfl, _⟩ := h
      exact ⟨rfl, rfl⟩
    · exact ⟨rfl, rfl⟩
  have hold : ∀ {u : Nat} {k' : Tok}, st'.get u = some k' → ∃ k, st.get u = some k ∧ SeenT st k k' ∧ k'.gen = k.gen ∧ k'.live = k.live := by
    intro u k' h
    obtain ⟨k, h1, h2⟩ := hw.toks u k' h
    exact ⟨k, h1, h2, hgl h2⟩
  have hown : ∀ b, Own st' G b → Own st G b := by
    rintro b ⟨u, k', L, h1, h2, h3, h4⟩
    obtain ⟨k, e1, e2, e3, e4⟩ := hold h1
    exact ⟨u, k, L, e1, by rw [← e4]; exact h2, by rw [← e3]; exact h3, h4⟩
  have hownF : ∀ b, OwnF X st' G b → OwnF X st G b := fun b h => h.imp id (hown b)
  have hrep : ∀ {v : Value} {p : PV}, Rep G (OwnF X st G) w v p → Rep G (OwnF X st' G) w v p := fun h =>
    h.mono (fun _ _ _ h => h) (Chg.refl (fun _ => False) w) (fun b h => h.elim) (fun b h => .inl (hownF b h))
  have hcells : ∀ {b o : Nat} {cs : List PV}, CellsAt G (OwnF X st G) w b o cs → CellsAt G (OwnF X st' G) w b o cs := fun h i p hi => by
    obtain ⟨v, e1, e2⟩ := h i p hi
    exact ⟨v, e1, hrep e2⟩
  refine ⟨⟨fun t g L h => by rw [hw.next]; exact hI.low t g L h, by rw [hw.base, hw.next]; exact hI.base, fun t g L h => by rw [hw.base]; exact hI.old t g L h, fun u k' h => ?_, fun u k' g L h hg => ?_, ?_, fun t g L h => by rw [hw.base]; exact hI.newg t g L h, fun u k' h => ?_, hI.frame, fun b h => hI.ownb b (hown b h), hI.foreign, hI.glob⟩, hE.defers, hE.size, fun u p' hp => ?_⟩
  · obtain ⟨k, e1, e2, e3, e4⟩ := hold h
    have htr := hI.toks u k e1
    cases k with
    | var cs =>
      cases k' with
      | var ds =>
        obtain ⟨L, h1, h2, h3⟩ := htr
        have e2' : SeenL st cs ds := e2
        exact ⟨L, h1, by rw [← e2'.1]; exact h2, hcells (seenL_rep hI e2' h3)⟩
      | row _ _ _ _ => exact e2.elim
      | mp _ => exact e2.elim
    | row g sz es lv =>
      cases k' with
      | var ds => exact e2.elim
      | row g' sz' fs lv' =>
        obtain ⟨rfl, rfl, rfl, hl, hx⟩ := e2
        obtain ⟨L, h1, h2, h3, h4, h5, h6⟩ := htr
        refine ⟨L, h1, h2, by omega, h4, fun j ds hj => ?_, fun hl ho => h6 hl (hownF _ ho)⟩
        obtain ⟨cs, hcs⟩ := get_some hl hj
        have hx' := hx j cs ds hcs hj
        exact ⟨by rw [← hx'.1]; exact (h5 j cs hcs).1, hcells (seenL_rep hI hx' (h5 j cs hcs).2)⟩
      | mp _ => exact e2.elim
    | mp es =>
      cases k' with
      | var ds => exact e2.elim
      | row _ _ _ _ => exact e2.elim
      | mp fs =>
        have e2' : fs = es := e2
        subst e2'
        obtain ⟨L, ms, clock, h1, h2, h3, h4⟩ := htr
        exact ⟨L, ms, clock, h1, h2, h3, fun i s p hi => by
          obtain ⟨e, a1, a2, a3⟩ := h4 i s p hi
          exact ⟨e, a1, a2, hrep a3⟩⟩
  · obtain ⟨k, e1, e2, e3, e4⟩ := hold h
    rw [e3]
    exact hI.gens u k g L e1 hg
  · intro u u' k k' L L' h1 h2 l1 l2 g1 g2 he
    obtain ⟨k0, a1, a2, a3, a4⟩ := hold h1
    obtain ⟨k1, b1, b2, b3, b4⟩ := hold h2
    exact hI.inj u u' k0 k1 L L' a1 b1 (by rw [← a4]; exact l1) (by rw [← b4]; exact l2) (by rw [← a3]; exact g1) (by rw [← b3]; exact g2) he
  · obtain ⟨k, e1, e2, e3, e4⟩ := hold h
    rw [hw.base]
    exact hI.dom u k e1
  · obtain ⟨p, e1, e2⟩ := hw.env u p' hp
    exact hrep (seenV_rep hI e2 (hE.reps u p e1))
def resV (tmps : Array Value) : ResultVar → Sem Value
  | .tmp t => pure (tmps.getD t undef)
  | .cell x t => do loadVar t (← asAddr (tmps.getD x undef))
theorem results_eq (fn : Func) (tmps : Array Value) : results fn tmps = (do
    let vs ← fn.results.mapM (resV tmps)
    pure (if h : vs.size = 1 then vs[0] else .tuple vs)) := by
  unfold results
  congr
theorem res_run (hI : Inv X st G w) (hE : EnvRep G (OwnF X st G) w n ρ a) : ∀ {rs : List ResultVar} {ps : List PRes} {vs : List PV}, cRess P rs = some ps → mapO (res1 ρ st.get) ps = some vs →
    ∃ us : List Value, (rs.mapM (resV a.tmps)).run P w = .ok us w ∧ us.length = vs.length ∧ ∀ (i : Nat) (u : Value) (c : PV), us[i]? = some u → vs[i]? = some c → Rep G (OwnF X st G) w u c
  | [], ps, vs, h, hm => by
    injection h with h
    subst h
    injection hm with hm
    subst hm
    exact ⟨[], rfl, rfl, fun i u c h => by simp at h⟩
  | r :: rs, ps, vs, h, hm => by
    simp only [cRess] at h
    split at h
    · rename_i p ps' h1 h2
      injection h with h
      subst h
      simp only [mapO] at hm
      split at hm
      · rename_i y ys hy hys
        injection hm with hm
        subst hm
        obtain ⟨us, k1, k2, k3⟩ := res_run hI hE h2 hys
        have one : ∃ u, (resV a.tmps r).run P w = .ok u w ∧ Rep G (OwnF X st G) w u y := by
          cases r with
          | tmp t =>
            injection h1 with h1
            subst h1
            injection hy with hy
            subst hy
            exact ⟨_, rfl, hE.at t⟩
          | cell x t =>
            simp only [cRes] at h1
            split at h1
            · rename_i d i hT
              split at h1
              · rename_i hag
                injection h1 with h1
                subst h1
                simp only [res1, loadAt] at hy
                obtain ⟨⟨cs, off⟩, hb, hs⟩ := Option.bind_eq_some_iff.1 hy
                obtain ⟨b, ob, hv, hcells⟩ := behind_rep hI (hE.at x) hb
                obtain ⟨u, hu, hru⟩ := run_loadVar_cells (P := P) hT hag hcells hs
                refine ⟨u, ?_, hru⟩
                simp only [resV, hv, asAddr, Sem.run_bind, Sem.run_pure, Result.andThen_ok, hu]
              · cases h1
            · cases h1
        obtain ⟨u, e1, e2⟩ := one
        refine ⟨u :: us, ?_, by simp [k2], fun i v c hv hc => ?_⟩
        · rw [List.mapM_cons, Sem.run_bind, e1, Result.andThen_ok, Sem.run_bind, k1]
          rfl
        · cases i with
          | zero => simp at hv hc; subst hv hc; exact e2
          | succ i => exact k3 i v c (by simpa using hv) (by simpa using hc)
      · cases hm
    · cases h
theorem results_run (hI : Inv X st G w) (hE : EnvRep G (OwnF X st G) w n ρ a) {fn : Func} {ps : List PRes} (hc : cRess P fn.results.toList = some ps) {r : PV} (hr : resOf ρ st.get ps = some r) : ∃ u, (results fn a.tmps).run P w = .ok u w ∧ Rep G (OwnF X st G) w u r := by
  unfold resOf at hr
  have main : ∀ vs, mapO (res1 ρ st.get) ps = some vs → ∃ us : Array Value, (results fn a.tmps).run P w = .ok (if h : us.size = 1 then us[0] else .tuple us) w ∧ us.size = vs.length ∧ ∀ (i : Nat) (u : Value) (c : PV), us[i]? = some u → vs[i]? = some c → Rep G (OwnF X st G) w u c := by
    intro vs hvs
    obtain ⟨us, k1, k2, k3⟩ := res_run (P := P) hI hE hc hvs
    refine ⟨us.toArray, ?_, by simpa using k2, fun i u c h h' => k3 i u c (by simpa using h) h'⟩
    rw [results_eq, Sem.run_bind, Array.mapM_eq_mapM_toList, Sem.run_map, k1]
    rfl
  split at hr
  · rename_i v hv
    injection hr with hr
    subst hr
    obtain ⟨us, k1, k2, k3⟩ := main _ hv
    have h1 : us.size = 1 := by simpa using k2
    rw [dif_pos h1] at k1
    exact ⟨_, k1, k3 0 _ v (by simp) rfl⟩
  · rename_i vs hne hv
    injection hr with hr
    subst hr
    obtain ⟨us, k1, k2, k3⟩ := main _ hv
    have h1 : us.size ≠ 1 := by
      intro h
      rw [k2] at h
      match vs, h with
      | [v], _ => exact hne v rfl
    rw [dif_neg h1] at k1
    refine ⟨_, k1, .tuple vs us k2 fun i c hi => ?_⟩
    have hlt : i < us.size := by rw [k2]; exact (List.getElem?_eq_some_iff.1 hi).1
    have := k3 i us[i] c (Array.getElem?_eq_getElem hlt) hi
    rw [Array.getD_eq_getD_getElem?, Array.getElem?_eq_getElem hlt]
    exact this
  · cases hr
theorem getA_envFrom (t : Nat) : ∀ (k : Nat) (args : List PV), getA t (envFrom k args) = if k ≤ t then args[t - k]? else none
  | k, [] => by simp [envFrom, getA]
  | k, p :: r => by
    simp only [envFrom, getA]
    by_cases h : k = t
    · subst h; simp
    · rw [if_neg h, getA_envFrom t (k + 1) r]
      by_cases h1 : k ≤ t
      · rw [if_pos h1, if_pos (by omega), show t - k = (t - (k + 1)) + 1 by omega]
        simp
      · rw [if_neg h1, if_neg (by omega)]
theorem env_begin {own : Nat → Prop} {vals : Array Value} {args : List PV} (hs : vals.size = args.length) (hr : ∀ (i : Nat) (c : PV), args[i]? = some c → Rep G own w (vals.getD i undef) c) {m : Nat} (hm : args.length ≤ m) :
    EnvRep G own w m (envFrom 0 args) { tmps := vals ++ Array.replicate (m - vals.size) undef, defers := [] } := by
  refine ⟨rfl, by simp; omega, fun t p hp => ?_⟩
  rw [getA_envFrom, if_pos (Nat.zero_le _), Nat.sub_zero] at hp
  have hlt : t < vals.size := by rw [hs]; exact (List.getElem?_eq_some_iff.1 hp).1
  have := hr t p hp
  rw [Array.getD_eq_getD_getElem?] at this ⊢
  rwa [Array.getElem?_append_left hlt]
end
def SemJ (P : Program) : J → Prop
  | .code c ρ st x ρ' st' => SemCode P c ρ st x ρ' st'
  | .ops l ρ st ρ' st' => SemOps P l ρ st ρ' st'
  | .drawn l ρ st ρ' => LexD P st l ρ ρ'
  | .call f args r => SemCall P f args r
  | .raw f args st r st' => SemRaw P f args st r st'
  | .dl m A B k l ρ st ρ' st' => LexM P m A B k l ρ st ρ' st'
  | .dl2 m1 m2 d A B C k l ρ st ρ' st' => LexM2 P m1 m2 d A B C k l ρ st ρ' st'
  | .dli m1 m2 S k l ρ b c ρ' b' c' => LexI P m1 m2 S k l ρ b c ρ' b' c'
  | .dlc C k l ρ b i ρ' b' i' => LexC P C k l ρ b i ρ' b' i'
  | .dlb C k l ρ st b ρ' st' b' => LexS (StepB P C) k l ρ (st, b) ρ' (st', b')
theorem dropA_env {G : Gh} {own : Nat → Prop} {w : World} {n : Nat} {ρ : Env} {a : Act} (kill : List Nat) (h : EnvRep G own w n ρ a) : EnvRep G own w n (dropA kill ρ) a :=
  ⟨h.defers, h.size, fun t p hp => h.reps t p (by rw [getA_dropA] at hp; split at hp; (· cases hp); exact hp)⟩
theorem cOps_cons {P : Program} {ops : Array Oper} {n : Nat} {lo : List Oper} {o : POp} {l : List POp} (h : cOps P ops n lo = some (o :: l)) : ∃ O lo', lo = O :: lo' ∧ cPOp P ops n O = some o ∧ cOps P ops n lo' = some l := by
  cases lo with
  | nil => injection h with h; cases h
  | cons O lo' =>
    simp only [cOps] at h
    split at h
    · rename_i p ps h1 h2
      injection h with h
      injection h with h3 h4
      subst h3 h4
      exact ⟨O, lo', rfl, h1, h2⟩
    · cases h
def CodeInv (P : Program) (n : Nat) (kill : Nat → List Nat) (gc : Code) : PC → Prop
  | .skip => gc = .skip
  | .ops l k => ∃ id ops, gc = .region id ops false ∧ cOps P ops n ops.toList = some l ∧ k = kill id
  | .drawn l k => ∃ id ops, gc = .region id ops true ∧ cOps P ops n ops.toList = some l ∧ k = kill id ∧ P.follows .mixedOrders = true ∧ Region.lexB .any ops = true ∧ tmpsOk ops ops.toList l = true
  | .seq x y => ∃ a b, gc = .seq a b ∧ cCode P n kill a = some x ∧ cCode P n kill b = some y
  | .cond z x y => z = .c .junk ∨ ∃ c a b, gc = .cond c a b ∧ cOpd c = some z ∧ cCode P n kill a = some x ∧ cCode P n kill b = some y
  | .block id x => ∃ c, gc = .block id c ∧ cCode P n kill c = some x
  | .loop x => ∃ c, gc = .loop c ∧ cCode P n kill c = some x
  | .exit id => gc = .exit id
  | .ret => gc = .ret
theorem cCode_inv {P : Program} {n : Nat} {kill : Nat → List Nat} {gc : Code} {pc : PC} (h : cCode P n kill gc = some pc) : CodeInv P n kill gc pc := by
  cases gc with
  | skip => injection h with h; subst h; rfl
  | region id ops draw =>
    simp only [cCode] at h
    split at h
    · rename_i l hl
      cases draw with
      | true =>
        simp only [if_true] at h
        split at h
        · rename_i hc
          injection h with h
          subst h
          exact ⟨id, ops, rfl, hl, rfl, hc.1, hc.2.1, hc.2.2⟩
        · injection h with h
          subst h
          exact .inl rfl
      | false =>
        simp only [Bool.false_eq_true, if_false] at h
        injection h with h
        subst h
        exact ⟨id, ops, rfl, hl, rfl⟩
    · injection h with h
      subst h
      exact .inl rfl
  | seq a b =>
    simp only [cCode] at h
    split at h
    · rename_i x y h1 h2
      injection h with h
      subst h
      exact ⟨a, b, rfl, h1, h2⟩
    · cases h
  | cond c a b =>
    simp only [cCode] at h
    split at h
    · rename_i z x y h1 h2 h3
      injection h with h
      subst h
      exact .inr ⟨c, a, b, rfl, h1, h2, h3⟩
    · injection h with h
      subst h
      exact .inl rfl
  | block id c =>
    obtain ⟨x, h1, rfl⟩ := Option.map_eq_some_iff.1 h
    exact ⟨c, rfl, h1⟩
  | loop c =>
    obtain ⟨x, h1, rfl⟩ := Option.map_eq_some_iff.1 h
    exact ⟨c, rfl, h1⟩
  | exit id => injection h with h; subst h; rfl
  | ret => injection h with h; subst h; rfl
  | _ => injection h with h; subst h; exact .inl rfl
theorem run_sound {P : Program} {tbl : Nat → Option PF} {prim ext : Nat → List PV → PV → Prop} (htbl : ∀ f pf, tbl f = some pf → FnOK P f pf) (hprim : ∀ f args r, prim f args r → SemCall P f args r) (hext : ∀ f args r, ext f args r → SemExt P f args r) {j : J} (h : Run tbl prim ext j) : SemJ P j := by
  induction h with
  | skip ρ st =>
    intro n kill gc hc X G w a hI hE
    obtain rfl : gc = .skip := cCode_inv hc
    exact ⟨wp_skip ⟨rfl, G, hI, hE⟩, fun c0 h => by cases h⟩
  | exit id ρ st =>
    intro n kill gc hc X G w a hI hE
    obtain rfl : gc = .exit id := cCode_inv hc
    exact ⟨wp_exit ⟨rfl, G, hI, hE⟩, fun c0 h => by cases h⟩
  | ret ρ st =>
    intro n kill gc hc X G w a hI hE
    obtain rfl : gc = .ret := cCode_inv hc
    exact ⟨wp_ret ⟨rfl, G, hI, hE⟩, fun c0 h => by cases h⟩
  | ops l kill ρ st ρ' st' h ih =>
    intro n kl gc hc X G w a hI hE
    obtain ⟨id, ops, rfl, h1, rfl⟩ := cCode_inv hc
    exact ⟨wp_region_list (ih n ops ops.toList h1 X G w a _ hI hE (fun G' w' a' k1 k2 => ⟨rfl, G', k1, dropA_env _ k2⟩)), fun c0 h => by cases h⟩
  | drawn l kill ρ st ρ' h ih =>
    intro n kl gc hc X G w a hI hE
    obtain ⟨id, ops, rfl, h1, rfl, h2, h3, h4⟩ := cCode_inv hc
    exact ⟨wp_drawn h2 h3 h4 h1 hI hE ih (fun a' w' k1 k2 => ⟨rfl, G, k1, dropA_env _ k2⟩), fun c0 h => by cases h⟩
  | seqN c d ρ st ρ1 st1 x ρ' st' h k ih1 ih2 =>
    intro n kl gc hc X G w a hI hE
    obtain ⟨c1, d1, rfl, h1, h2⟩ := cCode_inv hc
    refine ⟨wp_seq (wp_mono (ih1 n kl c1 h1 X G w a hI hE).1 fun e a1 w1 hp => ?_), fun c0 h => by cases h⟩
    obtain ⟨rfl, G1, k1, k2⟩ := hp
    exact (ih2 n kl d1 h2 X G1 w1 a1 k1 k2).1
  | seqX c d ρ st x ρ' st' hx h ih =>
    intro n kl gc hc X G w a hI hE
    obtain ⟨c1, d1, rfl, h1, h2⟩ := cCode_inv hc
    refine ⟨wp_seq (wp_mono (ih n kl c1 h1 X G w a hI hE).1 fun e a1 w1 hp => ?_), fun c0 h => by cases h⟩
    have he := hp.1
    cases x with
    | normal => exact absurd rfl hx
    | exit id => subst he; exact hp
    | ret => subst he; exact hp
  | cond c x y ρ st t ex ρ' st' hcv h ih =>
    intro n kl gc hc X G w a hI hE
    rcases cCode_inv hc with rfl | ⟨c1, a1, b1, rfl, h1, h2, h3⟩
    · cases hcv
    have hr := opd_rep hE h1
    rw [hcv] at hr
    refine ⟨wp_cond (rep_bool hr) ?_, fun c0 h => by cases h⟩
    cases t with
    | true => exact (ih n kl a1 h2 X G w a hI hE).1
    | false => exact (ih n kl b1 h3 X G w a hI hE).1
  | block id c ρ st x ρ' st' h ih =>
    intro n kl gc hc X G w a hI hE
    obtain ⟨c1, rfl, h1⟩ := cCode_inv hc
    refine ⟨wp_block (wp_mono (ih n kl c1 h1 X G w a hI hE).1 fun e a1 w1 hp => ?_), fun c0 h => by cases h⟩
    obtain ⟨rfl, G1, k1, k2⟩ := hp
    cases x with
    | normal => exact ⟨by simp [exC], G1, k1, k2⟩
    | ret => exact ⟨by simp [exC], G1, k1, k2⟩
    | exit id' =>
      simp only [exC, Exit.inBlock]
      by_cases hid : id' = id
      · subst hid
        rw [if_pos rfl]
        exact ⟨by simp [exC], G1, k1, k2⟩
      · rw [if_neg hid]
        exact ⟨by simp [hid, exC], G1, k1, k2⟩
  | loopN c ρ st ρ1 st1 x ρ' st' h k ih1 ih2 =>
    intro n kl gc hc X G w a hI hE
    have hc0 := hc
    obtain ⟨c1, rfl, h1⟩ := cCode_inv hc
    have key : wpIn P c1 (PostC X n x ρ' st') a w := wpIn_unroll (wp_mono (ih1 n kl c1 h1 X G w a hI hE).1 fun e a1 w1 hp => by
      obtain ⟨rfl, G1, k1, k2⟩ := hp
      exact (ih2 n kl (.loop c1) hc0 X G1 w1 a1 k1 k2).2 c1 rfl)
    exact ⟨wp_of_wpIn key, fun c0 h => by injection h with h; subst h; exact key⟩
  | loopX c ρ st x ρ' st' hx h ih =>
    intro n kl gc hc X G w a hI hE
    obtain ⟨c1, rfl, h1⟩ := cCode_inv hc
    have key : wpIn P c1 (PostC X n x ρ' st') a w := wpIn_unroll (wp_mono (ih n kl c1 h1 X G w a hI hE).1 fun e a1 w1 hp => by
      have he := hp.1
      cases x with
      | normal => exact absurd rfl hx
      | exit id => subst he; exact hp
      | ret => subst he; exact hp)
    exact ⟨wp_of_wpIn key, fun c0 h => by injection h with h; subst h; exact key⟩
  | weak c ρ st ρ1 st1 x ρ' st' hw h ih =>
    intro n kl gc hc X G w a hI hE
    obtain ⟨G1, k1, k2⟩ := weak_inv hI hE hw
    exact ih n kl gc hc X G1 w a k1 k2
  | froze c ρ st t g sz es x ρ' st' hg h ih =>
    intro n kl gc hc X G w a hI hE
    obtain ⟨k1, k2⟩ := frozen_inv hI hE hg
    exact ih n kl gc hc X G w a k1 k2
  | look c ρ st ρ1 st1 x ρ' st' hw h ih =>
    intro n kl gc hc X G w a hI hE
    obtain ⟨k1, k2⟩ := seen_inv hI hE hw
    exact ih n kl gc hc X G w a k1 k2
  | opsNil ρ st =>
    intro n ops lo hc X G w a Q hI hE hQ
    have : lo = [] := by
      have := (cOps_get hc).1
      exact List.eq_nil_of_length_eq_zero (by simpa using this)
    subst this
    exact wpList_nil (hQ G w a hI hE)
  | opsSkip o l ρ st ρ' st' hg h ih =>
    intro n ops lo hc X G w a Q hI hE hQ
    obtain ⟨O, lo', rfl, h1, h2⟩ := cOps_cons hc
    obtain ⟨e1, e2, e3, e4⟩ := cPOp_spec h1
    refine wpList_step fun K hK => ?_
    rw [gd_wanted hE e1 hg]
    simp only [Bool.false_eq_true, if_false]
    refine hK _ _ (ih n ops lo' h2 X G w _ Q hI ?_ hQ)
    rw [e3]
    exact hE.put (dst_lt e4) undef_rep
  | opsQuiet o l ρ st p ρ' st' hg hq h ih =>
    intro n ops lo hc X G w a Q hI hE hQ
    obtain ⟨O, lo', rfl, h1, h2⟩ := cOps_cons hc
    obtain ⟨e1, e2, e3, e4⟩ := cPOp_spec h1
    refine wpList_step fun K hK => ?_
    rw [gd_wanted hE e1 hg]
    simp only [if_true]
    refine wp_lok hE e3.symm (by rw [e3]; exact e4) (((step_sound hI hE e2).1 p hq).lok hI) fun G' w' a' k1 k2 => hK _ _ (ih n ops lo' h2 X G' w' a' Q k1 k2 hQ)
  | opsLoud o l ρ st p st1 ρ' st' hg hq h ih =>
    intro n ops lo hc X G w a Q hI hE hQ
    obtain ⟨O, lo', rfl, h1, h2⟩ := cOps_cons hc
    obtain ⟨e1, e2, e3, e4⟩ := cPOp_spec h1
    refine wpList_step fun K hK => ?_
    rw [gd_wanted hE e1 hg]
    simp only [if_true]
    refine wp_lok hE e3.symm (by rw [e3]; exact e4) ((step_sound hI hE e2).2 p st1 hq) fun G' w' a' k1 k2 => hK _ _ (ih n ops lo' h2 X G' w' a' Q k1 k2 hQ)
  | opsCall o l ρ st f xs g caps args r ρ' st' hg ho hf hv hcall h ihc ih =>
    intro n ops lo hc X G w a Q hI hE hQ
    obtain ⟨O, lo', rfl, h1, h2⟩ := cOps_cons hc
    obtain ⟨e1, e2, e3, e4⟩ := cPOp_spec h1
    refine wpList_step fun K hK => ?_
    rw [gd_wanted hE e1 hg]
    simp only [if_true]
    rw [ho] at e2
    exact wp_call hI hE e3.symm (by rw [e3]; exact e4) e2 hf ihc (.inl hv) fun w' a' k1 k2 => hK _ _ (ih n ops lo' h2 X G w' a' Q k1 k2 hQ)
  | opsCallS o l ρ st f xs g caps args r ρ' st' hg ho hf hv hr hcall h ihc ih =>
    intro n ops lo hc X G w a Q hI hE hQ
    obtain ⟨O, lo', rfl, h1, h2⟩ := cOps_cons hc
    obtain ⟨e1, e2, e3, e4⟩ := cPOp_spec h1
    refine wpList_step fun K hK => ?_
    rw [gd_wanted hE e1 hg]
    simp only [if_true]
    rw [ho] at e2
    exact wp_call hI hE e3.symm (by rw [e3]; exact e4) e2 hf ihc (.inr ⟨hv, hr⟩) fun w' a' k1 k2 => hK _ _ (ih n ops lo' h2 X G w' a' Q k1 k2 hQ)
  | opsCallW o l ρ st ρ0 st0 f xs g caps args r ρ' st' hg ho hw hf hv hcall h ihc ih =>
    intro n ops lo hc X G w a Q hI hE hQ
    obtain ⟨O, lo', rfl, h1, h2⟩ := cOps_cons hc
    obtain ⟨e1, e2, e3, e4⟩ := cPOp_spec h1
    refine wpList_step fun K hK => ?_
    rw [gd_wanted hE e1 hg]
    simp only [if_true]
    rw [ho] at e2
    obtain ⟨G1, k1, k2⟩ := weak_inv hI hE hw
    exact wp_call k1 k2 e3.symm (by rw [e3]; exact e4) e2 hf ihc (.inl hv) fun w' a' k1 k2 => hK _ _ (ih n ops lo' h2 X G1 w' a' Q k1 k2 hQ)
  | opsExt o l ρ st f xs g caps args r ρ' st' hg ho hf hv hr hcall h ih =>
    intro n ops lo hc X G w a Q hI hE hQ
    obtain ⟨O, lo', rfl, h1, h2⟩ := cOps_cons hc
    obtain ⟨e1, e2, e3, e4⟩ := cPOp_spec h1
    refine wpList_step fun K hK => ?_
    rw [gd_wanted hE e1 hg]
    simp only [if_true]
    rw [ho] at e2
    exact wp_ext hI hE e3.symm (by rw [e3]; exact e4) e2 hf (hext _ _ _ hcall) hv hr fun G' w' a' k1 k2 => hK _ _ (ih n ops lo' h2 X G' w' a' Q k1 k2 hQ)
  | opsRaw o l ρ st f xs g caps q τ r st1 ρ' st' hg ho hf hp hb hcall h ihc ih =>
    intro n ops lo hc X G w a Q hI hE hQ
    obtain ⟨O, lo', rfl, h1, h2⟩ := cOps_cons hc
    obtain ⟨e1, e2, e3, e4⟩ := cPOp_spec h1
    refine wpList_step fun K hK => ?_
    rw [gd_wanted hE e1 hg]
    simp only [if_true]
    rw [ho] at e2
    exact wp_raw hI hE e3.symm (by rw [e3]; exact e4) e2 hf hp hb ihc fun G' w' a' k1 k2 => hK _ _ (ih n ops lo' h2 X G' w' a' Q k1 k2 hQ)
  | drawnNil ρ st => exact rfl
  | drawnSkip o l ρ st ρ' hg h ih => exact ⟨_, .inl ⟨hg, rfl⟩, ih⟩
  | drawnQuiet o l ρ st p ρ' hg hq h ih => exact ⟨p, .inr ⟨hg, .inl hq⟩, ih⟩
  | drawnCall o l ρ st f xs g caps args r ρ' hg ho hf hv hcall h ihc ih => exact ⟨r, .inr ⟨hg, .inr ⟨f, xs, g, caps, args, ho, hf, ihc, .inl hv⟩⟩, ih⟩
  | drawnCallS o l ρ st f xs g caps args r ρ' hg ho hf hv hr hcall h ihc ih => exact ⟨r, .inr ⟨hg, .inr ⟨f, xs, g, caps, args, ho, hf, ihc, .inr ⟨hv, hr⟩⟩⟩, ih⟩
  | call f pf args x ρ' st' r0 r hf hn h hx hr hv ih =>
    obtain ⟨fn, c, kill, h1, h2, h3, h4, h5, h6⟩ := (htbl f pf hf).ok
    refine ⟨⟨fn, c, h1, h2, h6⟩, fun F w vals hF hg hs hrep => ?_⟩
    refine calls_of_wp h1 h2 ?_
    rw [h4] at hn
    have hE0 : EnvRep noG (OwnF (callCx w F) emptySt noG) w fn.ntmps (envFrom 0 args) { tmps := vals ++ Array.replicate (fn.ntmps - vals.size) undef, defers := [] } := by
      rw [ownF_empty]
      exact env_begin hs hrep hn
    refine wp_mono (ih fn.ntmps kill c h3 (callCx w F) noG w _ (inv_empty hF hg) hE0).1 fun e a' w' hp => ?_
    obtain ⟨rfl, G', k1, k2⟩ := hp
    obtain ⟨u, hu, hru⟩ := results_run (P := P) k1 k2 h5 hr
    have hvr := view_rep k1 (own := F) (fun b hb => .inl hb) (fun _ b hb => hb) hv hru
    have fin : a'.defers = [] ∧ ∃ v, (results fn a'.tmps).run P w' = .ok v w' ∧ ∃ u, Ending.returned v = .returned u ∧ Below w.heap.size w w' ∧ Rep noG F w' u r := ⟨k2.defers, u, hu, u, rfl, (k1.frame : Chg (fun _ => False) w w').below, hvr⟩
    rcases hx with rfl | rfl
    · exact fin
    · exact fin
  | drawnL2 m1 m2 d B C l kill ρ st ρ' st' hm h ih =>
    intro n kl gc hc X G w a hI hE
    obtain ⟨id, ops, rfl, h1, rfl, h2, h3, h4⟩ := cCode_inv hc
    exact ⟨wp_drawnL2 hm h2 h3 h4 h1 hI hE ih fun G a w hI' hE' => ⟨rfl, G, hI', dropA_env _ hE'⟩, fun c0 h => by cases h⟩
  | dl2Nil m1 m2 d A B C k ρ st => exact ⟨rfl, rfl⟩
  | dl2Skip m1 m2 d A B C k o l ρ st ρ' st' hk1 hk2 hs hg h ih => exact ⟨_, _, .inl ⟨hk1, hk2, rfl, hs, fun s _ => .inl ⟨hg, rfl⟩⟩, ih⟩
  | dl2Quiet m1 m2 d A B C k o l ρ st p ρ' st' hk1 hk2 hs hg hq h ih => exact ⟨_, _, .inl ⟨hk1, hk2, rfl, hs, fun s hs' => .inr ⟨hg, .inl (hq s hs')⟩⟩, ih⟩
  | dl2Call m1 m2 d A B C k o l ρ st f xs g caps args r ρ' st' hk1 hk2 hs hg ho hf hv hc h ihc ih => exact ⟨_, _, .inl ⟨hk1, hk2, rfl, hs, fun s hs' => .inr ⟨hg, .inr ⟨f, xs, g, caps, args, ho, hf, ihc, .inl (hv s hs')⟩⟩⟩, ih⟩
  | dl2Loud1 m1 m2 d B C o l ρ st p ρ' st' hd hg hq h ih => exact ⟨_, _, .inr (.inl ⟨rfl, rfl, rfl, hd, hg, .inl hq⟩), ih⟩
  | dl2Raw1 m1 m2 d C o l ρ st f xs g caps q τ r st1 ρ' st' hd hg ho hf hp hb hc h ihc ih => exact ⟨_, _, .inr (.inl ⟨rfl, rfl, rfl, hd, hg, .inr ⟨f, xs, g, caps, q, τ, st1, ho, hf, hp, hb, ihc, rfl⟩⟩), ih⟩
  | dl2Loud2 m1 m2 d A C o l ρ st p ρ' st' hd hg hq h ih => exact ⟨_, _, .inr (.inr ⟨rfl, rfl, rfl, hd, hg, .inl hq⟩), ih⟩
  | dl2Raw2 m1 m2 d A o l ρ st f xs g caps q τ r st1 ρ' st' hd hg ho hf hp hb hc h ihc ih => exact ⟨_, _, .inr (.inr ⟨rfl, rfl, rfl, hd, hg, .inr ⟨f, xs, g, caps, q, τ, st1, ho, hf, hp, hb, ihc, rfl⟩⟩), ih⟩
  | drawnLi m1 m2 S l kill ρ ρ' b c h ih =>
    intro n kl gc hc X G w a hI hE
    obtain ⟨id, ops, rfl, h1, rfl, h2, h3, h4⟩ := cCode_inv hc
    exact ⟨wp_drawnLi h2 h3 h4 h1 hI hE ih fun G a w hI' hE' => ⟨rfl, G, hI', dropA_env _ hE'⟩, fun c0 h => by cases h⟩
  | dliNil m1 m2 S k ρ b c => exact ⟨rfl, rfl, rfl⟩
  | dliSkip m1 m2 S k o l ρ b c ρ' b' c' hk1 hk2 hg h ih => exact ⟨_, _, _, .inl ⟨hk1, hk2, rfl, rfl, fun x y => .inl ⟨hg, rfl⟩⟩, ih⟩
  | dliQuiet m1 m2 S k o l ρ b c p ρ' b' c' hk1 hk2 hg hq h ih => exact ⟨_, _, _, .inl ⟨hk1, hk2, rfl, rfl, fun x y => .inr ⟨hg, .inl (hq x y)⟩⟩, ih⟩
  | dliLoud1 m2 S k o l ρ c p ρ' b' c' hg hq h ih => exact ⟨_, _, _, .inr (.inl ⟨rfl, rfl, rfl, rfl, fun y => ⟨hg, .inl (hq y)⟩⟩), ih⟩
  | dliLoud2 m1 S k o l ρ b p ρ' b' c' hg hq h ih => exact ⟨_, _, _, .inr (.inr ⟨rfl, rfl, rfl, rfl, fun x => ⟨hg, .inl (hq x)⟩⟩), ih⟩
  | drawnLc C l kill ρ ρ' b i hf h ih =>
    intro n kl gc hc X G w a hI hE
    obtain ⟨id, ops, rfl, h1, rfl, h2, h3, h4⟩ := cCode_inv hc
    exact ⟨wp_drawnLc h2 h3 h4 h1 hI hE hf ih fun G a w hI' hE' => ⟨rfl, G, hI', dropA_env _ hE'⟩, fun c0 h => by cases h⟩
  | dlcNil C k ρ b i => exact ⟨rfl, rfl, rfl⟩
  | dlcSkip C k o l ρ b i ρ' b' i' hx hw hg h ih => exact ⟨_, _, _, .inl ⟨hx, hw, rfl, rfl, none, fun j _ => .inl ⟨hg, rfl⟩, fun m h => by cases h⟩, ih⟩
  | dlcQuiet C k o l ρ b i p ρ' b' i' hx hw hg hq h ih => exact ⟨_, _, _, .inl ⟨hx, hw, rfl, rfl, none, fun j _ => .inr ⟨hg, .inl (hq j)⟩, fun m h => by cases h⟩, ih⟩
  | dlcEarly C k o l ρ b i m d p ρ' b' i' hx hw hd hn hm hg hq h ih => exact ⟨_, _, _, .inl ⟨hx, hw, rfl, rfl, some m, fun j hj => .inr ⟨hg, .inl (hq j (hj m rfl))⟩, fun m' h => (by injection h with h; subst h; exact ⟨hm, d, hd, hn⟩)⟩, ih⟩
  | dlcCall C k o l ρ b i f xs g caps args r ρ' b' i' hx hw hg ho hf hv hc h ihc ih => exact ⟨_, _, _, .inl ⟨hx, hw, rfl, rfl, none, fun j _ => .inr ⟨hg, .inr ⟨f, xs, g, caps, args, ho, hf, ihc, .inl (hv j)⟩⟩, fun m h => by cases h⟩, ih⟩
  | dlcLoud C k o l ρ b i p ρ' b' i' hx hw hl hd hs hg hq h ih => exact ⟨_, _, _, .inr (.inl ⟨hx, hw, hl, hd, hs, rfl, rfl, .inl ⟨hg, .inl hq⟩⟩), ih⟩
  | dlcMove C k o l ρ b i p ρ' b' i' hx hw hl hd hs hg hS hq h ih => exact ⟨_, _, _, .inr (.inl ⟨hx, hw, hl, hd, hs, rfl, rfl, .inr ⟨hS, .inr ⟨hg, .inl hq⟩⟩⟩), ih⟩
  | dlcMCall C k o l ρ b i f xs g caps args r ρ' b' i' hx hw hl hd hs hg hS ho hf hv hc h ihc ih => exact ⟨_, _, _, .inr (.inl ⟨hx, hw, hl, hd, hs, rfl, rfl, .inr ⟨hS, .inr ⟨hg, .inr ⟨f, xs, g, caps, args, ho, hf, ihc, .inl hv⟩⟩⟩⟩), ih⟩
  | dlcRaw C k o l ρ b i f xs g caps q τ r st1 ρ' b' i' hx hw hl hd hs hg ho hf hp hb hS hc h ihc ih => exact ⟨_, _, _, .inr (.inl ⟨hx, hw, hl, hd, hs, rfl, rfl, .inl ⟨hg, .inr ⟨f, xs, g, caps, q, τ, st1, ho, hf, hp, hb, ihc, hS⟩⟩⟩), ih⟩
  | dlcAlloc C k o l ρ i d m cs ρ' b' i' ha hx hd hg ho hm h ih => exact ⟨_, _, _, .inr (.inr (.inl ⟨d, m, cs, ha, hx, hd, hg, ho, rfl, hm, rfl, rfl, rfl⟩)), ih⟩
  | dlcStore C k o l ρ i ka d cs p ρ' b' i' ha hx hl hdt hd hdd hg hq h ih => exact ⟨_, _, _, .inr (.inr (.inr ⟨ka, d, cs, ha, hx, hl, hdt, hd, rfl, rfl, rfl, hdd, hg, .inl hq⟩)), ih⟩
  | drawnB C l kill ρ ρ' st' hA hB hN hD h ih =>
    intro n kl gc hc X G w a hI hE
    obtain ⟨id, ops, rfl, h1, rfl, h2, h3, h4⟩ := cCode_inv hc
    exact ⟨wp_drawnB hA hB hN hD h2 h3 h4 h1 hI hE ih fun G a w hI' hE' => ⟨rfl, G, hI', dropA_env _ hE'⟩, fun c0 h => by cases h⟩
  | dlbNil C k ρ st b => exact ⟨rfl, rfl⟩
  | dlbSkip C k o l ρ st b ρ' st' b' hk hw hs hg h ih => exact ⟨_, _, .inl ⟨hk, hw, rfl, hs, .inl ⟨hg, rfl⟩, .inl ⟨hg, rfl⟩⟩, ih⟩
  | dlbQuiet C k o l ρ st b p ρ' st' b' hk hw hs hg hq h ih => exact ⟨_, _, .inl ⟨hk, hw, rfl, hs, .inr ⟨hg, .inl (hq _ (.inl rfl))⟩, .inr ⟨hg, .inl (hq _ (.inr rfl))⟩⟩, ih⟩
  | dlbCall C k o l ρ st b f xs g caps args r ρ' st' b' hk hw hs hg ho hf hv hc h ihc ih => exact ⟨_, _, .inl ⟨hk, hw, rfl, hs, .inr ⟨hg, .inr ⟨f, xs, g, caps, args, ho, hf, ihc, .inl (hv _ (.inl rfl))⟩⟩, .inr ⟨hg, .inr ⟨f, xs, g, caps, args, ho, hf, ihc, .inl (hv _ (.inr rfl))⟩⟩⟩, ih⟩
  | dlbLoud C o l ρ b p ρ' st' b' hw hg hq h ih => exact ⟨_, _, .inr (.inl ⟨rfl, hw, rfl, rfl, hg, .inl hq⟩), ih⟩
  | dlbRaw C o l ρ b f xs g caps q τ r st1 ρ' st' b' hw hg ho hf hp hb hS hc h ihc ih => exact ⟨_, _, .inr (.inl ⟨rfl, hw, rfl, rfl, hg, .inr ⟨f, xs, g, caps, q, τ, st1, ho, hf, hp, hb, ihc, hS⟩⟩), ih⟩
  | dlbBox C k o l ρ st x ρ' st' b' hs hg hd hdD ho hx hj hcs hv h ih => exact ⟨_, _, .inr (.inr (.inl ⟨rfl, rfl, hs, hg, hd, hdD, ⟨x, ho, hx, hj, hcs⟩, hv, rfl⟩)), ih⟩
  | dlbMove C k o l ρ st e ρ' st' b' hs hg hd heD hne hdD ho hy h ih => exact ⟨_, _, .inr (.inr (.inr ⟨rfl, rfl, hs, hg, ⟨e, hd, heD, hne⟩, hdD, ho, hy, rfl⟩)), ih⟩
  | drawnL m B l kill ρ st ρ' st' h ih =>
    intro n kl gc hc X G w a hI hE
    obtain ⟨id, ops, rfl, h1, rfl, h2, h3, h4⟩ := cCode_inv hc
    exact ⟨wp_drawnL h2 h3 h4 h1 hI hE ih fun G a w hI' hE' => ⟨rfl, G, hI', dropA_env _ hE'⟩, fun c0 h => by cases h⟩
  | dlNil m A B k ρ st => exact ⟨rfl, rfl⟩
  | dlSkip m A B k o l ρ st ρ' st' hk hs hg h ih => exact ⟨_, _, .inl ⟨hk, rfl, hs, .inl ⟨hg, rfl⟩, .inl ⟨hg, rfl⟩⟩, ih⟩
  | dlQuiet m A B k o l ρ st p ρ' st' hk hs hg hq h ih => exact ⟨_, _, .inl ⟨hk, rfl, hs, .inr ⟨hg, .inl (hq _ (.inl rfl))⟩, .inr ⟨hg, .inl (hq _ (.inr rfl))⟩⟩, ih⟩
  | dlCall m A B k o l ρ st f xs g caps args r ρ' st' hk hs hg ho hf hv hc h ihc ih => exact ⟨_, _, .inl ⟨hk, rfl, hs, .inr ⟨hg, .inr ⟨f, xs, g, caps, args, ho, hf, ihc, .inl (hv _ (.inl rfl))⟩⟩, .inr ⟨hg, .inr ⟨f, xs, g, caps, args, ho, hf, ihc, .inl (hv _ (.inr rfl))⟩⟩⟩, ih⟩
  | dlLoud m B o l ρ st p ρ' st' hg hq h ih => exact ⟨_, _, .inr ⟨rfl, rfl, rfl, hg, .inl hq⟩, ih⟩
  | dlRaw m o l ρ st f xs g caps q τ r st1 ρ' st' hg ho hf hp hb hc h ihc ih => exact ⟨_, _, .inr ⟨rfl, rfl, rfl, hg, .inr ⟨f, xs, g, caps, q, τ, st1, ho, hf, hp, hb, ihc, rfl⟩⟩, ih⟩
  | prim f args r h => exact hprim f args r h
  | raw f pf args st x ρ' st' r hf hn h hx hr ih =>
    obtain ⟨fn, c, kill, h1, h2, h3, h4, h5, h6⟩ := (htbl f pf hf).ok
    refine ⟨⟨fn, c, h1, h2, h6⟩, fun X G w vals hI hs hrep => ?_⟩
    refine calls_of_wp h1 h2 ?_
    rw [h4] at hn
    refine wp_mono (ih fn.ntmps kill c h3 X G w _ hI (env_begin hs hrep hn)).1 fun e a' w' hp => ?_
    obtain ⟨rfl, G', k1, k2⟩ := hp
    obtain ⟨u, hu, hru⟩ := results_run (P := P) k1 k2 h5 hr
    have fin : a'.defers = [] ∧ ∃ v, (results fn a'.tmps).run P w' = .ok v w' ∧ ∃ u, Ending.returned v = .returned u ∧ ∃ G', Inv X st' G' w' ∧ Rep G' (OwnF X st' G') w' u r := ⟨k2.defers, u, hu, u, rfl, G', k1, hru⟩
    rcases hx with rfl | rfl
    · exact fin
    · exact fin
end Go.AM
set_option linter.unusedVariables false
set_option linter.unusedSimpArgs false
namespace Go.AM
open Go.RowKit
structure Tb where
  tbl : Nat → Option PF
  prim : Nat → List PV → PV → Prop
  ext : Nat → List PV → PV → Prop
abbrev Tb.R (T : Tb) (j : J) : Prop := Run T.tbl T.prim T.ext j
inductive Fr where
  | code (c : PC)
  | block (id : Nat)
abbrev Post := EX → Env → St → Prop
def W (T : Tb) (Q : Post) : List Fr → EX → Env → St → Prop
  | [], x, ρ, st => Q x ρ st
  | .code c :: k, .normal, ρ, st => ∃ x1 ρ1 st1, T.R (.code c ρ st x1 ρ1 st1) ∧ W T Q k x1 ρ1 st1
  | .code c :: k, .exit i, ρ, st => W T Q k (.exit i) ρ st
  | .code c :: k, .ret, ρ, st => W T Q k .ret ρ st
  | .block id :: k, x, ρ, st => W T Q k (if x = .exit id then .normal else x) ρ st
def O (T : Tb) (Q : Post) (l : List POp) (kill : List Nat) (k : List Fr) (ρ : Env) (st : St) : Prop :=
  ∃ ρ1 st1, T.R (.ops l ρ st ρ1 st1) ∧ W T Q k .normal (dropA kill ρ1) st1
def D (T : Tb) (Q : Post) (l : List POp) (kill : List Nat) (k : List Fr) (ρ : Env) (st : St) : Prop :=
  ∃ ρ1, T.R (.drawn l ρ st ρ1) ∧ W T Q k .normal (dropA kill ρ1) st
section
variable {T : Tb} {Q : Post} {k : List Fr} {ρ : Env} {st : St} {l : List POp} {kill : List Nat}
theorem W_skip (h : W T Q k .normal ρ st) : W T Q (.code .skip :: k) .normal ρ st := ⟨_, _, _, .skip _ _, h⟩
theorem W_seq {a b : PC} (h : W T Q (.code a :: .code b :: k) .normal ρ st) : W T Q (.code (.seq a b) :: k) .normal ρ st := by
  obtain ⟨x1, ρ1, st1, h1, h2⟩ := h
  cases x1 with
  | normal =>
    obtain ⟨x2, ρ2, st2, h3, h4⟩ := h2
    exact ⟨_, _, _, .seqN _ _ _ _ _ _ _ _ _ h1 h3, h4⟩
  | exit i => exact ⟨_, _, _, .seqX _ _ _ _ _ _ _ (by simp) h1, h2⟩
  | ret => exact ⟨_, _, _, .seqX _ _ _ _ _ _ _ (by simp) h1, h2⟩
theorem W_cond {c : Opd} {a b : PC} {t : Bool} (hc : c.ev ρ = .bool t) (h : W T Q (.code (if t then a else b) :: k) .normal ρ st) : W T Q (.code (.cond c a b) :: k) .normal ρ st := by
  obtain ⟨x1, ρ1, st1, h1, h2⟩ := h
  exact ⟨_, _, _, .cond _ _ _ _ _ _ _ _ _ hc h1, h2⟩
theorem W_block {id : Nat} {c : PC} (h : W T Q (.code c :: .block id :: k) .normal ρ st) : W T Q (.code (.block id c) :: k) .normal ρ st := by
  obtain ⟨x1, ρ1, st1, h1, h2⟩ := h
  exact ⟨_, _, _, .block _ _ _ _ _ _ _ h1, h2⟩
theorem W_exit {id : Nat} (h : W T Q k (.exit id) ρ st) : W T Q (.code (.exit id) :: k) .normal ρ st := ⟨_, _, _, .exit _ _ _, h⟩
theorem W_ret (h : W T Q k .ret ρ st) : W T Q (.code .ret :: k) .normal ρ st := ⟨_, _, _, .ret _ _, h⟩
theorem W_blockN {id : Nat} (h : W T Q k .normal ρ st) : W T Q (.block id :: k) .normal ρ st := h
theorem W_blockR {id : Nat} (h : W T Q k .ret ρ st) : W T Q (.block id :: k) .ret ρ st := h
theorem W_blockE {id : Nat} (h : W T Q k .normal ρ st) : W T Q (.block id :: k) (.exit id) ρ st := by
  simp only [W, if_true]
  exact h
theorem W_blockO {id i : Nat} (hi : i ≠ id) (h : W T Q k (.exit i) ρ st) : W T Q (.block id :: k) (.exit i) ρ st := by
  have : (EX.exit i = EX.exit id) = False := by simp [hi]
  simp only [W, this, if_false]
  exact h
theorem W_loop {c : PC} (h : W T Q (.code c :: .code (.loop c) :: k) .normal ρ st) : W T Q (.code (.loop c) :: k) .normal ρ st := by
  obtain ⟨x1, ρ1, st1, h1, h2⟩ := h
  cases x1 with
  | normal =>
    obtain ⟨x2, ρ2, st2, h3, h4⟩ := h2
    exact ⟨_, _, _, .loopN _ _ _ _ _ _ _ _ h1 h3, h4⟩
  | exit i => exact ⟨_, _, _, .loopX _ _ _ _ _ _ (by simp) h1, h2⟩
  | ret => exact ⟨_, _, _, .loopX _ _ _ _ _ _ (by simp) h1, h2⟩
theorem W_mono {Q' : Post} (hQ : ∀ x ρ st, Q x ρ st → Q' x ρ st) : ∀ (k : List Fr) (x : EX) (ρ : Env) (st : St), W T Q k x ρ st → W T Q' k x ρ st
  | [], x, ρ, st, h => hQ x ρ st h
  | .code c :: k, .normal, ρ, st, ⟨x1, ρ1, st1, h1, h2⟩ => ⟨x1, ρ1, st1, h1, W_mono hQ k _ _ _ h2⟩
  | .code c :: k, .exit i, ρ, st, h => W_mono hQ k _ _ _ h
  | .code c :: k, .ret, ρ, st, h => W_mono hQ k _ _ _ h
  | .block id :: k, x, ρ, st, h => W_mono hQ k _ _ _ h
theorem W_cut {Q' : Post} {c : PC} (h : W T Q' [.code c] .normal ρ st) (hk : ∀ x ρ' st', Q' x ρ' st' → W T Q k x ρ' st') : W T Q (.code c :: k) .normal ρ st := by
  obtain ⟨x1, ρ1, st1, h1, h2⟩ := h
  exact ⟨_, _, _, h1, hk _ _ _ h2⟩
theorem W_ops (h : O T Q l kill k ρ st) : W T Q (.code (.ops l kill) :: k) .normal ρ st := by
  obtain ⟨ρ1, st1, h1, h2⟩ := h
  exact ⟨_, _, _, .ops _ _ _ _ _ _ h1, h2⟩
theorem W_drawn (h : D T Q l kill k ρ st) : W T Q (.code (.drawn l kill) :: k) .normal ρ st := by
  obtain ⟨ρ1, h1, h2⟩ := h
  exact ⟨_, _, _, .drawn _ _ _ _ _ h1, h2⟩
theorem O_nil (h : W T Q k .normal (dropA kill ρ) st) : O T Q [] kill k ρ st := ⟨_, _, .opsNil _ _, h⟩
theorem D_nil (h : W T Q k .normal (dropA kill ρ) st) : D T Q [] kill k ρ st := ⟨_, .drawnNil _ _, h⟩
theorem O_q {d : Option Nat} {op : PI} {p : PV} (hq : quiet st.get (Opd.ev ρ) op = some p) (h : O T Q l kill k (Env.put ρ d p) st) : O T Q (⟨d, none, op⟩ :: l) kill k ρ st := by
  obtain ⟨ρ1, st1, h1, h2⟩ := h
  exact ⟨_, _, .opsQuiet _ _ _ _ _ _ _ rfl hq h1, h2⟩
theorem O_l {d : Option Nat} {op : PI} {p : PV} {st' : St} (hq : loud st (Opd.ev ρ) op = some (p, st')) (h : O T Q l kill k (Env.put ρ d p) st') : O T Q (⟨d, none, op⟩ :: l) kill k ρ st := by
  obtain ⟨ρ1, st1, h1, h2⟩ := h
  exact ⟨_, _, .opsLoud _ _ _ _ _ _ _ _ rfl hq h1, h2⟩
theorem O_g {d : Option Nat} {op : PI} {t : Nat} {want b : Bool} (hg : getA t ρ = some (.bool b)) (h1 : b = want → O T Q (⟨d, none, op⟩ :: l) kill k ρ st) (h2 : b ≠ want → O T Q l kill k (Env.put ρ d (.tuple [])) st) : O T Q (⟨d, some (t, want), op⟩ :: l) kill k ρ st := by
  by_cases h : b = want
  · obtain ⟨ρ1, st1, h3, h4⟩ := h1 h
    refine ⟨ρ1, st1, ?_, h4⟩
    have hg' : gd (getA · ρ) (some (t, want)) = some true := by simp [gd, hg, h]
    cases h3 with
    | opsSkip _ _ _ _ _ _ g _ => cases g
    | opsQuiet _ _ _ _ p _ _ g q r => exact .opsQuiet _ _ _ _ _ _ _ hg' q r
    | opsLoud _ _ _ _ p st1 _ _ g q r => exact .opsLoud _ _ _ _ _ _ _ _ hg' q r
    | opsCall _ _ _ _ f xs g caps args rr _ _ gg ho hf hv hc hh => exact .opsCall _ _ _ _ _ _ _ _ _ _ _ _ hg' ho hf hv hc hh
    | opsCallS _ _ _ _ f xs g caps args rr _ _ gg ho hf hv hr hc hh => exact .opsCallS _ _ _ _ _ _ _ _ _ _ _ _ hg' ho hf hv hr hc hh
    | opsCallW _ _ _ _ r0 s0 f xs g caps args rr _ _ gg ho hw hf hv hc hh => exact .opsCallW _ _ _ _ _ _ _ _ _ _ _ _ _ _ hg' ho hw hf hv hc hh
    | opsExt _ _ _ _ f xs g caps args rr _ _ gg ho hf hv hr hc hh => exact .opsExt _ _ _ _ _ _ _ _ _ _ _ _ hg' ho hf hv hr hc hh
    | opsRaw _ _ _ _ f xs g caps q τ rr st1 _ _ gg ho hf hp hb hc hh => exact .opsRaw _ _ _ _ _ _ _ _ _ _ _ _ _ _ hg' ho hf hp hb hc hh
  · obtain ⟨ρ1, st1, h3, h4⟩ := h2 h
    exact ⟨_, _, .opsSkip _ _ _ _ _ _ (by simp [gd, hg, h]) h3, h4⟩
theorem O_gT {d : Option Nat} {op : PI} {t : Nat} {want : Bool} (hg : getA t ρ = some (.bool want)) (h1 : O T Q (⟨d, none, op⟩ :: l) kill k ρ st) : O T Q (⟨d, some (t, want), op⟩ :: l) kill k ρ st := O_g hg (fun _ => h1) (fun h => (h rfl).elim)
theorem O_gF {d : Option Nat} {op : PI} {t : Nat} {want b : Bool} (hg : getA t ρ = some (.bool b)) (hb : b ≠ want) (h2 : O T Q l kill k (Env.put ρ d (.tuple [])) st) : O T Q (⟨d, some (t, want), op⟩ :: l) kill k ρ st := O_g hg (fun h => (hb h).elim) (fun _ => h2)
theorem O_gU {d : Option Nat} {op : PI} {t : Nat} {want : Bool} (hg : getA t ρ = some (.tuple [])) (h2 : O T Q l kill k (Env.put ρ d (.tuple [])) st) : O T Q (⟨d, some (t, want), op⟩ :: l) kill k ρ st := by
  obtain ⟨ρ1, st1, h3, h4⟩ := h2
  exact ⟨_, _, .opsSkip _ _ _ _ _ _ (by simp [gd, hg]) h3, h4⟩
theorem O_call {d : Option Nat} {f : Opd} {xs : List Opd} {g : Nat} {caps args : List PV} {r : PV} (hf : f.ev ρ = .func g caps) (hv : ViewL false st.get (xs.map (Opd.ev ρ) ++ caps) args) (hc : T.R (.call g args r)) (h : O T Q l kill k (Env.put ρ d r) st) : O T Q (⟨d, none, .call f xs⟩ :: l) kill k ρ st := by
  obtain ⟨ρ1, st1, h1, h2⟩ := h
  exact ⟨_, _, .opsCall _ _ _ _ _ _ _ _ _ _ _ _ rfl rfl hf hv hc h1, h2⟩
theorem O_ext {d : Option Nat} {f : Opd} {xs : List Opd} {g : Nat} {caps args : List PV} {r : PV} (hf : f.ev ρ = .func g caps) (hv : ViewL true st.get (xs.map (Opd.ev ρ) ++ caps) args) (hr : scalarR r = true) (hc : T.ext g args r) (h : O T Q l kill k (Env.put ρ d r) st) : O T Q (⟨d, none, .call f xs⟩ :: l) kill k ρ st := by
  obtain ⟨ρ1, st1, h1, h2⟩ := h
  exact ⟨_, _, .opsExt _ _ _ _ _ _ _ _ _ _ _ _ rfl rfl hf hv hr hc h1, h2⟩
theorem D_q {d : Option Nat} {op : PI} {p : PV} (hq : quiet st.get (Opd.ev ρ) op = some p) (h : D T Q l kill k (Env.put ρ d p) st) : D T Q (⟨d, none, op⟩ :: l) kill k ρ st := by
  obtain ⟨ρ1, h1, h2⟩ := h
  exact ⟨_, .drawnQuiet _ _ _ _ _ _ rfl hq h1, h2⟩
theorem D_g {d : Option Nat} {op : PI} {t : Nat} {want b : Bool} (hg : getA t ρ = some (.bool b)) (h1 : b = want → D T Q (⟨d, none, op⟩ :: l) kill k ρ st) (h2 : b ≠ want → D T Q l kill k (Env.put ρ d (.tuple [])) st) : D T Q (⟨d, some (t, want), op⟩ :: l) kill k ρ st := by
  by_cases h : b = want
  · obtain ⟨ρ1, h3, h4⟩ := h1 h
    refine ⟨ρ1, ?_, h4⟩
    have hg' : gd (getA · ρ) (some (t, want)) = some true := by simp [gd, hg, h]
    cases h3 with
    | drawnSkip _ _ _ _ _ g _ => cases g
    | drawnQuiet _ _ _ _ p _ g q r => exact .drawnQuiet _ _ _ _ _ _ hg' q r
    | drawnCall _ _ _ _ f xs g caps args rr _ gg ho hf hv hc hh => exact .drawnCall _ _ _ _ _ _ _ _ _ _ _ hg' ho hf hv hc hh
    | drawnCallS _ _ _ _ f xs g caps args rr _ gg ho hf hv hr hc hh => exact .drawnCallS _ _ _ _ _ _ _ _ _ _ _ hg' ho hf hv hr hc hh
  · obtain ⟨ρ1, h3, h4⟩ := h2 h
    exact ⟨_, .drawnSkip _ _ _ _ _ (by simp [gd, hg, h]) h3, h4⟩
theorem D_gU {d : Option Nat} {op : PI} {t : Nat} {want : Bool} (hg : getA t ρ = some (.tuple [])) (h2 : D T Q l kill k (Env.put ρ d (.tuple [])) st) : D T Q (⟨d, some (t, want), op⟩ :: l) kill k ρ st := by
  obtain ⟨ρ1, h3, h4⟩ := h2
  exact ⟨_, .drawnSkip _ _ _ _ _ (by simp [gd, hg]) h3, h4⟩
theorem D_call {d : Option Nat} {f : Opd} {xs : List Opd} {g : Nat} {caps args : List PV} {r : PV} (hf : f.ev ρ = .func g caps) (hv : ViewL false st.get (xs.map (Opd.ev ρ) ++ caps) args) (hc : T.R (.call g args r)) (h : D T Q l kill k (Env.put ρ d r) st) : D T Q (⟨d, none, .call f xs⟩ :: l) kill k ρ st := by
  obtain ⟨ρ1, h1, h2⟩ := h
  exact ⟨_, .drawnCall _ _ _ _ _ _ _ _ _ _ _ rfl rfl hf hv hc h1, h2⟩
end
def Ends (pf : PF) (Q : PV → Prop) : Post := fun x ρ st => (x = .normal ∨ x = .ret) ∧ ∃ r0 r, resOf ρ st.get pf.results = some r0 ∧ View true st.get r0 r ∧ Q r
theorem call_of {T : Tb} {f : Nat} {pf : PF} {args : List PV} {Q : PV → Prop} (hf : T.tbl f = some pf) (hn : args.length ≤ pf.ntmps) (h : W T (Ends pf Q) [.code pf.body] .normal (envFrom 0 args) emptySt) : ∃ r, T.R (.call f args r) ∧ Q r := by
  obtain ⟨x, ρ, st, h1, hx, r0, r, h2, h3, h4⟩ := h
  exact ⟨r, .call _ _ _ _ _ _ _ _ hf hn h1 hx h2 h3, h4⟩
theorem call_is {T : Tb} {f : Nat} {pf : PF} {args : List PV} {r : PV} (hf : T.tbl f = some pf) (hn : args.length ≤ pf.ntmps) (h : W T (Ends pf (· = r)) [.code pf.body] .normal (envFrom 0 args) emptySt) : T.R (.call f args r) := by
  obtain ⟨r', h1, rfl⟩ := call_of hf hn h
  exact h1
inductive Pl : PV → Prop
  | junk : Pl .junk
  | bool (b) : Pl (.bool b)
  | int (k n) : Pl (.int k n)
  | str (s) : Pl (.str s)
  | nilPtr : Pl .nilPtr
  | iptr (cs off) (h : ∀ c ∈ cs, Pl c) : Pl (.iptr cs off)
  | nilSl : Pl .nilSl
  | sl (xs full) (h : ∀ cs ∈ xs, ∀ c ∈ cs, Pl c) : Pl (.sl xs full)
  | func (f cs) (h : ∀ c ∈ cs, Pl c) : Pl (.func f cs)
  | nilFunc : Pl .nilFunc
  | iface (ty v) (h : Pl v) : Pl (.iface ty v)
  | nilIface : Pl .nilIface
  | agg (cs) (h : ∀ c ∈ cs, Pl c) : Pl (.agg cs)
  | tuple (cs) (h : ∀ c ∈ cs, Pl c) : Pl (.tuple cs)
theorem Pl.bel {m : Nat} {p : PV} (h : Pl p) : Bel m p := by
  induction h with
  | junk => exact .junk
  | bool b => exact .bool b
  | int k n => exact .int k n
  | str s => exact .str s
  | nilPtr => exact .nilPtr
  | iptr cs off _ ih => exact .iptr _ _ ih
  | nilSl => exact .nilSl
  | sl xs full _ ih => exact .sl _ _ ih
  | func f cs _ ih => exact .func _ _ ih
  | nilFunc => exact .nilFunc
  | iface ty v _ ih => exact .iface _ _ ih
  | nilIface => exact .nilIface
  | agg cs _ ih => exact .agg _ ih
  | tuple cs _ ih => exact .tuple _ ih
theorem Pl.view {live : Bool} {look : Nat → Option Tok} {p : PV} (h : Pl p) : View live look p p := by
  have key : ∀ {cs : List PV} {i : Nat} {c d : PV}, cs[i]? = some c → cs[i]? = some d → c = d := fun h1 h2 => by rw [h1] at h2; injection h2
  induction h with
  | junk => exact .junk _
  | bool b => exact .bool b
  | int k n => exact .int k n
  | str s => exact .str s
  | nilPtr => exact .nilPtr
  | iptr cs off _ ih => exact .iptr _ _ _ rfl fun i c d h1 h2 => by have := key h1 h2; subst this; exact ih c (List.mem_of_getElem? h1)
  | nilSl => exact .nilSl
  | sl xs full _ ih =>
    refine .sl _ _ _ rfl (fun j cs ds h1 h2 => ?_) (fun j cs ds i c d h1 h2 h3 h4 => ?_)
    · rw [h1] at h2; injection h2 with h2; rw [h2]
    · rw [h1] at h2; injection h2 with h2; subst h2
      have := key h3 h4; subst this
      exact ih cs (List.mem_of_getElem? h1) c (List.mem_of_getElem? h3)
  | func f cs _ ih => exact .func _ _ _ rfl fun i c d h1 h2 => by have := key h1 h2; subst this; exact ih c (List.mem_of_getElem? h1)
  | nilFunc => exact .nilFunc
  | iface ty v _ ih => exact .iface _ _ _ ih
  | nilIface => exact .nilIface
  | agg cs _ ih => exact .agg _ _ rfl fun i c d h1 h2 => by have := key h1 h2; subst this; exact ih c (List.mem_of_getElem? h1)
  | tuple cs _ ih => exact .tuple _ _ rfl fun i c d h1 h2 => by have := key h1 h2; subst this; exact ih c (List.mem_of_getElem? h1)
theorem viewL_pl {live : Bool} {look : Nat → Option Tok} {xs : List PV} (h : ∀ c ∈ xs, Pl c) : ViewL live look xs xs :=
  ⟨rfl, fun i a b h1 h2 => by
    rw [h1] at h2; injection h2 with h2; subst h2
    exact (h a (List.mem_of_getElem? h1)).view⟩
theorem view_osl {live : Bool} {look : Nat → Option Tok} {t g off len sz : Nat} {full lv : Bool} {es : List (List PV)} (hg : look t = some (.row g sz es lv)) (hlv : live = true ∨ lv = false) (hb : off + len ≤ es.length) (hp : ∀ cs ∈ (es.drop off).take len, ∀ c ∈ cs, Pl c) : View live look (.osl t g off len full) (.sl ((es.drop off).take len) full) := by
  refine .osl t g off len full sz es lv _ hg hlv hb rfl (fun j cs ds h1 h2 => ?_) (fun j cs ds i c d h1 h2 h3 h4 => ?_)
  · rw [h1] at h2; injection h2 with h2; rw [h2]
  · rw [h1] at h2; injection h2 with h2; subst h2
    rw [h3] at h4; injection h4 with h4; subst h4
    exact (hp cs (List.mem_of_getElem? h1) c (List.mem_of_getElem? h3)).view
theorem view_osl0 {live : Bool} {look : Nat → Option Tok} {t g len sz : Nat} {full lv : Bool} {es : List (List PV)} (hg : look t = some (.row g sz es lv)) (hlv : live = true ∨ lv = false) (hb : len = es.length) (hp : ∀ cs ∈ es, ∀ c ∈ cs, Pl c) : View live look (.osl t g 0 len full) (.sl es full) := by
  subst hb
  have := view_osl (live := live) (full := full) hg hlv (off := 0) (len := es.length) (by simp) (by simpa using hp)
  simpa using this
theorem pl_bytes (s : List UInt8) : ∀ cs ∈ byteCells s, ∀ c ∈ cs, Pl c := by
  intro cs h c hc
  obtain ⟨b, _, rfl⟩ := List.mem_map.1 h
  simp at hc
  subst hc
  exact .int _ _
end Go.AM
set_option linter.unusedVariables false
set_option linter.unusedSimpArgs false
namespace Go.AM
open Go.RowKit
inductive EC where
  | nil
  | put (t : Nat) (p : PV) (e : EC)
  | drop (ts : List Nat) (e : EC)
def has (t : Nat) : List Nat → Bool
  | [] => false
  | x :: r => match Nat.beq t x with
    | true => true
    | false => has t r
def EC.get (t : Nat) : EC → Option PV
  | .nil => none
  | .put u p e => match Nat.beq t u with
    | true => some p
    | false => EC.get t e
  | .drop ts e => match has t ts with
    | true => none
    | false => EC.get t e
def EC.sets (e : EC) (d : Option Nat) (p : PV) : EC :=
  match d with
  | some t => .put t p e
  | none => e
def Sub (e : EC) (ρ : Env) : Prop := ∀ t p, e.get t = some p → getA t ρ = some p
theorem has_contains (t : Nat) : ∀ ts : List Nat, ts.contains t = has t ts
  | [] => rfl
  | x :: r => by
    simp only [has, List.contains_cons, ← has_contains t r]
    cases h : Nat.beq t x with
    | true => simp [Nat.eq_of_beq_eq_true h]
    | false => simp [Nat.ne_of_beq_eq_false h]
theorem Sub.sets {e : EC} {ρ : Env} (h : Sub e ρ) (d : Option Nat) (p : PV) : Sub (e.sets d p) (Env.put ρ d p) := by
  intro t q hq
  cases d with
  | none => exact h t q hq
  | some d =>
    simp only [EC.sets, EC.get] at hq
    simp only [Env.put, getA_putA]
    cases hb : Nat.beq t d with
    | true =>
      rw [hb] at hq
      injection hq with hq
      rw [if_pos (Nat.eq_of_beq_eq_true hb).symm, hq]
    | false =>
      rw [hb] at hq
      rw [if_neg (fun e => Nat.ne_of_beq_eq_false hb e.symm)]
      exact h t q hq
theorem Sub.drop {e : EC} {ρ : Env} (h : Sub e ρ) (ts : List Nat) : Sub (.drop ts e) (dropA ts ρ) := by
  intro t q hq
  simp only [EC.get] at hq
  rw [getA_dropA, has_contains]
  cases hb : has t ts with
  | true => rw [hb] at hq; cases hq
  | false => rw [hb] at hq; simpa using h t q hq
def ecFrom (k : Nat) : List PV → EC
  | [] => .nil
  | p :: r => .put k p (ecFrom (k + 1) r)
theorem sub_from : ∀ (k : Nat) (args : List PV), Sub (ecFrom k args) (envFrom k args)
  | k, [], t, p, h => by cases h
  | k, a :: r, t, p, h => by
    simp only [ecFrom, EC.get] at h
    simp only [envFrom, getA]
    cases hb : Nat.beq t k with
    | true =>
      rw [hb] at h
      rw [if_pos (Nat.eq_of_beq_eq_true hb).symm]
      exact h
    | false =>
      rw [hb] at h
      rw [if_neg (fun e => Nat.ne_of_beq_eq_false hb e.symm)]
      exact sub_from (k + 1) r t p h
def Opd.get (ρ : EC) : Opd → Option PV
  | .t n => ρ.get n
  | .c p => some p
theorem Opd.ev_of {ρ : EC} {r0 : Env} (hs : Sub ρ r0) {x : Opd} {p : PV} (h : x.get ρ = some p) : x.ev r0 = p := by
  cases x with
  | t n => simp only [Opd.get] at h; simp [Opd.ev, Env.at, hs _ _ h]
  | c q => injection h
def gets (ρ : EC) : List Opd → Option (List PV)
  | [] => some []
  | x :: r => match x.get ρ with
    | some p => match gets ρ r with
      | some ps => some (p :: ps)
      | none => none
    | none => none
theorem gets_ev {ρ : EC} {r0 : Env} (hs : Sub ρ r0) : ∀ {xs : List Opd} {ps : List PV}, gets ρ xs = some ps → xs.map (Opd.ev r0) = ps
  | [], ps, h => by injection h
  | x :: r, ps, h => by
    simp only [gets] at h
    split at h
    · rename_i p hp
      split at h
      · rename_i qs hq
        injection h with h
        subst h
        simp [Opd.ev_of hs hp, gets_ev hs hq]
      · cases h
    · cases h
def getOpt (ρ : EC) : Option Opd → Option (Option PV)
  | none => some none
  | some x => match x.get ρ with
    | some p => some (some p)
    | none => none
theorem getOpt_ev {ρ : EC} {r0 : Env} (hs : Sub ρ r0) {x : Option Opd} {p : Option PV} (h : getOpt ρ x = some p) : x.map (Opd.ev r0) = p := by
  cases x with
  | none => injection h
  | some x =>
    simp only [getOpt] at h
    split at h
    · rename_i q hq
      injection h with h
      subst h
      simp [Opd.ev_of hs hq]
    · cases h
def get1 (ρ : EC) (x : Opd) (f : PV → Option PV) : Option PV :=
  match x.get ρ with
  | some p => f p
  | none => none
def get2 (ρ : EC) (x y : Opd) (f : PV → PV → Option PV) : Option PV :=
  match x.get ρ with
  | some p => match y.get ρ with
    | some q => f p q
    | none => none
  | none => none
theorem get1_ev {ρ : EC} {r0 : Env} (hs : Sub ρ r0) {x : Opd} {f : PV → Option PV} {r : PV} (h : get1 ρ x f = some r) : f (x.ev r0) = some r := by
  unfold get1 at h
  split at h
  · rename_i p hp; rw [Opd.ev_of hs hp]; exact h
  · cases h
theorem get2_ev {ρ : EC} {r0 : Env} (hs : Sub ρ r0) {x y : Opd} {f : PV → PV → Option PV} {r : PV} (h : get2 ρ x y f = some r) : f (x.ev r0) (y.ev r0) = some r := by
  unfold get2 at h
  split at h
  · rename_i p hp
    split at h
    · rename_i q hq; rw [Opd.ev_of hs hp, Opd.ev_of hs hq]; exact h
    · cases h
  · cases h
def intNe (neq : Bool) : Option Bool → Option PV
  | some b => some (.bool (match neq with | true => !b | false => b))
  | none => none
def natPV : Option Nat → Option PV
  | some n => some (.int .i64 n)
  | none => none
def partsOf (ρ : EC) : List (Nat × Nat × Opd) → Option (List (Nat × Nat × PV))
  | [] => some []
  | (a, b, x) :: r => match x.get ρ with
    | some p => match partsOf ρ r with
      | some ps => some ((a, b, p) :: ps)
      | none => none
    | none => none
theorem partsOf_ev {ρ : EC} {r0 : Env} (hs : Sub ρ r0) : ∀ {xs : List (Nat × Nat × Opd)} {ps : List (Nat × Nat × PV)}, partsOf ρ xs = some ps → xs.map (fun p => (p.1, p.2.1, Opd.ev r0 p.2.2)) = ps
  | [], ps, h => by injection h
  | (a, b, x) :: r, ps, h => by
    simp only [partsOf] at h
    split at h
    · rename_i p hp
      split at h
      · rename_i qs hq
        injection h with h
        subst h
        simp [Opd.ev_of hs hp, partsOf_ev hs hq]
      · cases h
    · cases h
def elsOf (ρ : EC) : List (Nat × Opd) → Option (List (Nat × PV))
  | [] => some []
  | (a, x) :: r => match x.get ρ with
    | some p => match elsOf ρ r with
      | some ps => some ((a, p) :: ps)
      | none => none
    | none => none
theorem elsOf_ev {ρ : EC} {r0 : Env} (hs : Sub ρ r0) : ∀ {xs : List (Nat × Opd)} {ps : List (Nat × PV)}, elsOf ρ xs = some ps → xs.map (fun p => (p.1, Opd.ev r0 p.2)) = ps
  | [], ps, h => by injection h
  | (a, x) :: r, ps, h => by
    simp only [elsOf] at h
    split at h
    · rename_i p hp
      split at h
      · rename_i qs hq
        injection h with h
        subst h
        simp [Opd.ev_of hs hp, elsOf_ev hs hq]
      · cases h
    · cases h
def indexed (f : Int → PV → Option PV) : PV → PV → Option PV
  | p, .int _ i => f i p
  | _, _ => none
def stepQ (look : Nat → Option Tok) (ρ : EC) : PI → Option PV
  | .move x => x.get ρ
  | .pick c a b => match c.get ρ with
    | some (.bool true) => a.get ρ
    | some (.bool false) => b.get ρ
    | _ => none
  | .load n agg a => get1 ρ a (loadAt look n agg)
  | .build zero ps => match partsOf ρ ps with
    | some qs => match fillParts zero qs with
      | some cs => some (.agg cs)
      | none => none
    | none => none
  | .buildSl sz zero ps => match allOf sz zero with
    | true => match elsOf ρ ps with
      | some qs => match fillElems sz zero qs with
        | some es => some (.sl es true)
        | none => none
      | none => none
    | false => none
  | .fieldAddr x d => get1 ρ x (fieldAddr? d)
  | .field x off n agg => get1 ρ x (field? off n agg)
  | .indexA x ix len sz => get2 ρ x ix (indexed (indexA? len sz))
  | .indexS x ix sz => get2 ρ x ix (indexed (indexS? look sz))
  | .indexStr x ix => get2 ρ x ix (indexed indexStr?)
  | .sliceStr x lo hi => match getOpt ρ lo with
    | some l => match getOpt ρ hi with
      | some h => get1 ρ x (sliceStr? l h)
      | none => none
    | none => none
  | .sliceSl x sz lo hi mx => match getOpt ρ lo with
    | some l => match getOpt ρ hi with
      | some h => match getOpt ρ mx with
        | some m => get1 ρ x (sliceSl? look sz l h m)
        | none => none
      | none => none
    | none => none
  | .sliceArr x len sz lo hi mx => match getOpt ρ lo with
    | some l => match getOpt ρ hi with
      | some h => match getOpt ρ mx with
        | some m => get1 ρ x (sliceArr? len sz l h m)
        | none => none
      | none => none
    | none => none
  | .conv k x => get1 ρ x (conv? k)
  | .toBytes x => get1 ρ x fun p => match p with
    | .str s => some (.sl (byteCells s) false)
    | _ => none
  | .textId x => get1 ρ x fun p => match p with
    | .str s => some (.str s)
    | _ => none
  | .toStr x => get1 ρ x fun p => (elemsOf look p).bind fun es => (bytesOf? es).map .str
  | .neg x => get1 ρ x neg?
  | .not x => get1 ρ x not?
  | .bin op x y => get2 ρ x y (binOp? op)
  | .eqNil neq kind x => get1 ρ x fun p => intNe neq (isNil kind p)
  | .eqBool neq x y => get2 ρ x y fun p q => intNe neq (eqBool? p q)
  | .eqAgg neq ks x y => get2 ρ x y fun p q => intNe neq (eqAgg? ks p q)
  | .extract x i => get1 ρ x (extract? i)
  | .mkIface ty x => get1 ρ x fun p => some (.iface ty p)
  | .mkFunc f caps => match gets ρ caps with
    | some cs => some (.func f cs)
    | none => none
  | .nilCheck x => get1 ρ x nilCheck?
  | .len txt x => get1 ρ x fun p => match isStr p == txt with
    | true => natPV (lenOf p)
    | false => none
  | .cap x => get1 ρ x fun p => natPV (cap? p)
  | .minmax mx xs => match gets ρ xs with
    | some ps => minmax? mx ps
    | none => none
  | .mapLook z ok m k => get2 ρ m k (mapLook? look z ok)
  | .append sz bytes _ s x => get2 ρ s x (appQ sz bytes)
  | _ => none
theorem indexed_ev {f : Int → PV → Option PV} {p q r : PV} (h : indexed f p q = some r) : (int? q).bind (fun i => f i p) = some r := by
  unfold indexed at h
  split at h
  · exact h
  · cases h
theorem intNe_ev {neq : Bool} {o : Option Bool} {r : PV} (h : intNe neq o = some r) : o.map (fun b => PV.bool (if neq then !b else b)) = some r := by
  cases o with
  | none => cases h
  | some b => cases neq <;> exact h
theorem natPV_ev {o : Option Nat} {r : PV} (h : natPV o = some r) : o.map (fun (n : Nat) => PV.int .i64 (n : Int)) = some r := by
  cases o with
  | none => cases h
  | some b => exact h
theorem stepQ_quiet {look : Nat → Option Tok} {ρ : EC} {r0 : Env} (hs : Sub ρ r0) {op : PI} {p : PV} (h : stepQ look ρ op = some p) : quiet look (Opd.ev r0) op = some p := by
  cases op with
  | move x => simp only [quiet]; rw [Opd.ev_of hs h]
  | pick c a b =>
    simp only [stepQ] at h
    split at h
    · rename_i hc; simp only [quiet, Opd.ev_of hs hc, pick?, Opd.ev_of hs h, if_true]
    · rename_i hc; simp only [quiet, Opd.ev_of hs hc, pick?, Opd.ev_of hs h]; rfl
    · cases h
  | build zero ps =>
    simp only [stepQ] at h
    split at h
    · rename_i qs hq
      split at h
      · rename_i cs hc
        simp only [quiet, partsOf_ev hs hq, hc, Option.map_some]
        exact h
      · cases h
    · cases h
  | buildSl sz zero ps =>
    simp only [stepQ] at h
    split at h
    · rename_i ha
      split at h
      · rename_i qs hq
        split at h
        · rename_i cs hc
          simp only [quiet, elsOf_ev hs hq, hc, ha, if_true, Option.map_some]
          exact h
        · cases h
      · cases h
    · cases h
  | indexA x ix len sz => exact indexed_ev (get2_ev hs h)
  | indexS x ix sz => exact indexed_ev (get2_ev hs h)
  | indexStr x ix => exact indexed_ev (get2_ev hs h)
  | sliceStr x lo hi =>
    simp only [stepQ] at h
    split at h
    · rename_i a ha
      split at h
      · rename_i b hb
        simp only [quiet, getOpt_ev hs ha, getOpt_ev hs hb]
        exact get1_ev hs h
      · cases h
    · cases h
  | sliceSl x sz lo hi mx =>
    simp only [stepQ] at h
    split at h
    · rename_i a ha
      split at h
      · rename_i b hb
        split at h
        · rename_i c hc
          simp only [quiet, getOpt_ev hs ha, getOpt_ev hs hb, getOpt_ev hs hc]
          exact get1_ev hs h
        · cases h
      · cases h
    · cases h
  | sliceArr x len sz lo hi mx =>
    simp only [stepQ] at h
    split at h
    · rename_i a ha
      split at h
      · rename_i b hb
        split at h
        · rename_i c hc
          simp only [quiet, getOpt_ev hs ha, getOpt_ev hs hb, getOpt_ev hs hc]
          exact get1_ev hs h
        · cases h
      · cases h
    · cases h
  | toBytes x =>
    have h := get1_ev hs h
    simp only [quiet]
    exact h
  | textId x =>
    have h := get1_ev hs h
    simp only [quiet]
    exact h
  | eqNil neq kind x => exact intNe_ev (get1_ev hs h)
  | eqBool neq x y => exact intNe_ev (get2_ev hs h)
  | eqAgg neq ks x y => exact intNe_ev (get2_ev hs h)
  | mkFunc f caps =>
    simp only [stepQ] at h
    split at h
    · rename_i cs hc
      simp only [quiet, gets_ev hs hc]
      exact h
    · cases h
  | len txt x =>
    have h := get1_ev hs h
    simp only [quiet]
    cases he : isStr (x.ev r0) == txt with
    | true =>
      simp only [he] at h
      rw [if_pos rfl]
      exact natPV_ev h
    | false =>
      simp only [he] at h
      cases h
  | cap x => exact natPV_ev (get1_ev hs h)
  | minmax mx xs =>
    simp only [stepQ] at h
    split at h
    · rename_i cs hc
      simp only [quiet, gets_ev hs hc]
      exact h
    · cases h
  | load n agg a => exact get1_ev hs h
  | fieldAddr x d => exact get1_ev hs h
  | field x off n agg => exact get1_ev hs h
  | conv k x => exact get1_ev hs h
  | toStr x => exact get1_ev hs h
  | neg x => exact get1_ev hs h
  | not x => exact get1_ev hs h
  | bin op x y => exact get2_ev hs h
  | extract x i => exact get1_ev hs h
  | mkIface ty x => exact get1_ev hs h
  | nilCheck x => exact get1_ev hs h
  | store n a x => cases h
  | alloc cells => cases h
  | box x => cases h
  | makeSl sz zero bytes len cap => cases h
  | append sz bytes zero s x => exact get2_ev hs h
  | appendZ sz bytes zero s x => cases h
  | copy sz d s => cases h
  | call f args => cases h
  | makeMap => cases h
  | mapPut m k x => cases h
  | mapLook z ok m k => exact get2_ev hs h
section
variable {T : Tb} {Q : Post} {k : List Fr} {ρ : EC} {st : St} {l : List POp} {kill : List Nat}
def V (T : Tb) (Q : Post) (k : List Fr) (x : EX) (e : EC) (st : St) : Prop := ∀ ρ, Sub e ρ → W T Q k x ρ st
def VO (T : Tb) (Q : Post) (l : List POp) (kill : List Nat) (k : List Fr) (e : EC) (st : St) : Prop := ∀ ρ, Sub e ρ → O T Q l kill k ρ st
def VD (T : Tb) (Q : Post) (l : List POp) (kill : List Nat) (k : List Fr) (e : EC) (st : St) : Prop := ∀ ρ, Sub e ρ → D T Q l kill k ρ st
theorem V_less {x : EX} {e : EC} (e' : EC) (he : ∀ t p, e'.get t = some p → e.get t = some p) (h : V T Q k x e' st) : V T Q k x e st := fun r hr => h r fun t p hp => hr t p (he t p hp)
theorem less_put {e e' : EC} {u : Nat} {q : PV} (hu : e.get u = some q) (he : ∀ t p, e'.get t = some p → e.get t = some p) : ∀ t p, (EC.put u q e').get t = some p → e.get t = some p := by
  intro t p h
  simp only [EC.get] at h
  cases hb : Nat.beq t u with
  | true =>
    rw [hb] at h
    injection h with h
    subst h
    rw [Nat.eq_of_beq_eq_true hb]
    exact hu
  | false => rw [hb] at h; exact he t p h
theorem O_nil' (h : V T Q k .normal (.drop kill ρ) st) : VO T Q [] kill k ρ st := fun r hr => O_nil (h _ (hr.drop kill))
theorem D_nil' (h : V T Q k .normal (.drop kill ρ) st) : VD T Q [] kill k ρ st := fun r hr => D_nil (h _ (hr.drop kill))
theorem O_step {d : Option Nat} {op : PI} {p : PV} (hq : stepQ st.get ρ op = some p) (h : VO T Q l kill k (ρ.sets d p) st) : VO T Q (⟨d, none, op⟩ :: l) kill k ρ st := fun r hr => O_q (stepQ_quiet hr hq) (h _ (hr.sets d p))
theorem D_step {d : Option Nat} {op : PI} {p : PV} (hq : stepQ st.get ρ op = some p) (h : VD T Q l kill k (ρ.sets d p) st) : VD T Q (⟨d, none, op⟩ :: l) kill k ρ st := fun r hr => D_q (stepQ_quiet hr hq) (h _ (hr.sets d p))
theorem putA_same {α : Type} {t : Nat} {x : α} : ∀ {ρ : List (Nat × α)}, getA t ρ = some x → putA t x ρ = ρ
  | [], h => by cases h
  | (j, v) :: r, h => by
    simp only [getA] at h
    simp only [putA]
    split at h
    · rename_i e; injection h with h; subst h e; rw [if_pos rfl]
    · rename_i e; rw [if_neg e, putA_same h]
theorem sub_same {r : Env} (hr : Sub ρ r) {t : Nat} {p : PV} (h : getA t r = some p) : Sub (.put t p ρ) r := by
  have := hr.sets (some t) p
  rwa [show Env.put r (some t) p = r from putA_same h] at this
theorem O_gS {d : Option Nat} {op : PI} {t : Nat} {want b : Bool} (hg : ρ.get t = some (.bool b)) (h1 : b = want → VO T Q (⟨d, none, op⟩ :: l) kill k (.put t (.bool want) ρ) st) (h2 : b = !want → VO T Q l kill k (EC.sets (.put t (.bool (!want)) ρ) d (.tuple [])) st) : VO T Q (⟨d, some (t, want), op⟩ :: l) kill k ρ st := by
  intro r hr
  have hg' := hr _ _ hg
  refine O_g hg' (fun e => ?_) (fun e => ?_)
  · exact h1 e r (sub_same hr (by rw [hg', e]))
  · have e' : b = !want := by cases b <;> cases want <;> simp_all
    exact h2 e' _ ((sub_same hr (by rw [hg', e'])).sets d _)
theorem D_gS {d : Option Nat} {op : PI} {t : Nat} {want b : Bool} (hg : ρ.get t = some (.bool b)) (h1 : b = want → VD T Q (⟨d, none, op⟩ :: l) kill k (.put t (.bool want) ρ) st) (h2 : b = !want → VD T Q l kill k (EC.sets (.put t (.bool (!want)) ρ) d (.tuple [])) st) : VD T Q (⟨d, some (t, want), op⟩ :: l) kill k ρ st := by
  intro r hr
  have hg' := hr _ _ hg
  refine D_g hg' (fun e => ?_) (fun e => ?_)
  · exact h1 e r (sub_same hr (by rw [hg', e]))
  · have e' : b = !want := by cases b <;> cases want <;> simp_all
    exact h2 e' _ ((sub_same hr (by rw [hg', e'])).sets d _)
theorem O_gT' {d : Option Nat} {op : PI} {t : Nat} {want : Bool} (hg : ρ.get t = some (.bool want)) (h1 : VO T Q (⟨d, none, op⟩ :: l) kill k ρ st) : VO T Q (⟨d, some (t, want), op⟩ :: l) kill k ρ st := fun r hr => O_gT (hr _ _ hg) (h1 r hr)
theorem O_gF' {d : Option Nat} {op : PI} {t : Nat} {want b : Bool} (hg : ρ.get t = some (.bool b)) (hb : b = !want) (h2 : VO T Q l kill k (ρ.sets d (.tuple [])) st) : VO T Q (⟨d, some (t, want), op⟩ :: l) kill k ρ st := fun r hr => O_gF (hr _ _ hg) (by subst hb; cases want <;> simp) (h2 _ (hr.sets d _))
theorem O_gU' {d : Option Nat} {op : PI} {t : Nat} {want : Bool} (hg : ρ.get t = some (.tuple [])) (h2 : VO T Q l kill k (ρ.sets d (.tuple [])) st) : VO T Q (⟨d, some (t, want), op⟩ :: l) kill k ρ st := fun r hr => O_gU (hr _ _ hg) (h2 _ (hr.sets d _))
theorem D_gT' {d : Option Nat} {op : PI} {t : Nat} {want : Bool} (hg : ρ.get t = some (.bool want)) (h1 : VD T Q (⟨d, none, op⟩ :: l) kill k ρ st) : VD T Q (⟨d, some (t, want), op⟩ :: l) kill k ρ st := fun r hr => D_g (hr _ _ hg) (fun _ => h1 r hr) (fun h => (h rfl).elim)
theorem D_gF' {d : Option Nat} {op : PI} {t : Nat} {want b : Bool} (hg : ρ.get t = some (.bool b)) (hb : b = !want) (h2 : VD T Q l kill k (ρ.sets d (.tuple [])) st) : VD T Q (⟨d, some (t, want), op⟩ :: l) kill k ρ st := fun r hr => D_g (hr _ _ hg) (fun h => by subst hb; cases want <;> simp at h) (fun _ => h2 _ (hr.sets d _))
theorem D_gU' {d : Option Nat} {op : PI} {t : Nat} {want : Bool} (hg : ρ.get t = some (.tuple [])) (h2 : VD T Q l kill k (ρ.sets d (.tuple [])) st) : VD T Q (⟨d, some (t, want), op⟩ :: l) kill k ρ st := fun r hr => D_gU (hr _ _ hg) (h2 _ (hr.sets d _))
def stepL (st : St) (ρ : EC) : PI → Option (PV × St)
  | .store n a x => match a.get ρ with
    | some p => match x.get ρ with
      | some q => if q.cells.all PV.one = true ∧ q.cells.length = n ∧ 0 < n then (storeAt st p q).map fun st => (.tuple [], st) else none
      | none => none
    | none => none
  | .alloc cells => some (.ptr st.next 0, st.new (.var cells))
  | .box x => match x.get ρ with
    | some p => match p.isJunk with
      | false => some (.ptr st.next 0, st.new (.var p.cells))
      | true => none
    | none => none
  | .buildSl sz zero ps => match allOf sz zero with
    | true => match elsOf ρ ps with
      | some qs => match fillElems sz zero qs with
        | some es => some (.osl st.next 0 0 es.length false, st.new (.row 0 sz es true))
        | none => none
      | none => none
    | false => none
  | .makeSl sz zero bytes len cap => match len.get ρ with
    | some (.int _ l) => match cap.get ρ with
      | some (.int _ c) => if zero.length = sz ∧ 0 ≤ l ∧ l ≤ c ∧ c * bytes ≤ roomLen then
        some (.osl st.next 0 0 l.toNat false, st.new (.row 0 sz (List.replicate l.toNat zero) true)) else none
      | _ => none
    | _ => none
  | .append sz bytes _ s x => match s.get ρ with
    | some p => match x.get ρ with
      | some q => (srcOf st q).bind fun src => if okEls sz src = true ∧ 0 < sz ∧ 0 < bytes then appendTo st sz bytes p src else none
      | none => none
    | none => none
  | .appendZ sz bytes zero s x => match s.get ρ with
    | some .nilSl => match x.get ρ with
      | some (.int _ k) => if zero.length = sz ∧ 0 < k ∧ k * bytes ≤ roomLen then
        some (.osl st.next 0 0 k.toNat false, st.new (.row 0 sz (List.replicate k.toNat zero) true)) else none
      | _ => none
    | _ => none
  | .copy sz d x => match d.get ρ with
    | some p => match x.get ρ with
      | some q => (srcOf st q).bind fun src => if okEls sz src = true ∧ 0 < sz then copyTo st sz p src else none
      | none => none
    | none => none
  | .toBytes x => match x.get ρ with
    | some (.str s) => some (.osl st.next 0 0 s.length false, st.new (.row 0 1 (byteCells s) true))
    | _ => none
  | .makeMap => some (.mapv st.next, st.new (.mp []))
  | .mapPut m k x => match m.get ρ with
    | some (.mapv t) => match k.get ρ with
      | some (.str s) => match x.get ρ with
        | some q => if q.one = true then match st.get t with
            | some (.mp es) => some (.tuple [], st.put t (.mp (setMp s q es)))
            | _ => none
          else none
        | none => none
      | _ => none
    | _ => none
  | _ => none
theorem stepL_loud {r0 : Env} (hs : Sub ρ r0) {op : PI} {r : PV × St} (h : stepL st ρ op = some r) : loud st (Opd.ev r0) op = some r := by
  cases op with
  | store n a x =>
    simp only [stepL] at h
    split at h
    · rename_i p hp
      split at h
      · rename_i q hq
        simp only [loud, Opd.ev_of hs hp, Opd.ev_of hs hq]; exact h
      · cases h
    · cases h
  | alloc cells => exact h
  | box x =>
    simp only [stepL] at h
    split at h
    · rename_i p hp
      split at h
      · rename_i hj
        simp only [loud, Opd.ev_of hs hp, hj, if_true]; exact h
      · cases h
    · cases h
  | buildSl sz zero ps =>
    simp only [stepL] at h
    split at h
    · rename_i ha
      split at h
      · rename_i qs hq
        split at h
        · rename_i cs hc
          simp only [loud, elsOf_ev hs hq, hc, ha, if_true, Option.map_some]
          exact h
        · cases h
      · cases h
    · cases h
  | makeSl sz zero bytes len cap =>
    simp only [stepL] at h
    split at h
    · rename_i _ _ hp
      split at h
      · rename_i _ _ hq
        simp only [loud, Opd.ev_of hs hp, Opd.ev_of hs hq]; exact h
      · cases h
    · cases h
  | append sz bytes zero s x =>
    simp only [stepL] at h
    split at h
    · rename_i p hp
      split at h
      · rename_i q hq
        simp only [loud, Opd.ev_of hs hp, Opd.ev_of hs hq]; exact h
      · cases h
    · cases h
  | appendZ sz bytes zero s x =>
    simp only [stepL] at h
    split at h
    · rename_i hp
      split at h
      · rename_i _ _ hq
        simp only [loud, Opd.ev_of hs hp, Opd.ev_of hs hq]; exact h
      · cases h
    · cases h
  | copy sz d x =>
    simp only [stepL] at h
    split at h
    · rename_i p hp
      split at h
      · rename_i q hq
        simp only [loud, Opd.ev_of hs hp, Opd.ev_of hs hq]; exact h
      · cases h
    · cases h
  | toBytes x =>
    simp only [stepL] at h
    split at h
    · rename_i s hp
      simp only [loud, Opd.ev_of hs hp]; exact h
    · cases h
  | makeMap => exact h
  | mapPut m k x =>
    simp only [stepL] at h
    split at h
    · rename_i t hm
      split at h
      · rename_i s hk
        split at h
        · rename_i q hx
          simp only [loud, Opd.ev_of hs hm, Opd.ev_of hs hk, Opd.ev_of hs hx]; exact h
        · cases h
      · cases h
    · cases h
  | _ => cases h
theorem O_stepL {d : Option Nat} {op : PI} {p : PV} {st' : St} (hq : stepL st ρ op = some (p, st')) (h : VO T Q l kill k (ρ.sets d p) st') : VO T Q (⟨d, none, op⟩ :: l) kill k ρ st := fun r hr => O_l (stepL_loud hr hq) (h _ (hr.sets d p))
def adv : Nat → List Fr → EX → List Fr × EX
  | 0, k, x => (k, x)
  | n + 1, k, x => match k with
    | [] => ([], x)
    | .block id :: k => match x with
      | .normal => adv n k .normal
      | .ret => adv n k .ret
      | .exit i => match Nat.beq i id with
        | true => adv n k .normal
        | false => adv n k (.exit i)
    | .code c :: k => match x with
      | .ret => adv n k .ret
      | .exit i => adv n k (.exit i)
      | .normal => match c with
        | .skip => adv n k .normal
        | .seq a b => adv n (.code a :: .code b :: k) .normal
        | .block id c => adv n (.code c :: .block id :: k) .normal
        | .exit i => adv n k (.exit i)
        | .ret => adv n k .ret
        | .ops l kill => (.code (.ops l kill) :: k, .normal)
        | .drawn l kill => (.code (.drawn l kill) :: k, .normal)
        | .cond c a b => (.code (.cond c a b) :: k, .normal)
        | .loop c => (.code (.loop c) :: k, .normal)
theorem W_adv' : ∀ (n : Nat) (k : List Fr) (x : EX), ∀ {ρ : Env}, W T Q (adv n k x).1 (adv n k x).2 ρ st → W T Q k x ρ st
  | 0, k, x, _, h => h
  | n + 1, [], x, _, h => h
  | n + 1, .block id :: k, .normal, _, h => W_blockN (W_adv' n k .normal h)
  | n + 1, .block id :: k, .ret, _, h => W_blockR (W_adv' n k .ret h)
  | n + 1, .block id :: k, .exit i, _, h => by
    simp only [adv] at h
    cases hb : Nat.beq i id with
    | true =>
      rw [hb] at h
      have := Nat.eq_of_beq_eq_true hb
      subst this
      exact W_blockE (W_adv' n k _ h)
    | false =>
      rw [hb] at h
      exact W_blockO (Nat.ne_of_beq_eq_false hb) (W_adv' n k _ h)
  | n + 1, .code c :: k, .ret, _, h => W_adv' n k .ret h
  | n + 1, .code c :: k, .exit i, _, h => W_adv' n k (.exit i) h
  | n + 1, .code c :: k, .normal, _, h => by
    cases c with
    | skip => exact W_skip (W_adv' n k _ h)
    | seq a b => exact W_seq (W_adv' n _ _ h)
    | block id c => exact W_block (W_adv' n _ _ h)
    | exit i => exact W_exit (W_adv' n _ _ h)
    | ret => exact W_ret (W_adv' n _ _ h)
    | ops l kill => exact h
    | drawn l kill => exact h
    | cond c a b => exact h
    | loop c => exact h
theorem V_adv {x : EX} {k' : List Fr} {x' : EX} (ha : adv 200 k x = (k', x')) (h : V T Q k' x' ρ st) : V T Q k x ρ st := fun r hr => W_adv' 200 k x (by rw [ha]; exact h r hr)
theorem V_O {x : EX} {k' : List Fr} (ha : adv 200 k x = (.code (.ops l kill) :: k', .normal)) (h : VO T Q l kill k' ρ st) : V T Q k x ρ st := V_adv ha fun r hr => W_ops (h r hr)
theorem V_D {x : EX} {k' : List Fr} (ha : adv 200 k x = (.code (.drawn l kill) :: k', .normal)) (h : VD T Q l kill k' ρ st) : V T Q k x ρ st := V_adv ha fun r hr => W_drawn (h r hr)
theorem V_cT {x : EX} {k' : List Fr} {c : Opd} {a b : PC} (ha : adv 200 k x = (.code (.cond c a b) :: k', .normal)) (hc : c.get ρ = some (.bool true)) (h1 : V T Q (.code a :: k') .normal ρ st) : V T Q k x ρ st := V_adv ha fun r hr => W_cond (t := true) (Opd.ev_of hr hc) (h1 r hr)
theorem V_cF {x : EX} {k' : List Fr} {c : Opd} {a b : PC} (ha : adv 200 k x = (.code (.cond c a b) :: k', .normal)) (hc : c.get ρ = some (.bool false)) (h1 : V T Q (.code b :: k') .normal ρ st) : V T Q k x ρ st := V_adv ha fun r hr => W_cond (t := false) (Opd.ev_of hr hc) (h1 r hr)
theorem V_cB {x : EX} {k' : List Fr} {c : Opd} {a b : PC} {t : Bool} (ha : adv 200 k x = (.code (.cond c a b) :: k', .normal)) (hc : c.get ρ = some (.bool t)) (h1 : t = true → V T Q (.code a :: k') .normal ρ st) (h2 : t = false → V T Q (.code b :: k') .normal ρ st) : V T Q k x ρ st := by
  cases t with
  | true => exact V_cT ha hc (h1 rfl)
  | false => exact V_cF ha hc (h2 rfl)
theorem V_end {x x' : EX} (ha : adv 200 k x = ([], x')) (h : V T Q [] x' ρ st) : V T Q k x ρ st := V_adv ha h
theorem V_unroll {c : PC} (h : V T Q (.code c :: .code (.loop c) :: k) .normal ρ st) : V T Q (.code (.loop c) :: k) .normal ρ st := fun r hr => W_loop (h r hr)
theorem O_callP {d : Option Nat} {f : Opd} {xs : List Opd} {g : Nat} {caps vals args : List PV} {r : PV} (hf : f.get ρ = some (.func g caps)) (hx : gets ρ xs = some vals) (hv : ViewL false st.get (vals ++ caps) args) (hc : T.R (.call g args r)) (h : VO T Q l kill k (ρ.sets d r) st) : VO T Q (⟨d, none, .call f xs⟩ :: l) kill k ρ st :=
  fun e he => O_call (Opd.ev_of he hf) (by rw [gets_ev he hx]; exact hv) hc (h _ (he.sets d r))
theorem O_extP {d : Option Nat} {f : Opd} {xs : List Opd} {g : Nat} {caps vals args : List PV} {r : PV} (hf : f.get ρ = some (.func g caps)) (hx : gets ρ xs = some vals) (hv : ViewL true st.get (vals ++ caps) args) (hr : scalarR r = true) (hc : T.ext g args r) (h : VO T Q l kill k (ρ.sets d r) st) : VO T Q (⟨d, none, .call f xs⟩ :: l) kill k ρ st :=
  fun e he => O_ext (Opd.ev_of he hf) (by rw [gets_ev he hx]; exact hv) hr hc (h _ (he.sets d r))
theorem D_callP {d : Option Nat} {f : Opd} {xs : List Opd} {g : Nat} {caps vals args : List PV} {r : PV} (hf : f.get ρ = some (.func g caps)) (hx : gets ρ xs = some vals) (hv : ViewL false st.get (vals ++ caps) args) (hc : T.R (.call g args r)) (h : VD T Q l kill k (ρ.sets d r) st) : VD T Q (⟨d, none, .call f xs⟩ :: l) kill k ρ st :=
  fun e he => D_call (Opd.ev_of he hf) (by rw [gets_ev he hx]; exact hv) hc (h _ (he.sets d r))
def resG1 (ρ : EC) (look : Nat → Option Tok) : PRes → Option PV
  | .tmp t => ρ.get t
  | .cell a n agg => match ρ.get a with
    | some p => loadAt look n agg p
    | none => none
def resGs (ρ : EC) (look : Nat → Option Tok) : List PRes → Option (List PV)
  | [] => some []
  | r :: rs => match resG1 ρ look r with
    | some v => match resGs ρ look rs with
      | some vs => some (v :: vs)
      | none => none
    | none => none
def resG (ρ : EC) (look : Nat → Option Tok) (rs : List PRes) : Option PV :=
  match resGs ρ look rs with
  | some [v] => some v
  | some vs => some (.tuple vs)
  | none => none
theorem resG1_eq {r0 : Env} (hs : Sub ρ r0) {look : Nat → Option Tok} {r : PRes} {v : PV} (h : resG1 ρ look r = some v) : res1 r0 look r = some v := by
  cases r with
  | tmp t => simp only [resG1] at h; simp [res1, Env.at, hs _ _ h]
  | cell a n agg =>
    simp only [resG1] at h
    split at h
    · rename_i p hp
      simpa [res1, Env.at, hs _ _ hp] using h
    · cases h
theorem resGs_eq {r0 : Env} (hs : Sub ρ r0) {look : Nat → Option Tok} : ∀ {rs : List PRes} {vs : List PV}, resGs ρ look rs = some vs → mapO (res1 r0 look) rs = some vs
  | [], vs, h => h
  | r :: rs, vs, h => by
    simp only [resGs] at h
    split at h
    · rename_i v hv
      split at h
      · rename_i ws hw
        simp only [mapO, resG1_eq hs hv, resGs_eq hs hw]
        exact h
      · cases h
    · cases h
theorem resG_eq {r0 : Env} (hs : Sub ρ r0) {look : Nat → Option Tok} {rs : List PRes} {v : PV} (h : resG ρ look rs = some v) : resOf r0 look rs = some v := by
  unfold resG at h
  unfold resOf
  split at h
  · rename_i w hw; rw [resGs_eq hs hw]; exact h
  · rename_i vs hne hw
    rw [resGs_eq hs hw]
    match vs, hne with
    | [], _ => exact h
    | [v], hne => exact (hne v rfl).elim
    | _ :: _ :: _, _ => exact h
  · cases h
theorem V_fin {pf : PF} {Q : PV → Prop} {x : EX} {r0 r : PV} (ha : adv 200 k x = ([], .ret)) (hr : resG ρ st.get pf.results = some r0) (hv : View true st.get r0 r) (hq : Q r) : V T (Ends pf Q) k x ρ st := V_end ha fun e he => ⟨.inr rfl, r0, r, resG_eq he hr, hv, hq⟩
theorem V_finN {pf : PF} {Q : PV → Prop} {x : EX} {r0 r : PV} (ha : adv 200 k x = ([], .normal)) (hr : resG ρ st.get pf.results = some r0) (hv : View true st.get r0 r) (hq : Q r) : V T (Ends pf Q) k x ρ st := V_end ha fun e he => ⟨.inl rfl, r0, r, resG_eq he hr, hv, hq⟩
theorem call_V {f : Nat} {pf : PF} {args : List PV} {r : PV} (hf : T.tbl f = some pf) (hn : Nat.ble args.length pf.ntmps = true) (h : V T (Ends pf (· = r)) [.code pf.body] .normal (ecFrom 0 args) emptySt) : T.R (.call f args r) := call_is hf (Nat.le_of_ble_eq_true hn) (h _ (sub_from 0 args))
theorem call_VQ {f : Nat} {pf : PF} {args : List PV} {Q : PV → Prop} (hf : T.tbl f = some pf) (hn : Nat.ble args.length pf.ntmps = true) (h : V T (Ends pf Q) [.code pf.body] .normal (ecFrom 0 args) emptySt) : ∃ r, T.R (.call f args r) ∧ Q r := call_of hf (Nat.le_of_ble_eq_true hn) (h _ (sub_from 0 args))
end
theorem pl_nil : ∀ c ∈ ([] : List PV), Pl c := fun c h => by cases h
theorem pl_cons {a : PV} {l : List PV} (ha : Pl a) (hl : ∀ c ∈ l, Pl c) : ∀ c ∈ a :: l, Pl c := fun c h => by
  rcases List.mem_cons.1 h with rfl | h
  · exact ha
  · exact hl c h
end Go.AM
