/- AM10: operations that make or change memory of one's own: what lasts. -/
import Derived.Test.YthoknkogdldgcaaAm9
import Derived.Laws.IdiomCopy
set_option linter.unusedVariables false
set_option linter.unusedSimpArgs false
namespace Go.AM
open Go.RowKit

theorem setCells_other (b : Nat) : ∀ (vs : List Value) (o : Nat) (w : World) (k : Nat), k ≠ b → (w.setCells b o vs).heap[k]? = w.heap[k]?
  | [], _, _, _, _ => rfl
  | v :: r, o, w, k, h => by
    rw [World.setCells, setCells_other b r (o + 1) _ k h]
    exact Below.heap_setCell w ⟨b, o, none⟩ v k h
theorem setCells_meta (b : Nat) : ∀ (vs : List Value) (o : Nat) (w : World), (w.setCells b o vs).os = w.os ∧ (w.setCells b o vs).tape = w.tape ∧ (w.setCells b o vs).output = w.output ∧ (w.setCells b o vs).heap.size = w.heap.size
  | [], _, _ => ⟨rfl, rfl, rfl, rfl⟩
  | v :: r, o, w => by
    rw [World.setCells]
    obtain ⟨h1, h2, h3, h4⟩ := setCells_meta b r (o + 1) (w.setCell ⟨b, o, none⟩ v)
    exact ⟨h1, h2, h3, by rw [h4]; simp [World.setCell]⟩
theorem setCells_chg {S : Nat → Prop} {b o : Nat} {vs : List Value} {w : World} (hS : S b) : Chg S w (w.setCells b o vs) := by
  obtain ⟨h1, h2, h3, h4⟩ := setCells_meta b vs o w
  exact ⟨h1, h2, h3, by omega, fun k hk hn => setCells_other b vs o w k (fun e => hn (e ▸ hS))⟩
theorem setCells_in {b o : Nat} {vs : List Value} {w : World} (h : ∀ j, j < vs.length → ∃ v, cellAt w b (o + j) = some v) {q : Nat} {v : Value} (hq : o ≤ q) (hv : vs[q - o]? = some v) : cellAt (w.setCells b o vs) b q = some v := by
  obtain ⟨hlt, hv⟩ := List.getElem?_eq_some_iff.1 hv
  have := World.cell?_setCells_in b vs o w (fun j hj => by obtain ⟨u, hu⟩ := h j hj; simp [cellAt] at hu; simp [hu]) (q - o) hlt
  rw [show o + (q - o) = q by omega] at this
  rw [cellAt, this, hv]
theorem setCells_out {b o : Nat} {vs : List Value} {w : World} {q : Nat} (hq : q < o ∨ o + vs.length ≤ q) : cellAt (w.setCells b o vs) b q = cellAt w b q := by
  unfold cellAt
  exact World.cell?_setCells_out b vs o w ⟨b, q, none⟩ (fun _ _ => hq)

section
variable {P : Program} {X : Cx} {st : St} {G : Gh} {w : World} {n : Nat} {ρ : Env} {a : Act}

/-- A token's reading lasts where its block has not turned. -/
theorem TokRep.keep {G G' : Gh} {own own' S : Nat → Prop} {w w' : World} (hG : ∀ t g L, G t g = some L → G' t g = some L) (hS : Chg S w w') (hSo : ∀ b, S b → own b) (ho : ∀ b, own' b → own b ∨ w.heap.size ≤ b)
    {t : Nat} {k : Tok} (h : TokRep G own w t k) (hb : ∀ L, G t k.gen = some L → ¬ S L.blk ∧ L.blk < w.heap.size) : TokRep G' own' w' t k := by
  have cells : ∀ {b o : Nat} {cs : List PV}, ¬ S b → CellsAt G own w b o cs → CellsAt G' own' w' b o cs := by
    intro b o cs hn hc i p hi
    obtain ⟨v, h1, h2⟩ := hc i p hi
    exact ⟨v, hS.cell h1 hn, h2.mono hG hS hSo ho⟩
  have room : ∀ {b lo hi : Nat}, ¬ S b → b < w.heap.size → Room w b lo hi → Room w' b lo hi := by
    intro b lo hi hn hlt hr o h1 h2
    obtain ⟨⟨v, hv⟩, hf⟩ := hr o h1 h2
    exact ⟨⟨v, hS.cell hv hn⟩, by rw [frozen_congr (hS.block b hlt hn)]; exact hf⟩
  cases k with
  | var cs =>
    obtain ⟨L, h1, h2, h3⟩ := h
    obtain ⟨hn, hlt⟩ := hb L h1
    exact ⟨L, hG _ _ _ h1, room hn hlt h2, cells hn h3⟩
  | row g sz es lv =>
    obtain ⟨L, h1, h2, h3, h4, h5, h6⟩ := h
    obtain ⟨hn, hlt⟩ := hb L h1
    refine ⟨L, hG _ _ _ h1, h2, h3, room hn hlt h4, fun j cs hj => ⟨(h5 j cs hj).1, cells hn (h5 j cs hj).2⟩, fun hlv ho' => ?_⟩
    rcases ho _ ho' with h7 | h7
    · exact h6 hlv h7
    · omega

/-- Nothing of what was there has turned: all reads as it did. -/
theorem inv_below (hI : Inv X st G w) {w' : World} (hb : Below w.heap.size w w') : Inv X st G w' ∧ Later X st G w st G w' := by
  have hc : Chg (fun _ => False) w w' := chg_of_below hb
  have hl : Later X st G w st G w' := ⟨fun _ _ _ h => h, chg_of_below hb, fun _ h => .inl h⟩
  refine ⟨⟨fun t g L h => ⟨(hI.low t g L h).1, Nat.lt_of_lt_of_le (hI.low t g L h).2 hb.size⟩, hI.base, hI.old, fun t k hk => ?_, hI.gens, hI.inj, hI.newg, hI.dom, hI.frame.trans hc (fun i _ h => h.elim), hI.ownb, hI.foreign⟩, hl⟩
  exact (hI.toks t k hk).keep (fun _ _ _ h => h) hc (fun _ h => h.elim) (fun _ h => .inl h) (fun L h => ⟨fun h => h, (hI.low _ _ _ h).2⟩)

/-- What a step of an operation is. -/
def ansOf : Next → Option Value
  | .value u => some u
  | .skip => some undef
  | _ => none
def LOk (P : Program) (X : Cx) (st : St) (G : Gh) (w : World) (o : Oper) (a : Act) (p : PV) (st' : St) : Prop :=
  ∃ nx u w' G', (execOp a.eval o).run P w = .ok nx w' ∧ ansOf nx = some u ∧ Inv X st' G' w' ∧ Later X st G w st' G' w' ∧ Rep G' (OwnF X st' G') w' u p
theorem QOk.lok {o : Oper} {p : PV} (hI : Inv X st G w) (h : QOk P X st G w o a p) : LOk P X st G w o a p st := by
  obtain ⟨u, w', h1, h2, h3⟩ := h
  obtain ⟨h4, h5⟩ := inv_below hI h2
  exact ⟨.value u, u, w', G, h1, rfl, h4, h5, h3⟩

/-! ### A new piece -/
def ghNew (G : Gh) (t g : Nat) (L : Loc) : Gh := fun t' g' => if t' = t ∧ g' = g then some L else G t' g'
theorem ghNew_same (G : Gh) (t g : Nat) (L : Loc) : ghNew G t g L t g = some L := by simp [ghNew]
theorem ghNew_old {G : Gh} {t g : Nat} {L : Loc} (hn : G t g = none) : ∀ t' g' L', G t' g' = some L' → ghNew G t g L t' g' = some L' := by
  intro t' g' L' h
  unfold ghNew
  rw [if_neg]
  · exact h
  · rintro ⟨rfl, rfl⟩
    rw [hn] at h
    cases h
theorem fresh_none (hI : Inv X st G w) (g : Nat) : G st.next g = none := by
  cases h : G st.next g with
  | none => rfl
  | some L => have := (hI.low _ _ _ h).1; omega
theorem new_get (st : St) (k : Tok) (t : Nat) : (st.new k).get t = if st.next = t then some k else st.get t := getA_putA _ _ _ _
theorem put_get (st : St) (t : Nat) (k : Tok) (u : Nat) : (st.put t k).get u = if t = u then some k else st.get u := getA_putA _ _ _ _
theorem get_lt (hI : Inv X st G w) {t : Nat} {k : Tok} (h : st.get t = some k) : t < st.next := by
  have := hI.toks t k h
  cases k with
  | var cs => obtain ⟨L, h1, _⟩ := this; exact (hI.low _ _ _ h1).1
  | row g sz es lv => obtain ⟨L, h1, _⟩ := this; exact (hI.low _ _ _ h1).1
theorem own_lt_size (hI : Inv X st G w) {b : Nat} (h : OwnF X st G b) : b < w.heap.size := by
  rcases h with h | ⟨t, k, L, _, _, h3, h4⟩
  · exact Nat.lt_of_lt_of_le (hI.foreign b h).1 hI.frame.size
  · rw [← h4]; exact (hI.low _ _ _ h3).2

theorem own_new (hI : Inv X st G w) {k : Tok} {L : Loc} (hL : L.blk = w.heap.size) {b : Nat} (h : Own (st.new k) (ghNew G st.next k.gen L) b) : Own st G b ∨ b = w.heap.size := by
  obtain ⟨t, k', L', h1, h2, h3, h4⟩ := h
  rw [new_get] at h1
  split at h1
  · rename_i ht
    subst ht
    injection h1 with h1
    subst h1
    rw [ghNew_same] at h3
    injection h3 with h3
    subst h3
    exact .inr (by omega)
  · rename_i ht
    unfold ghNew at h3
    rw [if_neg (fun hc => ht hc.1.symm)] at h3
    exact .inl ⟨t, k', L', h1, h2, h3, h4⟩
theorem later_new (hI : Inv X st G w) {w' : World} (hb : Below w.heap.size w w') {k : Tok} {L : Loc} (hL : L.blk = w.heap.size) : Later X st G w (st.new k) (ghNew G st.next k.gen L) w' := by
  refine ⟨ghNew_old (fresh_none hI _), chg_of_below hb, fun b hb => ?_⟩
  rcases hb with h | h
  · exact .inl (.inl h)
  · rcases own_new hI hL h with h | h
    · exact .inl (.inr h)
    · exact .inr (by omega)
theorem inv_new (hI : Inv X st G w) {w' : World} (hb : Below w.heap.size w w') (hsz : w.heap.size < w'.heap.size) {k : Tok} {L : Loc} (hL : L.blk = w.heap.size) (hlv : k.live = true)
    (htok : TokRep (ghNew G st.next k.gen L) (OwnF X (st.new k) (ghNew G st.next k.gen L)) w' st.next k) : Inv X (st.new k) (ghNew G st.next k.gen L) w' := by
  have hlater := later_new hI hb (k := k) hL
  have hc : Chg (fun _ => False) w w' := chg_of_below hb
  have old : ∀ {t : Nat} {k' : Tok} {L' : Loc}, (st.new k).get t = some k' → ghNew G st.next k.gen L t k'.gen = some L' → (t = st.next ∧ k' = k ∧ L' = L) ∨ (t ≠ st.next ∧ st.get t = some k' ∧ G t k'.gen = some L') := by
    intro t k' L' h1 h2
    rw [new_get] at h1
    split at h1
    · rename_i ht
      subst ht
      injection h1 with h1
      subst h1
      rw [ghNew_same] at h2
      injection h2 with h2
      exact .inl ⟨rfl, rfl, h2.symm⟩
    · rename_i ht
      unfold ghNew at h2
      rw [if_neg (fun hc => ht hc.1.symm)] at h2
      exact .inr ⟨fun e => ht e.symm, h1, h2⟩
  refine ⟨fun t g L' h => ?_, ?_, fun t g L' h => ?_, fun t k' hk => ?_, fun t k' g L' hk hg => ?_, ?_, fun t g L' h => ?_, fun t k' h => ?_, hI.frame.trans hc (fun i _ h => h.elim), fun b hb' => ?_, hI.foreign⟩
  · unfold ghNew at h
    split at h
    · rename_i hc
      injection h with h
      subst h
      exact ⟨by rw [hc.1]; simp [St.new], by omega⟩
    · have := hI.low t g L' h
      exact ⟨by simp [St.new]; omega, Nat.lt_of_lt_of_le this.2 hb.size⟩
  · have := hI.base
    simp [St.new]
    omega
  · have := hI.old t g L' h
    exact ⟨this.1, ghNew_old (fresh_none hI _) _ _ _ this.2⟩
  · have hk0 := hk
    rw [new_get] at hk
    split at hk
    · rename_i ht
      subst ht
      injection hk with hk
      subst hk
      exact htok
    · rename_i ht
      refine (hI.toks t k' hk).keep (ghNew_old (fresh_none hI _)) hc (fun _ h => h.elim) hlater.own (fun L' h' => ⟨fun h => h, (hI.low _ _ _ h').2⟩)
  · rw [new_get] at hk
    split at hk
    · rename_i ht
      subst ht
      injection hk with hk
      subst hk
      unfold ghNew at hg
      split at hg
      · rename_i hc; exact Nat.le_of_eq hc.2
      · rw [fresh_none hI] at hg; cases hg
    · rename_i ht
      unfold ghNew at hg
      rw [if_neg (fun hc => ht hc.1.symm)] at hg
      exact hI.gens t k' g L' hk hg
  · intro t t' k1 k2 L1 L2 h1 h2 l1 l2 g1 g2 he
    rcases old h1 g1 with ⟨rfl, rfl, rfl⟩ | ⟨n1, a1, b1⟩ <;> rcases old h2 g2 with ⟨rfl, rfl, rfl⟩ | ⟨n2, a2, b2⟩
    · rfl
    · have := (hI.low _ _ _ b2).2; omega
    · have := (hI.low _ _ _ b1).2; omega
    · exact hI.inj t t' k1 k2 L1 L2 a1 a2 l1 l2 b1 b2 he
  · unfold ghNew at h
    split at h
    · rename_i hc'
      have := hI.base
      exact .inr (.inr (by rw [hc'.1]; exact this))
    · exact hI.newg t g L' h
  · rw [new_get] at h
    split at h
    · rename_i ht
      subst ht
      exact .inr hI.base
    · exact hI.dom t k' h
  · rcases own_new hI hL hb' with h | h
    · exact hI.ownb b h
    · exact .inr (by rw [h]; exact hI.frame.size)

/-! ### A piece that turns in its place -/
/-- The same token, its cells turned, in the same block. -/
theorem inv_put (hI : Inv X st G w) {t : Nat} {k k' : Tok} {L : Loc} (hk : st.get t = some k) (hlv : k.live = true) (hG : G t k.gen = some L) (hlv' : k'.live = true) (hg : k'.gen = k.gen) {w' : World} (hc : Chg (fun b => b = L.blk) w w')
    (htok : TokRep G (OwnF X st G) w' t k') : Inv X (st.put t k') G w' ∧ Later X st G w (st.put t k') G w' := by
  have hown : ∀ b, Own (st.put t k') G b → Own st G b := by
    rintro b ⟨u, k2, L2, h1, h2, h3, h4⟩
    rw [put_get] at h1
    split at h1
    · rename_i hu
      subst hu
      injection h1 with h1
      subst h1
      rw [hg] at h3
      exact ⟨t, k, L2, hk, hlv, h3, h4⟩
    · exact ⟨u, k2, L2, h1, h2, h3, h4⟩
  have hown' : ∀ b, Own st G b → Own (st.put t k') G b := by
    rintro b ⟨u, k2, L2, h1, h2, h3, h4⟩
    by_cases hu : t = u
    · subst hu
      rw [hk] at h1
      injection h1 with h1
      subst h1
      exact ⟨t, k', L2, by rw [put_get, if_pos rfl], hlv', by rw [hg]; exact h3, h4⟩
    · exact ⟨u, k2, L2, by rw [put_get, if_neg hu]; exact h1, h2, h3, h4⟩
  have hownF : OwnF X (st.put t k') G = OwnF X st G := by
    funext b
    exact propext ⟨fun h => h.imp id (hown b), fun h => h.imp id (hown' b)⟩
  have hbo : Own st G L.blk := ⟨t, k, L, hk, hlv, hG, rfl⟩
  have hl : Later X st G w (st.put t k') G w' := ⟨fun _ _ _ h => h, hc.mono (fun i _ h => h ▸ hbo), fun b hb => by rw [hownF] at hb; exact .inl hb⟩
  refine ⟨⟨fun u g L' h => ⟨(hI.low u g L' h).1, Nat.lt_of_lt_of_le (hI.low u g L' h).2 hc.size⟩, hI.base, hI.old, fun u k2 hu => ?_, fun u k2 g L' hu hg' => ?_, ?_, hI.newg, fun u k2 hu => ?_, ?_, fun b hb => hI.ownb b (hown b hb), hI.foreign⟩, hl⟩
  · rw [hownF]
    rw [put_get] at hu
    split at hu
    · rename_i ht
      subst ht
      injection hu with hu
      subst hu
      exact htok
    · rename_i ht
      refine (hI.toks u k2 hu).keep (fun _ _ _ h => h) hc (fun b h => by subst h; exact .inr hbo) (fun _ h => .inl h) (fun L2 h2 => ⟨fun he => ?_, (hI.low _ _ _ h2).2⟩)
      have hh := hI.toks u k2 hu
      cases hlv2 : k2.live with
      | true => exact ht ((hI.inj u t k2 k L2 L hu hk hlv2 hlv h2 hG he).symm)
      | false =>
        cases k2 with
        | var cs => cases hlv2
        | row g2 sz2 es2 lv2 =>
          obtain ⟨L3, e1, e2, e3, e4, e5, e6⟩ := hh
          simp only [Tok.gen] at h2
          rw [h2] at e1
          injection e1 with e1
          subst e1
          exact e6 hlv2 (by rw [he]; exact .inr hbo)
  · rw [put_get] at hu
    split at hu
    · rename_i ht
      subst ht
      injection hu with hu
      subst hu
      rw [hg]
      exact hI.gens t k g L' hk hg'
    · exact hI.gens u k2 g L' hu hg'
  · intro u u' k1 k2 L1 L2 h1 h2 l1 l2 g1 g2 he
    have conv : ∀ {u : Nat} {k1 : Tok} {L1 : Loc}, (st.put t k').get u = some k1 → k1.live = true → G u k1.gen = some L1 → ∃ k0, st.get u = some k0 ∧ k0.live = true ∧ G u k0.gen = some L1 := by
      intro u k1 L1 h1 l1 g1
      rw [put_get] at h1
      split at h1
      · rename_i hu
        subst hu
        injection h1 with h1
        subst h1
        exact ⟨k, hk, hlv, by rw [← hg]; exact g1⟩
      · exact ⟨k1, h1, l1, g1⟩
    obtain ⟨k3, a1, a2, a3⟩ := conv h1 l1 g1
    obtain ⟨k4, b1, b2, b3⟩ := conv h2 l2 g2
    exact hI.inj u u' k3 k4 L1 L2 a1 b1 a2 b2 a3 b3 he
  · rw [put_get] at hu
    split at hu
    · rename_i ht
      subst ht
      exact hI.dom t k hk
    · exact hI.dom u k2 hu
  · refine hI.frame.trans hc (fun i hi he => ?_)
    subst he
    rcases hI.ownb _ hbo with h | h
    · exact h
    · omega

/-- The same token at its next turn: in the same block, or in a new one. -/
theorem gen_none (hI : Inv X st G w) {t : Nat} {k : Tok} (hk : st.get t = some k) {g : Nat} (hg : k.gen < g) : G t g = none := by
  cases h : G t g with
  | none => rfl
  | some L => have := hI.gens t k g L hk h; omega
theorem later_regen (hI : Inv X st G w) {t : Nat} {k k' : Tok} {L L' : Loc} (hk : st.get t = some k) (hlv : k.live = true) (hG : G t k.gen = some L) (hg : k.gen < k'.gen) {w' : World} (hc : Chg (fun b => b = L.blk) w w')
    (hL : L'.blk = L.blk ∨ L'.blk = w.heap.size) : Later X st G w (st.put t k') (ghNew G t k'.gen L') w' := by
  have hbo : Own st G L.blk := ⟨t, k, L, hk, hlv, hG, rfl⟩
  refine ⟨ghNew_old (gen_none hI hk hg), hc.mono (fun i _ h => h ▸ hbo), fun b hb => ?_⟩
  rcases hb with hb | ⟨u, k2, L2, h1, h2, h3, h4⟩
  · exact .inl (.inl hb)
  · rw [put_get] at h1
    split at h1
    · rename_i hu
      subst hu
      injection h1 with h1
      subst h1
      rw [ghNew_same] at h3
      injection h3 with h3
      subst h3
      rcases hL with hL | hL
      · exact .inl (.inr ⟨t, k, L, hk, hlv, hG, by omega⟩)
      · exact .inr (by omega)
    · rename_i hu
      unfold ghNew at h3
      rw [if_neg (fun hc => hu hc.1.symm)] at h3
      exact .inl (.inr ⟨u, k2, L2, h1, h2, h3, h4⟩)
theorem inv_regen (hI : Inv X st G w) {t : Nat} {k k' : Tok} {L L' : Loc} (hk : st.get t = some k) (hlv : k.live = true) (hG : G t k.gen = some L) (hlv' : k'.live = true) (hg : k.gen < k'.gen) {w' : World} (hc : Chg (fun b => b = L.blk) w w')
    (hL : L'.blk = L.blk ∨ L'.blk = w.heap.size) (hLs : L'.blk < w'.heap.size) (htok : TokRep (ghNew G t k'.gen L') (OwnF X (st.put t k') (ghNew G t k'.gen L')) w' t k') :
    Inv X (st.put t k') (ghNew G t k'.gen L') w' := by
  have hbo : Own st G L.blk := ⟨t, k, L, hk, hlv, hG, rfl⟩
  have hla := later_regen hI hk hlv hG hg hc hL
  have hnone := gen_none hI hk hg
  have conv : ∀ {u : Nat} {k1 : Tok} {L1 : Loc}, (st.put t k').get u = some k1 → ghNew G t k'.gen L' u k1.gen = some L1 → (u = t ∧ k1 = k' ∧ L1 = L') ∨ (u ≠ t ∧ st.get u = some k1 ∧ G u k1.gen = some L1) := by
    intro u k1 L1 h1 g1
    rw [put_get] at h1
    split at h1
    · rename_i hu
      subst hu
      injection h1 with h1
      subst h1
      rw [ghNew_same] at g1
      injection g1 with g1
      exact .inl ⟨rfl, rfl, g1.symm⟩
    · rename_i hu
      unfold ghNew at g1
      rw [if_neg (fun hc => hu hc.1.symm)] at g1
      exact .inr ⟨fun e => hu e.symm, h1, g1⟩
  refine ⟨fun u g L2 h => ?_, hI.base, fun u g L2 h => ?_, fun u k2 hu => ?_, fun u k2 g L2 hu hg' => ?_, ?_, fun u g L2 h => ?_, fun u k2 hu => ?_, hI.frame.trans hc (fun i hi he => ?_), fun b hb => ?_, hI.foreign⟩
  · unfold ghNew at h
    split at h
    · rename_i hc'
      injection h with h
      subst h
      exact ⟨by rw [hc'.1]; exact get_lt hI hk, hLs⟩
    · exact ⟨(hI.low u g L2 h).1, Nat.lt_of_lt_of_le (hI.low u g L2 h).2 hc.size⟩
  · have := hI.old u g L2 h
    exact ⟨this.1, ghNew_old hnone _ _ _ this.2⟩
  · have hu0 := hu
    rw [put_get] at hu
    split at hu
    · rename_i ht
      subst ht
      injection hu with hu
      subst hu
      exact htok
    · rename_i ht
      refine (hI.toks u k2 hu).keep (ghNew_old hnone) hc (fun b h => by subst h; exact .inr hbo) hla.own (fun L2 h2 => ⟨fun he => ?_, (hI.low _ _ _ h2).2⟩)
      have hh := hI.toks u k2 hu
      cases hlv2 : k2.live with
      | true => exact ht ((hI.inj u t k2 k L2 L hu hk hlv2 hlv h2 hG he).symm)
      | false =>
        cases k2 with
        | var cs => cases hlv2
        | row g2 sz2 es2 lv2 =>
          obtain ⟨L3, e1, e2, e3, e4, e5, e6⟩ := hh
          simp only [Tok.gen] at h2
          rw [h2] at e1
          injection e1 with e1
          subst e1
          exact e6 hlv2 (by rw [he]; exact .inr hbo)
  · rw [put_get] at hu
    split at hu
    · rename_i ht
      subst ht
      injection hu with hu
      subst hu
      unfold ghNew at hg'
      split at hg'
      · rename_i hc'; exact Nat.le_of_eq hc'.2
      · have := hI.gens t k g L2 hk hg'; omega
    · rename_i ht
      unfold ghNew at hg'
      rw [if_neg (fun hc => ht hc.1.symm)] at hg'
      exact hI.gens u k2 g L2 hu hg'
  · intro u u' k1 k2 L1 L2 h1 h2 l1 l2 g1 g2 he
    rcases conv h1 g1 with ⟨rfl, rfl, rfl⟩ | ⟨n1, a1, b1⟩ <;> rcases conv h2 g2 with ⟨rfl, rfl, rfl⟩ | ⟨n2, a2, b2⟩
    · rfl
    · rcases hL with hL | hL
      · exact (hI.inj u' u k2 k L2 L a2 hk l2 hlv b2 hG (by omega)).symm
      · have := (hI.low _ _ _ b2).2; omega
    · rcases hL with hL | hL
      · exact hI.inj u u' k1 k L1 L a1 hk l1 hlv b1 hG (by omega)
      · have := (hI.low _ _ _ b1).2; omega
    · exact hI.inj u u' k1 k2 L1 L2 a1 a2 l1 l2 b1 b2 he
  · unfold ghNew at h
    split at h
    · rename_i hc'
      rw [hc'.1]
      exact .inr (hI.dom t k hk)
    · exact hI.newg u g L2 h
  · rw [put_get] at hu
    split at hu
    · rename_i ht
      subst ht
      exact hI.dom t k hk
    · exact hI.dom u k2 hu
  · subst he
    rcases hI.ownb _ hbo with h | h
    · exact h
    · omega
  · rcases hla.own b (.inr hb) with h | h
    · rcases h with h | h
      · exfalso
        have h1 := hI.foreign b h
        obtain ⟨u, k2, L2, e1, e2, e3, e4⟩ := hb
        rcases conv e1 e3 with ⟨rfl, rfl, rfl⟩ | ⟨n1, a1, b1⟩
        · rcases hL with hL | hL
          · exact hI.f_own h ⟨u, k, L, hk, hlv, hG, by omega⟩
          · have := hI.frame.size; omega
        · exact hI.f_own h ⟨u, k2, L2, a1, e2, b1, e4⟩
      · exact hI.ownb b h
    · exact .inr (Nat.le_trans hI.frame.size h)
end
end Go.AM
