/- AM17: values without what is one's own; states parted and joined; code made plain; what a run is. -/
import Derived.Test.YthoknkogdldgcaaAm16
set_option linter.unusedVariables false
set_option linter.unusedSimpArgs false
namespace Go.AM
open Go.RowKit

/-- A value, what is one's own in it told outright (live: rows that may still be written, too). -/
inductive View (live : Bool) (look : Nat → Option Tok) : PV → PV → Prop
  | junk (p) : View live look p .junk
  | bool (b) : View live look (.bool b) (.bool b)
  | int (k n) : View live look (.int k n) (.int k n)
  | str (s) : View live look (.str s) (.str s)
  | nilPtr : View live look .nilPtr .nilPtr
  | iptr (cs ds : List PV) (off) (hl : cs.length = ds.length) (h : ∀ (i : Nat) (c d : PV), cs[i]? = some c → ds[i]? = some d → View live look c d) : View live look (.iptr cs off) (.iptr ds off)
  | nilSl : View live look .nilSl .nilSl
  | sl (xs ys : List (List PV)) (full) (hl : xs.length = ys.length) (hj : ∀ (j : Nat) (cs ds : List PV), xs[j]? = some cs → ys[j]? = some ds → cs.length = ds.length)
      (h : ∀ (j : Nat) (cs ds : List PV) (i : Nat) (c d : PV), xs[j]? = some cs → ys[j]? = some ds → cs[i]? = some c → ds[i]? = some d → View live look c d) : View live look (.sl xs full) (.sl ys full)
  | osl (t g off len full sz es lv) (ys : List (List PV)) (hg : look t = some (.row g sz es lv)) (hlv : live = true ∨ lv = false) (hb : off + len ≤ es.length) (hl : ((es.drop off).take len).length = ys.length)
      (hj : ∀ (j : Nat) (cs ds : List PV), ((es.drop off).take len)[j]? = some cs → ys[j]? = some ds → cs.length = ds.length)
      (h : ∀ (j : Nat) (cs ds : List PV) (i : Nat) (c d : PV), ((es.drop off).take len)[j]? = some cs → ys[j]? = some ds → cs[i]? = some c → ds[i]? = some d → View live look c d) : View live look (.osl t g off len full) (.sl ys full)
  | func (f) (cs ds : List PV) (hl : cs.length = ds.length) (h : ∀ (i : Nat) (c d : PV), cs[i]? = some c → ds[i]? = some d → View live look c d) : View live look (.func f cs) (.func f ds)
  | nilFunc : View live look .nilFunc .nilFunc
  | iface (ty v v') (h : View live look v v') : View live look (.iface ty v) (.iface ty v')
  | nilIface : View live look .nilIface .nilIface
  | agg (cs ds : List PV) (hl : cs.length = ds.length) (h : ∀ (i : Nat) (c d : PV), cs[i]? = some c → ds[i]? = some d → View live look c d) : View live look (.agg cs) (.agg ds)
  | tuple (cs ds : List PV) (hl : cs.length = ds.length) (h : ∀ (i : Nat) (c d : PV), cs[i]? = some c → ds[i]? = some d → View live look c d) : View live look (.tuple cs) (.tuple ds)

def noG : Gh := fun _ _ => none

section
variable {P : Program} {X : Cx} {st : St} {G : Gh} {w : World} {n : Nat} {ρ : Env} {a : Act}

theorem get_some {α : Type} {cs : List α} {β : Type} {ds : List β} (hl : cs.length = ds.length) {i : Nat} {d : β} (h : ds[i]? = some d) : ∃ c, cs[i]? = some c := by
  have := (List.getElem?_eq_some_iff.1 h).1
  exact ⟨_, List.getElem?_eq_getElem (by omega)⟩

theorem view_rep (hI : Inv X st G w) {live : Bool} {own : Nat → Prop} (ho : ∀ b, own b → OwnF X st G b) (hlv : live = true → ∀ b, own b → X.F b) {p q : PV} (hv : View live st.get p q) : ∀ {v : Value}, Rep G (OwnF X st G) w v p → Rep noG own w v q := by
  induction hv with
  | junk p => intro v _; exact .junk v
  | bool b => intro v h; rw [rep_bool h]; exact .bool b
  | int k n => intro v h; rw [rep_int h]; exact .int k n
  | str s => intro v h; rw [rep_str h]; exact .str s
  | nilPtr => intro v h; cases h; exact .nilPtr
  | iptr cs ds off hl h ih =>
    intro v hr
    cases hr with
    | iptr _ _ b o u hc hr' =>
      exact .iptr ds off b o u (fun i d hd => by
        obtain ⟨c, hcc⟩ := get_some hl hd
        exact ⟨(hc i c hcc).1, fun hob => (hc i c hcc).2 (ho b hob)⟩) (fun i d hd => by
        obtain ⟨c, hcc⟩ := get_some hl hd
        exact ih i c d hcc hd (hr' i c hcc))
  | nilSl => intro v h; cases h; exact .nilSl
  | sl xs ys full hl hj h ih =>
    intro v hr
    cases hr with
    | sl _ _ b o cap sz adr u hcap hfull hadr hsz hc hr' =>
      rw [hl]
      refine .sl ys full b o cap sz adr u (by omega) (fun hf => by rw [hfull hf, hl]) hadr (fun j ds hd => ?_) (fun j ds i d hd hdi => ?_) (fun j ds i d hd hdi => ?_)
      · obtain ⟨cs, hcs⟩ := get_some hl hd
        rw [← hj j cs ds hcs hd]
        exact hsz j cs hcs
      · obtain ⟨cs, hcs⟩ := get_some hl hd
        obtain ⟨c, hcc⟩ := get_some (hj j cs ds hcs hd) hdi
        have := hc j cs i c hcs hcc
        exact ⟨this.1, fun hob => this.2 (ho b hob)⟩
      · obtain ⟨cs, hcs⟩ := get_some hl hd
        obtain ⟨c, hcc⟩ := get_some (hj j cs ds hcs hd) hdi
        exact ih j cs ds i c d hcs hd hcc hdi (hr' j cs i c hcs hcc)
  | osl t g off len full sz es lv ys hg hlive hb hl hj h ih =>
    intro v hr
    cases hr with
    | osl _ _ _ _ _ L cap ad hG hcap hL hfull ha hspot =>
      obtain ⟨L', k1, k2, k3, k4, k5, k6⟩ := hI.toks t _ hg
      rw [k1] at hG
      injection hG with hG
      subst hG
      have hlen : len = ys.length := by rw [← hl]; simp; omega
      have had : ad = ⟨ad.block, ad.off, none⟩ := by cases ad; simp at hspot; subst hspot; rfl
      have hno : ¬ own L'.blk := by
        intro hob
        rcases hlive with hl1 | hl1
        · cases lv with
          | true => exact hI.f_own (hlv hl1 _ hob) ⟨t, _, L', hg, rfl, k1, rfl⟩
          | false => exact k6 rfl (ho _ hob)
        · exact k6 hl1 (ho _ hob)
      have hget : ∀ {j : Nat} {cs : List PV}, ((es.drop off).take len)[j]? = some cs → es[off + j]? = some cs := by
        intro j cs hjc
        rw [List.getElem?_take] at hjc
        split at hjc
        · rwa [List.getElem?_drop] at hjc
        · cases hjc
      have hu : ∀ (j : Nat), ∃ f : Nat → Value, ∀ (cs : List PV) (i : Nat) (c : PV), ((es.drop off).take len)[j]? = some cs → cs[i]? = some c → cellAt w L'.blk (L'.off + (off + j) * L'.sz + i) = some (f i) ∧ Rep G (OwnF X st G) w (f i) c := by
        intro j
        have hx : ∀ i, ∃ v, ∀ (cs : List PV) (c : PV), ((es.drop off).take len)[j]? = some cs → cs[i]? = some c → cellAt w L'.blk (L'.off + (off + j) * L'.sz + i) = some v ∧ Rep G (OwnF X st G) w v c := by
          intro i
          cases hcs : ((es.drop off).take len)[j]? with
          | none => exact ⟨undef, fun cs c h => by cases h⟩
          | some cs =>
            cases hci : cs[i]? with
            | none => exact ⟨undef, fun cs' c h h' => by injection h with h; subst h; rw [hci] at h'; cases h'⟩
            | some c =>
              obtain ⟨v, e1, e2⟩ := (k5 _ _ (hget hcs)).2 i c hci
              refine ⟨v, fun cs' c' h h' => ?_⟩
              injection h with h
              subst h
              rw [hci] at h'
              injection h' with h'
              subst h'
              rw [k2]
              exact ⟨e1, e2⟩
        obtain ⟨f, hf⟩ := Classical.axiomOfChoice hx
        exact ⟨f, fun cs i c h h' => hf i cs c h h'⟩
      obtain ⟨u, hu⟩ := Classical.axiomOfChoice hu
      rw [had, hlen]
      refine .sl ys full ad.block ad.off cap L'.sz ⟨ad.block, ad.off, none⟩ u (by omega) (fun hf => by rw [hfull hf, hlen]) (fun _ => rfl) (fun j ds hd => ?_) (fun j ds i d hd hdi => ?_) (fun j ds i d hd hdi => ?_)
      · obtain ⟨cs, hcs⟩ := get_some hl hd
        rw [← hj j cs ds hcs hd, k2]
        exact (k5 _ _ (hget hcs)).1
      · obtain ⟨cs, hcs⟩ := get_some hl hd
        obtain ⟨c, hcc⟩ := get_some (hj j cs ds hcs hd) hdi
        have hjl := (List.getElem?_eq_some_iff.1 hd).1
        have := ha (by omega)
        subst this
        have := (hu j cs i c hcs hcc).1
        rw [Nat.add_mul, ← Nat.add_assoc] at this
        exact ⟨this, hno⟩
      · obtain ⟨cs, hcs⟩ := get_some hl hd
        obtain ⟨c, hcc⟩ := get_some (hj j cs ds hcs hd) hdi
        exact ih j cs ds i c d hcs hd hcc hdi (hu j cs i c hcs hcc).2
  | func f cs ds hl h ih =>
    intro v hr
    cases hr with
    | func _ _ vs hs hr' => exact .func f ds vs (by omega) (fun i d hd => by
        obtain ⟨c, hcc⟩ := get_some hl hd
        exact ih i c d hcc hd (hr' i c hcc))
  | nilFunc => intro v h; cases h; exact .nilFunc
  | iface ty v0 v1 h ih =>
    intro v hr
    cases hr with
    | iface _ vv _ hr' => exact .iface ty vv v1 (ih hr')
  | nilIface => intro v h; cases h; exact .nilIface
  | agg cs ds hl h ih =>
    intro v hr
    cases hr with
    | agg _ vs hs hr' => exact .agg ds vs (by omega) (fun i d hd => by
        obtain ⟨c, hcc⟩ := get_some hl hd
        exact ih i c d hcc hd (hr' i c hcc))
  | tuple cs ds hl h ih =>
    intro v hr
    cases hr with
    | tuple _ vs hs hr' => exact .tuple ds vs (by omega) (fun i d hd => by
        obtain ⟨c, hcc⟩ := get_some hl hd
        exact ih i c d hcc hd (hr' i c hcc))

/-! ### The state at the beginning of a call that hands nothing of one's own in -/
def emptySt : St := ⟨0, 0, []⟩
def callCx (w : World) (F : Nat → Prop) : Cx := ⟨w, noG, fun _ => False, F, fun _ => False⟩
theorem own_empty {G : Gh} {b : Nat} (h : Own emptySt G b) : False := by
  obtain ⟨t, k, L, h1, _⟩ := h
  cases h1
theorem inv_empty {F : Nat → Prop} (hF : ∀ b, F b → b < w.heap.size) : Inv (callCx w F) emptySt noG w :=
  ⟨fun t g L h => (by cases h), Nat.le_refl _, fun t g L h => (by cases h), fun t k h => (by cases h), fun t k g L h => (by cases h), fun t t' k k' L L' h => (by cases h), fun t g L h => (by cases h), fun t k h => (by cases h), Chg.refl _ _,
    fun b h => (own_empty h).elim, fun b h => ⟨hF b h, fun h => h⟩⟩
theorem ownF_empty {F : Nat → Prop} : OwnF (callCx w F) emptySt noG = F := by
  funext b
  exact propext ⟨fun h => h.elim id (fun h => (own_empty h).elim), .inl⟩

/-! ### A state parted in two -/
def Parts (st : St) (q τ : List (Nat × Tok)) : Prop := ∀ t, getA t st.toks = (match getA t q with | some k => some k | none => getA t τ) ∧ (getA t q = none ∨ getA t τ = none)
def partSt (st : St) (τ : List (Nat × Tok)) : St := ⟨st.next, st.next, τ⟩
def partCx (X : Cx) (st : St) (G : Gh) (w : World) (q τ : List (Nat × Tok)) : Cx := ⟨w, G, Own (partSt st τ) G, fun b => X.F b ∨ Own (partSt st q) G b, fun t => ∃ k, getA t τ = some k⟩
def joinSt (st : St) (q : List (Nat × Tok)) (st1 : St) : St := ⟨st.base, st1.next, q ++ st1.toks⟩
theorem getA_append {α : Type} (t : Nat) : ∀ (q τ : List (Nat × α)), getA t (q ++ τ) = match getA t q with | some k => some k | none => getA t τ
  | [], τ => rfl
  | (k, v) :: q, τ => by
    simp only [List.cons_append, getA]
    split
    · rfl
    · exact getA_append t q τ
theorem parts_q {q τ : List (Nat × Tok)} (hp : Parts st q τ) {t : Nat} {k : Tok} (h : getA t q = some k) : st.get t = some k := by
  unfold St.get
  rw [(hp t).1, h]
theorem parts_τ {q τ : List (Nat × Tok)} (hp : Parts st q τ) {t : Nat} {k : Tok} (h : getA t τ = some k) : st.get t = some k := by
  unfold St.get
  rw [(hp t).1]
  rcases (hp t).2 with h1 | h1
  · rw [h1, h]
  · rw [h1] at h; cases h
theorem own_part {q τ : List (Nat × Tok)} (hp : Parts st q τ) {b : Nat} : Own st G b ↔ Own (partSt st q) G b ∨ Own (partSt st τ) G b := by
  constructor
  · rintro ⟨t, k, L, h1, h2, h3, h4⟩
    unfold St.get at h1
    rw [(hp t).1] at h1
    split at h1
    · rename_i k' hk
      injection h1 with h1
      subst h1
      exact .inl ⟨t, k', L, hk, h2, h3, h4⟩
    · exact .inr ⟨t, k, L, h1, h2, h3, h4⟩
  · rintro (⟨t, k, L, h1, h2, h3, h4⟩ | ⟨t, k, L, h1, h2, h3, h4⟩)
    · exact ⟨t, k, L, parts_q hp h1, h2, h3, h4⟩
    · exact ⟨t, k, L, parts_τ hp h1, h2, h3, h4⟩
theorem ownF_part {q τ : List (Nat × Tok)} (hp : Parts st q τ) : OwnF (partCx X st G w q τ) (partSt st τ) G = OwnF X st G := by
  funext b
  refine propext ⟨fun h => ?_, fun h => ?_⟩
  · rcases h with (h | h) | h
    · exact .inl h
    · exact .inr ((own_part hp).2 (.inl h))
    · exact .inr ((own_part hp).2 (.inr h))
  · rcases h with h | h
    · exact .inl (.inl h)
    · rcases (own_part hp).1 h with h | h
      · exact .inl (.inr h)
      · exact .inr h
theorem inv_part (hI : Inv X st G w) {q τ : List (Nat × Tok)} (hp : Parts st q τ) : Inv (partCx X st G w q τ) (partSt st τ) G w := by
  refine ⟨fun t g L h => hI.low t g L h, Nat.le_refl _, fun t g L h => ⟨(hI.low t g L h).1, h⟩, fun t k h => ?_, fun t k g L h h' => hI.gens t k g L (parts_τ hp h) h', ?_, fun t g L h => .inl h, fun t k h => .inl ⟨k, h⟩, Chg.refl _ _, fun b h => .inl h, fun b h => ?_⟩
  · rw [ownF_part hp]
    exact hI.toks t k (parts_τ hp h)
  · intro t t' k k' L L' h1 h2
    exact hI.inj t t' k k' L L' (parts_τ hp h1) (parts_τ hp h2)
  · have hlt : b < w.heap.size := by
      rcases h with h | h
      · exact own_lt_size hI (.inl h)
      · exact own_lt_size hI (.inr ((own_part hp).2 (.inl h)))
    refine ⟨hlt, fun hτ => ?_⟩
    rcases h with h | ⟨t, k, L, h1, h2, h3, h4⟩
    · exact hI.f_own h ((own_part hp).2 (.inr hτ))
    · obtain ⟨t', k', L', e1, e2, e3, e4⟩ := hτ
      have := hI.inj t t' k k' L L' (parts_q hp h1) (parts_τ hp e1) h2 e2 h3 e3 (by omega)
      subst this
      have h1' : getA t q = some k := h1
      have e1' : getA t τ = some k' := e1
      rcases (hp t).2 with hz | hz
      · rw [hz] at h1'; cases h1'
      · rw [hz] at e1'; cases e1'

theorem inv_join (hI : Inv X st G w) {q τ : List (Nat × Tok)} (hp : Parts st q τ) {st1 : St} {G1 : Gh} {w1 : World} (hb : st1.base = st.next) (hI1 : Inv (partCx X st G w q τ) st1 G1 w1) :
    Inv X (joinSt st q st1) G1 w1 ∧ Later X st G w (joinSt st q st1) G1 w1 := by
  have hgh : ∀ t g L, G t g = some L → G1 t g = some L := fun t g L h => (hI1.old t g L h).2
  have hchg : Chg (Own (partSt st τ) G) w w1 := hI1.frame
  have hget : ∀ {t : Nat} {k : Tok}, (joinSt st q st1).get t = some k → getA t q = some k ∨ (getA t q = none ∧ st1.get t = some k) := by
    intro t k h
    unfold St.get joinSt at h
    rw [getA_append] at h
    split at h
    · rename_i k' hk
      injection h with h
      subst h
      exact .inl hk
    · rename_i hk
      exact .inr ⟨hk, h⟩
  have hbase := hI.base
  have hbase1 := hI1.base
  -- an old token's generations have not turned
  have hqgen : ∀ {t : Nat} {k : Tok}, getA t q = some k → ∀ {g : Nat} {L : Loc}, G1 t g = some L → G t g = some L := by
    intro t k hk g L h
    rcases hI1.newg t g L h with h1 | ⟨k', h1⟩ | h1
    · exact h1
    · rcases (hp t).2 with h2 | h2
      · rw [hk] at h2; cases h2
      · rw [h1] at h2; cases h2
    · have := get_lt hI (parts_q hp hk)
      omega
  have hqown : ∀ {t : Nat} {k : Tok} {L : Loc}, getA t q = some k → k.live = true → G1 t k.gen = some L → Own (partSt st q) G L.blk := by
    intro t k L hk hlv h
    exact ⟨t, k, L, hk, hlv, hqgen hk h, rfl⟩
  have hown : ∀ b, Own (joinSt st q st1) G1 b → Own (partSt st q) G b ∨ Own st1 G1 b := by
    rintro b ⟨t, k, L, h1, h2, h3, h4⟩
    rcases hget h1 with h5 | ⟨h5, h6⟩
    · exact .inl (h4 ▸ hqown h5 h2 h3)
    · exact .inr ⟨t, k, L, h6, h2, h3, h4⟩
  have hla : Later X st G w (joinSt st q st1) G1 w1 := by
    refine ⟨hgh, hchg.mono (fun b _ h => (own_part hp).2 (.inr h)), fun b hbo => ?_⟩
    rcases hbo with h | h
    · exact .inl (.inl h)
    · rcases hown b h with h | h
      · exact .inl (.inr ((own_part hp).2 (.inl h)))
      · rcases hI1.ownb b h with h | h
        · exact .inl (.inr ((own_part hp).2 (.inr h)))
        · exact .inr h
  have hqS : ∀ {b : Nat}, Own (partSt st q) G b → ¬ Own (partSt st τ) G b := by
    intro b h1 h2
    exact ((inv_part hI hp).foreign b (.inr h1)).2 h2
  refine ⟨⟨fun t g L h => hI1.low t g L h, by simp only [joinSt]; omega, fun t g L h => ?_, fun t k h => ?_, fun t k g L h hg => ?_, ?_, fun t g L h => ?_, fun t k h => ?_, ?_, fun b h => ?_, hI.foreign⟩, hla⟩
  · have := hI.old t g L h
    exact ⟨this.1, hgh _ _ _ this.2⟩
  · rcases hget h with h1 | ⟨h1, h2⟩
    · refine (hI.toks t k (parts_q hp h1)).keep hgh hchg (fun b hb => .inr ((own_part hp).2 (.inr hb))) hla.own (fun L hL => ⟨fun hS => ?_, (hI.low _ _ _ hL).2⟩)
      cases hlv : k.live with
      | true => exact hqS ⟨t, k, L, h1, hlv, hL, rfl⟩ hS
      | false =>
        have := hI.toks t k (parts_q hp h1)
        cases k with
        | var cs => cases hlv
        | row g sz es lv =>
          obtain ⟨L3, e1, e2, e3, e4, e5, e6⟩ := this
          simp only [Tok.gen] at hL
          rw [hL] at e1
          injection e1 with e1
          subst e1
          exact e6 hlv (.inr ((own_part hp).2 (.inr hS)))
    · have := hI1.toks t k h2
      refine this.keep (fun _ _ _ h => h) (Chg.refl (fun _ => False) w1) (fun _ h => h.elim) (fun b hb => .inl ?_) (fun L hL => ⟨fun h => h, (hI1.low _ _ _ hL).2⟩)
      rcases hb with hb | hb
      · exact .inl (.inl hb)
      · rcases hown b hb with hb | hb
        · exact .inl (.inr hb)
        · exact .inr hb
  · rcases hget h with h1 | ⟨h1, h2⟩
    · exact hI.gens t k g L (parts_q hp h1) (hqgen h1 hg)
    · exact hI1.gens t k g L h2 hg
  · intro t t' k k' L L' h1 h2 l1 l2 g1 g2 he
    rcases hget h1 with a1 | ⟨a1, b1⟩ <;> rcases hget h2 with a2 | ⟨a2, b2⟩
    · exact hI.inj t t' k k' L L' (parts_q hp a1) (parts_q hp a2) l1 l2 (hqgen a1 g1) (hqgen a2 g2) he
    · exfalso
      have h3 := hqown a1 l1 g1
      have h4 : Own st1 G1 L.blk := ⟨t', k', L', b2, l2, g2, by omega⟩
      exact hI1.f_own (.inr h3) h4
    · exfalso
      have h3 := hqown a2 l2 g2
      have h4 : Own st1 G1 L'.blk := ⟨t, k, L, b1, l1, g1, by omega⟩
      exact hI1.f_own (.inr h3) h4
    · exact hI1.inj t t' k k' L L' b1 b2 l1 l2 g1 g2 he
  · rcases hI1.newg t g L h with h1 | ⟨k', h1⟩ | h1
    · exact hI.newg t g L h1
    · exact .inr (hI.dom t k' (parts_τ hp h1))
    · simp only [joinSt]
      exact .inr (.inr (by omega))
  · rcases hget h with h1 | ⟨h1, h2⟩
    · exact hI.dom t k (parts_q hp h1)
    · rcases hI1.dom t k h2 with ⟨k', h3⟩ | h3
      · exact hI.dom t k' (parts_τ hp h3)
      · simp only [joinSt]
        exact .inr (by omega)
  · exact hI.frame.trans hchg (fun b hb hS => by
      rcases hI.ownb b ((own_part hp).2 (.inr hS)) with h | h
      · exact h
      · omega)
  · rcases hown b h with h | h
    · exact hI.ownb b ((own_part hp).2 (.inl h))
    · rcases hI1.ownb b h with h | h
      · exact hI.ownb b ((own_part hp).2 (.inr h))
      · exact .inr (Nat.le_trans hI.frame.size h)
end
end Go.AM
