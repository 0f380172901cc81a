/- AM21: regions whose order is drawn: one walk serves every order. -/
import Derived.Test.YthoknkogdldgcaaAm20
set_option linter.unusedVariables false
set_option linter.unusedSimpArgs false
namespace Go.AM
open Go.RowKit

/-- What an operation of a drawn region answers. -/
def YSem (P : Program) (st : St) (o : POp) (ρ : Env) (p : PV) : Prop :=
  (gd (getA · ρ) o.guard = some false ∧ p = .tuple []) ∨
  (gd (getA · ρ) o.guard = some true ∧ (quiet st.get (Opd.ev ρ) o.op = some p ∨ ∃ f xs g caps args, o.op = .call f xs ∧ f.ev ρ = .func g caps ∧ SemCall P g args p ∧
    (ViewL false st.get (xs.map (Opd.ev ρ) ++ caps) args ∨ (ViewL true st.get (xs.map (Opd.ev ρ) ++ caps) args ∧ scalarR p = true))))
def LexD (P : Program) (st : St) : List POp → Env → Env → Prop
  | [], ρ, ρ' => ρ' = ρ
  | o :: l, ρ, ρ' => ∃ p, YSem P st o ρ p ∧ LexD P st l (Env.put ρ o.dst p) ρ'

theorem ev_congr {ρ ρ' : Env} {x : Opd} (h : ∀ t ∈ x.tmps, getA t ρ = getA t ρ') : x.ev ρ = x.ev ρ' := by
  cases x with
  | t n => simp only [Opd.ev, Env.at]; rw [h n (by simp [Opd.tmps])]
  | c p => rfl
theorem evs_congr {ρ ρ' : Env} {xs : List Opd} (h : ∀ t ∈ xs.flatMap Opd.tmps, getA t ρ = getA t ρ') : xs.map (Opd.ev ρ) = xs.map (Opd.ev ρ') := by
  apply List.map_congr_left
  intro x hx
  exact ev_congr fun t ht => h t (List.mem_flatMap.2 ⟨x, hx, ht⟩)
theorem opt_congr {ρ ρ' : Env} {x : Option Opd} (h : ∀ t ∈ optTmps x, getA t ρ = getA t ρ') : x.map (Opd.ev ρ) = x.map (Opd.ev ρ') := by
  cases x with
  | none => rfl
  | some x => simp only [Option.map_some]; rw [ev_congr h]
theorem quiet_congr {look : Nat → Option Tok} {ρ ρ' : Env} {pi : PI} (h : ∀ t ∈ pi.tmps, getA t ρ = getA t ρ') : quiet look (Opd.ev ρ) pi = quiet look (Opd.ev ρ') pi := by
  cases pi with
  | move x => simp only [quiet]; rw [ev_congr h]
  | pick c a b =>
    simp only [PI.tmps, List.mem_append] at h
    simp only [quiet]
    rw [ev_congr (fun t ht => h t (.inl ht)), ev_congr (fun t ht => h t (.inr (.inl ht))), ev_congr (fun t ht => h t (.inr (.inr ht)))]
  | load n agg a => simp only [quiet]; rw [ev_congr h]
  | build zero ps =>
    simp only [quiet]
    have : (ps.map fun p => (p.1, p.2.1, Opd.ev ρ p.2.2)) = ps.map fun p => (p.1, p.2.1, Opd.ev ρ' p.2.2) := by
      apply List.map_congr_left
      intro p hp
      rw [ev_congr fun t ht => h t (List.mem_flatMap.2 ⟨p, hp, ht⟩)]
    rw [this]
  | buildSl sz zero ps =>
    simp only [quiet]
    have : (ps.map fun p => (p.1, Opd.ev ρ p.2)) = ps.map fun p => (p.1, Opd.ev ρ' p.2) := by
      apply List.map_congr_left
      intro p hp
      rw [ev_congr fun t ht => h t (List.mem_flatMap.2 ⟨p, hp, ht⟩)]
    rw [this]
  | fieldAddr x d => simp only [quiet]; rw [ev_congr h]
  | field x off n agg => simp only [quiet]; rw [ev_congr h]
  | indexA x y l s =>
    simp only [PI.tmps, List.mem_append] at h
    simp only [quiet]; rw [ev_congr (fun t ht => h t (.inl ht)), ev_congr (fun t ht => h t (.inr ht))]
  | indexS x y s =>
    simp only [PI.tmps, List.mem_append] at h
    simp only [quiet]; rw [ev_congr (fun t ht => h t (.inl ht)), ev_congr (fun t ht => h t (.inr ht))]
  | indexStr x y =>
    simp only [PI.tmps, List.mem_append] at h
    simp only [quiet]; rw [ev_congr (fun t ht => h t (.inl ht)), ev_congr (fun t ht => h t (.inr ht))]
  | sliceStr x lo hi =>
    simp only [PI.tmps, List.mem_append] at h
    simp only [quiet]; rw [ev_congr (fun t ht => h t (.inl ht)), opt_congr (fun t ht => h t (.inr (.inl ht))), opt_congr (fun t ht => h t (.inr (.inr ht)))]
  | sliceSl x s lo hi mx =>
    simp only [PI.tmps, List.mem_append] at h
    simp only [quiet]; rw [ev_congr (fun t ht => h t (.inl ht)), opt_congr (fun t ht => h t (.inr (.inl ht))), opt_congr (fun t ht => h t (.inr (.inr (.inl ht)))), opt_congr (fun t ht => h t (.inr (.inr (.inr ht))))]
  | sliceArr x l s lo hi mx =>
    simp only [PI.tmps, List.mem_append] at h
    simp only [quiet]; rw [ev_congr (fun t ht => h t (.inl ht)), opt_congr (fun t ht => h t (.inr (.inl ht))), opt_congr (fun t ht => h t (.inr (.inr (.inl ht)))), opt_congr (fun t ht => h t (.inr (.inr (.inr ht))))]
  | conv k x => simp only [quiet]; rw [ev_congr h]
  | toBytes x => simp only [quiet]; rw [ev_congr h]
  | toStr x => simp only [quiet]; rw [ev_congr h]
  | textId x => simp only [quiet]; rw [ev_congr h]
  | neg x => simp only [quiet]; rw [ev_congr h]
  | not x => simp only [quiet]; rw [ev_congr h]
  | bin op x y =>
    simp only [PI.tmps, List.mem_append] at h
    simp only [quiet]; rw [ev_congr (fun t ht => h t (.inl ht)), ev_congr (fun t ht => h t (.inr ht))]
  | eqNil neq k x => simp only [quiet]; rw [ev_congr h]
  | eqBool neq x y =>
    simp only [PI.tmps, List.mem_append] at h
    simp only [quiet]; rw [ev_congr (fun t ht => h t (.inl ht)), ev_congr (fun t ht => h t (.inr ht))]
  | eqAgg neq x y =>
    simp only [PI.tmps, List.mem_append] at h
    simp only [quiet]; rw [ev_congr (fun t ht => h t (.inl ht)), ev_congr (fun t ht => h t (.inr ht))]
  | extract x i => simp only [quiet]; rw [ev_congr h]
  | mkIface ty x => simp only [quiet]; rw [ev_congr h]
  | mkFunc f caps => simp only [quiet]; rw [evs_congr h]
  | nilCheck x => simp only [quiet]; rw [ev_congr h]
  | len txt x => simp only [quiet]; rw [ev_congr h]
  | cap x => simp only [quiet]; rw [ev_congr h]
  | minmax mx xs => simp only [quiet]; rw [evs_congr h]
  | store n a x => rfl
  | alloc cs => rfl
  | box x => rfl
  | makeSl sz z b l c => rfl
  | append sz b z s x => rfl
  | copy sz d s => rfl
  | call f xs => rfl
theorem gd_congr {ρ ρ' : Env} {g : Option (Nat × Bool)} (h : ∀ t w, g = some (t, w) → getA t ρ = getA t ρ') : gd (getA · ρ) g = gd (getA · ρ') g := by
  cases g with
  | none => rfl
  | some x => obtain ⟨t, w⟩ := x; simp only [gd]; rw [h t w rfl]

section
variable {P : Program} {st : St}
theorem ysem_congr {ρ ρ' : Env} {o : POp} {p : PV} (h : ∀ t ∈ o.tmps, getA t ρ = getA t ρ') (hy : YSem P st o ρ p) : YSem P st o ρ' p := by
  have hg : gd (getA · ρ) o.guard = gd (getA · ρ') o.guard := gd_congr fun t w e => h t (by simp [POp.tmps, e])
  have ho : ∀ t ∈ o.op.tmps, getA t ρ = getA t ρ' := fun t ht => h t (by simp [POp.tmps, ht])
  rcases hy with ⟨h1, h2⟩ | ⟨h1, h2⟩
  · exact .inl ⟨by rw [← hg]; exact h1, h2⟩
  · refine .inr ⟨by rw [← hg]; exact h1, ?_⟩
    rcases h2 with h2 | ⟨f, xs, g, caps, args, e1, e2, e3, e4⟩
    · exact .inl (by rw [← quiet_congr ho]; exact h2)
    · rw [e1] at ho
      simp only [PI.tmps, List.mem_append] at ho
      have h3 : xs.map (Opd.ev ρ') = xs.map (Opd.ev ρ) := (evs_congr fun t ht => (ho t (.inr ht))).symm
      exact .inr ⟨f, xs, g, caps, args, e1, by rw [← ev_congr (fun t ht => ho t (.inl ht))]; exact e2, e3, by rw [h3]; exact e4⟩

def EqA (ρ ρ' : Env) : Prop := ∀ t, getA t ρ = getA t ρ'
theorem EqA.put {ρ ρ' : Env} (h : EqA ρ ρ') (d : Option Nat) (p : PV) : EqA (Env.put ρ d p) (Env.put ρ' d p) := by
  intro t
  cases d with
  | none => exact h t
  | some d => simp only [Env.put, getA_putA]; rw [h t]
theorem put_comm {ρ : Env} {d e : Option Nat} (h : ∀ x, d = some x → e ≠ some x) (p q : PV) : EqA (Env.put (Env.put ρ d p) e q) (Env.put (Env.put ρ e q) d p) := by
  intro t
  cases d with
  | none => rfl
  | some d =>
    cases e with
    | none => rfl
    | some e =>
      have hne : d ≠ e := fun he => h d rfl (by rw [he])
      simp only [Env.put, getA_putA]
      by_cases h1 : e = t
      · by_cases h2 : d = t
        · exact absurd (h2.trans h1.symm) hne
        · rw [if_pos h1, if_neg h2, if_pos h1]
      · rw [if_neg h1, if_neg h1]
theorem put_other {ρ : Env} {d : Option Nat} {p : PV} {t : Nat} (h : d ≠ some t) : getA t (Env.put ρ d p) = getA t ρ := by
  cases d with
  | none => rfl
  | some d =>
    simp only [Env.put, getA_putA]
    rw [if_neg (fun e => h (by rw [e]))]

/-- Whatever order is picked from here on. -/
def anyD (P : Program) (st : St) (ops : Array Oper) (L : List POp) (ρ' : Env) : Nat → Array Bool → Env → Prop
  | 0, listed, ρ => Region.ready .any ops listed = [] ∧ EqA ρ ρ'
  | fuel + 1, listed, ρ => (Region.ready .any ops listed = [] → EqA ρ ρ') ∧ ∀ i ∈ Region.ready .any ops listed, ∃ o p, L[i]? = some o ∧ YSem P st o ρ p ∧ anyD P st ops L ρ' fuel (listed.setIfInBounds i true) (Env.put ρ o.dst p)
theorem anyD_eqv {ops : Array Oper} {L : List POp} {ρ' : Env} : ∀ (fuel : Nat) (listed : Array Bool) (ρ ρ1 : Env), EqA ρ ρ1 → anyD P st ops L ρ' fuel listed ρ → anyD P st ops L ρ' fuel listed ρ1
  | 0, listed, ρ, ρ1, he, h => ⟨h.1, fun t => (he t).symm.trans (h.2 t)⟩
  | fuel + 1, listed, ρ, ρ1, he, h => ⟨fun hr t => (he t).symm.trans (h.1 hr t), fun i hi => by
      obtain ⟨o, p, h1, h2, h3⟩ := h.2 i hi
      exact ⟨o, p, h1, ysem_congr (fun t _ => he t) h2, anyD_eqv fuel _ _ _ (he.put _ _) h3⟩⟩

theorem tmpsOk_spec {ops : Array Oper} : ∀ {lo : List Oper} {l : List POp}, tmpsOk ops lo l = true → lo.length = l.length ∧ ∀ (j : Nat) (O : Oper) (o : POp), lo[j]? = some O → l[j]? = some o → (∀ t ∈ o.tmps, t ∈ O.looksAt ops) ∧ o.dst = O.dst
  | [], [], _ => ⟨rfl, fun j O o h => by simp at h⟩
  | [], _ :: _, h => by cases h
  | _ :: _, [], h => by cases h
  | O :: lo, o :: l, h => by
    simp only [tmpsOk, Bool.and_eq_true, List.all_eq_true, decide_eq_true_eq] at h
    obtain ⟨⟨h1, h2⟩, h3⟩ := h
    obtain ⟨k1, k2⟩ := tmpsOk_spec h3
    refine ⟨by simp [k1], fun j O' o' hj hj' => ?_⟩
    cases j with
    | zero =>
      simp at hj hj'
      subst hj hj'
      exact ⟨fun t ht => by simpa using h1 t ht, h2⟩
    | succ j => exact k2 j O' o' (by simpa using hj) (by simpa using hj')

theorem anyD_first {ops : Array Oper} {L : List POp} {ρ' : Env} (hok : tmpsOk ops ops.toList L = true) {i : Nat} {oi : POp} {Oi : Oper} {v : PV} (hi : L[i]? = some oi) (hiO : ops[i]? = some Oi) :
    ∀ (fuel : Nat) (listed : Array Bool) (ρ : Env),
      (∀ j Oj, ops[j]? = some Oj → j ≠ i → listed.getD j true = false → (∀ e ∈ Oj.after, Region.binds .any e = true → e.on ≠ i) → Oi.apart ops Oj = true) →
      i ∈ Region.ready .any ops listed → YSem P st oi ρ v → anyD P st ops L ρ' fuel (listed.setIfInBounds i true) (Env.put ρ oi.dst v) → anyD P st ops L ρ' (fuel + 1) listed ρ := by
  intro fuel
  induction fuel with
  | zero =>
    intro listed ρ _ hr hy H
    refine ⟨fun h => (by rw [h] at hr; cases hr), fun j hj => ?_⟩
    by_cases hji : j = i
    · subst hji; exact ⟨oi, v, hi, hy, H⟩
    · have := ready_mono hj hji
      rw [H.1] at this
      cases this
  | succ fuel ih =>
    intro listed ρ hfree hr hy H
    refine ⟨fun h => (by rw [h] at hr; cases hr), fun j hj => ?_⟩
    by_cases hji : j = i
    · subst hji; exact ⟨oi, v, hi, hy, H⟩
    · obtain ⟨oj, u, hLj, hyj, hrest⟩ := H.2 j (ready_mono hj hji)
      obtain ⟨hjun, Oj, hOj, hall⟩ := mem_ready.1 hj
      have hnot : ∀ e ∈ Oj.after, Region.binds .any e = true → e.on ≠ i := fun e he hb heq => by
        have h1 := hall e he hb
        have h0 := (mem_ready.1 hr).1
        rw [heq] at h1
        rcases Nat.lt_or_ge i listed.size with h' | h'
        · simp [h'] at h0 h1; rw [h0] at h1; cases h1
        · simp [Array.getElem?_eq_none h'] at h1
      have hap := hfree j Oj hOj hji hjun hnot
      obtain ⟨a1, a2, a3⟩ := Oper.apart_spec hap
      obtain ⟨_, hk⟩ := tmpsOk_spec hok
      obtain ⟨ti, di⟩ := hk i Oi oi (by simpa using hiO) hi
      obtain ⟨tj, dj⟩ := hk j Oj oj (by simpa using hOj) hLj
      have hyj' : YSem P st oj ρ u := ysem_congr (fun t ht => put_other (fun e => a1 t (by rw [← di]; exact e) (tj t ht))) hyj
      have hyi' : YSem P st oi (Env.put ρ oj.dst u) v := ysem_congr (fun t ht => (put_other (fun e => a3 t (by rw [← dj]; exact e) (ti t ht))).symm) hy
      refine ⟨oj, u, hLj, hyj', ih (listed.setIfInBounds j true) (Env.put ρ oj.dst u) (fun k Ok hk hki hun hno => ?_) (ready_mono hr (Ne.symm hji)) hyi' ?_⟩
      · refine hfree k Ok hk hki ?_ hno
        by_cases hjk : j = k
        · subst hjk; exact hjun
        · rw [getD_set_ne true hjk] at hun; exact hun
      · rw [Array.setIfInBounds_comm _ _ hji]
        refine anyD_eqv fuel _ _ _ (put_comm (fun x hx => ?_) v u) hrest
        rw [dj]
        exact a2 x (by rw [← di]; exact hx)

theorem anyD_lex {ops : Array Oper} {L : List POp} {ρ' : Env} (hok : tmpsOk ops ops.toList L = true) : ∀ (l : List Oper) (pl : List POp) (k : Nat) (listed : Array Bool) (ρ : Env), l.length = pl.length → (∀ j, l[j]? = ops[k + j]?) → (∀ j, pl[j]? = L[k + j]?) →
    Region.lexFrom .any ops l.length k listed = true → LexD P st pl ρ ρ' → anyD P st ops L ρ' l.length listed ρ
  | [], [], _, _, _, _, _, _, hB, h => ⟨by simpa [Region.lexFrom] using hB, fun t => by rw [show ρ' = _ from h]⟩
  | [], _ :: _, _, _, _, hl, _, _, _, _ => by cases hl
  | _ :: _, [], _, _, _, hl, _, _, _, _ => by cases hl
  | O :: l, o :: pl, k, listed, ρ, hlen, hl, hp, hB, h => by
    have h0 : ops[k]? = some O := by simpa using (hl 0).symm
    have h1 : L[k]? = some o := by simpa using (hp 0).symm
    simp only [List.length_cons, Region.lexFrom, Bool.and_eq_true] at hB
    obtain ⟨⟨hr, hf⟩, hB'⟩ := hB
    obtain ⟨p, hy, hrest⟩ := h
    exact anyD_first hok h1 h0 l.length listed ρ (Region.free_spec h0 hf) (by simpa using hr) hy
      (anyD_lex hok l pl (k + 1) _ _ (by simpa using hlen) (fun j => by have := hl (j + 1); simpa [Nat.add_assoc, Nat.add_comm 1 j] using this) (fun j => by have := hp (j + 1); simpa [Nat.add_assoc, Nat.add_comm 1 j] using this) hB' hrest)
end

section
variable {P : Program} {X : Cx} {st : St} {G : Gh} {n : Nat}
theorem cOps_get {ops : Array Oper} : ∀ {lo : List Oper} {l : List POp}, cOps P ops n lo = some l → lo.length = l.length ∧ ∀ (j : Nat) (O : Oper) (o : POp), lo[j]? = some O → l[j]? = some o → cPOp P ops n O = some o
  | [], l, h => by injection h with h; subst h; exact ⟨rfl, fun j O o h => by simp at h⟩
  | O :: lo, l, h => by
    simp only [cOps] at h
    split at h
    · rename_i p ps h1 h2
      injection h with h
      subst h
      obtain ⟨k1, k2⟩ := cOps_get h2
      refine ⟨by simp [k1], fun j O' o' hj hj' => ?_⟩
      cases j with
      | zero => simp at hj hj'; subst hj hj'; exact h1
      | succ j => exact k2 j O' o' (by simpa using hj) (by simpa using hj')
    · cases h
theorem cPOp_spec {ops : Array Oper} {O : Oper} {o : POp} (h : cPOp P ops n O = some o) : cGuard ops O.guard = some o.guard ∧ cOp P O.op = some o.op ∧ o.dst = O.dst ∧ dstOk n O.dst = true := by
  unfold cPOp at h
  split at h
  · rename_i g pi h1 h2
    split at h
    · rename_i h3
      injection h with h
      subst h
      exact ⟨h1, h2, rfl, h3⟩
    · cases h
  · cases h

theorem eqA_env {own : Nat → Prop} {w : World} {ρ ρ' : Env} {a : Act} (h : EnvRep G own w n ρ a) (he : EqA ρ ρ') : EnvRep G own w n ρ' a := ⟨h.defers, h.size, fun t p hp => h.reps t p (by rw [he t]; exact hp)⟩

/-- One operation of a drawn region. -/
theorem wpOp_ysem {ops : Array Oper} {w : World} {ρ : Env} {a : Act} (hI : Inv X st G w) (hE : EnvRep G (OwnF X st G) w n ρ a) {i : Nat} {O : Oper} {o : POp} (hO : ops[i]? = some O) (hc : cPOp P ops n O = some o) {p : PV} (hy : YSem P st o ρ p) {K : Act → World → Prop} {Q : Exit → Act → World → Prop}
    (hK : ∀ w' a', Inv X st G w' → EnvRep G (OwnF X st G) w' n (Env.put ρ o.dst p) a' → K a' w') : wpOp P ops Q i K a w := by
  obtain ⟨h1, h2, h3, h4⟩ := cPOp_spec hc
  unfold wpOp
  simp only [hO]
  rcases hy with ⟨hg, rfl⟩ | ⟨hg, hh⟩
  · rw [gd_wanted hE h1 hg]
    simp only [Bool.false_eq_true, if_false]
    rw [h3] at hK
    exact hK w _ hI (hE.put (dst_lt h4) undef_rep)
  · rw [gd_wanted hE h1 hg]
    simp only [if_true]
    refine .inl ?_
    rcases hh with hq | ⟨f, xs, g, caps, args, e1, e2, e3, e4⟩
    · obtain ⟨u, w', r1, r2, r3⟩ := (step_sound hI hE h2).1 p hq
      obtain ⟨m1, m2⟩ := inv_below hI r2
      unfold Oper.wp
      rw [r1, Oper.upon_value]
      rw [h3] at hK
      exact hK w' _ m1 ((m2.env hE).put (dst_lt h4) r3)
    · rw [e1] at h2
      exact wp_call hI hE h3.symm (by rw [h3]; exact h4) h2 e2 e3 e4 hK

theorem wpAny_of_anyD {ops : Array Oper} {L : List POp} {ρ' : Env} (hc : cOps P ops n ops.toList = some L) {Q : Exit → Act → World → Prop} (hQ : ∀ a w ρ, Inv X st G w → EnvRep G (OwnF X st G) w n ρ a → EqA ρ ρ' → Q .normal a w) :
    ∀ (fuel : Nat) (listed : Array Bool) (ρ : Env) (a : Act) (w : World), Inv X st G w → EnvRep G (OwnF X st G) w n ρ a → anyD P st ops L ρ' fuel listed ρ → wpAny P .any ops Q fuel listed a w
  | 0, _, ρ, a, w, hI, hE, h => ⟨h.1, hQ a w ρ hI hE h.2⟩
  | fuel + 1, listed, ρ, a, w, hI, hE, h => ⟨fun h0 => hQ a w ρ hI hE (h.1 h0), fun i hi => by
      obtain ⟨o, p, h1, h2, h3⟩ := h.2 i hi
      obtain ⟨_, O, hO, _⟩ := mem_ready.1 hi
      exact wpOp_ysem hI hE hO ((cOps_get hc).2 i O o (by simpa using hO) h1) h2 (fun w' a' hI' hE' => wpAny_of_anyD hc hQ fuel _ _ a' w' hI' hE' h3)⟩

theorem wp_drawn {id : Nat} {ops : Array Oper} {L : List POp} {w : World} {ρ ρ' : Env} {a : Act} {Q : Exit → Act → World → Prop} (hm : P.follows .mixedOrders = true) (hB : Region.lexB .any ops = true) (hok : tmpsOk ops ops.toList L = true) (hc : cOps P ops n ops.toList = some L)
    (hI : Inv X st G w) (hE : EnvRep G (OwnF X st G) w n ρ a) (hl : LexD P st L ρ ρ') (hQ : ∀ a w, Inv X st G w → EnvRep G (OwnF X st G) w n ρ' a → Q .normal a w) : (Code.region id ops true).wp P Q a w := by
  simp only [Region.lexB, Bool.and_eq_true] at hB
  have hd : Below w.heap.size w { w with drawn := w.drawn + 1 } := ⟨rfl, rfl, rfl, Nat.le_refl _, fun _ _ => rfl⟩
  obtain ⟨m1, m2⟩ := inv_below hI hd
  refine wp_region_any hm ?_
  have := anyD_lex (P := P) (st := st) hok ops.toList L 0 (Array.replicate ops.size false) ρ (by simpa using (tmpsOk_spec hok).1) (by simp) (by simp) (by simpa using hB.2) hl
  refine wpAny_of_anyD hc (fun a w ρ1 h1 h2 h3 => hQ a w h1 (eqA_env h2 h3)) _ _ ρ a _ m1 (m2.env hE) ?_
  simpa using this
end
end Go.AM
