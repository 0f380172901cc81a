/- The abstract machine: AM21: regions whose order is drawn: one walk serves every order. · AM22: a run of plain code is a run of the machine. · AM23: a run, found step by step. -/
import Derived.Test.YthoknkogdldgcaaDoorAmC
set_option linter.unusedSectionVars false
set_option linter.unusedVariables false
set_option linter.unusedSimpArgs false
namespace Go.AM
open Go.RowKit
variable [Gl]
def YSem (P : Program) (st : St) (o : POp) (ρ : Env) (p : PV) : Prop :=
  (gd (getA · ρ) o.guard = some false ∧ p = .tuple []) ∨
  (gd (getA · ρ) o.guard = some true ∧ (quiet st.get (Opd.ev ρ) o.op = some p ∨ ∃ f xs g caps args, o.op = .call f xs ∧ f.ev ρ = .func g caps ∧ SemCall P g args p ∧
    (ViewL false st.get (xs.map (Opd.ev ρ) ++ caps) args ∨ (ViewL true st.get (xs.map (Opd.ev ρ) ++ caps) args ∧ scalarR p = true))))
def LexD (P : Program) (st : St) : List POp → Env → Env → Prop
  | [], ρ, ρ' => ρ' = ρ
  | o :: l, ρ, ρ' => ∃ p, YSem P st o ρ p ∧ LexD P st l (Env.put ρ o.dst p) ρ'
theorem ev_congr {ρ ρ' : Env} {x : Opd} (h : ∀ t ∈ x.tmps, getA t ρ = getA t ρ') : x.ev ρ = x.ev ρ' := by
  cases x with
  | t n => simp only [Opd.ev, Env.at]; rw [h n (by simp [Opd.tmps])]
  | c p => rfl
theorem evs_congr {ρ ρ' : Env} {xs : List Opd} (h : ∀ t ∈ xs.flatMap Opd.tmps, getA t ρ = getA t ρ') : xs.map (Opd.ev ρ) = xs.map (Opd.ev ρ') := by
  apply List.map_congr_left
  intro x hx
  exact ev_congr fun t ht => h t (List.mem_flatMap.2 ⟨x, hx, ht⟩)
theorem opt_congr {ρ ρ' : Env} {x : Option Opd} (h : ∀ t ∈ optTmps x, getA t ρ = getA t ρ') : x.map (Opd.ev ρ) = x.map (Opd.ev ρ') := by
  cases x with
  | none => rfl
  | some x => simp only [Option.map_some]; rw [ev_congr h]
theorem quiet_congr {look : Nat → Option Tok} {ρ ρ' : Env} {pi : PI} (h : ∀ t ∈ pi.tmps, getA t ρ = getA t ρ') : quiet look (Opd.ev ρ) pi = quiet look (Opd.ev ρ') pi := by
  cases pi with
  | move x => simp only [quiet]; rw [ev_congr h]
  | pick c a b =>
    simp only [PI.tmps, List.mem_append] at h
    simp only [quiet]
    rw [ev_congr (fun t ht => h t (.inl ht)), ev_congr (fun t ht => h t (.inr (.inl ht))), ev_congr (fun t ht => h t (.inr (.inr ht)))]
  | load n agg a => simp only [quiet]; rw [ev_congr h]
  | build zero ps =>
    simp only [quiet]
    have : (ps.map fun p => (p.1, p.2.1, Opd.ev ρ p.2.2)) = ps.map fun p => (p.1, p.2.1, Opd.ev ρ' p.2.2) := by
      apply List.map_congr_left
      intro p hp
      rw [ev_congr fun t ht => h t (List.mem_flatMap.2 ⟨p, hp, ht⟩)]
    rw [this]
  | buildSl sz zero ps =>
    simp only [quiet]
    have : (ps.map fun p => (p.1, Opd.ev ρ p.2)) = ps.map fun p => (p.1, Opd.ev ρ' p.2) := by
      apply List.map_congr_left
      intro p hp
      rw [ev_congr fun t ht => h t (List.mem_flatMap.2 ⟨p, hp, ht⟩)]
    rw [this]
  | fieldAddr x d => simp only [quiet]; rw [ev_congr h]
  | field x off n agg => simp only [quiet]; rw [ev_congr h]
  | indexA x y l s =>
    simp only [PI.tmps, List.mem_append] at h
    simp only [quiet]; rw [ev_congr (fun t ht => h t (.inl ht)), ev_congr (fun t ht => h t (.inr ht))]
  | indexS x y s =>
    simp only [PI.tmps, List.mem_append] at h
    simp only [quiet]; rw [ev_congr (fun t ht => h t (.inl ht)), ev_congr (fun t ht => h t (.inr ht))]
  | indexStr x y =>
    simp only [PI.tmps, List.mem_append] at h
    simp only [quiet]; rw [ev_congr (fun t ht => h t (.inl ht)), ev_congr (fun t ht => h t (.inr ht))]
  | sliceStr x lo hi =>
    simp only [PI.tmps, List.mem_append] at h
    simp only [quiet]; rw [ev_congr (fun t ht => h t (.inl ht)), opt_congr (fun t ht => h t (.inr (.inl ht))), opt_congr (fun t ht => h t (.inr (.inr ht)))]
  | sliceSl x s lo hi mx =>
    simp only [PI.tmps, List.mem_append] at h
    simp only [quiet]; rw [ev_congr (fun t ht => h t (.inl ht)), opt_congr (fun t ht => h t (.inr (.inl ht))), opt_congr (fun t ht => h t (.inr (.inr (.inl ht)))), opt_congr (fun t ht => h t (.inr (.inr (.inr ht))))]
  | sliceArr x l s lo hi mx =>
    simp only [PI.tmps, List.mem_append] at h
    simp only [quiet]; rw [ev_congr (fun t ht => h t (.inl ht)), opt_congr (fun t ht => h t (.inr (.inl ht))), opt_congr (fun t ht => h t (.inr (.inr (.inl ht)))), opt_congr (fun t ht => h t (.inr (.inr (.inr ht))))]
  | conv k x => simp only [quiet]; rw [ev_congr h]
  | toBytes x => simp only [quiet]; rw [ev_congr h]
  | toStr x => simp only [quiet]; rw [ev_congr h]
  | textId x => simp only [quiet]; rw [ev_congr h]
  | neg x => simp only [quiet]; rw [ev_congr h]
  | not x => simp only [quiet]; rw [ev_congr h]
  | bin op x y =>
    simp only [PI.tmps, List.mem_append] at h
    simp only [quiet]; rw [ev_congr (fun t ht => h t (.inl ht)), ev_congr (fun t ht => h t (.inr ht))]
  | eqNil neq k x => simp only [quiet]; rw [ev_congr h]
  | eqBool neq x y =>
    simp only [PI.tmps, List.mem_append] at h
    simp only [quiet]; rw [ev_congr (fun t ht => h t (.inl ht)), ev_congr (fun t ht => h t (.inr ht))]
  | eqAgg neq x y =>
    simp only [PI.tmps, List.mem_append] at h
    simp only [quiet]; rw [ev_congr (fun t ht => h t (.inl ht)), ev_congr (fun t ht => h t (.inr ht))]
  | extract x i => simp only [quiet]; rw [ev_congr h]
  | mkIface ty x => simp only [quiet]; rw [ev_congr h]
  | mkFunc f caps => simp only [quiet]; rw [evs_congr h]
  | nilCheck x => simp only [quiet]; rw [ev_congr h]
  | len txt x => simp only [quiet]; rw [ev_congr h]
  | cap x => simp only [quiet]; rw [ev_congr h]
  | minmax mx xs => simp only [quiet]; rw [evs_congr h]
  | store n a x => rfl
  | alloc cs => rfl
  | box x => rfl
  | makeSl sz z b l c => rfl
  | append sz b z s x => rfl
  | copy sz d s => rfl
  | call f xs => rfl
theorem gd_congr {ρ ρ' : Env} {g : Option (Nat × Bool)} (h : ∀ t w, g = some (t, w) → getA t ρ = getA t ρ') : gd (getA · ρ) g = gd (getA · ρ') g := by
  cases g with
  | none => rfl
  | some x => obtain ⟨t, w⟩ := x; simp only [gd]; rw [h t w rfl]
section
variable {P : Program} {st : St}
theorem ysem_congr {ρ ρ' : Env} {o : POp} {p : PV} (h : ∀ t ∈ o.tmps, getA t ρ = getA t ρ') (hy : YSem P st o ρ p) : YSem P st o ρ' p := by
  have hg : gd (getA · ρ) o.guard = gd (getA · ρ') o.guard := gd_congr fun t w e => h t (by simp [POp.tmps, e])
  have ho : ∀ t ∈ o.op.tmps, getA t ρ = getA t ρ' := fun t ht => h t (by simp [POp.tmps, ht])
  rcases hy with ⟨h1, h2⟩ | ⟨h1, h2⟩
  · exact .inl ⟨by rw [← hg]; exact h1, h2⟩
  · refine .inr ⟨by rw [← hg]; exact h1, ?_⟩
    rcases h2 with h2 | ⟨f, xs, g, caps, args, e1, e2, e3, e4⟩
    · exact .inl (by rw [← quiet_congr ho]; exact h2)
    · rw [e1] at ho
      simp only [PI.tmps, List.mem_append] at ho
      have h3 : xs.map (Opd.ev ρ') = xs.map (Opd.ev ρ) := (evs_congr fun t ht => (ho t (.inr ht))).symm
      exact .inr ⟨f, xs, g, caps, args, e1, by rw [← ev_congr (fun t ht => ho t (.inl ht))]; exact e2, e3, by rw [h3]; exact e4⟩
def EqA (ρ ρ' : Env) : Prop := ∀ t, getA t ρ = getA t ρ'
theorem EqA.put {ρ ρ' : Env} (h : EqA ρ ρ') (d : Option Nat) (p : PV) : EqA (Env.put ρ d p) (Env.put ρ' d p) := by
  intro t
  cases d with
  | none => exact h t
  | some d => simp only [Env.put, getA_putA]; rw [h t]
theorem put_comm {ρ : Env} {d e : Option Nat} (h : ∀ x, d = some x → e ≠ some x) (p q : PV) : EqA (Env.put (Env.put ρ d p) e q) (Env.put (Env.put ρ e q) d p) := by
  intro t
  cases d with
  | none => rfl
  | some d =>
    cases e with
    | none => rfl
    | some e =>
      have hne : d ≠ e := fun he => h d rfl (by rw [he])
      simp only [Env.put, getA_putA]
      by_cases h1 : e = t
      · by_cases h2 : d = t
        · exact absurd (h2.trans h1.symm) hne
        · rw [if_pos h1, if_neg h2, if_pos h1]
      · rw [if_neg h1, if_neg h1]
theorem put_other {ρ : Env} {d : Option Nat} {p : PV} {t : Nat} (h : d ≠ some t) : getA t (Env.put ρ d p) = getA t ρ := by
  cases d with
  | none => rfl
  | some d =>
    simp only [Env.put, getA_putA]
    rw [if_neg (fun e => h (by rw [e]))]
def anyD (P : Program) (st : St) (ops : Array Oper) (L : List POp) (ρ' : Env) : Nat → Array Bool → Env → Prop
  | 0, listed, ρ => Region.ready .any ops listed = [] ∧ EqA ρ ρ'
  | fuel + 1, listed, ρ => (Region.ready .any ops listed = [] → EqA ρ ρ') ∧ ∀ i ∈ Region.ready .any ops listed, ∃ o p, L[i]? = some o ∧ YSem P st o ρ p ∧ anyD P st ops L ρ' fuel (listed.setIfInBounds i true) (Env.put ρ o.dst p)
theorem anyD_eqv {ops : Array Oper} {L : List POp} {ρ' : Env} : ∀ (fuel : Nat) (listed : Array Bool) (ρ ρ1 : Env), EqA ρ ρ1 → anyD P st ops L ρ' fuel listed ρ → anyD P st ops L ρ' fuel listed ρ1
  | 0, listed, ρ, ρ1, he, h => ⟨h.1, fun t => (he t).symm.trans (h.2 t)⟩
  | fuel + 1, listed, ρ, ρ1, he, h => ⟨fun hr t => (he t).symm.trans (h.1 hr t), fun i hi => by
      obtain ⟨o, p, h1, h2, h3⟩ := h.2 i hi
      exact ⟨o, p, h1, ysem_congr (fun t _ => he t) h2, anyD_eqv fuel _ _ _ (he.put _ _) h3⟩⟩
theorem tmpsOk_spec {ops : Array Oper} : ∀ {lo : List Oper} {l : List POp}, tmpsOk ops lo l = true → lo.length = l.length ∧ ∀ (j : Nat) (O : Oper) (o : POp), lo[j]? = some O → l[j]? = some o → (∀ t ∈ o.tmps, t ∈ O.looksAt ops) ∧ o.dst = O.dst
  | [], [], _ => ⟨rfl, fun j O o h => by simp at h⟩
  | [], _ :: _, h => by cases h
  | _ :: _, [], h => by cases h
  | O :: lo, o :: l, h => by
    simp only [tmpsOk, Bool.and_eq_true, List.all_eq_true, decide_eq_true_eq] at h
    obtain ⟨⟨h1, h2⟩, h3⟩ := h
    obtain ⟨k1, k2⟩ := tmpsOk_spec h3
    refine ⟨by simp [k1], fun j O' o' hj hj' => ?_⟩
    cases j with
    | zero =>
      simp at hj hj'
      subst hj hj'
      exact ⟨fun t ht => by simpa using h1 t ht, h2⟩
    | succ j => exact k2 j O' o' (by simpa using hj) (by simpa using hj')
theorem anyD_first {ops : Array Oper} {L : List POp} {ρ' : Env} (hok : tmpsOk ops ops.toList L = true) {i : Nat} {oi : POp} {Oi : Oper} {v : PV} (hi : L[i]? = some oi) (hiO : ops[i]? = some Oi) :
    ∀ (fuel : Nat) (listed : Array Bool) (ρ : Env),
      (∀ j Oj, ops[j]? = some Oj → j ≠ i → listed.getD j true = false → (∀ e ∈ Oj.after, Region.binds .any e = true → e.on ≠ i) → Oi.apart ops Oj = true) →
      i ∈ Region.ready .any ops listed → YSem P st oi ρ v → anyD P st ops L ρ' fuel (listed.setIfInBounds i true) (Env.put ρ oi.dst v) → anyD P st ops L ρ' (fuel + 1) listed ρ := by
  intro fuel
  induction fuel with
  | zero =>
    intro listed ρ _ hr hy H
    refine ⟨fun h => (by rw [h] at hr; cases hr), fun j hj => ?_⟩
    by_cases hji : j = i
    · subst hji; exact ⟨oi, v, hi, hy, H⟩
    · have := ready_mono hj hji
      rw [H.1] at this
      cases this
  | succ fuel ih =>
    intro listed ρ hfree hr hy H
    refine ⟨fun h => (by rw [h] at hr; cases hr), fun j hj => ?_⟩
    by_cases hji : j = i
    · subst hji; exact ⟨oi, v, hi, hy, H⟩
    · obtain ⟨oj, u, hLj, hyj, hrest⟩ := H.2 j (ready_mono hj hji)
      obtain ⟨hjun, Oj, hOj, hall⟩ := mem_ready.1 hj
      have hnot : ∀ e ∈ Oj.after, Region.binds .any e = true → e.on ≠ i := fun e he hb heq => by
        have h1 := hall e he hb
        have h0 := (mem_ready.1 hr).1
        rw [heq] at h1
        rcases Nat.lt_or_ge i listed.size with h' | h'
        · simp [h'] at h0 h1; rw [h0] at h1; cases h1
        · simp [Array.getElem?_eq_none h'] at h1
      have hap := hfree j Oj hOj hji hjun hnot
      obtain ⟨a1, a2, a3⟩ := Oper.apart_spec hap
      obtain ⟨_, hk⟩ := tmpsOk_spec hok
      obtain ⟨ti, di⟩ := hk i Oi oi (by simpa using hiO) hi
      obtain ⟨tj, dj⟩ := hk j Oj oj (by simpa using hOj) hLj
      have hyj' : YSem P st oj ρ u := ysem_congr (fun t ht => put_other (fun e => a1 t (by rw [← di]; exact e) (tj t ht))) hyj
      have hyi' : YSem P st oi (Env.put ρ oj.dst u) v := ysem_congr (fun t ht => (put_other (fun e => a3 t (by rw [← dj]; exact e) (ti t ht))).symm) hy
      refine ⟨oj, u, hLj, hyj', ih (listed.setIfInBounds j true) (Env.put ρ oj.dst u) (fun k Ok hk hki hun hno => ?_) (ready_mono hr (Ne.symm hji)) hyi' ?_⟩
      · refine hfree k Ok hk hki ?_ hno
        by_cases hjk : j = k
        · subst hjk; exact hjun
        · rw [getD_set_ne true hjk] at hun; exact hun
      · rw [Array.setIfInBounds_comm _ _ hji]
        refine anyD_eqv fuel _ _ _ (put_comm (fun x hx => ?_) v u) hrest
        rw [dj]
        exact a2 x (by rw [← di]; exact hx)
theorem anyD_lex {ops : Array Oper} {L : List POp} {ρ' : Env} (hok : tmpsOk ops ops.toList L = true) : ∀ (l : List Oper) (pl : List POp) (k : Nat) (listed : Array Bool) (ρ : Env), l.length = pl.length → (∀ j, l[j]? = ops[k + j]?) → (∀ j, pl[j]? = L[k + j]?) →
    Region.lexFrom .any ops l.length k listed = true → LexD P st pl ρ ρ' → anyD P st ops L ρ' l.length listed ρ
  | [], [], _, _, _, _, _, _, hB, h => ⟨by simpa [Region.lexFrom] using hB, fun t => by rw [show ρ' = _ from h]⟩
  | [], _ :: _, _, _, _, hl, _, _, _, _ => by cases hl
  | _ :: _, [], _, _, _, hl, _, _, _, _ => by cases hl
  | O :: l, o :: pl, k, listed, ρ, hlen, hl, hp, hB, h => by
    have h0 : ops[k]? = some O := by simpa using (hl 0).symm
    have h1 : L[k]? = some o := by simpa using (hp 0).symm
    simp only [List.length_cons, Region.lexFrom, Bool.and_eq_true] at hB
    obtain ⟨⟨hr, hf⟩, hB'⟩ := hB
    obtain ⟨p, hy, hrest⟩ := h
    exact anyD_first hok h1 h0 l.length listed ρ (Region.free_spec h0 hf) (by simpa using hr) hy
      (anyD_lex hok l pl (k + 1) _ _ (by simpa using hlen) (fun j => by have := hl (j + 1); simpa [Nat.add_assoc, Nat.add_comm 1 j] using this) (fun j => by have := hp (j + 1); simpa [Nat.add_assoc, Nat.add_comm 1 j] using this) hB' hrest)
end
section
variable {P : Program} {X : Cx} {st : St} {G : Gh} {n : Nat}
theorem cOps_get {ops : Array Oper} : ∀ {lo : List Oper} {l : List POp}, cOps P ops n lo = some l → lo.length = l.length ∧ ∀ (j : Nat) (O : Oper) (o : POp), lo[j]? = some O → l[j]? = some o → cPOp P ops n O = some o
  | [], l, h => by injection h with h; subst h; exact ⟨rfl, fun j O o h => by simp at h⟩
  | O :: lo, l, h => by
    simp only [cOps] at h
    split at h
    · rename_i p ps h1 h2
      injection h with h
      subst h
      obtain ⟨k1, k2⟩ := cOps_get h2
      refine ⟨by simp [k1], fun j O' o' hj hj' => ?_⟩
      cases j with
      | zero => simp at hj hj'; subst hj hj'; exact h1
      | succ j => exact k2 j O' o' (by simpa using hj) (by simpa using hj')
    · cases h
theorem cPOp_spec {ops : Array Oper} {O : Oper} {o : POp} (h : cPOp P ops n O = some o) : cGuard ops O.guard = some o.guard ∧ cOp P O.op = some o.op ∧ o.dst = O.dst ∧ dstOk n O.dst = true := by
  unfold cPOp at h
  split at h
  · rename_i g pi h1 h2
    split at h
    · rename_i h3
      injection h with h
      subst h
      exact ⟨h1, h2, rfl, h3⟩
    · cases h
  · cases h
theorem eqA_env {own : Nat → Prop} {w : World} {ρ ρ' : Env} {a : Act} (h : EnvRep G own w n ρ a) (he : EqA ρ ρ') : EnvRep G own w n ρ' a := ⟨h.defers, h.size, fun t p hp => h.reps t p (by rw [he t]; exact hp)⟩
theorem wpOp_ysem {ops : Array Oper} {w : World} {ρ : Env} {a : Act} (hI : Inv X st G w) (hE : EnvRep G (OwnF X st G) w n ρ a) {i : Nat} {O : Oper} {o : POp} (hO : ops[i]? = some O) (hc : cPOp P ops n O = some o) {p : PV} (hy : YSem P st o ρ p) {K : Act → World → Prop} {Q : Exit → Act → World → Prop}
    (hK : ∀ w' a', Inv X st G w' → EnvRep G (OwnF X st G) w' n (Env.put ρ o.dst p) a' → K a' w') : wpOp P ops Q i K a w := by
  obtain ⟨h1, h2, h3, h4⟩ := cPOp_spec hc
  unfold wpOp
  simp only [hO]
  rcases hy with ⟨hg, rfl⟩ | ⟨hg, hh⟩
  · rw [gd_wanted hE h1 hg]
    simp only [Bool.false_eq_true, if_false]
    rw [h3] at hK
    exact hK w _ hI (hE.put (dst_lt h4) undef_rep)
  · rw [gd_wanted hE h1 hg]
    simp only [if_true]
    refine .inl ?_
    rcases hh with hq | ⟨f, xs, g, caps, args, e1, e2, e3, e4⟩
    · obtain ⟨u, w', r1, r2, r3⟩ := (step_sound hI hE h2).1 p hq
      obtain ⟨m1, m2⟩ := inv_below hI r2
      unfold Oper.wp
      rw [r1, Oper.upon_value]
      rw [h3] at hK
      exact hK w' _ m1 ((m2.env hE).put (dst_lt h4) r3)
    · rw [e1] at h2
      exact wp_call hI hE h3.symm (by rw [h3]; exact h4) h2 e2 e3 e4 hK
theorem wpAny_of_anyD {ops : Array Oper} {L : List POp} {ρ' : Env} (hc : cOps P ops n ops.toList = some L) {Q : Exit → Act → World → Prop} (hQ : ∀ a w ρ, Inv X st G w → EnvRep G (OwnF X st G) w n ρ a → EqA ρ ρ' → Q .normal a w) :
    ∀ (fuel : Nat) (listed : Array Bool) (ρ : Env) (a : Act) (w : World), Inv X st G w → EnvRep G (OwnF X st G) w n ρ a → anyD P st ops L ρ' fuel listed ρ → wpAny P .any ops Q fuel listed a w
  | 0, _, ρ, a, w, hI, hE, h => ⟨h.1, hQ a w ρ hI hE h.2⟩
  | fuel + 1, listed, ρ, a, w, hI, hE, h => ⟨fun h0 => hQ a w ρ hI hE (h.1 h0), fun i hi => by
      obtain ⟨o, p, h1, h2, h3⟩ := h.2 i hi
      obtain ⟨_, O, hO, _⟩ := mem_ready.1 hi
      exact wpOp_ysem hI hE hO ((cOps_get hc).2 i O o (by simpa using hO) h1) h2 (fun w' a' hI' hE' => wpAny_of_anyD hc hQ fuel _ _ a' w' hI' hE' h3)⟩
theorem wp_drawn {id : Nat} {ops : Array Oper} {L : List POp} {w : World} {ρ ρ' : Env} {a : Act} {Q : Exit → Act → World → Prop} (hm : P.follows .mixedOrders = true) (hB : Region.lexB .any ops = true) (hok : tmpsOk ops ops.toList L = true) (hc : cOps P ops n ops.toList = some L)
    (hI : Inv X st G w) (hE : EnvRep G (OwnF X st G) w n ρ a) (hl : LexD P st L ρ ρ') (hQ : ∀ a w, Inv X st G w → EnvRep G (OwnF X st G) w n ρ' a → Q .normal a w) : (Code.region id ops true).wp P Q a w := by
  simp only [Region.lexB, Bool.and_eq_true] at hB
  have hd : Below w.heap.size w { w with drawn := w.drawn + 1 } := ⟨rfl, rfl, rfl, Nat.le_refl _, fun _ _ => rfl⟩
  obtain ⟨m1, m2⟩ := inv_below hI hd
  refine wp_region_any hm ?_
  have := anyD_lex (P := P) (st := st) hok ops.toList L 0 (Array.replicate ops.size false) ρ (by simpa using (tmpsOk_spec hok).1) (by simp) (by simp) (by simpa using hB.2) hl
  refine wpAny_of_anyD hc (fun a w ρ1 h1 h2 h3 => hQ a w h1 (eqA_env h2 h3)) _ _ ρ a _ m1 (m2.env hE) ?_
  simpa using this
end
theorem loud_congr {st : St} {ρ ρ' : Env} {pi : PI} (h : ∀ t ∈ pi.tmps, getA t ρ = getA t ρ') : loud st (Opd.ev ρ) pi = loud st (Opd.ev ρ') pi := by
  cases pi with
  | store n a x =>
    simp only [PI.tmps, List.mem_append] at h
    simp only [loud]; rw [ev_congr (fun t ht => h t (.inl ht)), ev_congr (fun t ht => h t (.inr ht))]
  | alloc cs => rfl
  | box x => simp only [loud]; rw [ev_congr h]
  | buildSl sz zero ps =>
    simp only [loud]
    have : (ps.map fun p => (p.1, Opd.ev ρ p.2)) = ps.map fun p => (p.1, Opd.ev ρ' p.2) := by
      apply List.map_congr_left
      intro p hp
      rw [ev_congr fun t ht => h t (List.mem_flatMap.2 ⟨p, hp, ht⟩)]
    rw [this]
  | makeSl sz z b l c =>
    simp only [PI.tmps, List.mem_append] at h
    simp only [loud]; rw [ev_congr (fun t ht => h t (.inl ht)), ev_congr (fun t ht => h t (.inr ht))]
  | append sz b z s x =>
    simp only [PI.tmps, List.mem_append] at h
    simp only [loud]; rw [ev_congr (fun t ht => h t (.inl ht)), ev_congr (fun t ht => h t (.inr ht))]
  | copy sz d s =>
    simp only [PI.tmps, List.mem_append] at h
    simp only [loud]; rw [ev_congr (fun t ht => h t (.inl ht)), ev_congr (fun t ht => h t (.inr ht))]
  | toBytes x => simp only [loud]; rw [ev_congr h]
  | _ => rfl
def LSem (P : Program) (st : St) (o : POp) (ρ : Env) (p : PV) (st1 : St) : Prop :=
  gd (getA · ρ) o.guard = some true ∧ (loud st (Opd.ev ρ) o.op = some (p, st1) ∨ ∃ f xs g caps q τ st2, o.op = .call f xs ∧ f.ev ρ = .func g caps ∧ Parts st q τ ∧ st2.base = st.next ∧ SemRaw P g (xs.map (Opd.ev ρ) ++ caps) (partSt st τ) p st2 ∧ st1 = joinSt st q st2)
def StepM (P : Program) (m : Nat) (A B : St) (k : Nat) (o : POp) (ρ : Env) (st : St) (p : PV) (st1 : St) : Prop :=
  (k ≠ m ∧ st1 = st ∧ (st = A ∨ st = B) ∧ YSem P A o ρ p ∧ YSem P B o ρ p) ∨ (k = m ∧ st = A ∧ st1 = B ∧ LSem P A o ρ p B)
def LexM (P : Program) (m : Nat) (A B : St) : Nat → List POp → Env → St → Env → St → Prop
  | k, [], ρ, st, ρ', st' => ρ' = ρ ∧ st' = st
  | k, o :: l, ρ, st, ρ', st' => ∃ p st1, StepM P m A B k o ρ st p st1 ∧ LexM P m A B (k + 1) l (Env.put ρ o.dst p) st1 ρ' st'
theorem stepM_congr {P : Program} {m k : Nat} {A B : St} {ρ ρ' : Env} {st : St} {o : POp} {p : PV} {st1 : St} (h : ∀ t ∈ o.tmps, getA t ρ = getA t ρ') (hy : StepM P m A B k o ρ st p st1) : StepM P m A B k o ρ' st p st1 := by
  have hg : gd (getA · ρ) o.guard = gd (getA · ρ') o.guard := gd_congr fun t w e => h t (by simp [POp.tmps, e])
  have ho : ∀ t ∈ o.op.tmps, getA t ρ = getA t ρ' := fun t ht => h t (by simp [POp.tmps, ht])
  rcases hy with ⟨hk, hs, hab, hy, hz⟩ | ⟨hk, hA, hB, h1, h2⟩
  · exact .inl ⟨hk, hs, hab, ysem_congr h hy, ysem_congr h hz⟩
  · refine .inr ⟨hk, hA, hB, by rw [← hg]; exact h1, ?_⟩
    rcases h2 with h2 | ⟨f, xs, g, caps, q, τ, st2, e1, e2, e3, e4, e5, e6⟩
    · exact .inl (by rw [← loud_congr ho]; exact h2)
    · rw [e1] at ho
      simp only [PI.tmps, List.mem_append] at ho
      have h3 : xs.map (Opd.ev ρ') = xs.map (Opd.ev ρ) := (evs_congr fun t ht => (ho t (.inr ht))).symm
      exact .inr ⟨f, xs, g, caps, q, τ, st2, e1, by rw [← ev_congr (fun t ht => ho t (.inl ht))]; exact e2, e3, e4, by rw [h3]; exact e5, e6⟩
theorem stepM_swap {P : Program} {m i j : Nat} {A B : St} (hij : i ≠ j) {oi oj : POp} {ρ ρ1 : Env} {st sti stij : St} {v u : PV} (hi : StepM P m A B i oi ρ st v sti) (hj : StepM P m A B j oj ρ1 sti u stij) :
    ∃ stj, StepM P m A B j oj ρ1 st u stj ∧ StepM P m A B i oi ρ stj v stij := by
  rcases hi with ⟨h1, rfl, h2, h3⟩ | ⟨h1, rfl, rfl, h2⟩
  · rcases hj with ⟨k1, rfl, k2, k3⟩ | ⟨k1, rfl, rfl, k2⟩
    · exact ⟨_, .inl ⟨k1, rfl, k2, k3⟩, .inl ⟨h1, rfl, h2, h3⟩⟩
    · exact ⟨stij, .inr ⟨k1, rfl, rfl, k2⟩, .inl ⟨h1, rfl, .inr rfl, h3⟩⟩
  · rcases hj with ⟨k1, rfl, k2, k3⟩ | ⟨k1, _, _, k2⟩
    · exact ⟨st, .inl ⟨k1, rfl, .inl rfl, k3⟩, .inr ⟨h1, rfl, rfl, h2⟩⟩
    · exact absurd (h1.trans k1.symm) hij
def anyM (P : Program) (m : Nat) (A B : St) (ops : Array Oper) (L : List POp) (ρ' : Env) (st' : St) : Nat → Array Bool → Env → St → Prop
  | 0, listed, ρ, st => Region.ready .any ops listed = [] ∧ EqA ρ ρ' ∧ st = st'
  | fuel + 1, listed, ρ, st => (Region.ready .any ops listed = [] → EqA ρ ρ' ∧ st = st') ∧ ∀ i ∈ Region.ready .any ops listed, ∃ o p st1, L[i]? = some o ∧ StepM P m A B i o ρ st p st1 ∧ anyM P m A B ops L ρ' st' fuel (listed.setIfInBounds i true) (Env.put ρ o.dst p) st1
section
variable {P : Program} {m : Nat} {A B : St} {ops : Array Oper} {L : List POp} {ρ' : Env} {st' : St}
theorem anyM_eqv : ∀ (fuel : Nat) (listed : Array Bool) (ρ ρ1 : Env) (st : St), EqA ρ ρ1 → anyM P m A B ops L ρ' st' fuel listed ρ st → anyM P m A B ops L ρ' st' fuel listed ρ1 st
  | 0, listed, ρ, ρ1, st, he, h => ⟨h.1, fun t => (he t).symm.trans (h.2.1 t), h.2.2⟩
  | fuel + 1, listed, ρ, ρ1, st, he, h => ⟨fun hr => ⟨fun t => (he t).symm.trans ((h.1 hr).1 t), (h.1 hr).2⟩, fun i hi => by
      obtain ⟨o, p, st1, h1, h2, h3⟩ := h.2 i hi
      exact ⟨o, p, st1, h1, stepM_congr (fun t _ => he t) h2, anyM_eqv fuel _ _ _ _ (he.put _ _) h3⟩⟩
theorem anyM_first (hok : tmpsOk ops ops.toList L = true) {i : Nat} {oi : POp} {Oi : Oper} {v : PV} (hi : L[i]? = some oi) (hiO : ops[i]? = some Oi) :
    ∀ (fuel : Nat) (listed : Array Bool) (ρ : Env) (st st1 : St),
      (∀ j Oj, ops[j]? = some Oj → j ≠ i → listed.getD j true = false → (∀ e ∈ Oj.after, Region.binds .any e = true → e.on ≠ i) → Oi.apart ops Oj = true) →
      i ∈ Region.ready .any ops listed → StepM P m A B i oi ρ st v st1 → anyM P m A B ops L ρ' st' fuel (listed.setIfInBounds i true) (Env.put ρ oi.dst v) st1 → anyM P m A B ops L ρ' st' (fuel + 1) listed ρ st := by
  intro fuel
  induction fuel with
  | zero =>
    intro listed ρ st st1 _ hr hy H
    refine ⟨fun h => (by rw [h] at hr; cases hr), fun j hj => ?_⟩
    by_cases hji : j = i
    · subst hji; exact ⟨oi, v, st1, hi, hy, H⟩
    · have := ready_mono hj hji
      rw [H.1] at this
      cases this
  | succ fuel ih =>
    intro listed ρ st st1 hfree hr hy H
    refine ⟨fun h => (by rw [h] at hr; cases hr), fun j hj => ?_⟩
    by_cases hji : j = i
    · subst hji; exact ⟨oi, v, st1, hi, hy, H⟩
    · obtain ⟨oj, u, st2, hLj, hyj, hrest⟩ := H.2 j (ready_mono hj hji)
      obtain ⟨hjun, Oj, hOj, hall⟩ := mem_ready.1 hj
      have hnot : ∀ e ∈ Oj.after, Region.binds .any e = true → e.on ≠ i := fun e he hb heq => by
        have h1 := hall e he hb
        have h0 := (mem_ready.1 hr).1
        rw [heq] at h1
        rcases Nat.lt_or_ge i listed.size with h' | h'
        · simp [h'] at h0 h1; rw [h0] at h1; cases h1
        · simp [Array.getElem?_eq_none h'] at h1
      have hap := hfree j Oj hOj hji hjun hnot
      obtain ⟨a1, a2, a3⟩ := Oper.apart_spec hap
      obtain ⟨_, hk⟩ := tmpsOk_spec hok
      obtain ⟨ti, di⟩ := hk i Oi oi (by simpa using hiO) hi
      obtain ⟨tj, dj⟩ := hk j Oj oj (by simpa using hOj) hLj
      obtain ⟨stj, hyj0, hyi0⟩ := stepM_swap (Ne.symm hji) hy hyj
      have hyj' : StepM P m A B j oj ρ st u stj := stepM_congr (fun t ht => put_other (fun e => a1 t (by rw [← di]; exact e) (tj t ht))) hyj0
      have hyi' : StepM P m A B i oi (Env.put ρ oj.dst u) stj v st2 := stepM_congr (fun t ht => (put_other (fun e => a3 t (by rw [← dj]; exact e) (ti t ht))).symm) hyi0
      refine ⟨oj, u, stj, hLj, hyj', ih (listed.setIfInBounds j true) (Env.put ρ oj.dst u) stj st2 (fun k Ok hk hki hun hno => ?_) (ready_mono hr (Ne.symm hji)) hyi' ?_⟩
      · refine hfree k Ok hk hki ?_ hno
        by_cases hjk : j = k
        · subst hjk; exact hjun
        · rw [getD_set_ne true hjk] at hun; exact hun
      · rw [Array.setIfInBounds_comm _ _ hji]
        refine anyM_eqv fuel _ _ _ _ (put_comm (fun x hx => ?_) v u) hrest
        rw [dj]
        exact a2 x (by rw [← di]; exact hx)
theorem anyM_lex (hok : tmpsOk ops ops.toList L = true) : ∀ (l : List Oper) (pl : List POp) (k : Nat) (listed : Array Bool) (ρ : Env) (st : St), l.length = pl.length → (∀ j, l[j]? = ops[k + j]?) → (∀ j, pl[j]? = L[k + j]?) →
    Region.lexFrom .any ops l.length k listed = true → LexM P m A B k pl ρ st ρ' st' → anyM P m A B ops L ρ' st' l.length listed ρ st
  | [], [], _, _, _, _, _, _, _, hB, h => ⟨by simpa [Region.lexFrom] using hB, fun t => by rw [show ρ' = _ from h.1], h.2.symm⟩
  | [], _ :: _, _, _, _, _, hl, _, _, _, _ => by cases hl
  | _ :: _, [], _, _, _, _, hl, _, _, _, _ => by cases hl
  | O :: l, o :: pl, k, listed, ρ, st, hlen, hl, hp, hB, h => by
    have h0 : ops[k]? = some O := by simpa using (hl 0).symm
    have h1 : L[k]? = some o := by simpa using (hp 0).symm
    simp only [List.length_cons, Region.lexFrom, Bool.and_eq_true] at hB
    obtain ⟨⟨hr, hf⟩, hB'⟩ := hB
    obtain ⟨p, st1, hy, hrest⟩ := h
    exact anyM_first hok h1 h0 l.length listed ρ st st1 (Region.free_spec h0 hf) (by simpa using hr) hy
      (anyM_lex hok l pl (k + 1) _ _ _ (by simpa using hlen) (fun j => by have := hl (j + 1); simpa [Nat.add_assoc, Nat.add_comm 1 j] using this) (fun j => by have := hp (j + 1); simpa [Nat.add_assoc, Nat.add_comm 1 j] using this) hB' hrest)
end
section
variable {P : Program} {X : Cx} {n : Nat}
theorem wpOp_stepM {m : Nat} {A B : St} {st st1 : St} {G : Gh} {ops : Array Oper} {w : World} {ρ : Env} {a : Act} (hI : Inv X st G w) (hE : EnvRep G (OwnF X st G) w n ρ a) {i : Nat} {O : Oper} {o : POp} (hO : ops[i]? = some O) (hc : cPOp P ops n O = some o) {p : PV} (hy : StepM P m A B i o ρ st p st1) {K : Act → World → Prop} {Q : Exit → Act → World → Prop}
    (hK : After X n st1 (Env.put ρ o.dst p) K) : wpOp P ops Q i K a w := by
  rcases hy with ⟨_, rfl, hab, hy, hz⟩ | ⟨_, rfl, rfl, hg, hh⟩
  · exact wpOp_ysem hI hE hO hc (by rcases hab with rfl | rfl; exact hy; exact hz) fun w' a' h1 h2 => hK G w' a' h1 h2
  · obtain ⟨h1, h2, h3, h4⟩ := cPOp_spec hc
    unfold wpOp
    simp only [hO]
    rw [gd_wanted hE h1 hg]
    simp only [if_true]
    refine .inl ?_
    rcases hh with hq | ⟨f, xs, g, caps, q, τ, st2, e1, e2, e3, e4, e5, rfl⟩
    · exact wp_lok hE h3.symm (by rw [h3]; exact h4) ((step_sound hI hE h2).2 p st1 hq) hK
    · rw [e1] at h2
      exact wp_raw hI hE h3.symm (by rw [h3]; exact h4) h2 e2 e3 e4 e5 hK
theorem wpAny_of_anyM {m : Nat} {A B : St} {ops : Array Oper} {L : List POp} {ρ' : Env} {st' : St} (hc : cOps P ops n ops.toList = some L) {Q : Exit → Act → World → Prop} (hQ : ∀ G a w ρ, Inv X st' G w → EnvRep G (OwnF X st' G) w n ρ a → EqA ρ ρ' → Q .normal a w) :
    ∀ (fuel : Nat) (listed : Array Bool) (ρ : Env) (st : St) (G : Gh) (a : Act) (w : World), Inv X st G w → EnvRep G (OwnF X st G) w n ρ a → anyM P m A B ops L ρ' st' fuel listed ρ st → wpAny P .any ops Q fuel listed a w
  | 0, _, ρ, st, G, a, w, hI, hE, h => by
    obtain ⟨h1, h2, rfl⟩ := h
    exact ⟨h1, hQ G a w ρ hI hE h2⟩
  | fuel + 1, listed, ρ, st, G, a, w, hI, hE, h => ⟨fun h0 => by
      obtain ⟨h2, rfl⟩ := h.1 h0
      exact hQ G a w ρ hI hE h2, fun i hi => by
      obtain ⟨o, p, st1, h1, h2, h3⟩ := h.2 i hi
      obtain ⟨_, O, hO, _⟩ := mem_ready.1 hi
      exact wpOp_stepM hI hE hO ((cOps_get hc).2 i O o (by simpa using hO) h1) h2 (fun G' w' a' hI' hE' => wpAny_of_anyM hc hQ fuel _ _ _ G' a' w' hI' hE' h3)⟩
theorem wp_drawnL {m : Nat} {A B : St} {st st' : St} {G : Gh} {id : Nat} {ops : Array Oper} {L : List POp} {w : World} {ρ ρ' : Env} {a : Act} {Q : Exit → Act → World → Prop} (hm : P.follows .mixedOrders = true) (hB : Region.lexB .any ops = true) (hok : tmpsOk ops ops.toList L = true) (hc : cOps P ops n ops.toList = some L)
    (hI : Inv X st G w) (hE : EnvRep G (OwnF X st G) w n ρ a) (hl : LexM P m A B 0 L ρ st ρ' st') (hQ : ∀ G a w, Inv X st' G w → EnvRep G (OwnF X st' G) w n ρ' a → Q .normal a w) : (Code.region id ops true).wp P Q a w := by
  simp only [Region.lexB, Bool.and_eq_true] at hB
  have hd : Below w.heap.size w { w with drawn := w.drawn + 1 } := ⟨rfl, rfl, rfl, Nat.le_refl _, fun _ _ => rfl⟩
  obtain ⟨m1, m2⟩ := inv_below hI hd
  refine wp_region_any hm ?_
  have := anyM_lex (P := P) (m := m) (A := A) (B := B) (ρ' := ρ') (st' := st') hok ops.toList L 0 (Array.replicate ops.size false) ρ st (by simpa using (tmpsOk_spec hok).1) (by simp) (by simp) (by simpa using hB.2) hl
  refine wpAny_of_anyM (m := m) (A := A) (B := B) hc (fun G a w ρ1 h1 h2 h3 => hQ G a w h1 (eqA_env h2 h3)) _ _ ρ st G a _ m1 (m2.env hE) ?_
  simpa using this
end
def StepM2 (P : Program) (m1 m2 d : Nat) (A B C : St) (k : Nat) (o : POp) (ρ : Env) (st : St) (p : PV) (st1 : St) : Prop :=
  (k ≠ m1 ∧ k ≠ m2 ∧ st1 = st ∧ (st = A ∨ st = B ∨ st = C) ∧ ∀ s, s = A ∨ s = B ∨ s = C → YSem P s o ρ p) ∨ (k = m1 ∧ st = A ∧ st1 = B ∧ o.dst = some d ∧ LSem P A o ρ p B) ∨ (k = m2 ∧ st = B ∧ st1 = C ∧ d ∈ o.tmps ∧ LSem P B o ρ p C)
def LexM2 (P : Program) (m1 m2 d : Nat) (A B C : St) : Nat → List POp → Env → St → Env → St → Prop
  | k, [], ρ, st, ρ', st' => ρ' = ρ ∧ st' = st
  | k, o :: l, ρ, st, ρ', st' => ∃ p st1, StepM2 P m1 m2 d A B C k o ρ st p st1 ∧ LexM2 P m1 m2 d A B C (k + 1) l (Env.put ρ o.dst p) st1 ρ' st'
theorem lsem_congr {P : Program} {A B : St} {ρ ρ' : Env} {o : POp} {p : PV} (h : ∀ t ∈ o.tmps, getA t ρ = getA t ρ') (hy : LSem P A o ρ p B) : LSem P A o ρ' p B := by
  have hg : gd (getA · ρ) o.guard = gd (getA · ρ') o.guard := gd_congr fun t w e => h t (by simp [POp.tmps, e])
  have ho : ∀ t ∈ o.op.tmps, getA t ρ = getA t ρ' := fun t ht => h t (by simp [POp.tmps, ht])
  obtain ⟨h1, h2⟩ := hy
  refine ⟨by rw [← hg]; exact h1, ?_⟩
  rcases h2 with h2 | ⟨f, xs, g, caps, q, τ, st2, e1, e2, e3, e4, e5, e6⟩
  · exact .inl (by rw [← loud_congr ho]; exact h2)
  · rw [e1] at ho
    simp only [PI.tmps, List.mem_append] at ho
    have h3 : xs.map (Opd.ev ρ') = xs.map (Opd.ev ρ) := (evs_congr fun t ht => (ho t (.inr ht))).symm
    exact .inr ⟨f, xs, g, caps, q, τ, st2, e1, by rw [← ev_congr (fun t ht => ho t (.inl ht))]; exact e2, e3, e4, by rw [h3]; exact e5, e6⟩
theorem stepM2_congr {P : Program} {m1 m2 d k : Nat} {A B C : St} {ρ ρ' : Env} {st : St} {o : POp} {p : PV} {st1 : St} (h : ∀ t ∈ o.tmps, getA t ρ = getA t ρ') (hy : StepM2 P m1 m2 d A B C k o ρ st p st1) : StepM2 P m1 m2 d A B C k o ρ' st p st1 := by
  rcases hy with ⟨h1, h2, h3, h4, h5⟩ | ⟨h1, h2, h3, h4, h5⟩ | ⟨h1, h2, h3, h4, h5⟩
  · exact .inl ⟨h1, h2, h3, h4, fun s hs => ysem_congr h (h5 s hs)⟩
  · exact .inr (.inl ⟨h1, h2, h3, h4, lsem_congr h h5⟩)
  · exact .inr (.inr ⟨h1, h2, h3, h4, lsem_congr h h5⟩)
theorem stepM2_swap {P : Program} {m1 m2 d i j : Nat} {A B C : St} (hij : i ≠ j) (n1 : ¬ (i = m1 ∧ j = m2)) (n2 : ¬ (i = m2 ∧ j = m1)) {oi oj : POp} {ρ ρ1 : Env} {st sti stij : St} {v u : PV} (hi : StepM2 P m1 m2 d A B C i oi ρ st v sti) (hj : StepM2 P m1 m2 d A B C j oj ρ1 sti u stij) :
    ∃ stj, StepM2 P m1 m2 d A B C j oj ρ1 st u stj ∧ StepM2 P m1 m2 d A B C i oi ρ stj v stij := by
  rcases hi with ⟨a1, a2, rfl, a3, a4⟩ | ⟨a1, rfl, rfl, a2, a3⟩ | ⟨a1, rfl, rfl, a2, a3⟩
  · rcases hj with ⟨b1, b2, rfl, b3, b4⟩ | ⟨b1, rfl, rfl, b2, b3⟩ | ⟨b1, rfl, rfl, b2, b3⟩
    · exact ⟨_, .inl ⟨b1, b2, rfl, b3, b4⟩, .inl ⟨a1, a2, rfl, a3, a4⟩⟩
    · exact ⟨_, .inr (.inl ⟨b1, rfl, rfl, b2, b3⟩), .inl ⟨a1, a2, rfl, .inr (.inl rfl), a4⟩⟩
    · exact ⟨_, .inr (.inr ⟨b1, rfl, rfl, b2, b3⟩), .inl ⟨a1, a2, rfl, .inr (.inr rfl), a4⟩⟩
  · rcases hj with ⟨b1, b2, rfl, b3, b4⟩ | ⟨b1, _, _, b2, b3⟩ | ⟨b1, _, _, b2, b3⟩
    · exact ⟨_, .inl ⟨b1, b2, rfl, .inl rfl, b4⟩, .inr (.inl ⟨a1, rfl, rfl, a2, a3⟩)⟩
    · exact absurd (a1.trans b1.symm) hij
    · exact absurd ⟨a1, b1⟩ n1
  · rcases hj with ⟨b1, b2, rfl, b3, b4⟩ | ⟨b1, _, _, b2, b3⟩ | ⟨b1, _, _, b2, b3⟩
    · exact ⟨_, .inl ⟨b1, b2, rfl, .inr (.inl rfl), b4⟩, .inr (.inr ⟨a1, rfl, rfl, a2, a3⟩)⟩
    · exact absurd ⟨a1, b1⟩ n2
    · exact absurd (a1.trans b1.symm) hij
def anyM2 (P : Program) (m1 m2 d : Nat) (A B C : St) (ops : Array Oper) (L : List POp) (ρ' : Env) (st' : St) : Nat → Array Bool → Env → St → Prop
  | 0, listed, ρ, st => Region.ready .any ops listed = [] ∧ EqA ρ ρ' ∧ st = st'
  | fuel + 1, listed, ρ, st => (Region.ready .any ops listed = [] → EqA ρ ρ' ∧ st = st') ∧ ∀ i ∈ Region.ready .any ops listed, ∃ o p st1, L[i]? = some o ∧ StepM2 P m1 m2 d A B C i o ρ st p st1 ∧ anyM2 P m1 m2 d A B C ops L ρ' st' fuel (listed.setIfInBounds i true) (Env.put ρ o.dst p) st1
section
variable {P : Program} {m1 m2 d : Nat} {A B C : St} {ops : Array Oper} {L : List POp} {ρ' : Env} {st' : St}
theorem anyM2_eqv : ∀ (fuel : Nat) (listed : Array Bool) (ρ ρ1 : Env) (st : St), EqA ρ ρ1 → anyM2 P m1 m2 d A B C ops L ρ' st' fuel listed ρ st → anyM2 P m1 m2 d A B C ops L ρ' st' fuel listed ρ1 st
  | 0, listed, ρ, ρ1, st, he, h => ⟨h.1, fun t => (he t).symm.trans (h.2.1 t), h.2.2⟩
  | fuel + 1, listed, ρ, ρ1, st, he, h => ⟨fun hr => ⟨fun t => (he t).symm.trans ((h.1 hr).1 t), (h.1 hr).2⟩, fun i hi => by
      obtain ⟨o, p, st1, h1, h2, h3⟩ := h.2 i hi
      exact ⟨o, p, st1, h1, stepM2_congr (fun t _ => he t) h2, anyM2_eqv fuel _ _ _ _ (he.put _ _) h3⟩⟩
theorem anyM2_first (hok : tmpsOk ops ops.toList L = true) {i : Nat} {oi : POp} {Oi : Oper} {v : PV} (hi : L[i]? = some oi) (hiO : ops[i]? = some Oi) :
    ∀ (fuel : Nat) (listed : Array Bool) (ρ : Env) (st st1 : St),
      (∀ j Oj, ops[j]? = some Oj → j ≠ i → listed.getD j true = false → (∀ e ∈ Oj.after, Region.binds .any e = true → e.on ≠ i) → Oi.apart ops Oj = true) → (i = m2 → listed.getD m1 true = true) →
      i ∈ Region.ready .any ops listed → StepM2 P m1 m2 d A B C i oi ρ st v st1 → anyM2 P m1 m2 d A B C ops L ρ' st' fuel (listed.setIfInBounds i true) (Env.put ρ oi.dst v) st1 → anyM2 P m1 m2 d A B C ops L ρ' st' (fuel + 1) listed ρ st := by
  intro fuel
  induction fuel with
  | zero =>
    intro listed ρ st st1 _ _ hr hy H
    refine ⟨fun h => (by rw [h] at hr; cases hr), fun j hj => ?_⟩
    by_cases hji : j = i
    · subst hji; exact ⟨oi, v, st1, hi, hy, H⟩
    · have := ready_mono hj hji
      rw [H.1] at this
      cases this
  | succ fuel ih =>
    intro listed ρ st st1 hfree hlm hr hy H
    refine ⟨fun h => (by rw [h] at hr; cases hr), fun j hj => ?_⟩
    by_cases hji : j = i
    · subst hji; exact ⟨oi, v, st1, hi, hy, H⟩
    · obtain ⟨oj, u, st2, hLj, hyj, hrest⟩ := H.2 j (ready_mono hj hji)
      obtain ⟨hjun, Oj, hOj, hall⟩ := mem_ready.1 hj
      have hnot : ∀ e ∈ Oj.after, Region.binds .any e = true → e.on ≠ i := fun e he hb heq => by
        have h1 := hall e he hb
        have h0 := (mem_ready.1 hr).1
        rw [heq] at h1
        rcases Nat.lt_or_ge i listed.size with h' | h'
        · simp [h'] at h0 h1; rw [h0] at h1; cases h1
        · simp [Array.getElem?_eq_none h'] at h1
      have hap := hfree j Oj hOj hji hjun hnot
      obtain ⟨a1, a2, a3⟩ := Oper.apart_spec hap
      obtain ⟨_, hk⟩ := tmpsOk_spec hok
      obtain ⟨ti, di⟩ := hk i Oi oi (by simpa using hiO) hi
      obtain ⟨tj, dj⟩ := hk j Oj oj (by simpa using hOj) hLj
      have n2 : ¬ (i = m2 ∧ j = m1) := fun ⟨e1, e2⟩ => by
        have := hlm e1
        rw [← e2, hjun] at this
        cases this
      have n1 : ¬ (i = m1 ∧ j = m2) := fun ⟨e1, e2⟩ => by
        have hdi : oi.dst = some d := by
          rcases hy with ⟨h, _⟩ | ⟨_, _, _, h, _⟩ | ⟨h, _⟩
          · exact absurd e1 h
          · exact h
          · exact absurd (e2.trans h.symm) hji
        have hdj : d ∈ oj.tmps := by
          rcases hyj with ⟨_, h, _⟩ | ⟨h, _⟩ | ⟨_, _, _, h, _⟩
          · exact absurd e2 h
          · exact absurd (h.trans e1.symm) hji
          · exact h
        exact a1 d (by rw [← di]; exact hdi) (tj d hdj)
      obtain ⟨stj, hyj0, hyi0⟩ := stepM2_swap (Ne.symm hji) n1 n2 hy hyj
      have hyj' : StepM2 P m1 m2 d A B C j oj ρ st u stj := stepM2_congr (fun t ht => put_other (fun e => a1 t (by rw [← di]; exact e) (tj t ht))) hyj0
      have hyi' : StepM2 P m1 m2 d A B C i oi (Env.put ρ oj.dst u) stj v st2 := stepM2_congr (fun t ht => (put_other (fun e => a3 t (by rw [← dj]; exact e) (ti t ht))).symm) hyi0
      refine ⟨oj, u, stj, hLj, hyj', ih (listed.setIfInBounds j true) (Env.put ρ oj.dst u) stj st2 (fun k Ok hk hki hun hno => ?_) (fun e => ?_) (ready_mono hr (Ne.symm hji)) hyi' ?_⟩
      · refine hfree k Ok hk hki ?_ hno
        by_cases hjk : j = k
        · subst hjk; exact hjun
        · rw [getD_set_ne true hjk] at hun; exact hun
      · rw [getD_set_ne true (fun e2 => n2 ⟨e, e2⟩)]; exact hlm e
      · rw [Array.setIfInBounds_comm _ _ hji]
        refine anyM2_eqv fuel _ _ _ _ (put_comm (fun x hx => ?_) v u) hrest
        rw [dj]
        exact a2 x (by rw [← di]; exact hx)
theorem anyM2_lex (hm : m1 < m2) (hok : tmpsOk ops ops.toList L = true) : ∀ (l : List Oper) (pl : List POp) (k : Nat) (listed : Array Bool) (ρ : Env) (st : St), l.length = pl.length → (∀ j, l[j]? = ops[k + j]?) → (∀ j, pl[j]? = L[k + j]?) → (∀ t, t < k → listed.getD t true = true) →
    Region.lexFrom .any ops l.length k listed = true → LexM2 P m1 m2 d A B C k pl ρ st ρ' st' → anyM2 P m1 m2 d A B C ops L ρ' st' l.length listed ρ st
  | [], [], _, _, _, _, _, _, _, _, hB, h => ⟨by simpa [Region.lexFrom] using hB, fun t => by rw [show ρ' = _ from h.1], h.2.symm⟩
  | [], _ :: _, _, _, _, _, hl, _, _, _, _, _ => by cases hl
  | _ :: _, [], _, _, _, _, hl, _, _, _, _, _ => by cases hl
  | O :: l, o :: pl, k, listed, ρ, st, hlen, hl, hp, hls, hB, h => by
    have h0 : ops[k]? = some O := by simpa using (hl 0).symm
    have h1 : L[k]? = some o := by simpa using (hp 0).symm
    simp only [List.length_cons, Region.lexFrom, Bool.and_eq_true] at hB
    obtain ⟨⟨hr, hf⟩, hB'⟩ := hB
    obtain ⟨p, st1, hy, hrest⟩ := h
    exact anyM2_first hok h1 h0 l.length listed ρ st st1 (Region.free_spec h0 hf) (fun e => hls m1 (by omega)) (by simpa using hr) hy
      (anyM2_lex hm hok l pl (k + 1) _ _ _ (by simpa using hlen) (fun j => by have := hl (j + 1); simpa [Nat.add_assoc, Nat.add_comm 1 j] using this) (fun j => by have := hp (j + 1); simpa [Nat.add_assoc, Nat.add_comm 1 j] using this) (fun t ht => by
        by_cases htk : k = t
        · subst htk
          simp only [Array.getD_eq_getD_getElem?, Array.getElem?_setIfInBounds]
          by_cases hs : k < listed.size
          · simp [hs]
          · simp [hs]
        · rw [getD_set_ne true htk]; exact hls t (by omega)) hB' hrest)
end
section
variable {P : Program} {X : Cx} {n : Nat}
theorem wpOp_lsem {st st1 : St} {G : Gh} {ops : Array Oper} {w : World} {ρ : Env} {a : Act} (hI : Inv X st G w) (hE : EnvRep G (OwnF X st G) w n ρ a) {i : Nat} {O : Oper} {o : POp} (hO : ops[i]? = some O) (hc : cPOp P ops n O = some o) {p : PV} (hy : LSem P st o ρ p st1) {K : Act → World → Prop} {Q : Exit → Act → World → Prop}
    (hK : After X n st1 (Env.put ρ o.dst p) K) : wpOp P ops Q i K a w := by
  obtain ⟨hg, hh⟩ := hy
  obtain ⟨h1, h2, h3, h4⟩ := cPOp_spec hc
  unfold wpOp
  simp only [hO]
  rw [gd_wanted hE h1 hg]
  simp only [if_true]
  refine .inl ?_
  rcases hh with hq | ⟨f, xs, g, caps, q, τ, st2, e1, e2, e3, e4, e5, rfl⟩
  · exact wp_lok hE h3.symm (by rw [h3]; exact h4) ((step_sound hI hE h2).2 p st1 hq) hK
  · rw [e1] at h2
    exact wp_raw hI hE h3.symm (by rw [h3]; exact h4) h2 e2 e3 e4 e5 hK
theorem wpOp_stepM2 {m1 m2 d : Nat} {A B C : St} {st st1 : St} {G : Gh} {ops : Array Oper} {w : World} {ρ : Env} {a : Act} (hI : Inv X st G w) (hE : EnvRep G (OwnF X st G) w n ρ a) {i : Nat} {O : Oper} {o : POp} (hO : ops[i]? = some O) (hc : cPOp P ops n O = some o) {p : PV} (hy : StepM2 P m1 m2 d A B C i o ρ st p st1) {K : Act → World → Prop} {Q : Exit → Act → World → Prop}
    (hK : After X n st1 (Env.put ρ o.dst p) K) : wpOp P ops Q i K a w := by
  rcases hy with ⟨_, _, rfl, hab, hy⟩ | ⟨_, rfl, rfl, _, hy⟩ | ⟨_, rfl, rfl, _, hy⟩
  · exact wpOp_ysem hI hE hO hc (hy _ hab) fun w' a' h1 h2 => hK G w' a' h1 h2
  · exact wpOp_lsem hI hE hO hc hy hK
  · exact wpOp_lsem hI hE hO hc hy hK
theorem wpAny_of_anyM2 {m1 m2 d : Nat} {A B C : St} {ops : Array Oper} {L : List POp} {ρ' : Env} {st' : St} (hc : cOps P ops n ops.toList = some L) {Q : Exit → Act → World → Prop} (hQ : ∀ G a w ρ, Inv X st' G w → EnvRep G (OwnF X st' G) w n ρ a → EqA ρ ρ' → Q .normal a w) :
    ∀ (fuel : Nat) (listed : Array Bool) (ρ : Env) (st : St) (G : Gh) (a : Act) (w : World), Inv X st G w → EnvRep G (OwnF X st G) w n ρ a → anyM2 P m1 m2 d A B C ops L ρ' st' fuel listed ρ st → wpAny P .any ops Q fuel listed a w
  | 0, _, ρ, st, G, a, w, hI, hE, h => by
    obtain ⟨h1, h2, rfl⟩ := h
    exact ⟨h1, hQ G a w ρ hI hE h2⟩
  | fuel + 1, listed, ρ, st, G, a, w, hI, hE, h => ⟨fun h0 => by
      obtain ⟨h2, rfl⟩ := h.1 h0
      exact hQ G a w ρ hI hE h2, fun i hi => by
      obtain ⟨o, p, st1, h1, h2, h3⟩ := h.2 i hi
      obtain ⟨_, O, hO, _⟩ := mem_ready.1 hi
      exact wpOp_stepM2 hI hE hO ((cOps_get hc).2 i O o (by simpa using hO) h1) h2 (fun G' w' a' hI' hE' => wpAny_of_anyM2 hc hQ fuel _ _ _ G' a' w' hI' hE' h3)⟩
theorem wp_drawnL2 {m1 m2 d : Nat} (hm12 : m1 < m2) {A B C : St} {st st' : St} {G : Gh} {id : Nat} {ops : Array Oper} {L : List POp} {w : World} {ρ ρ' : Env} {a : Act} {Q : Exit → Act → World → Prop} (hm : P.follows .mixedOrders = true) (hB : Region.lexB .any ops = true) (hok : tmpsOk ops ops.toList L = true) (hc : cOps P ops n ops.toList = some L)
    (hI : Inv X st G w) (hE : EnvRep G (OwnF X st G) w n ρ a) (hl : LexM2 P m1 m2 d A B C 0 L ρ st ρ' st') (hQ : ∀ G a w, Inv X st' G w → EnvRep G (OwnF X st' G) w n ρ' a → Q .normal a w) : (Code.region id ops true).wp P Q a w := by
  simp only [Region.lexB, Bool.and_eq_true] at hB
  have hd : Below w.heap.size w { w with drawn := w.drawn + 1 } := ⟨rfl, rfl, rfl, Nat.le_refl _, fun _ _ => rfl⟩
  obtain ⟨i1, i2⟩ := inv_below hI hd
  refine wp_region_any hm ?_
  have := anyM2_lex (P := P) (m1 := m1) (m2 := m2) (d := d) (A := A) (B := B) (C := C) (ρ' := ρ') (st' := st') hm12 hok ops.toList L 0 (Array.replicate ops.size false) ρ st (by simpa using (tmpsOk_spec hok).1) (by simp) (by simp) (fun t ht => by omega) (by simpa using hB.2) hl
  refine wpAny_of_anyM2 (m1 := m1) (m2 := m2) (d := d) (A := A) (B := B) (C := C) hc (fun G a w ρ1 h1 h2 h3 => hQ G a w h1 (eqA_env h2 h3)) _ _ ρ st G a _ i1 (i2.env hE) ?_
  simpa using this
end
end Go.AM
set_option linter.unusedVariables false
set_option linter.unusedSimpArgs false
namespace Go.AM
open Go.RowKit
variable [Gl]
section
variable {P : Program} {X : Cx} {st : St} {G : Gh} {w : World} {n : Nat} {ρ : Env} {a : Act}
def ghBel (G : Gh) (m : Nat) : Gh := fun t g => if t < m then G t g else none
theorem rep_bel {own own' : Nat → Prop} {m : Nat} (ho : ∀ b, own' b → own b) {v : Value} {p : PV} (h : Rep G own w v p) : Bel m p → Rep (ghBel G m) own' w v p := by
  have g : ∀ {t g' : Nat} {L : Loc}, t < m → G t g' = some L → ghBel G m t g' = some L := fun h1 h2 => by simp [ghBel, h1, h2]
  have mem : ∀ {α : Type} {l : List α} {i : Nat} {x : α}, l[i]? = some x → x ∈ l := fun h => List.mem_of_getElem? h
  induction h with
  | junk v => intro _; exact .junk v
  | bool b => intro _; exact .bool b
  | int k n => intro _; exact .int k n
  | str s => intro _; exact .str s
  | nilPtr => intro _; exact .nilPtr
  | ptr t off L h => intro hb; cases hb with | ptr _ _ h' => exact .ptr t off L (g h' h)
  | rptr t g' i off L h => intro hb; cases hb with | rptr _ _ _ _ h' => exact .rptr t g' i off L (g h' h)
  | iptr cells off b o u hc hr ih => intro hb; cases hb with | iptr _ _ h' => exact .iptr cells off b o u (fun i c hi => ⟨(hc i c hi).1, fun x => (hc i c hi).2 (ho b x)⟩) (fun i c hi => ih i c hi (h' c (mem hi)))
  | nilSl => intro _; exact .nilSl
  | sl xs full b o cap sz adr u hcap hfull hadr hsz hc hr ih =>
    intro hb
    cases hb with
    | sl _ _ h' => exact .sl xs full b o cap sz adr u hcap hfull hadr hsz (fun j cs i c hj hi => ⟨(hc j cs i c hj hi).1, fun x => (hc j cs i c hj hi).2 (ho b x)⟩) (fun j cs i c hj hi => ih j cs i c hj hi (h' cs (mem hj) c (mem hi)))
  | osl t g' off len full L cap a h hcap hL hfull ha hs => intro hb; cases hb with | osl _ _ _ _ _ h' => exact .osl t g' off len full L cap a (g h' h) hcap hL hfull ha hs
  | vsl t off sz len L cap a h hcap ha hs => intro hb; cases hb with | vsl _ _ _ _ h' => exact .vsl t off sz len L cap a (g h' h) hcap ha hs
  | func f caps vs hs h ih => intro hb; cases hb with | func _ _ h' => exact .func f caps vs hs (fun i c hi => ih i c hi (h' c (mem hi)))
  | nilFunc => intro _; exact .nilFunc
  | iface ty v p h ih => intro hb; cases hb with | iface _ _ h' => exact .iface ty v p (ih h')
  | nilIface => intro _; exact .nilIface
  | agg cs vs hs h ih => intro hb; cases hb with | agg _ h' => exact .agg cs vs hs (fun i c hi => ih i c hi (h' c (mem hi)))
  | tuple cs vs hs h ih => intro hb; cases hb with | tuple _ h' => exact .tuple cs vs hs (fun i c hi => ih i c hi (h' c (mem hi)))
theorem weak_inv (hI : Inv X st G w) (hE : EnvRep G (OwnF X st G) w n ρ a) {ρ' : Env} {st' : St} (hw : Weak ρ st ρ' st') : ∃ G', Inv X st' G' w ∧ EnvRep G' (OwnF X st' G') w n ρ' a := by
  have gb : ∀ {t g : Nat} {L : Loc}, ghBel G st'.next t g = some L → t < st'.next ∧ G t g = some L := by
    intro t g L h
    unfold ghBel at h
    split at h
    · rename_i hlt; exact ⟨hlt, h⟩
    · cases h
  have bg : ∀ {t g : Nat} {L : Loc}, t < st'.next → G t g = some L → ghBel G st'.next t g = some L := fun h1 h2 => by simp [ghBel, h1, h2]
  have hlive : ∀ {t : Nat} {k : Tok}, st'.get t = some k → k.live = true → st.get t = some k := by
    intro t k h hl
    rcases (hw.toks t k h).2.2 with h1 | ⟨g, sz, es, rfl, _⟩
    · exact h1
    · cases hl
  have hown : ∀ b, Own st' (ghBel G st'.next) b → Own st G b := by
    rintro b ⟨t, k, L, h1, h2, h3, h4⟩
    exact ⟨t, k, L, hlive h1 h2, h2, (gb h3).2, h4⟩
  have hownF : ∀ b, OwnF X st' (ghBel G st'.next) b → OwnF X st G b := fun b h => h.imp id (hown b)
  have hbn := hw.next
  have hbb := hw.base
  refine ⟨ghBel G st'.next, ⟨fun t g L h => ⟨(gb h).1, (hI.low t g L (gb h).2).2⟩, hbn.1, fun t g L h => ?_, fun t k h => ?_, fun t k g L h hg => ?_, ?_, fun t g L h => ?_, fun t k h => ?_, hI.frame, fun b h => hI.ownb b (hown b h), hI.foreign, hI.glob⟩, hE.defers, hE.size, fun t p hp => ?_⟩
  · have := hI.old t g L h
    exact ⟨by omega, bg (by omega) this.2⟩
  · obtain ⟨hlt, hbel, hk⟩ := hw.toks t k h
    rcases hk with hk | ⟨g, sz, es, rfl, hk⟩
    · have htr := hI.toks t k hk
      cases k with
      | var cs =>
        obtain ⟨L, h1, h2, h3⟩ := htr
        exact ⟨L, bg hlt h1, h2, fun i p hi => by
          obtain ⟨v, e1, e2⟩ := h3 i p hi
          exact ⟨v, e1, rep_bel hownF e2 (hbel p (List.mem_of_getElem? hi))⟩⟩
      | row g sz es lv =>
        obtain ⟨L, h1, h2, h3, h4, h5, h6⟩ := htr
        exact ⟨L, bg hlt h1, h2, h3, h4, fun j cs hj => ⟨(h5 j cs hj).1, fun i p hi => by
          obtain ⟨v, e1, e2⟩ := (h5 j cs hj).2 i p hi
          exact ⟨v, e1, rep_bel hownF e2 (hbel cs (List.mem_of_getElem? hj) p (List.mem_of_getElem? hi))⟩⟩, fun hl ho => h6 hl (hownF _ ho)⟩
    · obtain ⟨L, h1, h2, h3, h4, h5, h6⟩ := hI.toks t _ hk
      refine ⟨L, bg hlt h1, h2, h3, h4, fun j cs hj => ⟨(h5 j cs hj).1, fun i p hi => by
          obtain ⟨v, e1, e2⟩ := (h5 j cs hj).2 i p hi
          exact ⟨v, e1, rep_bel hownF e2 (hbel cs (List.mem_of_getElem? hj) p (List.mem_of_getElem? hi))⟩⟩, fun _ ho => ?_⟩
      rcases ho with ho | ⟨t', k', L', e1, e2, e3, e4⟩
      · exact hI.f_own ho ⟨t, _, L, hk, rfl, h1, rfl⟩
      · have := hI.inj t' t k' _ L' L (hlive e1 e2) hk e2 rfl (gb e3).2 h1 e4
        subst this
        rw [h] at e1
        injection e1 with e1
        subst e1
        cases e2
  · obtain ⟨hlt, hbel, hk⟩ := hw.toks t k h
    rcases hk with hk | ⟨g', sz, es, rfl, hk⟩
    · exact hI.gens t k g L hk (gb hg).2
    · exact (hI.gens t _ g L hk (gb hg).2 : g ≤ g')
  · intro t t' k k' L L' h1 h2 l1 l2 g1 g2 he
    exact hI.inj t t' k k' L L' (hlive h1 l1) (hlive h2 l2) l1 l2 (gb g1).2 (gb g2).2 he
  · rw [hbb]
    exact hI.newg t g L (gb h).2
  · rw [hbb]
    rcases (hw.toks t k h).2.2 with h1 | ⟨g, sz, es, _, h1⟩
    · exact hI.dom t k h1
    · exact hI.dom t _ h1
  · rcases hw.env t p hp with rfl | ⟨h1, h2⟩
    · exact .junk _
    · exact rep_bel hownF (hE.reps t p h1) h2
def resV (tmps : Array Value) : ResultVar → Sem Value
  | .tmp t => pure (tmps.getD t undef)
  | .cell x t => do loadVar t (← asAddr (tmps.getD x undef))
theorem results_eq (fn : Func) (tmps : Array Value) : results fn tmps = (do
    let vs ← fn.results.mapM (resV tmps)
    pure (if h : vs.size = 1 then vs[0] else .tuple vs)) := by
  unfold results
  congr
theorem res_run (hI : Inv X st G w) (hE : EnvRep G (OwnF X st G) w n ρ a) : ∀ {rs : List ResultVar} {ps : List PRes} {vs : List PV}, cRess P rs = some ps → mapO (res1 ρ st.get) ps = some vs →
    ∃ us : List Value, (rs.mapM (resV a.tmps)).run P w = .ok us w ∧ us.length = vs.length ∧ ∀ (i : Nat) (u : Value) (c : PV), us[i]? = some u → vs[i]? = some c → Rep G (OwnF X st G) w u c
  | [], ps, vs, h, hm => by
    injection h with h
    subst h
    injection hm with hm
    subst hm
    exact ⟨[], rfl, rfl, fun i u c h => by simp at h⟩
  | r :: rs, ps, vs, h, hm => by
    simp only [cRess] at h
    split at h
    · rename_i p ps' h1 h2
      injection h with h
      subst h
      simp only [mapO] at hm
      split at hm
      · rename_i y ys hy hys
        injection hm with hm
        subst hm
        obtain ⟨us, k1, k2, k3⟩ := res_run hI hE h2 hys
        have one : ∃ u, (resV a.tmps r).run P w = .ok u w ∧ Rep G (OwnF X st G) w u y := by
          cases r with
          | tmp t =>
            injection h1 with h1
            subst h1
            injection hy with hy
            subst hy
            exact ⟨_, rfl, hE.at t⟩
          | cell x t =>
            simp only [cRes] at h1
            split at h1
            · rename_i d i hT
              split at h1
              · rename_i hag
                injection h1 with h1
                subst h1
                simp only [res1, loadAt] at hy
                obtain ⟨⟨cs, off⟩, hb, hs⟩ := Option.bind_eq_some_iff.1 hy
                obtain ⟨b, ob, hv, hcells⟩ := behind_rep hI (hE.at x) hb
                obtain ⟨u, hu, hru⟩ := run_loadVar_cells (P := P) hT hag hcells hs
                refine ⟨u, ?_, hru⟩
                simp only [resV, hv, asAddr, Sem.run_bind, Sem.run_pure, Result.andThen_ok, hu]
              · cases h1
            · cases h1
        obtain ⟨u, e1, e2⟩ := one
        refine ⟨u :: us, ?_, by simp [k2], fun i v c hv hc => ?_⟩
        · rw [List.mapM_cons, Sem.run_bind, e1, Result.andThen_ok, Sem.run_bind, k1]
          rfl
        · cases i with
          | zero => simp at hv hc; subst hv hc; exact e2
          | succ i => exact k3 i v c (by simpa using hv) (by simpa using hc)
      · cases hm
    · cases h
theorem results_run (hI : Inv X st G w) (hE : EnvRep G (OwnF X st G) w n ρ a) {fn : Func} {ps : List PRes} (hc : cRess P fn.results.toList = some ps) {r : PV} (hr : resOf ρ st.get ps = some r) : ∃ u, (results fn a.tmps).run P w = .ok u w ∧ Rep G (OwnF X st G) w u r := by
  unfold resOf at hr
  have main : ∀ vs, mapO (res1 ρ st.get) ps = some vs → ∃ us : Array Value, (results fn a.tmps).run P w = .ok (if h : us.size = 1 then us[0] else .tuple us) w ∧ us.size = vs.length ∧ ∀ (i : Nat) (u : Value) (c : PV), us[i]? = some u → vs[i]? = some c → Rep G (OwnF X st G) w u c := by
    intro vs hvs
    obtain ⟨us, k1, k2, k3⟩ := res_run (P := P) hI hE hc hvs
    refine ⟨us.toArray, ?_, by simpa using k2, fun i u c h h' => k3 i u c (by simpa using h) h'⟩
    rw [results_eq, Sem.run_bind, Array.mapM_eq_mapM_toList, Sem.run_map, k1]
    rfl
  split at hr
  · rename_i v hv
    injection hr with hr
    subst hr
    obtain ⟨us, k1, k2, k3⟩ := main _ hv
    have h1 : us.size = 1 := by simpa using k2
    rw [dif_pos h1] at k1
    exact ⟨_, k1, k3 0 _ v (by simp) rfl⟩
  · rename_i vs hne hv
    injection hr with hr
    subst hr
    obtain ⟨us, k1, k2, k3⟩ := main _ hv
    have h1 : us.size ≠ 1 := by
      intro h
      rw [k2] at h
      match vs, h with
      | [v], _ => exact hne v rfl
    rw [dif_neg h1] at k1
    refine ⟨_, k1, .tuple vs us k2 fun i c hi => ?_⟩
    have hlt : i < us.size := by rw [k2]; exact (List.getElem?_eq_some_iff.1 hi).1
    have := k3 i us[i] c (Array.getElem?_eq_getElem hlt) hi
    rw [Array.getD_eq_getD_getElem?, Array.getElem?_eq_getElem hlt]
    exact this
  · cases hr
theorem getA_envFrom (t : Nat) : ∀ (k : Nat) (args : List PV), getA t (envFrom k args) = if k ≤ t then args[t - k]? else none
  | k, [] => by simp [envFrom, getA]
  | k, p :: r => by
    simp only [envFrom, getA]
    by_cases h : k = t
    · subst h; simp
    · rw [if_neg h, getA_envFrom t (k + 1) r]
      by_cases h1 : k ≤ t
      · rw [if_pos h1, if_pos (by omega), show t - k = (t - (k + 1)) + 1 by omega]
        simp
      · rw [if_neg h1, if_neg (by omega)]
theorem env_begin {own : Nat → Prop} {vals : Array Value} {args : List PV} (hs : vals.size = args.length) (hr : ∀ (i : Nat) (c : PV), args[i]? = some c → Rep G own w (vals.getD i undef) c) {m : Nat} (hm : args.length ≤ m) :
    EnvRep G own w m (envFrom 0 args) { tmps := vals ++ Array.replicate (m - vals.size) undef, defers := [] } := by
  refine ⟨rfl, by simp; omega, fun t p hp => ?_⟩
  rw [getA_envFrom, if_pos (Nat.zero_le _), Nat.sub_zero] at hp
  have hlt : t < vals.size := by rw [hs]; exact (List.getElem?_eq_some_iff.1 hp).1
  have := hr t p hp
  rw [Array.getD_eq_getD_getElem?] at this ⊢
  rwa [Array.getElem?_append_left hlt]
end
def SemJ (P : Program) : J → Prop
  | .code c ρ st x ρ' st' => SemCode P c ρ st x ρ' st'
  | .ops l ρ st ρ' st' => SemOps P l ρ st ρ' st'
  | .drawn l ρ st ρ' => LexD P st l ρ ρ'
  | .call f args r => SemCall P f args r
  | .raw f args st r st' => SemRaw P f args st r st'
  | .dl m A B k l ρ st ρ' st' => LexM P m A B k l ρ st ρ' st'
  | .dl2 m1 m2 d A B C k l ρ st ρ' st' => LexM2 P m1 m2 d A B C k l ρ st ρ' st'
theorem dropA_env {G : Gh} {own : Nat → Prop} {w : World} {n : Nat} {ρ : Env} {a : Act} (kill : List Nat) (h : EnvRep G own w n ρ a) : EnvRep G own w n (dropA kill ρ) a :=
  ⟨h.defers, h.size, fun t p hp => h.reps t p (by rw [getA_dropA] at hp; split at hp; (· cases hp); exact hp)⟩
theorem cOps_cons {P : Program} {ops : Array Oper} {n : Nat} {lo : List Oper} {o : POp} {l : List POp} (h : cOps P ops n lo = some (o :: l)) : ∃ O lo', lo = O :: lo' ∧ cPOp P ops n O = some o ∧ cOps P ops n lo' = some l := by
  cases lo with
  | nil => injection h with h; cases h
  | cons O lo' =>
    simp only [cOps] at h
    split at h
    · rename_i p ps h1 h2
      injection h with h
      injection h with h3 h4
      subst h3 h4
      exact ⟨O, lo', rfl, h1, h2⟩
    · cases h
def CodeInv (P : Program) (n : Nat) (kill : Nat → List Nat) (gc : Code) : PC → Prop
  | .skip => gc = .skip
  | .ops l k => ∃ id ops, gc = .region id ops false ∧ cOps P ops n ops.toList = some l ∧ k = kill id
  | .drawn l k => ∃ id ops, gc = .region id ops true ∧ cOps P ops n ops.toList = some l ∧ k = kill id ∧ P.follows .mixedOrders = true ∧ Region.lexB .any ops = true ∧ tmpsOk ops ops.toList l = true
  | .seq x y => ∃ a b, gc = .seq a b ∧ cCode P n kill a = some x ∧ cCode P n kill b = some y
  | .cond z x y => z = .c .junk ∨ ∃ c a b, gc = .cond c a b ∧ cOpd c = some z ∧ cCode P n kill a = some x ∧ cCode P n kill b = some y
  | .block id x => ∃ c, gc = .block id c ∧ cCode P n kill c = some x
  | .loop x => ∃ c, gc = .loop c ∧ cCode P n kill c = some x
  | .exit id => gc = .exit id
  | .ret => gc = .ret
theorem cCode_inv {P : Program} {n : Nat} {kill : Nat → List Nat} {gc : Code} {pc : PC} (h : cCode P n kill gc = some pc) : CodeInv P n kill gc pc := by
  cases gc with
  | skip => injection h with h; subst h; rfl
  | region id ops draw =>
    simp only [cCode] at h
    split at h
    · rename_i l hl
      cases draw with
      | true =>
        simp only [if_true] at h
        split at h
        · rename_i hc
          injection h with h
          subst h
          exact ⟨id, ops, rfl, hl, rfl, hc.1, hc.2.1, hc.2.2⟩
        · injection h with h
          subst h
          exact .inl rfl
      | false =>
        simp only [Bool.false_eq_true, if_false] at h
        injection h with h
        subst h
        exact ⟨id, ops, rfl, hl, rfl⟩
    · injection h with h
      subst h
      exact .inl rfl
  | seq a b =>
    simp only [cCode] at h
    split at h
    · rename_i x y h1 h2
      injection h with h
      subst h
      exact ⟨a, b, rfl, h1, h2⟩
    · cases h
  | cond c a b =>
    simp only [cCode] at h
    split at h
    · rename_i z x y h1 h2 h3
      injection h with h
      subst h
      exact .inr ⟨c, a, b, rfl, h1, h2, h3⟩
    · injection h with h
      subst h
      exact .inl rfl
  | block id c =>
    obtain ⟨x, h1, rfl⟩ := Option.map_eq_some_iff.1 h
    exact ⟨c, rfl, h1⟩
  | loop c =>
    obtain ⟨x, h1, rfl⟩ := Option.map_eq_some_iff.1 h
    exact ⟨c, rfl, h1⟩
  | exit id => injection h with h; subst h; rfl
  | ret => injection h with h; subst h; rfl
  | _ => injection h with h; subst h; exact .inl rfl
theorem run_sound {P : Program} {tbl : Nat → Option PF} {prim ext : Nat → List PV → PV → Prop} (htbl : ∀ f pf, tbl f = some pf → FnOK P f pf) (hprim : ∀ f args r, prim f args r → SemCall P f args r) (hext : ∀ f args r, ext f args r → SemExt P f args r) {j : J} (h : Run tbl prim ext j) : SemJ P j := by
  induction h with
  | skip ρ st =>
    intro n kill gc hc X G w a hI hE
    obtain rfl : gc = .skip := cCode_inv hc
    exact ⟨wp_skip ⟨rfl, G, hI, hE⟩, fun c0 h => by cases h⟩
  | exit id ρ st =>
    intro n kill gc hc X G w a hI hE
    obtain rfl : gc = .exit id := cCode_inv hc
    exact ⟨wp_exit ⟨rfl, G, hI, hE⟩, fun c0 h => by cases h⟩
  | ret ρ st =>
    intro n kill gc hc X G w a hI hE
    obtain rfl : gc = .ret := cCode_inv hc
    exact ⟨wp_ret ⟨rfl, G, hI, hE⟩, fun c0 h => by cases h⟩
  | ops l kill ρ st ρ' st' h ih =>
    intro n kl gc hc X G w a hI hE
    obtain ⟨id, ops, rfl, h1, rfl⟩ := cCode_inv hc
    exact ⟨wp_region_list (ih n ops ops.toList h1 X G w a _ hI hE (fun G' w' a' k1 k2 => ⟨rfl, G', k1, dropA_env _ k2⟩)), fun c0 h => by cases h⟩
  | drawn l kill ρ st ρ' h ih =>
    intro n kl gc hc X G w a hI hE
    obtain ⟨id, ops, rfl, h1, rfl, h2, h3, h4⟩ := cCode_inv hc
    exact ⟨wp_drawn h2 h3 h4 h1 hI hE ih (fun a' w' k1 k2 => ⟨rfl, G, k1, dropA_env _ k2⟩), fun c0 h => by cases h⟩
  | seqN c d ρ st ρ1 st1 x ρ' st' h k ih1 ih2 =>
    intro n kl gc hc X G w a hI hE
    obtain ⟨c1, d1, rfl, h1, h2⟩ := cCode_inv hc
    refine ⟨wp_seq (wp_mono (ih1 n kl c1 h1 X G w a hI hE).1 fun e a1 w1 hp => ?_), fun c0 h => by cases h⟩
    obtain ⟨rfl, G1, k1, k2⟩ := hp
    exact (ih2 n kl d1 h2 X G1 w1 a1 k1 k2).1
  | seqX c d ρ st x ρ' st' hx h ih =>
    intro n kl gc hc X G w a hI hE
    obtain ⟨c1, d1, rfl, h1, h2⟩ := cCode_inv hc
    refine ⟨wp_seq (wp_mono (ih n kl c1 h1 X G w a hI hE).1 fun e a1 w1 hp => ?_), fun c0 h => by cases h⟩
    have he := hp.1
    cases x with
    | normal => exact absurd rfl hx
    | exit id => subst he; exact hp
    | ret => subst he; exact hp
  | cond c x y ρ st t ex ρ' st' hcv h ih =>
    intro n kl gc hc X G w a hI hE
    rcases cCode_inv hc with rfl | ⟨c1, a1, b1, rfl, h1, h2, h3⟩
    · cases hcv
    have hr := opd_rep hE h1
    rw [hcv] at hr
    refine ⟨wp_cond (rep_bool hr) ?_, fun c0 h => by cases h⟩
    cases t with
    | true => exact (ih n kl a1 h2 X G w a hI hE).1
    | false => exact (ih n kl b1 h3 X G w a hI hE).1
  | block id c ρ st x ρ' st' h ih =>
    intro n kl gc hc X G w a hI hE
    obtain ⟨c1, rfl, h1⟩ := cCode_inv hc
    refine ⟨wp_block (wp_mono (ih n kl c1 h1 X G w a hI hE).1 fun e a1 w1 hp => ?_), fun c0 h => by cases h⟩
    obtain ⟨rfl, G1, k1, k2⟩ := hp
    cases x with
    | normal => exact ⟨by simp [exC], G1, k1, k2⟩
    | ret => exact ⟨by simp [exC], G1, k1, k2⟩
    | exit id' =>
      simp only [exC, Exit.inBlock]
      by_cases hid : id' = id
      · subst hid
        rw [if_pos rfl]
        exact ⟨by simp [exC], G1, k1, k2⟩
      · rw [if_neg hid]
        exact ⟨by simp [hid, exC], G1, k1, k2⟩
  | loopN c ρ st ρ1 st1 x ρ' st' h k ih1 ih2 =>
    intro n kl gc hc X G w a hI hE
    have hc0 := hc
    obtain ⟨c1, rfl, h1⟩ := cCode_inv hc
    have key : wpIn P c1 (PostC X n x ρ' st') a w := wpIn_unroll (wp_mono (ih1 n kl c1 h1 X G w a hI hE).1 fun e a1 w1 hp => by
      obtain ⟨rfl, G1, k1, k2⟩ := hp
      exact (ih2 n kl (.loop c1) hc0 X G1 w1 a1 k1 k2).2 c1 rfl)
    exact ⟨wp_of_wpIn key, fun c0 h => by injection h with h; subst h; exact key⟩
  | loopX c ρ st x ρ' st' hx h ih =>
    intro n kl gc hc X G w a hI hE
    obtain ⟨c1, rfl, h1⟩ := cCode_inv hc
    have key : wpIn P c1 (PostC X n x ρ' st') a w := wpIn_unroll (wp_mono (ih n kl c1 h1 X G w a hI hE).1 fun e a1 w1 hp => by
      have he := hp.1
      cases x with
      | normal => exact absurd rfl hx
      | exit id => subst he; exact hp
      | ret => subst he; exact hp)
    exact ⟨wp_of_wpIn key, fun c0 h => by injection h with h; subst h; exact key⟩
  | weak c ρ st ρ1 st1 x ρ' st' hw h ih =>
    intro n kl gc hc X G w a hI hE
    obtain ⟨G1, k1, k2⟩ := weak_inv hI hE hw
    exact ih n kl gc hc X G1 w a k1 k2
  | opsNil ρ st =>
    intro n ops lo hc X G w a Q hI hE hQ
    have : lo = [] := by
      have := (cOps_get hc).1
      exact List.eq_nil_of_length_eq_zero (by simpa using this)
    subst this
    exact wpList_nil (hQ G w a hI hE)
  | opsSkip o l ρ st ρ' st' hg h ih =>
    intro n ops lo hc X G w a Q hI hE hQ
    obtain ⟨O, lo', rfl, h1, h2⟩ := cOps_cons hc
    obtain ⟨e1, e2, e3, e4⟩ := cPOp_spec h1
    refine wpList_step fun K hK => ?_
    rw [gd_wanted hE e1 hg]
    simp only [Bool.false_eq_true, if_false]
    refine hK _ _ (ih n ops lo' h2 X G w _ Q hI ?_ hQ)
    rw [e3]
    exact hE.put (dst_lt e4) undef_rep
  | opsQuiet o l ρ st p ρ' st' hg hq h ih =>
    intro n ops lo hc X G w a Q hI hE hQ
    obtain ⟨O, lo', rfl, h1, h2⟩ := cOps_cons hc
    obtain ⟨e1, e2, e3, e4⟩ := cPOp_spec h1
    refine wpList_step fun K hK => ?_
    rw [gd_wanted hE e1 hg]
    simp only [if_true]
    refine wp_lok hE e3.symm (by rw [e3]; exact e4) (((step_sound hI hE e2).1 p hq).lok hI) fun G' w' a' k1 k2 => hK _ _ (ih n ops lo' h2 X G' w' a' Q k1 k2 hQ)
  | opsLoud o l ρ st p st1 ρ' st' hg hq h ih =>
    intro n ops lo hc X G w a Q hI hE hQ
    obtain ⟨O, lo', rfl, h1, h2⟩ := cOps_cons hc
    obtain ⟨e1, e2, e3, e4⟩ := cPOp_spec h1
    refine wpList_step fun K hK => ?_
    rw [gd_wanted hE e1 hg]
    simp only [if_true]
    refine wp_lok hE e3.symm (by rw [e3]; exact e4) ((step_sound hI hE e2).2 p st1 hq) fun G' w' a' k1 k2 => hK _ _ (ih n ops lo' h2 X G' w' a' Q k1 k2 hQ)
  | opsCall o l ρ st f xs g caps args r ρ' st' hg ho hf hv hcall h ihc ih =>
    intro n ops lo hc X G w a Q hI hE hQ
    obtain ⟨O, lo', rfl, h1, h2⟩ := cOps_cons hc
    obtain ⟨e1, e2, e3, e4⟩ := cPOp_spec h1
    refine wpList_step fun K hK => ?_
    rw [gd_wanted hE e1 hg]
    simp only [if_true]
    rw [ho] at e2
    exact wp_call hI hE e3.symm (by rw [e3]; exact e4) e2 hf ihc (.inl hv) fun w' a' k1 k2 => hK _ _ (ih n ops lo' h2 X G w' a' Q k1 k2 hQ)
  | opsCallS o l ρ st f xs g caps args r ρ' st' hg ho hf hv hr hcall h ihc ih =>
    intro n ops lo hc X G w a Q hI hE hQ
    obtain ⟨O, lo', rfl, h1, h2⟩ := cOps_cons hc
    obtain ⟨e1, e2, e3, e4⟩ := cPOp_spec h1
    refine wpList_step fun K hK => ?_
    rw [gd_wanted hE e1 hg]
    simp only [if_true]
    rw [ho] at e2
    exact wp_call hI hE e3.symm (by rw [e3]; exact e4) e2 hf ihc (.inr ⟨hv, hr⟩) fun w' a' k1 k2 => hK _ _ (ih n ops lo' h2 X G w' a' Q k1 k2 hQ)
  | opsCallW o l ρ st ρ0 st0 f xs g caps args r ρ' st' hg ho hw hf hv hcall h ihc ih =>
    intro n ops lo hc X G w a Q hI hE hQ
    obtain ⟨O, lo', rfl, h1, h2⟩ := cOps_cons hc
    obtain ⟨e1, e2, e3, e4⟩ := cPOp_spec h1
    refine wpList_step fun K hK => ?_
    rw [gd_wanted hE e1 hg]
    simp only [if_true]
    rw [ho] at e2
    obtain ⟨G1, k1, k2⟩ := weak_inv hI hE hw
    exact wp_call k1 k2 e3.symm (by rw [e3]; exact e4) e2 hf ihc (.inl hv) fun w' a' k1 k2 => hK _ _ (ih n ops lo' h2 X G1 w' a' Q k1 k2 hQ)
  | opsExt o l ρ st f xs g caps args r ρ' st' hg ho hf hv hr hcall h ih =>
    intro n ops lo hc X G w a Q hI hE hQ
    obtain ⟨O, lo', rfl, h1, h2⟩ := cOps_cons hc
    obtain ⟨e1, e2, e3, e4⟩ := cPOp_spec h1
    refine wpList_step fun K hK => ?_
    rw [gd_wanted hE e1 hg]
    simp only [if_true]
    rw [ho] at e2
    exact wp_ext hI hE e3.symm (by rw [e3]; exact e4) e2 hf (hext _ _ _ hcall) hv hr fun G' w' a' k1 k2 => hK _ _ (ih n ops lo' h2 X G' w' a' Q k1 k2 hQ)
  | opsRaw o l ρ st f xs g caps q τ r st1 ρ' st' hg ho hf hp hb hcall h ihc ih =>
    intro n ops lo hc X G w a Q hI hE hQ
    obtain ⟨O, lo', rfl, h1, h2⟩ := cOps_cons hc
    obtain ⟨e1, e2, e3, e4⟩ := cPOp_spec h1
    refine wpList_step fun K hK => ?_
    rw [gd_wanted hE e1 hg]
    simp only [if_true]
    rw [ho] at e2
    exact wp_raw hI hE e3.symm (by rw [e3]; exact e4) e2 hf hp hb ihc fun G' w' a' k1 k2 => hK _ _ (ih n ops lo' h2 X G' w' a' Q k1 k2 hQ)
  | drawnNil ρ st => exact rfl
  | drawnSkip o l ρ st ρ' hg h ih => exact ⟨_, .inl ⟨hg, rfl⟩, ih⟩
  | drawnQuiet o l ρ st p ρ' hg hq h ih => exact ⟨p, .inr ⟨hg, .inl hq⟩, ih⟩
  | drawnCall o l ρ st f xs g caps args r ρ' hg ho hf hv hcall h ihc ih => exact ⟨r, .inr ⟨hg, .inr ⟨f, xs, g, caps, args, ho, hf, ihc, .inl hv⟩⟩, ih⟩
  | drawnCallS o l ρ st f xs g caps args r ρ' hg ho hf hv hr hcall h ihc ih => exact ⟨r, .inr ⟨hg, .inr ⟨f, xs, g, caps, args, ho, hf, ihc, .inr ⟨hv, hr⟩⟩⟩, ih⟩
  | call f pf args x ρ' st' r0 r hf hn h hx hr hv ih =>
    obtain ⟨fn, c, kill, h1, h2, h3, h4, h5, h6⟩ := (htbl f pf hf).ok
    refine ⟨⟨fn, c, h1, h2, h6⟩, fun F w vals hF hg hs hrep => ?_⟩
    refine calls_of_wp h1 h2 ?_
    rw [h4] at hn
    have hE0 : EnvRep noG (OwnF (callCx w F) emptySt noG) w fn.ntmps (envFrom 0 args) { tmps := vals ++ Array.replicate (fn.ntmps - vals.size) undef, defers := [] } := by
      rw [ownF_empty]
      exact env_begin hs hrep hn
    refine wp_mono (ih fn.ntmps kill c h3 (callCx w F) noG w _ (inv_empty hF hg) hE0).1 fun e a' w' hp => ?_
    obtain ⟨rfl, G', k1, k2⟩ := hp
    obtain ⟨u, hu, hru⟩ := results_run (P := P) k1 k2 h5 hr
    have hvr := view_rep k1 (own := F) (fun b hb => .inl hb) (fun _ b hb => hb) hv hru
    have fin : a'.defers = [] ∧ ∃ v, (results fn a'.tmps).run P w' = .ok v w' ∧ ∃ u, Ending.returned v = .returned u ∧ Below w.heap.size w w' ∧ Rep noG F w' u r := ⟨k2.defers, u, hu, u, rfl, (k1.frame : Chg (fun _ => False) w w').below, hvr⟩
    rcases hx with rfl | rfl
    · exact fin
    · exact fin
  | drawnL2 m1 m2 d B C l kill ρ st ρ' st' hm h ih =>
    intro n kl gc hc X G w a hI hE
    obtain ⟨id, ops, rfl, h1, rfl, h2, h3, h4⟩ := cCode_inv hc
    exact ⟨wp_drawnL2 hm h2 h3 h4 h1 hI hE ih fun G a w hI' hE' => ⟨rfl, G, hI', dropA_env _ hE'⟩, fun c0 h => by cases h⟩
  | dl2Nil m1 m2 d A B C k ρ st => exact ⟨rfl, rfl⟩
  | dl2Skip m1 m2 d A B C k o l ρ st ρ' st' hk1 hk2 hs hg h ih => exact ⟨_, _, .inl ⟨hk1, hk2, rfl, hs, fun s _ => .inl ⟨hg, rfl⟩⟩, ih⟩
  | dl2Quiet m1 m2 d A B C k o l ρ st p ρ' st' hk1 hk2 hs hg hq h ih => exact ⟨_, _, .inl ⟨hk1, hk2, rfl, hs, fun s hs' => .inr ⟨hg, .inl (hq s hs')⟩⟩, ih⟩
  | dl2Call m1 m2 d A B C k o l ρ st f xs g caps args r ρ' st' hk1 hk2 hs hg ho hf hv hc h ihc ih => exact ⟨_, _, .inl ⟨hk1, hk2, rfl, hs, fun s hs' => .inr ⟨hg, .inr ⟨f, xs, g, caps, args, ho, hf, ihc, .inl (hv s hs')⟩⟩⟩, ih⟩
  | dl2Loud1 m1 m2 d B C o l ρ st p ρ' st' hd hg hq h ih => exact ⟨_, _, .inr (.inl ⟨rfl, rfl, rfl, hd, hg, .inl hq⟩), ih⟩
  | dl2Raw1 m1 m2 d C o l ρ st f xs g caps q τ r st1 ρ' st' hd hg ho hf hp hb hc h ihc ih => exact ⟨_, _, .inr (.inl ⟨rfl, rfl, rfl, hd, hg, .inr ⟨f, xs, g, caps, q, τ, st1, ho, hf, hp, hb, ihc, rfl⟩⟩), ih⟩
  | dl2Loud2 m1 m2 d A C o l ρ st p ρ' st' hd hg hq h ih => exact ⟨_, _, .inr (.inr ⟨rfl, rfl, rfl, hd, hg, .inl hq⟩), ih⟩
  | dl2Raw2 m1 m2 d A o l ρ st f xs g caps q τ r st1 ρ' st' hd hg ho hf hp hb hc h ihc ih => exact ⟨_, _, .inr (.inr ⟨rfl, rfl, rfl, hd, hg, .inr ⟨f, xs, g, caps, q, τ, st1, ho, hf, hp, hb, ihc, rfl⟩⟩), ih⟩
  | drawnL m B l kill ρ st ρ' st' h ih =>
    intro n kl gc hc X G w a hI hE
    obtain ⟨id, ops, rfl, h1, rfl, h2, h3, h4⟩ := cCode_inv hc
    exact ⟨wp_drawnL h2 h3 h4 h1 hI hE ih fun G a w hI' hE' => ⟨rfl, G, hI', dropA_env _ hE'⟩, fun c0 h => by cases h⟩
  | dlNil m A B k ρ st => exact ⟨rfl, rfl⟩
  | dlSkip m A B k o l ρ st ρ' st' hk hs hg h ih => exact ⟨_, _, .inl ⟨hk, rfl, hs, .inl ⟨hg, rfl⟩, .inl ⟨hg, rfl⟩⟩, ih⟩
  | dlQuiet m A B k o l ρ st p ρ' st' hk hs hg hq h ih => exact ⟨_, _, .inl ⟨hk, rfl, hs, .inr ⟨hg, .inl (hq _ (.inl rfl))⟩, .inr ⟨hg, .inl (hq _ (.inr rfl))⟩⟩, ih⟩
  | dlCall m A B k o l ρ st f xs g caps args r ρ' st' hk hs hg ho hf hv hc h ihc ih => exact ⟨_, _, .inl ⟨hk, rfl, hs, .inr ⟨hg, .inr ⟨f, xs, g, caps, args, ho, hf, ihc, .inl (hv _ (.inl rfl))⟩⟩, .inr ⟨hg, .inr ⟨f, xs, g, caps, args, ho, hf, ihc, .inl (hv _ (.inr rfl))⟩⟩⟩, ih⟩
  | dlLoud m B o l ρ st p ρ' st' hg hq h ih => exact ⟨_, _, .inr ⟨rfl, rfl, rfl, hg, .inl hq⟩, ih⟩
  | dlRaw m o l ρ st f xs g caps q τ r st1 ρ' st' hg ho hf hp hb hc h ihc ih => exact ⟨_, _, .inr ⟨rfl, rfl, rfl, hg, .inr ⟨f, xs, g, caps, q, τ, st1, ho, hf, hp, hb, ihc, rfl⟩⟩, ih⟩
  | prim f args r h => exact hprim f args r h
  | raw f pf args st x ρ' st' r hf hn h hx hr ih =>
    obtain ⟨fn, c, kill, h1, h2, h3, h4, h5, h6⟩ := (htbl f pf hf).ok
    refine ⟨⟨fn, c, h1, h2, h6⟩, fun X G w vals hI hs hrep => ?_⟩
    refine calls_of_wp h1 h2 ?_
    rw [h4] at hn
    refine wp_mono (ih fn.ntmps kill c h3 X G w _ hI (env_begin hs hrep hn)).1 fun e a' w' hp => ?_
    obtain ⟨rfl, G', k1, k2⟩ := hp
    obtain ⟨u, hu, hru⟩ := results_run (P := P) k1 k2 h5 hr
    have fin : a'.defers = [] ∧ ∃ v, (results fn a'.tmps).run P w' = .ok v w' ∧ ∃ u, Ending.returned v = .returned u ∧ ∃ G', Inv X st' G' w' ∧ Rep G' (OwnF X st' G') w' u r := ⟨k2.defers, u, hu, u, rfl, G', k1, hru⟩
    rcases hx with rfl | rfl
    · exact fin
    · exact fin
end Go.AM
set_option linter.unusedVariables false
set_option linter.unusedSimpArgs false
namespace Go.AM
open Go.RowKit
structure Tb where
  tbl : Nat → Option PF
  prim : Nat → List PV → PV → Prop
  ext : Nat → List PV → PV → Prop
abbrev Tb.R (T : Tb) (j : J) : Prop := Run T.tbl T.prim T.ext j
inductive Fr where
  | code (c : PC)
  | block (id : Nat)
abbrev Post := EX → Env → St → Prop
def W (T : Tb) (Q : Post) : List Fr → EX → Env → St → Prop
  | [], x, ρ, st => Q x ρ st
  | .code c :: k, .normal, ρ, st => ∃ x1 ρ1 st1, T.R (.code c ρ st x1 ρ1 st1) ∧ W T Q k x1 ρ1 st1
  | .code c :: k, .exit i, ρ, st => W T Q k (.exit i) ρ st
  | .code c :: k, .ret, ρ, st => W T Q k .ret ρ st
  | .block id :: k, x, ρ, st => W T Q k (if x = .exit id then .normal else x) ρ st
def O (T : Tb) (Q : Post) (l : List POp) (kill : List Nat) (k : List Fr) (ρ : Env) (st : St) : Prop :=
  ∃ ρ1 st1, T.R (.ops l ρ st ρ1 st1) ∧ W T Q k .normal (dropA kill ρ1) st1
def D (T : Tb) (Q : Post) (l : List POp) (kill : List Nat) (k : List Fr) (ρ : Env) (st : St) : Prop :=
  ∃ ρ1, T.R (.drawn l ρ st ρ1) ∧ W T Q k .normal (dropA kill ρ1) st
section
variable {T : Tb} {Q : Post} {k : List Fr} {ρ : Env} {st : St} {l : List POp} {kill : List Nat}
theorem W_skip (h : W T Q k .normal ρ st) : W T Q (.code .skip :: k) .normal ρ st := ⟨_, _, _, .skip _ _, h⟩
theorem W_seq {a b : PC} (h : W T Q (.code a :: .code b :: k) .normal ρ st) : W T Q (.code (.seq a b) :: k) .normal ρ st := by
  obtain ⟨x1, ρ1, st1, h1, h2⟩ := h
  cases x1 with
  | normal =>
    obtain ⟨x2, ρ2, st2, h3, h4⟩ := h2
    exact ⟨_, _, _, .seqN _ _ _ _ _ _ _ _ _ h1 h3, h4⟩
  | exit i => exact ⟨_, _, _, .seqX _ _ _ _ _ _ _ (by simp) h1, h2⟩
  | ret => exact ⟨_, _, _, .seqX _ _ _ _ _ _ _ (by simp) h1, h2⟩
theorem W_cond {c : Opd} {a b : PC} {t : Bool} (hc : c.ev ρ = .bool t) (h : W T Q (.code (if t then a else b) :: k) .normal ρ st) : W T Q (.code (.cond c a b) :: k) .normal ρ st := by
  obtain ⟨x1, ρ1, st1, h1, h2⟩ := h
  exact ⟨_, _, _, .cond _ _ _ _ _ _ _ _ _ hc h1, h2⟩
theorem W_block {id : Nat} {c : PC} (h : W T Q (.code c :: .block id :: k) .normal ρ st) : W T Q (.code (.block id c) :: k) .normal ρ st := by
  obtain ⟨x1, ρ1, st1, h1, h2⟩ := h
  exact ⟨_, _, _, .block _ _ _ _ _ _ _ h1, h2⟩
theorem W_exit {id : Nat} (h : W T Q k (.exit id) ρ st) : W T Q (.code (.exit id) :: k) .normal ρ st := ⟨_, _, _, .exit _ _ _, h⟩
theorem W_ret (h : W T Q k .ret ρ st) : W T Q (.code .ret :: k) .normal ρ st := ⟨_, _, _, .ret _ _, h⟩
theorem W_blockN {id : Nat} (h : W T Q k .normal ρ st) : W T Q (.block id :: k) .normal ρ st := h
theorem W_blockR {id : Nat} (h : W T Q k .ret ρ st) : W T Q (.block id :: k) .ret ρ st := h
theorem W_blockE {id : Nat} (h : W T Q k .normal ρ st) : W T Q (.block id :: k) (.exit id) ρ st := by
  simp only [W, if_true]
  exact h
theorem W_blockO {id i : Nat} (hi : i ≠ id) (h : W T Q k (.exit i) ρ st) : W T Q (.block id :: k) (.exit i) ρ st := by
  have : (EX.exit i = EX.exit id) = False := by simp [hi]
  simp only [W, this, if_false]
  exact h
theorem W_loop {c : PC} (h : W T Q (.code c :: .code (.loop c) :: k) .normal ρ st) : W T Q (.code (.loop c) :: k) .normal ρ st := by
  obtain ⟨x1, ρ1, st1, h1, h2⟩ := h
  cases x1 with
  | normal =>
    obtain ⟨x2, ρ2, st2, h3, h4⟩ := h2
    exact ⟨_, _, _, .loopN _ _ _ _ _ _ _ _ h1 h3, h4⟩
  | exit i => exact ⟨_, _, _, .loopX _ _ _ _ _ _ (by simp) h1, h2⟩
  | ret => exact ⟨_, _, _, .loopX _ _ _ _ _ _ (by simp) h1, h2⟩
theorem W_mono {Q' : Post} (hQ : ∀ x ρ st, Q x ρ st → Q' x ρ st) : ∀ (k : List Fr) (x : EX) (ρ : Env) (st : St), W T Q k x ρ st → W T Q' k x ρ st
  | [], x, ρ, st, h => hQ x ρ st h
  | .code c :: k, .normal, ρ, st, ⟨x1, ρ1, st1, h1, h2⟩ => ⟨x1, ρ1, st1, h1, W_mono hQ k _ _ _ h2⟩
  | .code c :: k, .exit i, ρ, st, h => W_mono hQ k _ _ _ h
  | .code c :: k, .ret, ρ, st, h => W_mono hQ k _ _ _ h
  | .block id :: k, x, ρ, st, h => W_mono hQ k _ _ _ h
theorem W_cut {Q' : Post} {c : PC} (h : W T Q' [.code c] .normal ρ st) (hk : ∀ x ρ' st', Q' x ρ' st' → W T Q k x ρ' st') : W T Q (.code c :: k) .normal ρ st := by
  obtain ⟨x1, ρ1, st1, h1, h2⟩ := h
  exact ⟨_, _, _, h1, hk _ _ _ h2⟩
theorem W_ops (h : O T Q l kill k ρ st) : W T Q (.code (.ops l kill) :: k) .normal ρ st := by
  obtain ⟨ρ1, st1, h1, h2⟩ := h
  exact ⟨_, _, _, .ops _ _ _ _ _ _ h1, h2⟩
theorem W_drawn (h : D T Q l kill k ρ st) : W T Q (.code (.drawn l kill) :: k) .normal ρ st := by
  obtain ⟨ρ1, h1, h2⟩ := h
  exact ⟨_, _, _, .drawn _ _ _ _ _ h1, h2⟩
theorem O_nil (h : W T Q k .normal (dropA kill ρ) st) : O T Q [] kill k ρ st := ⟨_, _, .opsNil _ _, h⟩
theorem D_nil (h : W T Q k .normal (dropA kill ρ) st) : D T Q [] kill k ρ st := ⟨_, .drawnNil _ _, h⟩
theorem O_q {d : Option Nat} {op : PI} {p : PV} (hq : quiet st.get (Opd.ev ρ) op = some p) (h : O T Q l kill k (Env.put ρ d p) st) : O T Q (⟨d, none, op⟩ :: l) kill k ρ st := by
  obtain ⟨ρ1, st1, h1, h2⟩ := h
  exact ⟨_, _, .opsQuiet _ _ _ _ _ _ _ rfl hq h1, h2⟩
theorem O_l {d : Option Nat} {op : PI} {p : PV} {st' : St} (hq : loud st (Opd.ev ρ) op = some (p, st')) (h : O T Q l kill k (Env.put ρ d p) st') : O T Q (⟨d, none, op⟩ :: l) kill k ρ st := by
  obtain ⟨ρ1, st1, h1, h2⟩ := h
  exact ⟨_, _, .opsLoud _ _ _ _ _ _ _ _ rfl hq h1, h2⟩
theorem O_g {d : Option Nat} {op : PI} {t : Nat} {want b : Bool} (hg : getA t ρ = some (.bool b)) (h1 : b = want → O T Q (⟨d, none, op⟩ :: l) kill k ρ st) (h2 : b ≠ want → O T Q l kill k (Env.put ρ d (.tuple [])) st) : O T Q (⟨d, some (t, want), op⟩ :: l) kill k ρ st := by
  by_cases h : b = want
  · obtain ⟨ρ1, st1, h3, h4⟩ := h1 h
    refine ⟨ρ1, st1, ?_, h4⟩
    have hg' : gd (getA · ρ) (some (t, want)) = some true := by simp [gd, hg, h]
    cases h3 with
    | opsSkip _ _ _ _ _ _ g _ => cases g
    | opsQuiet _ _ _ _ p _ _ g q r => exact .opsQuiet _ _ _ _ _ _ _ hg' q r
    | opsLoud _ _ _ _ p st1 _ _ g q r => exact .opsLoud _ _ _ _ _ _ _ _ hg' q r
    | opsCall _ _ _ _ f xs g caps args rr _ _ gg ho hf hv hc hh => exact .opsCall _ _ _ _ _ _ _ _ _ _ _ _ hg' ho hf hv hc hh
    | opsCallS _ _ _ _ f xs g caps args rr _ _ gg ho hf hv hr hc hh => exact .opsCallS _ _ _ _ _ _ _ _ _ _ _ _ hg' ho hf hv hr hc hh
    | opsCallW _ _ _ _ r0 s0 f xs g caps args rr _ _ gg ho hw hf hv hc hh => exact .opsCallW _ _ _ _ _ _ _ _ _ _ _ _ _ _ hg' ho hw hf hv hc hh
    | opsExt _ _ _ _ f xs g caps args rr _ _ gg ho hf hv hr hc hh => exact .opsExt _ _ _ _ _ _ _ _ _ _ _ _ hg' ho hf hv hr hc hh
    | opsRaw _ _ _ _ f xs g caps q τ rr st1 _ _ gg ho hf hp hb hc hh => exact .opsRaw _ _ _ _ _ _ _ _ _ _ _ _ _ _ hg' ho hf hp hb hc hh
  · obtain ⟨ρ1, st1, h3, h4⟩ := h2 h
    exact ⟨_, _, .opsSkip _ _ _ _ _ _ (by simp [gd, hg, h]) h3, h4⟩
theorem O_gT {d : Option Nat} {op : PI} {t : Nat} {want : Bool} (hg : getA t ρ = some (.bool want)) (h1 : O T Q (⟨d, none, op⟩ :: l) kill k ρ st) : O T Q (⟨d, some (t, want), op⟩ :: l) kill k ρ st := O_g hg (fun _ => h1) (fun h => (h rfl).elim)
theorem O_gF {d : Option Nat} {op : PI} {t : Nat} {want b : Bool} (hg : getA t ρ = some (.bool b)) (hb : b ≠ want) (h2 : O T Q l kill k (Env.put ρ d (.tuple [])) st) : O T Q (⟨d, some (t, want), op⟩ :: l) kill k ρ st := O_g hg (fun h => (hb h).elim) (fun _ => h2)
theorem O_gU {d : Option Nat} {op : PI} {t : Nat} {want : Bool} (hg : getA t ρ = some (.tuple [])) (h2 : O T Q l kill k (Env.put ρ d (.tuple [])) st) : O T Q (⟨d, some (t, want), op⟩ :: l) kill k ρ st := by
  obtain ⟨ρ1, st1, h3, h4⟩ := h2
  exact ⟨_, _, .opsSkip _ _ _ _ _ _ (by simp [gd, hg]) h3, h4⟩
theorem O_call {d : Option Nat} {f : Opd} {xs : List Opd} {g : Nat} {caps args : List PV} {r : PV} (hf : f.ev ρ = .func g caps) (hv : ViewL false st.get (xs.map (Opd.ev ρ) ++ caps) args) (hc : T.R (.call g args r)) (h : O T Q l kill k (Env.put ρ d r) st) : O T Q (⟨d, none, .call f xs⟩ :: l) kill k ρ st := by
  obtain ⟨ρ1, st1, h1, h2⟩ := h
  exact ⟨_, _, .opsCall _ _ _ _ _ _ _ _ _ _ _ _ rfl rfl hf hv hc h1, h2⟩
theorem O_raw {d : Option Nat} {f : Opd} {xs : List Opd} {g : Nat} {caps : List PV} {q τ : List (Nat × Tok)} {r : PV} {st1 : St} (hf : f.ev ρ = .func g caps) (hp : Parts st q τ) (hb : st1.base = st.next) (hc : T.R (.raw g (xs.map (Opd.ev ρ) ++ caps) (partSt st τ) r st1)) (h : O T Q l kill k (Env.put ρ d r) (joinSt st q st1)) : O T Q (⟨d, none, .call f xs⟩ :: l) kill k ρ st := by
  obtain ⟨ρ1, st2, h1, h2⟩ := h
  exact ⟨_, _, .opsRaw _ _ _ _ _ _ _ _ _ _ _ _ _ _ rfl rfl hf hp hb hc h1, h2⟩
theorem D_q {d : Option Nat} {op : PI} {p : PV} (hq : quiet st.get (Opd.ev ρ) op = some p) (h : D T Q l kill k (Env.put ρ d p) st) : D T Q (⟨d, none, op⟩ :: l) kill k ρ st := by
  obtain ⟨ρ1, h1, h2⟩ := h
  exact ⟨_, .drawnQuiet _ _ _ _ _ _ rfl hq h1, h2⟩
theorem D_g {d : Option Nat} {op : PI} {t : Nat} {want b : Bool} (hg : getA t ρ = some (.bool b)) (h1 : b = want → D T Q (⟨d, none, op⟩ :: l) kill k ρ st) (h2 : b ≠ want → D T Q l kill k (Env.put ρ d (.tuple [])) st) : D T Q (⟨d, some (t, want), op⟩ :: l) kill k ρ st := by
  by_cases h : b = want
  · obtain ⟨ρ1, h3, h4⟩ := h1 h
    refine ⟨ρ1, ?_, h4⟩
    have hg' : gd (getA · ρ) (some (t, want)) = some true := by simp [gd, hg, h]
    cases h3 with
    | drawnSkip _ _ _ _ _ g _ => cases g
    | drawnQuiet _ _ _ _ p _ g q r => exact .drawnQuiet _ _ _ _ _ _ hg' q r
    | drawnCall _ _ _ _ f xs g caps args rr _ gg ho hf hv hc hh => exact .drawnCall _ _ _ _ _ _ _ _ _ _ _ hg' ho hf hv hc hh
    | drawnCallS _ _ _ _ f xs g caps args rr _ gg ho hf hv hr hc hh => exact .drawnCallS _ _ _ _ _ _ _ _ _ _ _ hg' ho hf hv hr hc hh
  · obtain ⟨ρ1, h3, h4⟩ := h2 h
    exact ⟨_, .drawnSkip _ _ _ _ _ (by simp [gd, hg, h]) h3, h4⟩
theorem D_gU {d : Option Nat} {op : PI} {t : Nat} {want : Bool} (hg : getA t ρ = some (.tuple [])) (h2 : D T Q l kill k (Env.put ρ d (.tuple [])) st) : D T Q (⟨d, some (t, want), op⟩ :: l) kill k ρ st := by
  obtain ⟨ρ1, h3, h4⟩ := h2
  exact ⟨_, .drawnSkip _ _ _ _ _ (by simp [gd, hg]) h3, h4⟩
end
def Ends (pf : PF) (Q : PV → Prop) : Post := fun x ρ st => (x = .normal ∨ x = .ret) ∧ ∃ r0 r, resOf ρ st.get pf.results = some r0 ∧ View true st.get r0 r ∧ Q r
theorem call_of {T : Tb} {f : Nat} {pf : PF} {args : List PV} {Q : PV → Prop} (hf : T.tbl f = some pf) (hn : args.length ≤ pf.ntmps) (h : W T (Ends pf Q) [.code pf.body] .normal (envFrom 0 args) emptySt) : ∃ r, T.R (.call f args r) ∧ Q r := by
  obtain ⟨x, ρ, st, h1, hx, r0, r, h2, h3, h4⟩ := h
  exact ⟨r, .call _ _ _ _ _ _ _ _ hf hn h1 hx h2 h3, h4⟩
theorem call_is {T : Tb} {f : Nat} {pf : PF} {args : List PV} {r : PV} (hf : T.tbl f = some pf) (hn : args.length ≤ pf.ntmps) (h : W T (Ends pf (· = r)) [.code pf.body] .normal (envFrom 0 args) emptySt) : T.R (.call f args r) := by
  obtain ⟨r', h1, rfl⟩ := call_of hf hn h
  exact h1
def EndsR (pf : PF) (r : PV) (st' : St) : Post := fun x ρ st => (x = .normal ∨ x = .ret) ∧ resOf ρ st.get pf.results = some r ∧ st = st'
theorem raw_is {T : Tb} {f : Nat} {pf : PF} {args : List PV} {r : PV} {st st' : St} (hf : T.tbl f = some pf) (hn : args.length ≤ pf.ntmps) (h : W T (EndsR pf r st') [.code pf.body] .normal (envFrom 0 args) st) : T.R (.raw f args st r st') := by
  obtain ⟨x, ρ, st1, h1, hx, h2, rfl⟩ := h
  exact .raw _ _ _ _ _ _ _ _ hf hn h1 hx h2
inductive Pl : PV → Prop
  | junk : Pl .junk
  | bool (b) : Pl (.bool b)
  | int (k n) : Pl (.int k n)
  | str (s) : Pl (.str s)
  | nilPtr : Pl .nilPtr
  | iptr (cs off) (h : ∀ c ∈ cs, Pl c) : Pl (.iptr cs off)
  | nilSl : Pl .nilSl
  | sl (xs full) (h : ∀ cs ∈ xs, ∀ c ∈ cs, Pl c) : Pl (.sl xs full)
  | func (f cs) (h : ∀ c ∈ cs, Pl c) : Pl (.func f cs)
  | nilFunc : Pl .nilFunc
  | iface (ty v) (h : Pl v) : Pl (.iface ty v)
  | nilIface : Pl .nilIface
  | agg (cs) (h : ∀ c ∈ cs, Pl c) : Pl (.agg cs)
  | tuple (cs) (h : ∀ c ∈ cs, Pl c) : Pl (.tuple cs)
theorem Pl.bel {m : Nat} {p : PV} (h : Pl p) : Bel m p := by
  induction h with
  | junk => exact .junk
  | bool b => exact .bool b
  | int k n => exact .int k n
  | str s => exact .str s
  | nilPtr => exact .nilPtr
  | iptr cs off _ ih => exact .iptr _ _ ih
  | nilSl => exact .nilSl
  | sl xs full _ ih => exact .sl _ _ ih
  | func f cs _ ih => exact .func _ _ ih
  | nilFunc => exact .nilFunc
  | iface ty v _ ih => exact .iface _ _ ih
  | nilIface => exact .nilIface
  | agg cs _ ih => exact .agg _ ih
  | tuple cs _ ih => exact .tuple _ ih
theorem Pl.view {live : Bool} {look : Nat → Option Tok} {p : PV} (h : Pl p) : View live look p p := by
  have key : ∀ {cs : List PV} {i : Nat} {c d : PV}, cs[i]? = some c → cs[i]? = some d → c = d := fun h1 h2 => by rw [h1] at h2; injection h2
  induction h with
  | junk => exact .junk _
  | bool b => exact .bool b
  | int k n => exact .int k n
  | str s => exact .str s
  | nilPtr => exact .nilPtr
  | iptr cs off _ ih => exact .iptr _ _ _ rfl fun i c d h1 h2 => by have := key h1 h2; subst this; exact ih c (List.mem_of_getElem? h1)
  | nilSl => exact .nilSl
  | sl xs full _ ih =>
    refine .sl _ _ _ rfl (fun j cs ds h1 h2 => ?_) (fun j cs ds i c d h1 h2 h3 h4 => ?_)
    · rw [h1] at h2; injection h2 with h2; rw [h2]
    · rw [h1] at h2; injection h2 with h2; subst h2
      have := key h3 h4; subst this
      exact ih cs (List.mem_of_getElem? h1) c (List.mem_of_getElem? h3)
  | func f cs _ ih => exact .func _ _ _ rfl fun i c d h1 h2 => by have := key h1 h2; subst this; exact ih c (List.mem_of_getElem? h1)
  | nilFunc => exact .nilFunc
  | iface ty v _ ih => exact .iface _ _ _ ih
  | nilIface => exact .nilIface
  | agg cs _ ih => exact .agg _ _ rfl fun i c d h1 h2 => by have := key h1 h2; subst this; exact ih c (List.mem_of_getElem? h1)
  | tuple cs _ ih => exact .tuple _ _ rfl fun i c d h1 h2 => by have := key h1 h2; subst this; exact ih c (List.mem_of_getElem? h1)
theorem viewL_nil {live : Bool} {look : Nat → Option Tok} : ViewL live look [] [] := ⟨rfl, fun i x y h => by simp at h⟩
theorem viewL_cons {live : Bool} {look : Nat → Option Tok} {x y : PV} {xs ys : List PV} (h : View live look x y) (k : ViewL live look xs ys) : ViewL live look (x :: xs) (y :: ys) :=
  ⟨by simp [k.1], fun i a b h1 h2 => by
    cases i with
    | zero => simp at h1 h2; subst h1 h2; exact h
    | succ i => exact k.2 i a b (by simpa using h1) (by simpa using h2)⟩
theorem viewL_pl {live : Bool} {look : Nat → Option Tok} {xs : List PV} (h : ∀ c ∈ xs, Pl c) : ViewL live look xs xs :=
  ⟨rfl, fun i a b h1 h2 => by
    rw [h1] at h2; injection h2 with h2; subst h2
    exact (h a (List.mem_of_getElem? h1)).view⟩
theorem view_osl {live : Bool} {look : Nat → Option Tok} {t g off len sz : Nat} {full lv : Bool} {es : List (List PV)} (hg : look t = some (.row g sz es lv)) (hlv : live = true ∨ lv = false) (hb : off + len ≤ es.length) (hp : ∀ cs ∈ (es.drop off).take len, ∀ c ∈ cs, Pl c) : View live look (.osl t g off len full) (.sl ((es.drop off).take len) full) := by
  refine .osl t g off len full sz es lv _ hg hlv hb rfl (fun j cs ds h1 h2 => ?_) (fun j cs ds i c d h1 h2 h3 h4 => ?_)
  · rw [h1] at h2; injection h2 with h2; rw [h2]
  · rw [h1] at h2; injection h2 with h2; subst h2
    rw [h3] at h4; injection h4 with h4; subst h4
    exact (hp cs (List.mem_of_getElem? h1) c (List.mem_of_getElem? h3)).view
theorem view_osl0 {live : Bool} {look : Nat → Option Tok} {t g len sz : Nat} {full lv : Bool} {es : List (List PV)} (hg : look t = some (.row g sz es lv)) (hlv : live = true ∨ lv = false) (hb : len = es.length) (hp : ∀ cs ∈ es, ∀ c ∈ cs, Pl c) : View live look (.osl t g 0 len full) (.sl es full) := by
  subst hb
  have := view_osl (live := live) (full := full) hg hlv (off := 0) (len := es.length) (by simp) (by simpa using hp)
  simpa using this
theorem pl_bytes (s : List UInt8) : ∀ cs ∈ byteCells s, ∀ c ∈ cs, Pl c := by
  intro cs h c hc
  obtain ⟨b, _, rfl⟩ := List.mem_map.1 h
  simp at hc
  subst hc
  exact .int _ _
end Go.AM
