/- The abstract machine: AM21: regions whose order is drawn: one walk serves every order. -/
import Derived.Test.YtbeaalkfakjoiaaDoorAmD
set_option linter.unusedSectionVars false
set_option linter.unusedVariables false
set_option linter.unusedSimpArgs false
namespace Go.AM
open Go.RowKit
variable [Gl]
def YSem (P : Program) (st : St) (o : POp) (ρ : Env) (p : PV) : Prop :=
  (gd (getA · ρ) o.guard = some false ∧ p = .tuple []) ∨
  (gd (getA · ρ) o.guard = some true ∧ (quiet st.get (Opd.ev ρ) o.op = some p ∨ ∃ f xs g caps args, o.op = .call f xs ∧ f.ev ρ = .func g caps ∧ SemCall P g args p ∧
    (ViewL false st.get (xs.map (Opd.ev ρ) ++ caps) args ∨ (ViewL true st.get (xs.map (Opd.ev ρ) ++ caps) args ∧ scalarR p = true))))
def LexD (P : Program) (st : St) : List POp → Env → Env → Prop
  | [], ρ, ρ' => ρ' = ρ
  | o :: l, ρ, ρ' => ∃ p, YSem P st o ρ p ∧ LexD P st l (Env.put ρ o.dst p) ρ'
theorem ev_congr {ρ ρ' : Env} {x : Opd} (h : ∀ t ∈ x.tmps, getA t ρ = getA t ρ') : x.ev ρ = x.ev ρ' := by
  cases x with
  | t n => simp only [Opd.ev, Env.at]; rw [h n (by simp [Opd.tmps])]
  | c p => rfl
theorem evs_congr {ρ ρ' : Env} {xs : List Opd} (h : ∀ t ∈ xs.flatMap Opd.tmps, getA t ρ = getA t ρ') : xs.map (Opd.ev ρ) = xs.map (Opd.ev ρ') := by
  apply List.map_congr_left
  intro x hx
  exact ev_congr fun t ht => h t (List.mem_flatMap.2 ⟨x, hx, ht⟩)
theorem opt_congr {ρ ρ' : Env} {x : Option Opd} (h : ∀ t ∈ optTmps x, getA t ρ = getA t ρ') : x.map (Opd.ev ρ) = x.map (Opd.ev ρ') := by
  cases x with
  | none => rfl
  | some x => simp only [Option.map_some]; rw [ev_congr h]
theorem quiet_congr {look : Nat → Option Tok} {ρ ρ' : Env} {pi : PI} (h : ∀ t ∈ pi.tmps, getA t ρ = getA t ρ') : quiet look (Opd.ev ρ) pi = quiet look (Opd.ev ρ') pi := by
  cases pi with
  | move x => simp only [quiet]; rw [ev_congr h]
  | pick c a b =>
    simp only [PI.tmps, List.mem_append] at h
    simp only [quiet]
    rw [ev_congr (fun t ht => h t (.inl ht)), ev_congr (fun t ht => h t (.inr (.inl ht))), ev_congr (fun t ht => h t (.inr (.inr ht)))]
  | load n agg a => simp only [quiet]; rw [ev_congr h]
  | build zero ps =>
    simp only [quiet]
    have : (ps.map fun p => (p.1, p.2.1, Opd.ev ρ p.2.2)) = ps.map fun p => (p.1, p.2.1, Opd.ev ρ' p.2.2) := by
      apply List.map_congr_left
      intro p hp
      rw [ev_congr fun t ht => h t (List.mem_flatMap.2 ⟨p, hp, ht⟩)]
    rw [this]
  | buildSl sz zero ps =>
    simp only [quiet]
    have : (ps.map fun p => (p.1, Opd.ev ρ p.2)) = ps.map fun p => (p.1, Opd.ev ρ' p.2) := by
      apply List.map_congr_left
      intro p hp
      rw [ev_congr fun t ht => h t (List.mem_flatMap.2 ⟨p, hp, ht⟩)]
    rw [this]
  | fieldAddr x d => simp only [quiet]; rw [ev_congr h]
  | field x off n agg => simp only [quiet]; rw [ev_congr h]
  | indexA x y l s =>
    simp only [PI.tmps, List.mem_append] at h
    simp only [quiet]; rw [ev_congr (fun t ht => h t (.inl ht)), ev_congr (fun t ht => h t (.inr ht))]
  | indexS x y s =>
    simp only [PI.tmps, List.mem_append] at h
    simp only [quiet]; rw [ev_congr (fun t ht => h t (.inl ht)), ev_congr (fun t ht => h t (.inr ht))]
  | indexStr x y =>
    simp only [PI.tmps, List.mem_append] at h
    simp only [quiet]; rw [ev_congr (fun t ht => h t (.inl ht)), ev_congr (fun t ht => h t (.inr ht))]
  | sliceStr x lo hi =>
    simp only [PI.tmps, List.mem_append] at h
    simp only [quiet]; rw [ev_congr (fun t ht => h t (.inl ht)), opt_congr (fun t ht => h t (.inr (.inl ht))), opt_congr (fun t ht => h t (.inr (.inr ht)))]
  | sliceSl x s lo hi mx =>
    simp only [PI.tmps, List.mem_append] at h
    simp only [quiet]; rw [ev_congr (fun t ht => h t (.inl ht)), opt_congr (fun t ht => h t (.inr (.inl ht))), opt_congr (fun t ht => h t (.inr (.inr (.inl ht)))), opt_congr (fun t ht => h t (.inr (.inr (.inr ht))))]
  | sliceArr x l s lo hi mx =>
    simp only [PI.tmps, List.mem_append] at h
    simp only [quiet]; rw [ev_congr (fun t ht => h t (.inl ht)), opt_congr (fun t ht => h t (.inr (.inl ht))), opt_congr (fun t ht => h t (.inr (.inr (.inl ht)))), opt_congr (fun t ht => h t (.inr (.inr (.inr ht))))]
  | conv k x => simp only [quiet]; rw [ev_congr h]
  | toBytes x => simp only [quiet]; rw [ev_congr h]
  | toStr x => simp only [quiet]; rw [ev_congr h]
  | textId x => simp only [quiet]; rw [ev_congr h]
  | neg x => simp only [quiet]; rw [ev_congr h]
  | not x => simp only [quiet]; rw [ev_congr h]
  | bin op x y =>
    simp only [PI.tmps, List.mem_append] at h
    simp only [quiet]; rw [ev_congr (fun t ht => h t (.inl ht)), ev_congr (fun t ht => h t (.inr ht))]
  | eqNil neq k x => simp only [quiet]; rw [ev_congr h]
  | eqBool neq x y =>
    simp only [PI.tmps, List.mem_append] at h
    simp only [quiet]; rw [ev_congr (fun t ht => h t (.inl ht)), ev_congr (fun t ht => h t (.inr ht))]
  | eqAgg neq ks x y =>
    simp only [PI.tmps, List.mem_append] at h
    simp only [quiet]; rw [ev_congr (fun t ht => h t (.inl ht)), ev_congr (fun t ht => h t (.inr ht))]
  | extract x i => simp only [quiet]; rw [ev_congr h]
  | mkIface ty x => simp only [quiet]; rw [ev_congr h]
  | mkFunc f caps => simp only [quiet]; rw [evs_congr h]
  | nilCheck x => simp only [quiet]; rw [ev_congr h]
  | len txt x => simp only [quiet]; rw [ev_congr h]
  | cap x => simp only [quiet]; rw [ev_congr h]
  | minmax mx xs => simp only [quiet]; rw [evs_congr h]
  | store n a x => rfl
  | alloc cs => rfl
  | box x => rfl
  | makeSl sz z b l c => rfl
  | append sz b z s x =>
    simp only [PI.tmps, List.mem_append] at h
    simp only [quiet]; rw [ev_congr (fun t ht => h t (.inl ht)), ev_congr (fun t ht => h t (.inr ht))]
  | appendZ sz b z s x => rfl
  | copy sz d s => rfl
  | call f xs => rfl
  | makeMap => rfl
  | mapPut m k x => rfl
  | mapLook z ok m k =>
    simp only [PI.tmps, List.mem_append] at h
    simp only [quiet]; rw [ev_congr (fun t ht => h t (.inl ht)), ev_congr (fun t ht => h t (.inr ht))]
theorem gd_congr {ρ ρ' : Env} {g : Option (Nat × Bool)} (h : ∀ t w, g = some (t, w) → getA t ρ = getA t ρ') : gd (getA · ρ) g = gd (getA · ρ') g := by
  cases g with
  | none => rfl
  | some x => obtain ⟨t, w⟩ := x; simp only [gd]; rw [h t w rfl]
section
variable {P : Program} {st : St}
theorem ysem_congr {ρ ρ' : Env} {o : POp} {p : PV} (h : ∀ t ∈ o.tmps, getA t ρ = getA t ρ') (hy : YSem P st o ρ p) : YSem P st o ρ' p := by
  have hg : gd (getA · ρ) o.guard = gd (getA · ρ') o.guard := gd_congr fun t w e => h t (by simp [POp.tmps, e])
  have ho : ∀ t ∈ o.op.tmps, getA t ρ = getA t ρ' := fun t ht => h t (by simp [POp.tmps, ht])
  rcases hy with ⟨h1, h2⟩ | ⟨h1, h2⟩
  · exact .inl ⟨by rw [← hg]; exact h1, h2⟩
  · refine .inr ⟨by rw [← hg]; exact h1, ?_⟩
    rcases h2 with h2 | ⟨f, xs, g, caps, args, e1, e2, e3, e4⟩
    · exact .inl (by rw [← quiet_congr ho]; exact h2)
    · rw [e1] at ho
      simp only [PI.tmps, List.mem_append] at ho
      have h3 : xs.map (Opd.ev ρ') = xs.map (Opd.ev ρ) := (evs_congr fun t ht => (ho t (.inr ht))).symm
      exact .inr ⟨f, xs, g, caps, args, e1, by rw [← ev_congr (fun t ht => ho t (.inl ht))]; exact e2, e3, by rw [h3]; exact e4⟩
def EqA (ρ ρ' : Env) : Prop := ∀ t, getA t ρ = getA t ρ'
theorem EqA.put {ρ ρ' : Env} (h : EqA ρ ρ') (d : Option Nat) (p : PV) : EqA (Env.put ρ d p) (Env.put ρ' d p) := by
  intro t
  cases d with
  | none => exact h t
  | some d => simp only [Env.put, getA_putA]; rw [h t]
theorem put_comm {ρ : Env} {d e : Option Nat} (h : ∀ x, d = some x → e ≠ some x) (p q : PV) : EqA (Env.put (Env.put ρ d p) e q) (Env.put (Env.put ρ e q) d p) := by
  intro t
  cases d with
  | none => rfl
  | some d =>
    cases e with
    | none => rfl
    | some e =>
      have hne : d ≠ e := fun he => h d rfl (by rw [he])
      simp only [Env.put, getA_putA]
      by_cases h1 : e = t
      · by_cases h2 : d = t
        · exact absurd (h2.trans h1.symm) hne
        · rw [if_pos h1, if_neg h2, if_pos h1]
      · rw [if_neg h1, if_neg h1]
theorem put_other {ρ : Env} {d : Option Nat} {p : PV} {t : Nat} (h : d ≠ some t) : getA t (Env.put ρ d p) = getA t ρ := by
  cases d with
  | none => rfl
  | some d =>
    simp only [Env.put, getA_putA]
    rw [if_neg (fun e => h (by rw [e]))]
def anyD (P : Program) (st : St) (ops : Array Oper) (L : List POp) (ρ' : Env) : Nat → Array Bool → Env → Prop
  | 0, listed, ρ => Region.ready .any ops listed = [] ∧ EqA ρ ρ'
  | fuel + 1, listed, ρ => (Region.ready .any ops listed = [] → EqA ρ ρ') ∧ ∀ i ∈ Region.ready .any ops listed, ∃ o p, L[i]? = some o ∧ YSem P st o ρ p ∧ anyD P st ops L ρ' fuel (listed.setIfInBounds i true) (Env.put ρ o.dst p)
theorem anyD_eqv {ops : Array Oper} {L : List POp} {ρ' : Env} : ∀ (fuel : Nat) (listed : Array Bool) (ρ ρ1 : Env), EqA ρ ρ1 → anyD P st ops L ρ' fuel listed ρ → anyD P st ops L ρ' fuel listed ρ1
  | 0, listed, ρ, ρ1, he, h => ⟨h.1, fun t => (he t).symm.trans (h.2 t)⟩
  | fuel + 1, listed, ρ, ρ1, he, h => ⟨fun hr t => (he t).symm.trans (h.1 hr t), fun i hi => by
      obtain ⟨o, p, h1, h2, h3⟩ := h.2 i hi
      exact ⟨o, p, h1, ysem_congr (fun t _ => he t) h2, anyD_eqv fuel _ _ _ (he.put _ _) h3⟩⟩
theorem tmpsOk_spec {ops : Array Oper} : ∀ {lo : List Oper} {l : List POp}, tmpsOk ops lo l = true → lo.length = l.length ∧ ∀ (j : Nat) (O : Oper) (o : POp), lo[j]? = some O → l[j]? = some o → (∀ t ∈ o.tmps, t ∈ O.looksAt ops) ∧ o.dst = O.dst
  | [], [], _ => ⟨rfl, fun j O o h => by simp at h⟩
  | [], _ :: _, h => by cases h
  | _ :: _, [], h => by cases h
  | O :: lo, o :: l, h => by
    simp only [tmpsOk, Bool.and_eq_true, List.all_eq_true, decide_eq_true_eq] at h
    obtain ⟨⟨h1, h2⟩, h3⟩ := h
    obtain ⟨k1, k2⟩ := tmpsOk_spec h3
    refine ⟨by simp [k1], fun j O' o' hj hj' => ?_⟩
    cases j with
    | zero =>
      simp at hj hj'
      subst hj hj'
      exact ⟨fun t ht => by simpa using h1 t ht, h2⟩
    | succ j => exact k2 j O' o' (by simpa using hj) (by simpa using hj')
theorem anyD_first {ops : Array Oper} {L : List POp} {ρ' : Env} (hok : tmpsOk ops ops.toList L = true) {i : Nat} {oi : POp} {Oi : Oper} {v : PV} (hi : L[i]? = some oi) (hiO : ops[i]? = some Oi) :
    ∀ (fuel : Nat) (listed : Array Bool) (ρ : Env),
      (∀ j Oj, ops[j]? = some Oj → j ≠ i → listed.getD j true = false → (∀ e ∈ Oj.after, Region.binds .any e = true → e.on ≠ i) → Oi.apart ops Oj = true) →
      i ∈ Region.ready .any ops listed → YSem P st oi ρ v → anyD P st ops L ρ' fuel (listed.setIfInBounds i true) (Env.put ρ oi.dst v) → anyD P st ops L ρ' (fuel + 1) listed ρ := by
  intro fuel
  induction fuel with
  | zero =>
    intro listed ρ _ hr hy H
    refine ⟨fun h => (by rw [h] at hr; cases hr), fun j hj => ?_⟩
    by_cases hji : j = i
    · subst hji; exact ⟨oi, v, hi, hy, H⟩
    · have := ready_mono hj hji
      rw [H.1] at this
      cases this
  | succ fuel ih =>
    intro listed ρ hfree hr hy H
    refine ⟨fun h => (by rw [h] at hr; cases hr), fun j hj => ?_⟩
    by_cases hji : j = i
    · subst hji; exact ⟨oi, v, hi, hy, H⟩
    · obtain ⟨oj, u, hLj, hyj, hrest⟩ := H.2 j (ready_mono hj hji)
      obtain ⟨hjun, Oj, hOj, hall⟩ := mem_ready.1 hj
      have hnot : ∀ e ∈ Oj.after, Region.binds .any e = true → e.on ≠ i := fun e he hb heq => by
        have h1 := hall e he hb
        have h0 := (mem_ready.1 hr).1
        rw [heq] at h1
        rcases Nat.lt_or_ge i listed.size with h' | h'
        · simp [h'] at h0 h1; rw [h0] at h1; cases h1
        · simp [Array.getElem?_eq_none h'] at h1
      have hap := hfree j Oj hOj hji hjun hnot
      obtain ⟨a1, a2, a3⟩ := Oper.apart_spec hap
      obtain ⟨_, hk⟩ := tmpsOk_spec hok
      obtain ⟨ti, di⟩ := hk i Oi oi (by simpa using hiO) hi
      obtain ⟨tj, dj⟩ := hk j Oj oj (by simpa using hOj) hLj
      have hyj' : YSem P st oj ρ u := ysem_congr (fun t ht => put_other (fun e => a1 t (by rw [← di]; exact e) (tj t ht))) hyj
      have hyi' : YSem P st oi (Env.put ρ oj.dst u) v := ysem_congr (fun t ht => (put_other (fun e => a3 t (by rw [← dj]; exact e) (ti t ht))).symm) hy
      refine ⟨oj, u, hLj, hyj', ih (listed.setIfInBounds j true) (Env.put ρ oj.dst u) (fun k Ok hk hki hun hno => ?_) (ready_mono hr (Ne.symm hji)) hyi' ?_⟩
      · refine hfree k Ok hk hki ?_ hno
        by_cases hjk : j = k
        · subst hjk; exact hjun
        · rw [getD_set_ne true hjk] at hun; exact hun
      · rw [Array.setIfInBounds_comm _ _ hji]
        refine anyD_eqv fuel _ _ _ (put_comm (fun x hx => ?_) v u) hrest
        rw [dj]
        exact a2 x (by rw [← di]; exact hx)
theorem anyD_lex {ops : Array Oper} {L : List POp} {ρ' : Env} (hok : tmpsOk ops ops.toList L = true) : ∀ (l : List Oper) (pl : List POp) (k : Nat) (listed : Array Bool) (ρ : Env), l.length = pl.length → (∀ j, l[j]? = ops[k + j]?) → (∀ j, pl[j]? = L[k + j]?) →
    Region.lexFrom .any ops l.length k listed = true → LexD P st pl ρ ρ' → anyD P st ops L ρ' l.length listed ρ
  | [], [], _, _, _, _, _, _, hB, h => ⟨by simpa [Region.lexFrom] using hB, fun t => by rw [show ρ' = _ from h]⟩
  | [], _ :: _, _, _, _, hl, _, _, _, _ => by cases hl
  | _ :: _, [], _, _, _, hl, _, _, _, _ => by cases hl
  | O :: l, o :: pl, k, listed, ρ, hlen, hl, hp, hB, h => by
    have h0 : ops[k]? = some O := by simpa using (hl 0).symm
    have h1 : L[k]? = some o := by simpa using (hp 0).symm
    simp only [List.length_cons, Region.lexFrom, Bool.and_eq_true] at hB
    obtain ⟨⟨hr, hf⟩, hB'⟩ := hB
    obtain ⟨p, hy, hrest⟩ := h
    exact anyD_first hok h1 h0 l.length listed ρ (Region.free_spec h0 hf) (by simpa using hr) hy
      (anyD_lex hok l pl (k + 1) _ _ (by simpa using hlen) (fun j => by have := hl (j + 1); simpa [Nat.add_assoc, Nat.add_comm 1 j] using this) (fun j => by have := hp (j + 1); simpa [Nat.add_assoc, Nat.add_comm 1 j] using this) hB' hrest)
end
section
variable {P : Program} {X : Cx} {st : St} {G : Gh} {n : Nat}
theorem cOps_get {ops : Array Oper} : ∀ {lo : List Oper} {l : List POp}, cOps P ops n lo = some l → lo.length = l.length ∧ ∀ (j : Nat) (O : Oper) (o : POp), lo[j]? = some O → l[j]? = some o → cPOp P ops n O = some o
  | [], l, h => by injection h with h; subst h; exact ⟨rfl, fun j O o h => by simp at h⟩
  | O :: lo, l, h => by
    simp only [cOps] at h
    split at h
    · rename_i p ps h1 h2
      injection h with h
      subst h
      obtain ⟨k1, k2⟩ := cOps_get h2
      refine ⟨by simp [k1], fun j O' o' hj hj' => ?_⟩
      cases j with
      | zero => simp at hj hj'; subst hj hj'; exact h1
      | succ j => exact k2 j O' o' (by simpa using hj) (by simpa using hj')
    · cases h
theorem cPOp_spec {ops : Array Oper} {O : Oper} {o : POp} (h : cPOp P ops n O = some o) : cGuard ops O.guard = some o.guard ∧ cOp P O.op = some o.op ∧ o.dst = O.dst ∧ dstOk n O.dst = true := by
  unfold cPOp at h
  split at h
  · rename_i g pi h1 h2
    split at h
    · rename_i h3
      injection h with h
      subst h
      exact ⟨h1, h2, rfl, h3⟩
    · cases h
  · cases h
theorem eqA_env {own : Nat → Prop} {w : World} {ρ ρ' : Env} {a : Act} (h : EnvRep G own w n ρ a) (he : EqA ρ ρ') : EnvRep G own w n ρ' a := ⟨h.defers, h.size, fun t p hp => h.reps t p (by rw [he t]; exact hp)⟩
theorem wpOp_ysem {ops : Array Oper} {w : World} {ρ : Env} {a : Act} (hI : Inv X st G w) (hE : EnvRep G (OwnF X st G) w n ρ a) {i : Nat} {O : Oper} {o : POp} (hO : ops[i]? = some O) (hc : cPOp P ops n O = some o) {p : PV} (hy : YSem P st o ρ p) {K : Act → World → Prop} {Q : Exit → Act → World → Prop}
    (hK : ∀ w' a', Inv X st G w' → EnvRep G (OwnF X st G) w' n (Env.put ρ o.dst p) a' → K a' w') : wpOp P ops Q i K a w := by
  obtain ⟨h1, h2, h3, h4⟩ := cPOp_spec hc
  unfold wpOp
  simp only [hO]
  rcases hy with ⟨hg, rfl⟩ | ⟨hg, hh⟩
  · rw [gd_wanted hE h1 hg]
    simp only [Bool.false_eq_true, if_false]
    rw [h3] at hK
    exact hK w _ hI (hE.put (dst_lt h4) undef_rep)
  · rw [gd_wanted hE h1 hg]
    simp only [if_true]
    refine .inl ?_
    rcases hh with hq | ⟨f, xs, g, caps, args, e1, e2, e3, e4⟩
    · obtain ⟨u, w', r1, r2, r3⟩ := (step_sound hI hE h2).1 p hq
      obtain ⟨m1, m2⟩ := inv_below hI r2
      unfold Oper.wp
      rw [r1, Oper.upon_value]
      rw [h3] at hK
      exact hK w' _ m1 ((m2.env hE).put (dst_lt h4) r3)
    · rw [e1] at h2
      exact wp_call hI hE h3.symm (by rw [h3]; exact h4) h2 e2 e3 e4 hK
theorem wpAny_of_anyD {ops : Array Oper} {L : List POp} {ρ' : Env} (hc : cOps P ops n ops.toList = some L) {Q : Exit → Act → World → Prop} (hQ : ∀ a w ρ, Inv X st G w → EnvRep G (OwnF X st G) w n ρ a → EqA ρ ρ' → Q .normal a w) :
    ∀ (fuel : Nat) (listed : Array Bool) (ρ : Env) (a : Act) (w : World), Inv X st G w → EnvRep G (OwnF X st G) w n ρ a → anyD P st ops L ρ' fuel listed ρ → wpAny P .any ops Q fuel listed a w
  | 0, _, ρ, a, w, hI, hE, h => ⟨h.1, hQ a w ρ hI hE h.2⟩
  | fuel + 1, listed, ρ, a, w, hI, hE, h => ⟨fun h0 => hQ a w ρ hI hE (h.1 h0), fun i hi => by
      obtain ⟨o, p, h1, h2, h3⟩ := h.2 i hi
      obtain ⟨_, O, hO, _⟩ := mem_ready.1 hi
      exact wpOp_ysem hI hE hO ((cOps_get hc).2 i O o (by simpa using hO) h1) h2 (fun w' a' hI' hE' => wpAny_of_anyD hc hQ fuel _ _ a' w' hI' hE' h3)⟩
theorem wp_drawn {id : Nat} {ops : Array Oper} {L : List POp} {w : World} {ρ ρ' : Env} {a : Act} {Q : Exit → Act → World → Prop} (hm : P.follows .mixedOrders = true) (hB : Region.lexB .any ops = true) (hok : tmpsOk ops ops.toList L = true) (hc : cOps P ops n ops.toList = some L)
    (hI : Inv X st G w) (hE : EnvRep G (OwnF X st G) w n ρ a) (hl : LexD P st L ρ ρ') (hQ : ∀ a w, Inv X st G w → EnvRep G (OwnF X st G) w n ρ' a → Q .normal a w) : (Code.region id ops true).wp P Q a w := by
  simp only [Region.lexB, Bool.and_eq_true] at hB
  have hd : Below w.heap.size w { w with drawn := w.drawn + 1 } := ⟨rfl, rfl, rfl, Nat.le_refl _, fun _ _ => rfl⟩
  obtain ⟨m1, m2⟩ := inv_below hI hd
  refine wp_region_any hm ?_
  have := anyD_lex (P := P) (st := st) hok ops.toList L 0 (Array.replicate ops.size false) ρ (by simpa using (tmpsOk_spec hok).1) (by simp) (by simp) (by simpa using hB.2) hl
  refine wpAny_of_anyD hc (fun a w ρ1 h1 h2 h3 => hQ a w h1 (eqA_env h2 h3)) _ _ ρ a _ m1 (m2.env hE) ?_
  simpa using this
end
theorem loud_congr {st : St} {ρ ρ' : Env} {pi : PI} (h : ∀ t ∈ pi.tmps, getA t ρ = getA t ρ') : loud st (Opd.ev ρ) pi = loud st (Opd.ev ρ') pi := by
  cases pi with
  | store n a x =>
    simp only [PI.tmps, List.mem_append] at h
    simp only [loud]; rw [ev_congr (fun t ht => h t (.inl ht)), ev_congr (fun t ht => h t (.inr ht))]
  | alloc cs => rfl
  | box x => simp only [loud]; rw [ev_congr h]
  | buildSl sz zero ps =>
    simp only [loud]
    have : (ps.map fun p => (p.1, Opd.ev ρ p.2)) = ps.map fun p => (p.1, Opd.ev ρ' p.2) := by
      apply List.map_congr_left
      intro p hp
      rw [ev_congr fun t ht => h t (List.mem_flatMap.2 ⟨p, hp, ht⟩)]
    rw [this]
  | makeSl sz z b l c =>
    simp only [PI.tmps, List.mem_append] at h
    simp only [loud]; rw [ev_congr (fun t ht => h t (.inl ht)), ev_congr (fun t ht => h t (.inr ht))]
  | appendZ sz b z s x =>
    simp only [PI.tmps, List.mem_append] at h
    simp only [loud]; rw [ev_congr (fun t ht => h t (.inl ht)), ev_congr (fun t ht => h t (.inr ht))]
  | append sz b z s x =>
    simp only [PI.tmps, List.mem_append] at h
    simp only [loud]; rw [ev_congr (fun t ht => h t (.inl ht)), ev_congr (fun t ht => h t (.inr ht))]
  | copy sz d s =>
    simp only [PI.tmps, List.mem_append] at h
    simp only [loud]; rw [ev_congr (fun t ht => h t (.inl ht)), ev_congr (fun t ht => h t (.inr ht))]
  | toBytes x => simp only [loud]; rw [ev_congr h]
  | mapPut m k x =>
    simp only [PI.tmps, List.mem_append] at h
    simp only [loud]; rw [ev_congr (fun t ht => h t (.inl ht)), ev_congr (fun t ht => h t (.inr (.inl ht))), ev_congr (fun t ht => h t (.inr (.inr ht)))]
  | _ => rfl
def LSem (P : Program) (st : St) (o : POp) (ρ : Env) (p : PV) (st1 : St) : Prop :=
  gd (getA · ρ) o.guard = some true ∧ (loud st (Opd.ev ρ) o.op = some (p, st1) ∨ ∃ f xs g caps q τ st2, o.op = .call f xs ∧ f.ev ρ = .func g caps ∧ Parts st q τ ∧ st2.base = st.next ∧ SemRaw P g (xs.map (Opd.ev ρ) ++ caps) (partSt st τ) p st2 ∧ st1 = joinSt st q st2)
def StepM (P : Program) (m : Nat) (A B : St) (k : Nat) (o : POp) (ρ : Env) (st : St) (p : PV) (st1 : St) : Prop :=
  (k ≠ m ∧ st1 = st ∧ (st = A ∨ st = B) ∧ YSem P A o ρ p ∧ YSem P B o ρ p) ∨ (k = m ∧ st = A ∧ st1 = B ∧ LSem P A o ρ p B)
def LexM (P : Program) (m : Nat) (A B : St) : Nat → List POp → Env → St → Env → St → Prop
  | k, [], ρ, st, ρ', st' => ρ' = ρ ∧ st' = st
  | k, o :: l, ρ, st, ρ', st' => ∃ p st1, StepM P m A B k o ρ st p st1 ∧ LexM P m A B (k + 1) l (Env.put ρ o.dst p) st1 ρ' st'
theorem stepM_congr {P : Program} {m k : Nat} {A B : St} {ρ ρ' : Env} {st : St} {o : POp} {p : PV} {st1 : St} (h : ∀ t ∈ o.tmps, getA t ρ = getA t ρ') (hy : StepM P m A B k o ρ st p st1) : StepM P m A B k o ρ' st p st1 := by
  have hg : gd (getA · ρ) o.guard = gd (getA · ρ') o.guard := gd_congr fun t w e => h t (by simp [POp.tmps, e])
  have ho : ∀ t ∈ o.op.tmps, getA t ρ = getA t ρ' := fun t ht => h t (by simp [POp.tmps, ht])
  rcases hy with ⟨hk, hs, hab, hy, hz⟩ | ⟨hk, hA, hB, h1, h2⟩
  · exact .inl ⟨hk, hs, hab, ysem_congr h hy, ysem_congr h hz⟩
  · refine .inr ⟨hk, hA, hB, by rw [← hg]; exact h1, ?_⟩
    rcases h2 with h2 | ⟨f, xs, g, caps, q, τ, st2, e1, e2, e3, e4, e5, e6⟩
    · exact .inl (by rw [← loud_congr ho]; exact h2)
    · rw [e1] at ho
      simp only [PI.tmps, List.mem_append] at ho
      have h3 : xs.map (Opd.ev ρ') = xs.map (Opd.ev ρ) := (evs_congr fun t ht => (ho t (.inr ht))).symm
      exact .inr ⟨f, xs, g, caps, q, τ, st2, e1, by rw [← ev_congr (fun t ht => ho t (.inl ht))]; exact e2, e3, e4, by rw [h3]; exact e5, e6⟩
theorem stepM_swap {P : Program} {m i j : Nat} {A B : St} (hij : i ≠ j) {oi oj : POp} {ρ ρ1 : Env} {st sti stij : St} {v u : PV} (hi : StepM P m A B i oi ρ st v sti) (hj : StepM P m A B j oj ρ1 sti u stij) :
    ∃ stj, StepM P m A B j oj ρ1 st u stj ∧ StepM P m A B i oi ρ stj v stij := by
  rcases hi with ⟨h1, rfl, h2, h3⟩ | ⟨h1, rfl, rfl, h2⟩
  · rcases hj with ⟨k1, rfl, k2, k3⟩ | ⟨k1, rfl, rfl, k2⟩
    · exact ⟨_, .inl ⟨k1, rfl, k2, k3⟩, .inl ⟨h1, rfl, h2, h3⟩⟩
    · exact ⟨stij, .inr ⟨k1, rfl, rfl, k2⟩, .inl ⟨h1, rfl, .inr rfl, h3⟩⟩
  · rcases hj with ⟨k1, rfl, k2, k3⟩ | ⟨k1, _, _, k2⟩
    · exact ⟨st, .inl ⟨k1, rfl, .inl rfl, k3⟩, .inr ⟨h1, rfl, rfl, h2⟩⟩
    · exact absurd (h1.trans k1.symm) hij
def anyM (P : Program) (m : Nat) (A B : St) (ops : Array Oper) (L : List POp) (ρ' : Env) (st' : St) : Nat → Array Bool → Env → St → Prop
  | 0, listed, ρ, st => Region.ready .any ops listed = [] ∧ EqA ρ ρ' ∧ st = st'
  | fuel + 1, listed, ρ, st => (Region.ready .any ops listed = [] → EqA ρ ρ' ∧ st = st') ∧ ∀ i ∈ Region.ready .any ops listed, ∃ o p st1, L[i]? = some o ∧ StepM P m A B i o ρ st p st1 ∧ anyM P m A B ops L ρ' st' fuel (listed.setIfInBounds i true) (Env.put ρ o.dst p) st1
section
variable {P : Program} {m : Nat} {A B : St} {ops : Array Oper} {L : List POp} {ρ' : Env} {st' : St}
theorem anyM_eqv : ∀ (fuel : Nat) (listed : Array Bool) (ρ ρ1 : Env) (st : St), EqA ρ ρ1 → anyM P m A B ops L ρ' st' fuel listed ρ st → anyM P m A B ops L ρ' st' fuel listed ρ1 st
  | 0, listed, ρ, ρ1, st, he, h => ⟨h.1, fun t => (he t).symm.trans (h.2.1 t), h.2.2⟩
  | fuel + 1, listed, ρ, ρ1, st, he, h => ⟨fun hr => ⟨fun t => (he t).symm.trans ((h.1 hr).1 t), (h.1 hr).2⟩, fun i hi => by
      obtain ⟨o, p, st1, h1, h2, h3⟩ := h.2 i hi
      exact ⟨o, p, st1, h1, stepM_congr (fun t _ => he t) h2, anyM_eqv fuel _ _ _ _ (he.put _ _) h3⟩⟩
theorem anyM_first (hok : tmpsOk ops ops.toList L = true) {i : Nat} {oi : POp} {Oi : Oper} {v : PV} (hi : L[i]? = some oi) (hiO : ops[i]? = some Oi) :
    ∀ (fuel : Nat) (listed : Array Bool) (ρ : Env) (st st1 : St),
      (∀ j Oj, ops[j]? = some Oj → j ≠ i → listed.getD j true = false → (∀ e ∈ Oj.after, Region.binds .any e = true → e.on ≠ i) → Oi.apart ops Oj = true) →
      i ∈ Region.ready .any ops listed → StepM P m A B i oi ρ st v st1 → anyM P m A B ops L ρ' st' fuel (listed.setIfInBounds i true) (Env.put ρ oi.dst v) st1 → anyM P m A B ops L ρ' st' (fuel + 1) listed ρ st := by
  intro fuel
  induction fuel with
  | zero =>
    intro listed ρ st st1 _ hr hy H
    refine ⟨fun h => (by rw [h] at hr; cases hr), fun j hj => ?_⟩
    by_cases hji : j = i
    · subst hji; exact ⟨oi, v, st1, hi, hy, H⟩
    · have := ready_mono hj hji
      rw [H.1] at this
      cases this
  | succ fuel ih =>
    intro listed ρ st st1 hfree hr hy H
    refine ⟨fun h => (by rw [h] at hr; cases hr), fun j hj => ?_⟩
    by_cases hji : j = i
    · subst hji; exact ⟨oi, v, st1, hi, hy, H⟩
    · obtain ⟨oj, u, st2, hLj, hyj, hrest⟩ := H.2 j (ready_mono hj hji)
      obtain ⟨hjun, Oj, hOj, hall⟩ := mem_ready.1 hj
      have hnot : ∀ e ∈ Oj.after, Region.binds .any e = true → e.on ≠ i := fun e he hb heq => by
        have h1 := hall e he hb
        have h0 := (mem_ready.1 hr).1
        rw [heq] at h1
        rcases Nat.lt_or_ge i listed.size with h' | h'
        · simp [h'] at h0 h1; rw [h0] at h1; cases h1
        · simp [Array.getElem?_eq_none h'] at h1
      have hap := hfree j Oj hOj hji hjun hnot
      obtain ⟨a1, a2, a3⟩ := Oper.apart_spec hap
      obtain ⟨_, hk⟩ := tmpsOk_spec hok
      obtain ⟨ti, di⟩ := hk i Oi oi (by simpa using hiO) hi
      obtain ⟨tj, dj⟩ := hk j Oj oj (by simpa using hOj) hLj
      obtain ⟨stj, hyj0, hyi0⟩ := stepM_swap (Ne.symm hji) hy hyj
      have hyj' : StepM P m A B j oj ρ st u stj := stepM_congr (fun t ht => put_other (fun e => a1 t (by rw [← di]; exact e) (tj t ht))) hyj0
      have hyi' : StepM P m A B i oi (Env.put ρ oj.dst u) stj v st2 := stepM_congr (fun t ht => (put_other (fun e => a3 t (by rw [← dj]; exact e) (ti t ht))).symm) hyi0
      refine ⟨oj, u, stj, hLj, hyj', ih (listed.setIfInBounds j true) (Env.put ρ oj.dst u) stj st2 (fun k Ok hk hki hun hno => ?_) (ready_mono hr (Ne.symm hji)) hyi' ?_⟩
      · refine hfree k Ok hk hki ?_ hno
        by_cases hjk : j = k
        · subst hjk; exact hjun
        · rw [getD_set_ne true hjk] at hun; exact hun
      · rw [Array.setIfInBounds_comm _ _ hji]
        refine anyM_eqv fuel _ _ _ _ (put_comm (fun x hx => ?_) v u) hrest
        rw [dj]
        exact a2 x (by rw [← di]; exact hx)
theorem anyM_lex (hok : tmpsOk ops ops.toList L = true) : ∀ (l : List Oper) (pl : List POp) (k : Nat) (listed : Array Bool) (ρ : Env) (st : St), l.length = pl.length → (∀ j, l[j]? = ops[k + j]?) → (∀ j, pl[j]? = L[k + j]?) →
    Region.lexFrom .any ops l.length k listed = true → LexM P m A B k pl ρ st ρ' st' → anyM P m A B ops L ρ' st' l.length listed ρ st
  | [], [], _, _, _, _, _, _, _, hB, h => ⟨by simpa [Region.lexFrom] using hB, fun t => by rw [show ρ' = _ from h.1], h.2.symm⟩
  | [], _ :: _, _, _, _, _, hl, _, _, _, _ => by cases hl
  | _ :: _, [], _, _, _, _, hl, _, _, _, _ => by cases hl
  | O :: l, o :: pl, k, listed, ρ, st, hlen, hl, hp, hB, h => by
    have h0 : ops[k]? = some O := by simpa using (hl 0).symm
    have h1 : L[k]? = some o := by simpa using (hp 0).symm
    simp only [List.length_cons, Region.lexFrom, Bool.and_eq_true] at hB
    obtain ⟨⟨hr, hf⟩, hB'⟩ := hB
    obtain ⟨p, st1, hy, hrest⟩ := h
    exact anyM_first hok h1 h0 l.length listed ρ st st1 (Region.free_spec h0 hf) (by simpa using hr) hy
      (anyM_lex hok l pl (k + 1) _ _ _ (by simpa using hlen) (fun j => by have := hl (j + 1); simpa [Nat.add_assoc, Nat.add_comm 1 j] using this) (fun j => by have := hp (j + 1); simpa [Nat.add_assoc, Nat.add_comm 1 j] using this) hB' hrest)
end
section
variable {P : Program} {X : Cx} {n : Nat}
theorem wpOp_stepM {m : Nat} {A B : St} {st st1 : St} {G : Gh} {ops : Array Oper} {w : World} {ρ : Env} {a : Act} (hI : Inv X st G w) (hE : EnvRep G (OwnF X st G) w n ρ a) {i : Nat} {O : Oper} {o : POp} (hO : ops[i]? = some O) (hc : cPOp P ops n O = some o) {p : PV} (hy : StepM P m A B i o ρ st p st1) {K : Act → World → Prop} {Q : Exit → Act → World → Prop}
    (hK : After X n st1 (Env.put ρ o.dst p) K) : wpOp P ops Q i K a w := by
  rcases hy with ⟨_, rfl, hab, hy, hz⟩ | ⟨_, rfl, rfl, hg, hh⟩
  · exact wpOp_ysem hI hE hO hc (by rcases hab with rfl | rfl; exact hy; exact hz) fun w' a' h1 h2 => hK G w' a' h1 h2
  · obtain ⟨h1, h2, h3, h4⟩ := cPOp_spec hc
    unfold wpOp
    simp only [hO]
    rw [gd_wanted hE h1 hg]
    simp only [if_true]
    refine .inl ?_
    rcases hh with hq | ⟨f, xs, g, caps, q, τ, st2, e1, e2, e3, e4, e5, rfl⟩
    · exact wp_lok hE h3.symm (by rw [h3]; exact h4) ((step_sound hI hE h2).2 p st1 hq) hK
    · rw [e1] at h2
      exact wp_raw hI hE h3.symm (by rw [h3]; exact h4) h2 e2 e3 e4 e5 hK
theorem wpAny_of_anyM {m : Nat} {A B : St} {ops : Array Oper} {L : List POp} {ρ' : Env} {st' : St} (hc : cOps P ops n ops.toList = some L) {Q : Exit → Act → World → Prop} (hQ : ∀ G a w ρ, Inv X st' G w → EnvRep G (OwnF X st' G) w n ρ a → EqA ρ ρ' → Q .normal a w) :
    ∀ (fuel : Nat) (listed : Array Bool) (ρ : Env) (st : St) (G : Gh) (a : Act) (w : World), Inv X st G w → EnvRep G (OwnF X st G) w n ρ a → anyM P m A B ops L ρ' st' fuel listed ρ st → wpAny P .any ops Q fuel listed a w
  | 0, _, ρ, st, G, a, w, hI, hE, h => by
    obtain ⟨h1, h2, rfl⟩ := h
    exact ⟨h1, hQ G a w ρ hI hE h2⟩
  | fuel + 1, listed, ρ, st, G, a, w, hI, hE, h => ⟨fun h0 => by
      obtain ⟨h2, rfl⟩ := h.1 h0
      exact hQ G a w ρ hI hE h2, fun i hi => by
      obtain ⟨o, p, st1, h1, h2, h3⟩ := h.2 i hi
      obtain ⟨_, O, hO, _⟩ := mem_ready.1 hi
      exact wpOp_stepM hI hE hO ((cOps_get hc).2 i O o (by simpa using hO) h1) h2 (fun G' w' a' hI' hE' => wpAny_of_anyM hc hQ fuel _ _ _ G' a' w' hI' hE' h3)⟩
theorem wp_drawnL {m : Nat} {A B : St} {st st' : St} {G : Gh} {id : Nat} {ops : Array Oper} {L : List POp} {w : World} {ρ ρ' : Env} {a : Act} {Q : Exit → Act → World → Prop} (hm : P.follows .mixedOrders = true) (hB : Region.lexB .any ops = true) (hok : tmpsOk ops ops.toList L = true) (hc : cOps P ops n ops.toList = some L)
    (hI : Inv X st G w) (hE : EnvRep G (OwnF X st G) w n ρ a) (hl : LexM P m A B 0 L ρ st ρ' st') (hQ : ∀ G a w, Inv X st' G w → EnvRep G (OwnF X st' G) w n ρ' a → Q .normal a w) : (Code.region id ops true).wp P Q a w := by
  simp only [Region.lexB, Bool.and_eq_true] at hB
  have hd : Below w.heap.size w { w with drawn := w.drawn + 1 } := ⟨rfl, rfl, rfl, Nat.le_refl _, fun _ _ => rfl⟩
  obtain ⟨m1, m2⟩ := inv_below hI hd
  refine wp_region_any hm ?_
  have := anyM_lex (P := P) (m := m) (A := A) (B := B) (ρ' := ρ') (st' := st') hok ops.toList L 0 (Array.replicate ops.size false) ρ st (by simpa using (tmpsOk_spec hok).1) (by simp) (by simp) (by simpa using hB.2) hl
  refine wpAny_of_anyM (m := m) (A := A) (B := B) hc (fun G a w ρ1 h1 h2 h3 => hQ G a w h1 (eqA_env h2 h3)) _ _ ρ st G a _ m1 (m2.env hE) ?_
  simpa using this
end
def StepM2 (P : Program) (m1 m2 d : Nat) (A B C : St) (k : Nat) (o : POp) (ρ : Env) (st : St) (p : PV) (st1 : St) : Prop :=
  (k ≠ m1 ∧ k ≠ m2 ∧ st1 = st ∧ (st = A ∨ st = B ∨ st = C) ∧ ∀ s, s = A ∨ s = B ∨ s = C → YSem P s o ρ p) ∨ (k = m1 ∧ st = A ∧ st1 = B ∧ o.dst = some d ∧ LSem P A o ρ p B) ∨ (k = m2 ∧ st = B ∧ st1 = C ∧ d ∈ o.tmps ∧ LSem P B o ρ p C)
def LexM2 (P : Program) (m1 m2 d : Nat) (A B C : St) : Nat → List POp → Env → St → Env → St → Prop
  | k, [], ρ, st, ρ', st' => ρ' = ρ ∧ st' = st
  | k, o :: l, ρ, st, ρ', st' => ∃ p st1, StepM2 P m1 m2 d A B C k o ρ st p st1 ∧ LexM2 P m1 m2 d A B C (k + 1) l (Env.put ρ o.dst p) st1 ρ' st'
theorem lsem_congr {P : Program} {A B : St} {ρ ρ' : Env} {o : POp} {p : PV} (h : ∀ t ∈ o.tmps, getA t ρ = getA t ρ') (hy : LSem P A o ρ p B) : LSem P A o ρ' p B := by
  have hg : gd (getA · ρ) o.guard = gd (getA · ρ') o.guard := gd_congr fun t w e => h t (by simp [POp.tmps, e])
  have ho : ∀ t ∈ o.op.tmps, getA t ρ = getA t ρ' := fun t ht => h t (by simp [POp.tmps, ht])
  obtain ⟨h1, h2⟩ := hy
  refine ⟨by rw [← hg]; exact h1, ?_⟩
  rcases h2 with h2 | ⟨f, xs, g, caps, q, τ, st2, e1, e2, e3, e4, e5, e6⟩
  · exact .inl (by rw [← loud_congr ho]; exact h2)
  · rw [e1] at ho
    simp only [PI.tmps, List.mem_append] at ho
    have h3 : xs.map (Opd.ev ρ') = xs.map (Opd.ev ρ) := (evs_congr fun t ht => (ho t (.inr ht))).symm
    exact .inr ⟨f, xs, g, caps, q, τ, st2, e1, by rw [← ev_congr (fun t ht => ho t (.inl ht))]; exact e2, e3, e4, by rw [h3]; exact e5, e6⟩
theorem stepM2_congr {P : Program} {m1 m2 d k : Nat} {A B C : St} {ρ ρ' : Env} {st : St} {o : POp} {p : PV} {st1 : St} (h : ∀ t ∈ o.tmps, getA t ρ = getA t ρ') (hy : StepM2 P m1 m2 d A B C k o ρ st p st1) : StepM2 P m1 m2 d A B C k o ρ' st p st1 := by
  rcases hy with ⟨h1, h2, h3, h4, h5⟩ | ⟨h1, h2, h3, h4, h5⟩ | ⟨h1, h2, h3, h4, h5⟩
  · exact .inl ⟨h1, h2, h3, h4, fun s hs => ysem_congr h (h5 s hs)⟩
  · exact .inr (.inl ⟨h1, h2, h3, h4, lsem_congr h h5⟩)
  · exact .inr (.inr ⟨h1, h2, h3, h4, lsem_congr h h5⟩)
theorem stepM2_swap {P : Program} {m1 m2 d i j : Nat} {A B C : St} (hij : i ≠ j) (n1 : ¬ (i = m1 ∧ j = m2)) (n2 : ¬ (i = m2 ∧ j = m1)) {oi oj : POp} {ρ ρ1 : Env} {st sti stij : St} {v u : PV} (hi : StepM2 P m1 m2 d A B C i oi ρ st v sti) (hj : StepM2 P m1 m2 d A B C j oj ρ1 sti u stij) :
    ∃ stj, StepM2 P m1 m2 d A B C j oj ρ1 st u stj ∧ StepM2 P m1 m2 d A B C i oi ρ stj v stij := by
  rcases hi with ⟨a1, a2, rfl, a3, a4⟩ | ⟨a1, rfl, rfl, a2, a3⟩ | ⟨a1, rfl, rfl, a2, a3⟩
  · rcases hj with ⟨b1, b2, rfl, b3, b4⟩ | ⟨b1, rfl, rfl, b2, b3⟩ | ⟨b1, rfl, rfl, b2, b3⟩
    · exact ⟨_, .inl ⟨b1, b2, rfl, b3, b4⟩, .inl ⟨a1, a2, rfl, a3, a4⟩⟩
    · exact ⟨_, .inr (.inl ⟨b1, rfl, rfl, b2, b3⟩), .inl ⟨a1, a2, rfl, .inr (.inl rfl), a4⟩⟩
    · exact ⟨_, .inr (.inr ⟨b1, rfl, rfl, b2, b3⟩), .inl ⟨a1, a2, rfl, .inr (.inr rfl), a4⟩⟩
  · rcases hj with ⟨b1, b2, rfl, b3, b4⟩ | ⟨b1, _, _, b2, b3⟩ | ⟨b1, _, _, b2, b3⟩
    · exact ⟨_, .inl ⟨b1, b2, rfl, .inl rfl, b4⟩, .inr (.inl ⟨a1, rfl, rfl, a2, a3⟩)⟩
    · exact absurd (a1.trans b1.symm) hij
    · exact absurd ⟨a1, b1⟩ n1
  · rcases hj with ⟨b1, b2, rfl, b3, b4⟩ | ⟨b1, _, _, b2, b3⟩ | ⟨b1, _, _, b2, b3⟩
    · exact ⟨_, .inl ⟨b1, b2, rfl, .inr (.inl rfl), b4⟩, .inr (.inr ⟨a1, rfl, rfl, a2, a3⟩)⟩
    · exact absurd ⟨a1, b1⟩ n2
    · exact absurd (a1.trans b1.symm) hij
def anyM2 (P : Program) (m1 m2 d : Nat) (A B C : St) (ops : Array Oper) (L : List POp) (ρ' : Env) (st' : St) : Nat → Array Bool → Env → St → Prop
  | 0, listed, ρ, st => Region.ready .any ops listed = [] ∧ EqA ρ ρ' ∧ st = st'
  | fuel + 1, listed, ρ, st => (Region.ready .any ops listed = [] → EqA ρ ρ' ∧ st = st') ∧ ∀ i ∈ Region.ready .any ops listed, ∃ o p st1, L[i]? = some o ∧ StepM2 P m1 m2 d A B C i o ρ st p st1 ∧ anyM2 P m1 m2 d A B C ops L ρ' st' fuel (listed.setIfInBounds i true) (Env.put ρ o.dst p) st1
section
variable {P : Program} {m1 m2 d : Nat} {A B C : St} {ops : Array Oper} {L : List POp} {ρ' : Env} {st' : St}
theorem anyM2_eqv : ∀ (fuel : Nat) (listed : Array Bool) (ρ ρ1 : Env) (st : St), EqA ρ ρ1 → anyM2 P m1 m2 d A B C ops L ρ' st' fuel listed ρ st → anyM2 P m1 m2 d A B C ops L ρ' st' fuel listed ρ1 st
  | 0, listed, ρ, ρ1, st, he, h => ⟨h.1, fun t => (he t).symm.trans (h.2.1 t), h.2.2⟩
  | fuel + 1, listed, ρ, ρ1, st, he, h => ⟨fun hr => ⟨fun t => (he t).symm.trans ((h.1 hr).1 t), (h.1 hr).2⟩, fun i hi => by
      obtain ⟨o, p, st1, h1, h2, h3⟩ := h.2 i hi
      exact ⟨o, p, st1, h1, stepM2_congr (fun t _ => he t) h2, anyM2_eqv fuel _ _ _ _ (he.put _ _) h3⟩⟩
theorem anyM2_first (hok : tmpsOk ops ops.toList L = true) {i : Nat} {oi : POp} {Oi : Oper} {v : PV} (hi : L[i]? = some oi) (hiO : ops[i]? = some Oi) :
    ∀ (fuel : Nat) (listed : Array Bool) (ρ : Env) (st st1 : St),
      (∀ j Oj, ops[j]? = some Oj → j ≠ i → listed.getD j true = false → (∀ e ∈ Oj.after, Region.binds .any e = true → e.on ≠ i) → Oi.apart ops Oj = true) → (i = m2 → listed.getD m1 true = true) →
      i ∈ Region.ready .any ops listed → StepM2 P m1 m2 d A B C i oi ρ st v st1 → anyM2 P m1 m2 d A B C ops L ρ' st' fuel (listed.setIfInBounds i true) (Env.put ρ oi.dst v) st1 → anyM2 P m1 m2 d A B C ops L ρ' st' (fuel + 1) listed ρ st := by
  intro fuel
  induction fuel with
  | zero =>
    intro listed ρ st st1 _ _ hr hy H
    refine ⟨fun h => (by rw [h] at hr; cases hr), fun j hj => ?_⟩
    by_cases hji : j = i
    · subst hji; exact ⟨oi, v, st1, hi, hy, H⟩
    · have := ready_mono hj hji
      rw [H.1] at this
      cases this
  | succ fuel ih =>
    intro listed ρ st st1 hfree hlm hr hy H
    refine ⟨fun h => (by rw [h] at hr; cases hr), fun j hj => ?_⟩
    by_cases hji : j = i
    · subst hji; exact ⟨oi, v, st1, hi, hy, H⟩
    · obtain ⟨oj, u, st2, hLj, hyj, hrest⟩ := H.2 j (ready_mono hj hji)
      obtain ⟨hjun, Oj, hOj, hall⟩ := mem_ready.1 hj
      have hnot : ∀ e ∈ Oj.after, Region.binds .any e = true → e.on ≠ i := fun e he hb heq => by
        have h1 := hall e he hb
        have h0 := (mem_ready.1 hr).1
        rw [heq] at h1
        rcases Nat.lt_or_ge i listed.size with h' | h'
        · simp [h'] at h0 h1; rw [h0] at h1; cases h1
        · simp [Array.getElem?_eq_none h'] at h1
      have hap := hfree j Oj hOj hji hjun hnot
      obtain ⟨a1, a2, a3⟩ := Oper.apart_spec hap
      obtain ⟨_, hk⟩ := tmpsOk_spec hok
      obtain ⟨ti, di⟩ := hk i Oi oi (by simpa using hiO) hi
      obtain ⟨tj, dj⟩ := hk j Oj oj (by simpa using hOj) hLj
      have n2 : ¬ (i = m2 ∧ j = m1) := fun ⟨e1, e2⟩ => by
        have := hlm e1
        rw [← e2, hjun] at this
        cases this
      have n1 : ¬ (i = m1 ∧ j = m2) := fun ⟨e1, e2⟩ => by
        have hdi : oi.dst = some d := by
          rcases hy with ⟨h, _⟩ | ⟨_, _, _, h, _⟩ | ⟨h, _⟩
          · exact absurd e1 h
          · exact h
          · exact absurd (e2.trans h.symm) hji
        have hdj : d ∈ oj.tmps := by
          rcases hyj with ⟨_, h, _⟩ | ⟨h, _⟩ | ⟨_, _, _, h, _⟩
          · exact absurd e2 h
          · exact absurd (h.trans e1.symm) hji
          · exact h
        exact a1 d (by rw [← di]; exact hdi) (tj d hdj)
      obtain ⟨stj, hyj0, hyi0⟩ := stepM2_swap (Ne.symm hji) n1 n2 hy hyj
      have hyj' : StepM2 P m1 m2 d A B C j oj ρ st u stj := stepM2_congr (fun t ht => put_other (fun e => a1 t (by rw [← di]; exact e) (tj t ht))) hyj0
      have hyi' : StepM2 P m1 m2 d A B C i oi (Env.put ρ oj.dst u) stj v st2 := stepM2_congr (fun t ht => (put_other (fun e => a3 t (by rw [← dj]; exact e) (ti t ht))).symm) hyi0
      refine ⟨oj, u, stj, hLj, hyj', ih (listed.setIfInBounds j true) (Env.put ρ oj.dst u) stj st2 (fun k Ok hk hki hun hno => ?_) (fun e => ?_) (ready_mono hr (Ne.symm hji)) hyi' ?_⟩
      · refine hfree k Ok hk hki ?_ hno
        by_cases hjk : j = k
        · subst hjk; exact hjun
        · rw [getD_set_ne true hjk] at hun; exact hun
      · rw [getD_set_ne true (fun e2 => n2 ⟨e, e2⟩)]; exact hlm e
      · rw [Array.setIfInBounds_comm _ _ hji]
        refine anyM2_eqv fuel _ _ _ _ (put_comm (fun x hx => ?_) v u) hrest
        rw [dj]
        exact a2 x (by rw [← di]; exact hx)
theorem anyM2_lex (hm : m1 < m2) (hok : tmpsOk ops ops.toList L = true) : ∀ (l : List Oper) (pl : List POp) (k : Nat) (listed : Array Bool) (ρ : Env) (st : St), l.length = pl.length → (∀ j, l[j]? = ops[k + j]?) → (∀ j, pl[j]? = L[k + j]?) → (∀ t, t < k → listed.getD t true = true) →
    Region.lexFrom .any ops l.length k listed = true → LexM2 P m1 m2 d A B C k pl ρ st ρ' st' → anyM2 P m1 m2 d A B C ops L ρ' st' l.length listed ρ st
  | [], [], _, _, _, _, _, _, _, _, hB, h => ⟨by simpa [Region.lexFrom] using hB, fun t => by rw [show ρ' = _ from h.1], h.2.symm⟩
  | [], _ :: _, _, _, _, _, hl, _, _, _, _, _ => by cases hl
  | _ :: _, [], _, _, _, _, hl, _, _, _, _, _ => by cases hl
  | O :: l, o :: pl, k, listed, ρ, st, hlen, hl, hp, hls, hB, h => by
    have h0 : ops[k]? = some O := by simpa using (hl 0).symm
    have h1 : L[k]? = some o := by simpa using (hp 0).symm
    simp only [List.length_cons, Region.lexFrom, Bool.and_eq_true] at hB
    obtain ⟨⟨hr, hf⟩, hB'⟩ := hB
    obtain ⟨p, st1, hy, hrest⟩ := h
    exact anyM2_first hok h1 h0 l.length listed ρ st st1 (Region.free_spec h0 hf) (fun e => hls m1 (by omega)) (by simpa using hr) hy
      (anyM2_lex hm hok l pl (k + 1) _ _ _ (by simpa using hlen) (fun j => by have := hl (j + 1); simpa [Nat.add_assoc, Nat.add_comm 1 j] using this) (fun j => by have := hp (j + 1); simpa [Nat.add_assoc, Nat.add_comm 1 j] using this) (fun t ht => by
        by_cases htk : k = t
        · subst htk
          simp only [Array.getD_eq_getD_getElem?, Array.getElem?_setIfInBounds]
          by_cases hs : k < listed.size
          · simp [hs]
          · simp [hs]
        · rw [getD_set_ne true htk]; exact hls t (by omega)) hB' hrest)
end
section
variable {P : Program} {X : Cx} {n : Nat}
theorem wpOp_lsem {st st1 : St} {G : Gh} {ops : Array Oper} {w : World} {ρ : Env} {a : Act} (hI : Inv X st G w) (hE : EnvRep G (OwnF X st G) w n ρ a) {i : Nat} {O : Oper} {o : POp} (hO : ops[i]? = some O) (hc : cPOp P ops n O = some o) {p : PV} (hy : LSem P st o ρ p st1) {K : Act → World → Prop} {Q : Exit → Act → World → Prop}
    (hK : After X n st1 (Env.put ρ o.dst p) K) : wpOp P ops Q i K a w := by
  obtain ⟨hg, hh⟩ := hy
  obtain ⟨h1, h2, h3, h4⟩ := cPOp_spec hc
  unfold wpOp
  simp only [hO]
  rw [gd_wanted hE h1 hg]
  simp only [if_true]
  refine .inl ?_
  rcases hh with hq | ⟨f, xs, g, caps, q, τ, st2, e1, e2, e3, e4, e5, rfl⟩
  · exact wp_lok hE h3.symm (by rw [h3]; exact h4) ((step_sound hI hE h2).2 p st1 hq) hK
  · rw [e1] at h2
    exact wp_raw hI hE h3.symm (by rw [h3]; exact h4) h2 e2 e3 e4 e5 hK
theorem wpOp_stepM2 {m1 m2 d : Nat} {A B C : St} {st st1 : St} {G : Gh} {ops : Array Oper} {w : World} {ρ : Env} {a : Act} (hI : Inv X st G w) (hE : EnvRep G (OwnF X st G) w n ρ a) {i : Nat} {O : Oper} {o : POp} (hO : ops[i]? = some O) (hc : cPOp P ops n O = some o) {p : PV} (hy : StepM2 P m1 m2 d A B C i o ρ st p st1) {K : Act → World → Prop} {Q : Exit → Act → World → Prop}
    (hK : After X n st1 (Env.put ρ o.dst p) K) : wpOp P ops Q i K a w := by
  rcases hy with ⟨_, _, rfl, hab, hy⟩ | ⟨_, rfl, rfl, _, hy⟩ | ⟨_, rfl, rfl, _, hy⟩
  · exact wpOp_ysem hI hE hO hc (hy _ hab) fun w' a' h1 h2 => hK G w' a' h1 h2
  · exact wpOp_lsem hI hE hO hc hy hK
  · exact wpOp_lsem hI hE hO hc hy hK
theorem wpAny_of_anyM2 {m1 m2 d : Nat} {A B C : St} {ops : Array Oper} {L : List POp} {ρ' : Env} {st' : St} (hc : cOps P ops n ops.toList = some L) {Q : Exit → Act → World → Prop} (hQ : ∀ G a w ρ, Inv X st' G w → EnvRep G (OwnF X st' G) w n ρ a → EqA ρ ρ' → Q .normal a w) :
    ∀ (fuel : Nat) (listed : Array Bool) (ρ : Env) (st : St) (G : Gh) (a : Act) (w : World), Inv X st G w → EnvRep G (OwnF X st G) w n ρ a → anyM2 P m1 m2 d A B C ops L ρ' st' fuel listed ρ st → wpAny P .any ops Q fuel listed a w
  | 0, _, ρ, st, G, a, w, hI, hE, h => by
    obtain ⟨h1, h2, rfl⟩ := h
    exact ⟨h1, hQ G a w ρ hI hE h2⟩
  | fuel + 1, listed, ρ, st, G, a, w, hI, hE, h => ⟨fun h0 => by
      obtain ⟨h2, rfl⟩ := h.1 h0
      exact hQ G a w ρ hI hE h2, fun i hi => by
      obtain ⟨o, p, st1, h1, h2, h3⟩ := h.2 i hi
      obtain ⟨_, O, hO, _⟩ := mem_ready.1 hi
      exact wpOp_stepM2 hI hE hO ((cOps_get hc).2 i O o (by simpa using hO) h1) h2 (fun G' w' a' hI' hE' => wpAny_of_anyM2 hc hQ fuel _ _ _ G' a' w' hI' hE' h3)⟩
theorem wp_drawnL2 {m1 m2 d : Nat} (hm12 : m1 < m2) {A B C : St} {st st' : St} {G : Gh} {id : Nat} {ops : Array Oper} {L : List POp} {w : World} {ρ ρ' : Env} {a : Act} {Q : Exit → Act → World → Prop} (hm : P.follows .mixedOrders = true) (hB : Region.lexB .any ops = true) (hok : tmpsOk ops ops.toList L = true) (hc : cOps P ops n ops.toList = some L)
    (hI : Inv X st G w) (hE : EnvRep G (OwnF X st G) w n ρ a) (hl : LexM2 P m1 m2 d A B C 0 L ρ st ρ' st') (hQ : ∀ G a w, Inv X st' G w → EnvRep G (OwnF X st' G) w n ρ' a → Q .normal a w) : (Code.region id ops true).wp P Q a w := by
  simp only [Region.lexB, Bool.and_eq_true] at hB
  have hd : Below w.heap.size w { w with drawn := w.drawn + 1 } := ⟨rfl, rfl, rfl, Nat.le_refl _, fun _ _ => rfl⟩
  obtain ⟨i1, i2⟩ := inv_below hI hd
  refine wp_region_any hm ?_
  have := anyM2_lex (P := P) (m1 := m1) (m2 := m2) (d := d) (A := A) (B := B) (C := C) (ρ' := ρ') (st' := st') hm12 hok ops.toList L 0 (Array.replicate ops.size false) ρ st (by simpa using (tmpsOk_spec hok).1) (by simp) (by simp) (fun t ht => by omega) (by simpa using hB.2) hl
  refine wpAny_of_anyM2 (m1 := m1) (m2 := m2) (d := d) (A := A) (B := B) (C := C) hc (fun G a w ρ1 h1 h2 h3 => hQ G a w h1 (eqA_env h2 h3)) _ _ ρ st G a _ i1 (i2.env hE) ?_
  simpa using this
end
def StepI (P : Program) (m1 m2 : Nat) (S : Bool → Bool → St) (k : Nat) (o : POp) (ρ : Env) (b c : Bool) (p : PV) (b1 c1 : Bool) : Prop :=
  (k ≠ m1 ∧ k ≠ m2 ∧ b1 = b ∧ c1 = c ∧ ∀ x y, YSem P (S x y) o ρ p) ∨ (k = m1 ∧ b = false ∧ b1 = true ∧ c1 = c ∧ ∀ y, LSem P (S false y) o ρ p (S true y)) ∨ (k = m2 ∧ c = false ∧ c1 = true ∧ b1 = b ∧ ∀ x, LSem P (S x false) o ρ p (S x true))
def LexI (P : Program) (m1 m2 : Nat) (S : Bool → Bool → St) : Nat → List POp → Env → Bool → Bool → Env → Bool → Bool → Prop
  | k, [], ρ, b, c, ρ', b', c' => ρ' = ρ ∧ b' = b ∧ c' = c
  | k, o :: l, ρ, b, c, ρ', b', c' => ∃ p b1 c1, StepI P m1 m2 S k o ρ b c p b1 c1 ∧ LexI P m1 m2 S (k + 1) l (Env.put ρ o.dst p) b1 c1 ρ' b' c'
theorem stepI_congr {P : Program} {m1 m2 k : Nat} {S : Bool → Bool → St} {ρ ρ' : Env} {b c b1 c1 : Bool} {o : POp} {p : PV} (h : ∀ t ∈ o.tmps, getA t ρ = getA t ρ') (hy : StepI P m1 m2 S k o ρ b c p b1 c1) : StepI P m1 m2 S k o ρ' b c p b1 c1 := by
  rcases hy with ⟨h1, h2, h3, h4, h5⟩ | ⟨h1, h2, h3, h4, h5⟩ | ⟨h1, h2, h3, h4, h5⟩
  · exact .inl ⟨h1, h2, h3, h4, fun x y => ysem_congr h (h5 x y)⟩
  · exact .inr (.inl ⟨h1, h2, h3, h4, fun y => lsem_congr h (h5 y)⟩)
  · exact .inr (.inr ⟨h1, h2, h3, h4, fun x => lsem_congr h (h5 x)⟩)
theorem stepI_swap {P : Program} {m1 m2 i j : Nat} {S : Bool → Bool → St} (hij : i ≠ j) {oi oj : POp} {ρ ρ1 : Env} {b c bi ci bij cij : Bool} {v u : PV} (hi : StepI P m1 m2 S i oi ρ b c v bi ci) (hj : StepI P m1 m2 S j oj ρ1 bi ci u bij cij) :
    ∃ bj cj, StepI P m1 m2 S j oj ρ1 b c u bj cj ∧ StepI P m1 m2 S i oi ρ bj cj v bij cij := by
  rcases hi with ⟨a1, a2, rfl, rfl, a4⟩ | ⟨a1, rfl, rfl, rfl, a3⟩ | ⟨a1, rfl, rfl, rfl, a3⟩
  · exact ⟨_, _, hj, .inl ⟨a1, a2, rfl, rfl, a4⟩⟩
  · rcases hj with ⟨b1, b2, rfl, rfl, b4⟩ | ⟨b1, _, _, _, _⟩ | ⟨b1, rfl, rfl, rfl, b3⟩
    · exact ⟨_, _, .inl ⟨b1, b2, rfl, rfl, b4⟩, .inr (.inl ⟨a1, rfl, rfl, rfl, a3⟩)⟩
    · exact absurd (a1.trans b1.symm) hij
    · exact ⟨_, _, .inr (.inr ⟨b1, rfl, rfl, rfl, b3⟩), .inr (.inl ⟨a1, rfl, rfl, rfl, a3⟩)⟩
  · rcases hj with ⟨b1, b2, rfl, rfl, b4⟩ | ⟨b1, rfl, rfl, rfl, b3⟩ | ⟨b1, _, _, _, _⟩
    · exact ⟨_, _, .inl ⟨b1, b2, rfl, rfl, b4⟩, .inr (.inr ⟨a1, rfl, rfl, rfl, a3⟩)⟩
    · exact ⟨_, _, .inr (.inl ⟨b1, rfl, rfl, rfl, b3⟩), .inr (.inr ⟨a1, rfl, rfl, rfl, a3⟩)⟩
    · exact absurd (a1.trans b1.symm) hij
def anyI (P : Program) (m1 m2 : Nat) (S : Bool → Bool → St) (ops : Array Oper) (L : List POp) (ρ' : Env) (b' c' : Bool) : Nat → Array Bool → Env → Bool → Bool → Prop
  | 0, listed, ρ, b, c => Region.ready .any ops listed = [] ∧ EqA ρ ρ' ∧ b = b' ∧ c = c'
  | fuel + 1, listed, ρ, b, c => (Region.ready .any ops listed = [] → EqA ρ ρ' ∧ b = b' ∧ c = c') ∧ ∀ i ∈ Region.ready .any ops listed, ∃ o p b1 c1, L[i]? = some o ∧ StepI P m1 m2 S i o ρ b c p b1 c1 ∧ anyI P m1 m2 S ops L ρ' b' c' fuel (listed.setIfInBounds i true) (Env.put ρ o.dst p) b1 c1
section
variable {P : Program} {m1 m2 : Nat} {S : Bool → Bool → St} {ops : Array Oper} {L : List POp} {ρ' : Env} {b' c' : Bool}
theorem anyI_eqv : ∀ (fuel : Nat) (listed : Array Bool) (ρ ρ1 : Env) (b c : Bool), EqA ρ ρ1 → anyI P m1 m2 S ops L ρ' b' c' fuel listed ρ b c → anyI P m1 m2 S ops L ρ' b' c' fuel listed ρ1 b c
  | 0, listed, ρ, ρ1, b, c, he, h => ⟨h.1, fun t => (he t).symm.trans (h.2.1 t), h.2.2⟩
  | fuel + 1, listed, ρ, ρ1, b, c, he, h => ⟨fun hr => ⟨fun t => (he t).symm.trans ((h.1 hr).1 t), (h.1 hr).2⟩, fun i hi => by
      obtain ⟨o, p, b1, c1, h1, h2, h3⟩ := h.2 i hi
      exact ⟨o, p, b1, c1, h1, stepI_congr (fun t _ => he t) h2, anyI_eqv fuel _ _ _ _ _ (he.put _ _) h3⟩⟩
theorem anyI_first (hok : tmpsOk ops ops.toList L = true) {i : Nat} {oi : POp} {Oi : Oper} {v : PV} (hi : L[i]? = some oi) (hiO : ops[i]? = some Oi) :
    ∀ (fuel : Nat) (listed : Array Bool) (ρ : Env) (b c b1 c1 : Bool),
      (∀ j Oj, ops[j]? = some Oj → j ≠ i → listed.getD j true = false → (∀ e ∈ Oj.after, Region.binds .any e = true → e.on ≠ i) → Oi.apart ops Oj = true) →
      i ∈ Region.ready .any ops listed → StepI P m1 m2 S i oi ρ b c v b1 c1 → anyI P m1 m2 S ops L ρ' b' c' fuel (listed.setIfInBounds i true) (Env.put ρ oi.dst v) b1 c1 → anyI P m1 m2 S ops L ρ' b' c' (fuel + 1) listed ρ b c := by
  intro fuel
  induction fuel with
  | zero =>
    intro listed ρ b c b1 c1 _ hr hy H
    refine ⟨fun h => (by rw [h] at hr; cases hr), fun j hj => ?_⟩
    by_cases hji : j = i
    · subst hji; exact ⟨oi, v, b1, c1, hi, hy, H⟩
    · have := ready_mono hj hji
      rw [H.1] at this
      cases this
  | succ fuel ih =>
    intro listed ρ b c b1 c1 hfree hr hy H
    refine ⟨fun h => (by rw [h] at hr; cases hr), fun j hj => ?_⟩
    by_cases hji : j = i
    · subst hji; exact ⟨oi, v, b1, c1, hi, hy, H⟩
    · obtain ⟨oj, u, b2, c2, hLj, hyj, hrest⟩ := H.2 j (ready_mono hj hji)
      obtain ⟨hjun, Oj, hOj, hall⟩ := mem_ready.1 hj
      have hnot : ∀ e ∈ Oj.after, Region.binds .any e = true → e.on ≠ i := fun e he hb heq => by
        have h1 := hall e he hb
        have h0 := (mem_ready.1 hr).1
        rw [heq] at h1
        rcases Nat.lt_or_ge i listed.size with h' | h'
        · simp [h'] at h0 h1; rw [h0] at h1; cases h1
        · simp [Array.getElem?_eq_none h'] at h1
      have hap := hfree j Oj hOj hji hjun hnot
      obtain ⟨a1, a2, a3⟩ := Oper.apart_spec hap
      obtain ⟨_, hk⟩ := tmpsOk_spec hok
      obtain ⟨ti, di⟩ := hk i Oi oi (by simpa using hiO) hi
      obtain ⟨tj, dj⟩ := hk j Oj oj (by simpa using hOj) hLj
      obtain ⟨bj, cj, hyj0, hyi0⟩ := stepI_swap (Ne.symm hji) hy hyj
      have hyj' : StepI P m1 m2 S j oj ρ b c u bj cj := stepI_congr (fun t ht => put_other (fun e => a1 t (by rw [← di]; exact e) (tj t ht))) hyj0
      have hyi' : StepI P m1 m2 S i oi (Env.put ρ oj.dst u) bj cj v b2 c2 := stepI_congr (fun t ht => (put_other (fun e => a3 t (by rw [← dj]; exact e) (ti t ht))).symm) hyi0
      refine ⟨oj, u, bj, cj, hLj, hyj', ih (listed.setIfInBounds j true) (Env.put ρ oj.dst u) bj cj b2 c2 (fun k Ok hk hki hun hno => ?_) (ready_mono hr (Ne.symm hji)) hyi' ?_⟩
      · refine hfree k Ok hk hki ?_ hno
        by_cases hjk : j = k
        · subst hjk; exact hjun
        · rw [getD_set_ne true hjk] at hun; exact hun
      · rw [Array.setIfInBounds_comm _ _ hji]
        refine anyI_eqv fuel _ _ _ _ _ (put_comm (fun x hx => ?_) v u) hrest
        rw [dj]
        exact a2 x (by rw [← di]; exact hx)
theorem anyI_lex (hok : tmpsOk ops ops.toList L = true) : ∀ (l : List Oper) (pl : List POp) (k : Nat) (listed : Array Bool) (ρ : Env) (b c : Bool), l.length = pl.length → (∀ j, l[j]? = ops[k + j]?) → (∀ j, pl[j]? = L[k + j]?) →
    Region.lexFrom .any ops l.length k listed = true → LexI P m1 m2 S k pl ρ b c ρ' b' c' → anyI P m1 m2 S ops L ρ' b' c' l.length listed ρ b c
  | [], [], _, _, _, _, _, _, _, _, hB, h => ⟨by simpa [Region.lexFrom] using hB, fun t => by rw [show ρ' = _ from h.1], h.2.1.symm, h.2.2.symm⟩
  | [], _ :: _, _, _, _, _, _, hl, _, _, _, _ => by cases hl
  | _ :: _, [], _, _, _, _, _, hl, _, _, _, _ => by cases hl
  | O :: l, o :: pl, k, listed, ρ, b, c, hlen, hl, hp, hB, h => by
    have h0 : ops[k]? = some O := by simpa using (hl 0).symm
    have h1 : L[k]? = some o := by simpa using (hp 0).symm
    simp only [List.length_cons, Region.lexFrom, Bool.and_eq_true] at hB
    obtain ⟨⟨hr, hf⟩, hB'⟩ := hB
    obtain ⟨p, b1, c1, hy, hrest⟩ := h
    exact anyI_first hok h1 h0 l.length listed ρ b c b1 c1 (Region.free_spec h0 hf) (by simpa using hr) hy
      (anyI_lex hok l pl (k + 1) _ _ _ _ (by simpa using hlen) (fun j => by have := hl (j + 1); simpa [Nat.add_assoc, Nat.add_comm 1 j] using this) (fun j => by have := hp (j + 1); simpa [Nat.add_assoc, Nat.add_comm 1 j] using this) hB' hrest)
end
section
variable {P : Program} {X : Cx} {n : Nat}
theorem wpOp_stepI {m1 m2 : Nat} {S : Bool → Bool → St} {b c b1 c1 : Bool} {G : Gh} {ops : Array Oper} {w : World} {ρ : Env} {a : Act} (hI : Inv X (S b c) G w) (hE : EnvRep G (OwnF X (S b c) G) w n ρ a) {i : Nat} {O : Oper} {o : POp} (hO : ops[i]? = some O) (hc : cPOp P ops n O = some o) {p : PV} (hy : StepI P m1 m2 S i o ρ b c p b1 c1) {K : Act → World → Prop} {Q : Exit → Act → World → Prop}
    (hK : After X n (S b1 c1) (Env.put ρ o.dst p) K) : wpOp P ops Q i K a w := by
  rcases hy with ⟨_, _, rfl, rfl, hy⟩ | ⟨_, rfl, rfl, rfl, hy⟩ | ⟨_, rfl, rfl, rfl, hy⟩
  · exact wpOp_ysem hI hE hO hc (hy _ _) fun w' a' h1 h2 => hK G w' a' h1 h2
  · exact wpOp_lsem hI hE hO hc (hy _) hK
  · exact wpOp_lsem hI hE hO hc (hy _) hK
theorem wpAny_of_anyI {m1 m2 : Nat} {S : Bool → Bool → St} {b' c' : Bool} {ops : Array Oper} {L : List POp} {ρ' : Env} (hc : cOps P ops n ops.toList = some L) {Q : Exit → Act → World → Prop} (hQ : ∀ G a w ρ, Inv X (S b' c') G w → EnvRep G (OwnF X (S b' c') G) w n ρ a → EqA ρ ρ' → Q .normal a w) :
    ∀ (fuel : Nat) (listed : Array Bool) (ρ : Env) (b c : Bool) (G : Gh) (a : Act) (w : World), Inv X (S b c) G w → EnvRep G (OwnF X (S b c) G) w n ρ a → anyI P m1 m2 S ops L ρ' b' c' fuel listed ρ b c → wpAny P .any ops Q fuel listed a w
  | 0, _, ρ, b, c, G, a, w, hI, hE, h => by
    obtain ⟨h1, h2, rfl, rfl⟩ := h
    exact ⟨h1, hQ G a w ρ hI hE h2⟩
  | fuel + 1, listed, ρ, b, c, G, a, w, hI, hE, h => ⟨fun h0 => by
      obtain ⟨h2, rfl, rfl⟩ := h.1 h0
      exact hQ G a w ρ hI hE h2, fun i hi => by
      obtain ⟨o, p, b1, c1, h1, h2, h3⟩ := h.2 i hi
      obtain ⟨_, O, hO, _⟩ := mem_ready.1 hi
      exact wpOp_stepI hI hE hO ((cOps_get hc).2 i O o (by simpa using hO) h1) h2 (fun G' w' a' hI' hE' => wpAny_of_anyI hc hQ fuel _ _ _ _ G' a' w' hI' hE' h3)⟩
theorem wp_drawnLi {m1 m2 : Nat} {S : Bool → Bool → St} {b c b' c' : Bool} {G : Gh} {id : Nat} {ops : Array Oper} {L : List POp} {w : World} {ρ ρ' : Env} {a : Act} {Q : Exit → Act → World → Prop} (hm : P.follows .mixedOrders = true) (hB : Region.lexB .any ops = true) (hok : tmpsOk ops ops.toList L = true) (hc : cOps P ops n ops.toList = some L)
    (hI : Inv X (S b c) G w) (hE : EnvRep G (OwnF X (S b c) G) w n ρ a) (hl : LexI P m1 m2 S 0 L ρ b c ρ' b' c') (hQ : ∀ G a w, Inv X (S b' c') G w → EnvRep G (OwnF X (S b' c') G) w n ρ' a → Q .normal a w) : (Code.region id ops true).wp P Q a w := by
  simp only [Region.lexB, Bool.and_eq_true] at hB
  have hd : Below w.heap.size w { w with drawn := w.drawn + 1 } := ⟨rfl, rfl, rfl, Nat.le_refl _, fun _ _ => rfl⟩
  obtain ⟨i1, i2⟩ := inv_below hI hd
  refine wp_region_any hm ?_
  have := anyI_lex (P := P) (m1 := m1) (m2 := m2) (S := S) (ρ' := ρ') (b' := b') (c' := c') hok ops.toList L 0 (Array.replicate ops.size false) ρ b c (by simpa using (tmpsOk_spec hok).1) (by simp) (by simp) (by simpa using hB.2) hl
  refine wpAny_of_anyI (m1 := m1) (m2 := m2) (S := S) hc (fun G a w ρ1 h1 h2 h3 => hQ G a w h1 (eqA_env h2 h3)) _ _ ρ b c G a _ i1 (i2.env hE) ?_
  simpa using this
end
theorem getD_put {n : Nat} {a : Act} {d : Option Nat} {v : Value} {t : Nat} (h : d ≠ some t) : (a.put d v).tmps.getD t undef = a.tmps.getD t undef := by
  cases d with
  | none => rfl
  | some d =>
    have hne : d ≠ t := fun e => h (by rw [e])
    simp only [Act.put, Array.getD_eq_getD_getElem?, Array.getElem?_setIfInBounds]
    rw [if_neg hne]
theorem wp_keeps {P : Program} {o : Oper} {a : Act} {w : World} {K K' : Act → World → Prop} {Q : Exit → Act → World → Prop} (h : ∀ a' w', (∀ t, o.dst ≠ some t → a'.tmps.getD t undef = a.tmps.getD t undef) → K a' w' → K' a' w') (hh : o.wp P a w K Q) : o.wp P a w K' Q := by
  unfold Oper.wp at *
  generalize (execOp a.eval o).run P w = r at *
  cases r with
  | ok nx w' =>
    cases nx <;> simp only [Oper.upon] at hh ⊢
    case value v => exact h _ _ (fun t ht => getD_put (n := 0) ht) hh
    case skip => exact h _ _ (fun t ht => getD_put (n := 0) ht) hh
    case defer d => exact h _ _ (fun t ht => (getD_put (n := 0) (a := { a with defers := d :: a.defers }) ht)) hh
    case enter f args => exact Calls.mono hh (fun e w'' he => by cases e <;> first | exact h _ _ (fun t ht => getD_put (n := 0) ht) he | exact he)
    case row rw args => exact Rows.mono hh (fun _ _ he => h _ _ (fun t ht => getD_put (n := 0) ht) he)
    all_goals exact hh
  | halt x w' => cases x <;> simp only [Oper.upon] at hh ⊢ <;> exact hh
theorem wpOp_keeps {P : Program} {ops : Array Oper} {Q : Exit → Act → World → Prop} {i : Nat} {O : Oper} (hO : ops[i]? = some O) {a : Act} {w : World} {K K' : Act → World → Prop} (h : ∀ a' w', (∀ t, O.dst ≠ some t → a'.tmps.getD t undef = a.tmps.getD t undef) → K a' w' → K' a' w')
    (hh : wpOp P ops Q i K a w) : wpOp P ops Q i K' a w := by
  unfold wpOp at *
  simp only [hO] at hh ⊢
  split
  · rename_i hw; simp only [hw, if_true] at hh; exact hh.imp (wp_keeps h) id
  · rename_i hw; simp only [hw] at hh; exact h _ _ (fun t ht => getD_put (n := 0) ht) hh
def StepC (P : Program) (C : Chn) (k : Nat) (o : POp) (ρ : Env) (b : Bool) (i : Nat) (p : PV) (b1 : Bool) (i1 : Nat) : Prop :=
  (C.idx k = none ∧ C.away k o = true ∧ b1 = b ∧ i1 = i ∧ ∃ M : Option Nat, (∀ j, (∀ m, M = some m → j ≤ m) → YSem P (C.S j) o ρ p) ∧ ∀ m, M = some m → i ≤ m ∧ ∃ d, o.dst = some d ∧ d ∈ C.need m) ∨
  (C.idx k = some i ∧ C.away k o = true ∧ C.link i o = true ∧ o.dst = C.d i ∧ C.stores i = false ∧ b1 = b ∧ i1 = i + 1 ∧ (LSem P (C.S i) o ρ p (C.S (i + 1)) ∨ (C.S (i + 1) = C.S i ∧ YSem P (C.S i) o ρ p))) ∨
  (∃ d m cs, C.al = some (k, d, m, cs) ∧ C.idx k = none ∧ o.dst = some d ∧ o.guard = none ∧ o.op = .alloc cs ∧ p = .ptr (C.S m).next 0 ∧ i ≤ m ∧ b = false ∧ b1 = true ∧ i1 = i) ∨
  (∃ ka d cs, C.al = some (ka, d, i, cs) ∧ C.idx k = some i ∧ C.link i o = true ∧ d ∈ o.tmps ∧ o.dst ≠ some d ∧ b = true ∧ b1 = true ∧ i1 = i + 1 ∧ o.dst = C.d i ∧ LSem P ((C.S i).new (.var cs)) o ρ p (C.S (i + 1)))
def LexC (P : Program) (C : Chn) : Nat → List POp → Env → Bool → Nat → Env → Bool → Nat → Prop
  | k, [], ρ, b, i, ρ', b', i' => ρ' = ρ ∧ b' = b ∧ i' = i
  | k, o :: l, ρ, b, i, ρ', b', i' => ∃ p b1 i1, StepC P C k o ρ b i p b1 i1 ∧ LexC P C (k + 1) l (Env.put ρ o.dst p) b1 i1 ρ' b' i'
theorem stepC_congr {P : Program} {C : Chn} {k i i1 : Nat} {ρ ρ' : Env} {b b1 : Bool} {o : POp} {p : PV} (h : ∀ t ∈ o.tmps, getA t ρ = getA t ρ') (hy : StepC P C k o ρ b i p b1 i1) : StepC P C k o ρ' b i p b1 i1 := by
  rcases hy with ⟨h1, h2, h3, h4, h5⟩ | ⟨h1, h2, h3, h4, h5, h6, h7, h8⟩ | h1 | ⟨ka, d, cs, h1, h2, h3, h4, h5, h6, h7, h8, h10, h9⟩
  · obtain ⟨M, y1, y2⟩ := h5
    exact .inl ⟨h1, h2, h3, h4, M, fun j hj => ysem_congr h (y1 j hj), y2⟩
  · exact .inr (.inl ⟨h1, h2, h3, h4, h5, h6, h7, h8.imp (lsem_congr h) (fun h' => ⟨h'.1, ysem_congr h h'.2⟩)⟩)
  · exact .inr (.inr (.inl h1))
  · exact .inr (.inr (.inr ⟨ka, d, cs, h1, h2, h3, h4, h5, h6, h7, h8, h10, lsem_congr h h9⟩))
theorem link_at {C : Chn} {i : Nat} {o : POp} (h : C.link (i + 1) o = true) : ∃ d, C.d i = some d ∧ d ∈ o.tmps := by
  simp only [Chn.link, Bool.and_eq_true] at h
  obtain ⟨h, _⟩ := h
  split at h
  · rename_i d hd
    exact ⟨d, hd, by simpa using h⟩
  · cases h
theorem need_at {C : Chn} {i : Nat} {o : POp} (h : C.link i o = true) {d : Nat} (hd : d ∈ C.need i) : d ∈ o.tmps := by
  simp only [Chn.link, Bool.and_eq_true] at h
  have := List.all_eq_true.1 h.2 d hd
  simpa using this
theorem stores_ne {C : Chn} {i ka d m : Nat} {cs : List PV} (h : C.al = some (ka, d, m, cs)) (hs : C.stores i = false) (hm : i ≤ m) : i + 1 ≤ m := by
  simp only [Chn.stores, h] at hs
  have := Nat.ne_of_beq_eq_false hs
  omega
theorem stepC_swap {P : Program} {C : Chn} {i j : Nat} (hij : i ≠ j) {oi oj : POp} (hap : ∀ d, oi.dst = some d → d ∉ oj.tmps) {ρ ρ1 : Env} {b bi bij : Bool} {n ni nij : Nat} {v u : PV} (hi : StepC P C i oi ρ b n v bi ni) (hj : StepC P C j oj ρ1 bi ni u bij nij) :
    ∃ bj nj, StepC P C j oj ρ1 b n u bj nj ∧ StepC P C i oi ρ bj nj v bij nij := by
  rcases hi with ⟨a1, a2, rfl, rfl, a5⟩ | ⟨a1, a2, a3, a4, a5, rfl, rfl, a8⟩ | ⟨d, m, cs, a1, a2, a3, a4, a5, a6, a7, rfl, rfl, rfl⟩ | ⟨ka, d, cs, a1, a2, a3, a4, a5, rfl, rfl, rfl, a10, a9⟩
  · obtain ⟨M, y1, y2⟩ := a5
    have up : ∀ {oj : POp}, (∀ d, oi.dst = some d → d ∉ oj.tmps) → C.link ni oj = true → ∀ m, M = some m → ni + 1 ≤ m ∧ ∃ d, oi.dst = some d ∧ d ∈ C.need m := fun hap hl m hm => by
      obtain ⟨h1, d, h2, h3⟩ := y2 m hm
      refine ⟨?_, d, h2, h3⟩
      rcases Nat.lt_or_ge ni m with h | h
      · exact h
      · have : m = ni := by omega
        subst this
        exact absurd (need_at hl h3) (hap d h2)
    rcases hj with ⟨b1, b2, rfl, rfl, b5⟩ | ⟨b1, b2, b3, b4, b5, rfl, rfl, b8⟩ | ⟨d', m', cs', b1, b2, b3, b4, b5, b6, b7, rfl, rfl, rfl⟩ | ⟨ka', d', cs', b1, b2, b3, b4, b5, rfl, rfl, rfl, b10, b9⟩
    · exact ⟨_, _, .inl ⟨b1, b2, rfl, rfl, b5⟩, .inl ⟨a1, a2, rfl, rfl, M, y1, y2⟩⟩
    · exact ⟨_, _, .inr (.inl ⟨b1, b2, b3, b4, b5, rfl, rfl, b8⟩), .inl ⟨a1, a2, rfl, rfl, M, y1, up hap b3⟩⟩
    · exact ⟨_, _, .inr (.inr (.inl ⟨d', m', cs', b1, b2, b3, b4, b5, b6, b7, rfl, rfl, rfl⟩)), .inl ⟨a1, a2, rfl, rfl, M, y1, y2⟩⟩
    · exact ⟨_, _, .inr (.inr (.inr ⟨ka', d', cs', b1, b2, b3, b4, b5, rfl, rfl, rfl, b10, b9⟩)), .inl ⟨a1, a2, rfl, rfl, M, y1, up hap b3⟩⟩
  · rcases hj with ⟨b1, b2, rfl, rfl, b5⟩ | ⟨b1, b2, b3, b4, b5, rfl, rfl, b8⟩ | ⟨d', m', cs', b1, b2, b3, b4, b5, b6, b7, rfl, rfl, rfl⟩ | ⟨ka', d', cs', b1, b2, b3, b4, b5, rfl, rfl, rfl, b10, b9⟩
    · obtain ⟨M, y1, y2⟩ := b5
      exact ⟨_, _, .inl ⟨b1, b2, rfl, rfl, M, y1, fun m hm => ⟨Nat.le_of_succ_le (y2 m hm).1, (y2 m hm).2⟩⟩, .inr (.inl ⟨a1, a2, a3, a4, a5, rfl, rfl, a8⟩)⟩
    · obtain ⟨d, hd, ht⟩ := link_at b3
      exact absurd ht (hap d (a4.trans hd))
    · exact ⟨_, _, .inr (.inr (.inl ⟨d', m', cs', b1, b2, b3, b4, b5, b6, Nat.le_of_succ_le b7, rfl, rfl, rfl⟩)), .inr (.inl ⟨a1, a2, a3, a4, a5, rfl, rfl, a8⟩)⟩
    · obtain ⟨d, hd, ht⟩ := link_at b3
      exact absurd ht (hap d (a4.trans hd))
  · rcases hj with ⟨b1, b2, rfl, rfl, b5⟩ | ⟨b1, b2, b3, b4, b5, rfl, rfl, b8⟩ | ⟨d', m', cs', b1, b2, b3, b4, b5, b6, _, h, _⟩ | ⟨ka', d', cs', b1, b2, b3, b4, b5, _, rfl, rfl, b10, b9⟩
    · exact ⟨_, _, .inl ⟨b1, b2, rfl, rfl, b5⟩, .inr (.inr (.inl ⟨d, m, cs, a1, a2, a3, a4, a5, a6, a7, rfl, rfl, rfl⟩))⟩
    · exact ⟨_, _, .inr (.inl ⟨b1, b2, b3, b4, b5, rfl, rfl, b8⟩), .inr (.inr (.inl ⟨d, m, cs, a1, a2, a3, a4, a5, a6, stores_ne a1 b5 a7, rfl, rfl, rfl⟩))⟩
    · cases h
    · rw [a1] at b1
      injection b1 with b1
      injection b1 with _ b1
      injection b1 with b1 _
      subst b1
      exact absurd b4 (hap _ a3)
  · rcases hj with ⟨b1, b2, rfl, rfl, b5⟩ | ⟨b1, b2, b3, b4, b5, rfl, rfl, b8⟩ | ⟨d', m', cs', b1, b2, b3, b4, b5, b6, _, h, _⟩ | ⟨ka', d', cs', b1, b2, b3, b4, b5, _, rfl, rfl, b10, b9⟩
    · obtain ⟨M, y1, y2⟩ := b5
      exact ⟨_, _, .inl ⟨b1, b2, rfl, rfl, M, y1, fun m hm => ⟨Nat.le_of_succ_le (y2 m hm).1, (y2 m hm).2⟩⟩, .inr (.inr (.inr ⟨ka, d, cs, a1, a2, a3, a4, a5, rfl, rfl, rfl, a10, a9⟩))⟩
    · obtain ⟨d', hd, ht⟩ := link_at b3
      exact absurd ht (hap d' (a10.trans hd))
    · cases h
    · rw [a1] at b1
      injection b1 with b1
      injection b1 with _ b1
      injection b1 with _ b1
      injection b1 with b1 _
      omega
def anyC (P : Program) (C : Chn) (ops : Array Oper) (L : List POp) (ρ' : Env) (b' : Bool) (c' : Nat) : Nat → Array Bool → Env → Bool → Nat → Prop
  | 0, listed, ρ, b, c => Region.ready .any ops listed = [] ∧ EqA ρ ρ' ∧ b = b' ∧ c = c'
  | fuel + 1, listed, ρ, b, c => (Region.ready .any ops listed = [] → EqA ρ ρ' ∧ b = b' ∧ c = c') ∧ ∀ i ∈ Region.ready .any ops listed, ∃ o p b1 c1, L[i]? = some o ∧ StepC P C i o ρ b c p b1 c1 ∧ anyC P C ops L ρ' b' c' fuel (listed.setIfInBounds i true) (Env.put ρ o.dst p) b1 c1
section
variable {P : Program} {C : Chn} {ops : Array Oper} {L : List POp} {ρ' : Env} {b' : Bool} {c' : Nat}
theorem anyC_eqv : ∀ (fuel : Nat) (listed : Array Bool) (ρ ρ1 : Env) (b : Bool) (c : Nat), EqA ρ ρ1 → anyC P C ops L ρ' b' c' fuel listed ρ b c → anyC P C ops L ρ' b' c' fuel listed ρ1 b c
  | 0, listed, ρ, ρ1, b, c, he, h => ⟨h.1, fun t => (he t).symm.trans (h.2.1 t), h.2.2⟩
  | fuel + 1, listed, ρ, ρ1, b, c, he, h => ⟨fun hr => ⟨fun t => (he t).symm.trans ((h.1 hr).1 t), (h.1 hr).2⟩, fun i hi => by
      obtain ⟨o, p, b1, c1, h1, h2, h3⟩ := h.2 i hi
      exact ⟨o, p, b1, c1, h1, stepC_congr (fun t _ => he t) h2, anyC_eqv fuel _ _ _ _ _ (he.put _ _) h3⟩⟩
theorem anyC_first (hok : tmpsOk ops ops.toList L = true) {i : Nat} {oi : POp} {Oi : Oper} {v : PV} (hi : L[i]? = some oi) (hiO : ops[i]? = some Oi) :
    ∀ (fuel : Nat) (listed : Array Bool) (ρ : Env) (b : Bool) (c : Nat) (b1 : Bool) (c1 : Nat),
      (∀ j Oj, ops[j]? = some Oj → j ≠ i → listed.getD j true = false → (∀ e ∈ Oj.after, Region.binds .any e = true → e.on ≠ i) → Oi.apart ops Oj = true) →
      i ∈ Region.ready .any ops listed → StepC P C i oi ρ b c v b1 c1 → anyC P C ops L ρ' b' c' fuel (listed.setIfInBounds i true) (Env.put ρ oi.dst v) b1 c1 → anyC P C ops L ρ' b' c' (fuel + 1) listed ρ b c := by
  intro fuel
  induction fuel with
  | zero =>
    intro listed ρ b c b1 c1 _ hr hy H
    refine ⟨fun h => (by rw [h] at hr; cases hr), fun j hj => ?_⟩
    by_cases hji : j = i
    · subst hji; exact ⟨oi, v, b1, c1, hi, hy, H⟩
    · have := ready_mono hj hji
      rw [H.1] at this
      cases this
  | succ fuel ih =>
    intro listed ρ b c b1 c1 hfree hr hy H
    refine ⟨fun h => (by rw [h] at hr; cases hr), fun j hj => ?_⟩
    by_cases hji : j = i
    · subst hji; exact ⟨oi, v, b1, c1, hi, hy, H⟩
    · obtain ⟨oj, u, b2, c2, hLj, hyj, hrest⟩ := H.2 j (ready_mono hj hji)
      obtain ⟨hjun, Oj, hOj, hall⟩ := mem_ready.1 hj
      have hnot : ∀ e ∈ Oj.after, Region.binds .any e = true → e.on ≠ i := fun e he hb heq => by
        have h1 := hall e he hb
        have h0 := (mem_ready.1 hr).1
        rw [heq] at h1
        rcases Nat.lt_or_ge i listed.size with h' | h'
        · simp [h'] at h0 h1; rw [h0] at h1; cases h1
        · simp [Array.getElem?_eq_none h'] at h1
      have hap := hfree j Oj hOj hji hjun hnot
      obtain ⟨a1, a2, a3⟩ := Oper.apart_spec hap
      obtain ⟨_, hk⟩ := tmpsOk_spec hok
      obtain ⟨ti, di⟩ := hk i Oi oi (by simpa using hiO) hi
      obtain ⟨tj, dj⟩ := hk j Oj oj (by simpa using hOj) hLj
      obtain ⟨bj, cj, hyj0, hyi0⟩ := stepC_swap (Ne.symm hji) (fun x hx => fun ht => a1 x (by rw [← di]; exact hx) (tj x ht)) hy hyj
      have hyj' : StepC P C j oj ρ b c u bj cj := stepC_congr (fun t ht => put_other (fun e => a1 t (by rw [← di]; exact e) (tj t ht))) hyj0
      have hyi' : StepC P C i oi (Env.put ρ oj.dst u) bj cj v b2 c2 := stepC_congr (fun t ht => (put_other (fun e => a3 t (by rw [← dj]; exact e) (ti t ht))).symm) hyi0
      refine ⟨oj, u, bj, cj, hLj, hyj', ih (listed.setIfInBounds j true) (Env.put ρ oj.dst u) bj cj b2 c2 (fun k Ok hk hki hun hno => ?_) (ready_mono hr (Ne.symm hji)) hyi' ?_⟩
      · refine hfree k Ok hk hki ?_ hno
        by_cases hjk : j = k
        · subst hjk; exact hjun
        · rw [getD_set_ne true hjk] at hun; exact hun
      · rw [Array.setIfInBounds_comm _ _ hji]
        refine anyC_eqv fuel _ _ _ _ _ (put_comm (fun x hx => ?_) v u) hrest
        rw [dj]
        exact a2 x (by rw [← di]; exact hx)
theorem anyC_lex (hok : tmpsOk ops ops.toList L = true) : ∀ (l : List Oper) (pl : List POp) (k : Nat) (listed : Array Bool) (ρ : Env) (b : Bool) (c : Nat), l.length = pl.length → (∀ j, l[j]? = ops[k + j]?) → (∀ j, pl[j]? = L[k + j]?) →
    Region.lexFrom .any ops l.length k listed = true → LexC P C k pl ρ b c ρ' b' c' → anyC P C ops L ρ' b' c' l.length listed ρ b c
  | [], [], _, _, _, _, _, _, _, _, hB, h => ⟨by simpa [Region.lexFrom] using hB, fun t => by rw [show ρ' = _ from h.1], h.2.1.symm, h.2.2.symm⟩
  | [], _ :: _, _, _, _, _, _, hl, _, _, _, _ => by cases hl
  | _ :: _, [], _, _, _, _, _, hl, _, _, _, _ => by cases hl
  | O :: l, o :: pl, k, listed, ρ, b, c, hlen, hl, hp, hB, h => by
    have h0 : ops[k]? = some O := by simpa using (hl 0).symm
    have h1 : L[k]? = some o := by simpa using (hp 0).symm
    simp only [List.length_cons, Region.lexFrom, Bool.and_eq_true] at hB
    obtain ⟨⟨hr, hf⟩, hB'⟩ := hB
    obtain ⟨p, b1, c1, hy, hrest⟩ := h
    exact anyC_first hok h1 h0 l.length listed ρ b c b1 c1 (Region.free_spec h0 hf) (by simpa using hr) hy
      (anyC_lex hok l pl (k + 1) _ _ _ _ (by simpa using hlen) (fun j => by have := hl (j + 1); simpa [Nat.add_assoc, Nat.add_comm 1 j] using this) (fun j => by have := hp (j + 1); simpa [Nat.add_assoc, Nat.add_comm 1 j] using this) hB' hrest)
end
section
variable {P : Program} {X : Cx} {n : Nat}
structure Aside (X X' : Cx) (blk : Nat) (cs : List PV) : Prop where
  sub : ∀ b, X.F b → X'.F b
  inF : X'.F blk
  old : X.w0.heap.size ≤ blk
  back : ∀ {st : St} {G : Gh} {w : World}, Inv X' st G w → Inv X st G w
  room : Room X'.w0 blk 0 cs.length
  cells : ∀ (i : Nat) (p : PV), cs[i]? = some p → ∃ v, cellAt X'.w0 blk i = some v ∧ ∀ (st : St) (G : Gh) (w : World), Inv X' st G w → Rep G (OwnF X' st G) w v p
def fCx (X : Cx) (st : St) (G : Gh) (w : World) (blk : Nat) : Cx := ⟨w, X.G0, Own st G, fun b => X.F b ∨ b = blk, X.T0⟩
theorem aside_new {st : St} {G : Gh} {w : World} (hI : Inv X st G w) {c : Array Value} {cs : List PV} (hc : CellsRep noG (OwnF X st G) w c cs) (ty : TypeId) :
    Aside X (fCx X st G (w.alloc (.cells c ty)) w.heap.size) w.heap.size cs ∧ Inv (fCx X st G (w.alloc (.cells c ty)) w.heap.size) st G (w.alloc (.cells c ty)) ∧ ∀ {v : Value} {p : PV}, Rep G (OwnF X st G) w v p → Rep G (OwnF (fCx X st G (w.alloc (.cells c ty)) w.heap.size) st G) (w.alloc (.cells c ty)) v p := by
  have hb := alloc_below w (.cells c ty)
  have hnew := alloc_new w c ty
  have hown : ∀ b, OwnF (fCx X st G (w.alloc (.cells c ty)) w.heap.size) st G b → OwnF X st G b ∨ w.heap.size ≤ b := by
    rintro b ((h | h) | h)
    · exact .inl (.inl h)
    · exact .inr (by omega)
    · exact .inl (.inr h)
  have hlt : ∀ b, Own st G b → b < w.heap.size := fun b h => own_lt_size hI (.inr h)
  refine ⟨⟨fun b h => .inl h, .inr rfl, hI.frame.size, fun {st2 G2 w2} h2 => ?_, fun o h1 h2 => ?_, fun i p hi => ?_⟩, ?_, fun h => h.mono (fun _ _ _ h => h) (chg_of_below hb) (fun b h => h) hown⟩
  · have hfr : Chg X.own0 X.w0 w2 := by
      have h1 : Chg (Own st G) (w.alloc (.cells c ty)) w2 := h2.frame
      have h0 : Chg X.own0 X.w0 (w.alloc (.cells c ty)) := hI.frame.trans (chg_of_below (S := fun _ => False) hb) (fun _ _ h => h.elim)
      exact h0.trans h1 fun i hi ho => (hI.ownb i ho).elim id (fun h => absurd h (by omega))
    refine ⟨h2.low, h2.base, h2.old, fun t k hk => ?_, h2.gens, h2.inj, h2.newg, h2.dom, hfr, fun b hb2 => ?_, hI.foreign, hI.glob⟩
    · exact (h2.toks t k hk).keep (fun _ _ _ h => h) (Chg.refl (fun _ => False) w2) (fun _ h => h.elim) (fun b hb2 => .inl (hb2.elim (fun h => .inl (.inl h)) .inr)) (fun L h => ⟨fun h => h, (h2.low _ _ _ h).2⟩)
    · rcases h2.ownb b hb2 with h | h
      · exact hI.ownb b h
      · have h' : (w.alloc (.cells c ty)).heap.size ≤ b := h
        rw [alloc_size] at h'
        have := hI.frame.size
        exact .inr (by omega)
  · have hq : o < c.size := by have := hc.1; omega
    refine ⟨⟨c[o], ?_⟩, ?_⟩
    · show cellAt (w.alloc (.cells c ty)) w.heap.size o = _
      rw [cellAt_push hnew]; exact Array.getElem?_eq_getElem hq
    · show (w.alloc (.cells c ty)).frozen? ⟨w.heap.size, o, none⟩ = false
      simp only [World.frozen?, hnew]
      simp
  · have hlt : i < c.size := by rw [hc.1]; exact (List.getElem?_eq_some_iff.1 hi).1
    refine ⟨c[i], ?_, fun st2 G2 w2 h2 => ?_⟩
    · show cellAt (w.alloc (.cells c ty)) w.heap.size i = _
      rw [cellAt_push hnew]; exact Array.getElem?_eq_getElem hlt
    · have h0 := hc.2 i p hi
      rw [Array.getD_eq_getD_getElem?, Array.getElem?_eq_getElem hlt] at h0
      have hfr : Chg (Own st G) (w.alloc (.cells c ty)) w2 := h2.frame
      have hch : Chg (Own st G) w w2 := (chg_of_below (S := Own st G) hb).trans hfr fun _ _ ho => ho
      refine h0.mono (fun _ _ _ h => by cases h) hch (fun b h => .inr h) (fun b h => ?_)
      rcases h with (h | h) | h
      · exact .inl (.inl h)
      · exact .inr (Nat.le_of_eq h.symm)
      · rcases h2.ownb b h with h' | h'
        · exact .inl (.inr h')
        · have h' : (w.alloc (.cells c ty)).heap.size ≤ b := h'
          rw [alloc_size] at h'
          exact .inr (by omega)
  · refine ⟨fun t g L h => ⟨(hI.low t g L h).1, Nat.lt_of_lt_of_le (hI.low t g L h).2 hb.size⟩, hI.base, hI.old, fun t k hk => ?_, hI.gens, hI.inj, hI.newg, hI.dom, Chg.refl _ _, fun b h => .inl h, fun b h => ?_, fun w' h => ?_⟩
    · exact (hI.toks t k hk).keep (fun _ _ _ h => h) (chg_of_below (S := fun _ => False) hb) (fun _ h => h.elim) hown (fun L h => ⟨fun h => h, (hI.low _ _ _ h).2⟩)
    · rcases h with h | h
      · refine ⟨Nat.lt_of_lt_of_le (own_lt_size hI (.inl h)) hb.size, fun ho => hI.f_own h ho⟩
      · refine ⟨by show b < (w.alloc (.cells c ty)).heap.size; rw [alloc_size]; omega, fun ho => ?_⟩
        have := hlt b ho
        omega
    · have h1 : Chg (Own st G) (w.alloc (.cells c ty)) w' := h
      refine hI.glob w' ((hI.frame.trans (chg_of_below (S := fun _ => False) hb) (fun _ _ h => h.elim)).trans h1 fun i hi ho => (hI.ownb i ho).elim id (fun h => absurd h (by omega)))
theorem aside_named {X' : Cx} {st : St} {G : Gh} {w : World} {blk : Nat} {cs : List PV} (hA : Aside X X' blk cs) (hI' : Inv X' st G w) :
    ∃ G1, Inv X (st.new (.var cs)) G1 w ∧ (∀ {v : Value} {p : PV}, Rep G (OwnF X' st G) w v p → Rep G1 (OwnF X (st.new (.var cs)) G1) w v p) ∧ Rep G1 (OwnF X (st.new (.var cs)) G1) w (.pointer (some ⟨blk, 0, none⟩)) (.ptr st.next 0) := by
  have hI := hA.back hI'
  let L : Loc := ⟨blk, 0, 0, 0⟩
  have hblk := hI'.foreign blk hA.inF
  have hnot : ¬ Own st G blk := hI'.f_own hA.inF
  have heap : w.heap[blk]? = X'.w0.heap[blk]? := hI'.frame.block blk hblk.1 hblk.2
  have hlt : blk < w.heap.size := Nat.lt_of_lt_of_le hblk.1 hI'.frame.size
  have old : ∀ {t : Nat} {k' : Tok} {L' : Loc}, (st.new (.var cs)).get t = some k' → ghNew G st.next 0 L t k'.gen = some L' → (t = st.next ∧ k' = .var cs ∧ L' = L) ∨ (t ≠ st.next ∧ st.get t = some k' ∧ G t k'.gen = some L') := by
    intro t k' L' h1 h2
    rw [new_get] at h1
    split at h1
    · rename_i ht
      subst ht
      injection h1 with h1
      subst h1
      simp only [Tok.gen] at h2
      rw [ghNew_same] at h2
      injection h2 with h2
      exact .inl ⟨rfl, rfl, h2.symm⟩
    · rename_i ht
      unfold ghNew at h2
      rw [if_neg (fun hc => ht hc.1.symm)] at h2
      exact .inr ⟨fun e => ht e.symm, h1, h2⟩
  have hown : ∀ b, OwnF X (st.new (.var cs)) (ghNew G st.next 0 L) b → OwnF X' st G b ∨ w.heap.size ≤ b := by
    rintro b (h | ⟨t, k', L', h1, h2, h3, h4⟩)
    · exact .inl (.inl (hA.sub b h))
    · rcases old h1 h3 with ⟨_, _, e⟩ | ⟨_, e1, e2⟩
      · subst e; exact .inl (.inl (h4 ▸ hA.inF))
      · exact .inl (.inr ⟨t, k', L', e1, h2, e2, h4⟩)
  have hrep : ∀ {v : Value} {p : PV}, Rep G (OwnF X' st G) w v p → Rep (ghNew G st.next 0 L) (OwnF X (st.new (.var cs)) (ghNew G st.next 0 L)) w v p := fun h =>
    h.mono (ghNew_old (fresh_none hI _)) (Chg.refl (fun _ => False) w) (fun _ h => h.elim) hown
  refine ⟨ghNew G st.next 0 L, ⟨fun t g L' h => ?_, ?_, fun t g L' h => ?_, fun t k' hk => ?_, fun t k' g L' hk hg => ?_, ?_, fun t g L' h => ?_, fun t k' h => ?_, hI.frame, fun b hb => ?_, hI.foreign, hI.glob⟩, hrep, ?_⟩
  · unfold ghNew at h
    split at h
    · rename_i hc
      injection h with h
      subst h
      exact ⟨by rw [hc.1]; simp [St.new], hlt⟩
    · have := hI.low t g L' h
      exact ⟨by simp [St.new]; omega, this.2⟩
  · have := hI.base
    simp [St.new]
    omega
  · have := hI.old t g L' h
    exact ⟨this.1, ghNew_old (fresh_none hI _) _ _ _ this.2⟩
  · rw [new_get] at hk
    split at hk
    · rename_i ht
      subst ht
      injection hk with hk
      subst hk
      refine ⟨L, ghNew_same _ _ _ _, fun q h1 h2 => ?_, fun i p hi => ?_⟩
      · obtain ⟨⟨v, e1⟩, e2⟩ := hA.room q h1 (by simp only [L] at h2; omega)
        exact ⟨⟨v, by rw [cellAt_congr heap]; exact e1⟩, by rw [frozen_congr heap]; exact e2⟩
      · obtain ⟨v, e1, e2⟩ := hA.cells i p hi
        exact ⟨v, by simp only [L, Nat.zero_add]; rw [cellAt_congr heap]; exact e1, hrep (e2 _ _ _ hI')⟩
    · rename_i ht
      exact (hI'.toks t k' hk).keep (ghNew_old (fresh_none hI _)) (Chg.refl (fun _ => False) w) (fun _ h => h.elim) hown (fun L' h' => ⟨fun h => h, (hI.low _ _ _ h').2⟩)
  · rw [new_get] at hk
    split at hk
    · rename_i ht
      subst ht
      injection hk with hk
      subst hk
      unfold ghNew at hg
      split at hg
      · rename_i hc; exact Nat.le_of_eq hc.2
      · rw [fresh_none hI] at hg; cases hg
    · rename_i ht
      unfold ghNew at hg
      rw [if_neg (fun hc => ht hc.1.symm)] at hg
      exact hI.gens t k' g L' hk hg
  · intro t t' k k' L1 L2 h1 h2 l1 l2 g1 g2 hbb
    rcases old h1 g1 with ⟨e1, _, e3⟩ | ⟨e1, e2, e3⟩ <;> rcases old h2 g2 with ⟨f1, _, f3⟩ | ⟨f1, f2, f3⟩
    · exact e1.trans f1.symm
    · exact absurd ⟨t', k', L2, f2, l2, f3, by rw [← hbb, e3]⟩ hnot
    · exact absurd ⟨t, k, L1, e2, l1, e3, by rw [hbb, f3]⟩ hnot
    · exact hI.inj t t' k k' L1 L2 e2 f2 l1 l2 e3 f3 hbb
  · unfold ghNew at h
    split at h
    · rename_i hc
      exact .inr (.inr (by rw [hc.1]; exact hI.base))
    · exact hI.newg t g L' h
  · rw [new_get] at h
    split at h
    · rename_i ht
      exact .inr (by rw [← ht]; exact hI.base)
    · exact hI.dom t k' h
  · obtain ⟨t, k', L', h1, h2, h3, h4⟩ := hb
    rcases old h1 h3 with ⟨_, _, e⟩ | ⟨_, e1, e2⟩
    · subst e; exact .inr (h4 ▸ hA.old)
    · exact hI.ownb b ⟨t, k', L', e1, h2, e2, h4⟩
  · have := Rep.ptr (G := ghNew G st.next 0 L) (own := OwnF X (st.new (.var cs)) (ghNew G st.next 0 L)) (w := w) st.next 0 L (ghNew_same _ _ _ _)
    simpa [L] using this
theorem cOp_alloc {o : Oper} {cs0 : List PV} (h : cOp P o.op = some (.alloc cs0)) : ∃ t, o.op = .alloc t ∧ zeroOf P t = some cs0 := by
  have noBin : ∀ {b ts ys}, cBuiltin P b ts ys ≠ some (.alloc cs0) := by
    intro b ts ys hc
    unfold cBuiltin at hc
    split at hc
    · (repeat' split at hc) <;> first | (cases hc; done) | (obtain ⟨_, _, h⟩ := Option.map_eq_some_iff.1 hc; cases h)
    · (repeat' split at hc) <;> first | (cases hc; done) | (injection hc with hc; cases hc)
    · unfold cAppend at hc
      (repeat' split at hc) <;> first | (cases hc; done) | (injection hc with hc; cases hc)
    · unfold cCopy at hc
      (repeat' split at hc) <;> first | (cases hc; done) | (injection hc with hc; cases hc)
    · obtain ⟨_, _, h⟩ := Option.map_eq_some_iff.1 hc; cases h
    · obtain ⟨_, _, h⟩ := Option.map_eq_some_iff.1 hc; cases h
    · cases hc
  cases ho : o.op with
  | call c =>
    rw [ho] at h
    obtain ⟨callee, args, ts⟩ := c
    simp only [cOp] at h
    split at h
    · rename_i b hb
      exact absurd h noBin
    · split at h
      · injection h with h
        cases h
      · cases h
    · cases h
  | move x => rw [ho] at h; obtain ⟨_, _, h⟩ := Option.map_eq_some_iff.1 h; cases h
  | assign x => rw [ho] at h; obtain ⟨_, _, h⟩ := Option.map_eq_some_iff.1 h; cases h
  | pick c x y => rw [ho] at h; simp only [cOp] at h; (repeat' split at h) <;> first | (cases h; done) | (injection h with h; cases h)
  | load t x => rw [ho] at h; simp only [cOp] at h; unfold cLoad at h; (repeat' split at h) <;> first | (cases h; done) | (injection h with h; cases h)
  | store t x y => rw [ho] at h; simp only [cOp] at h; unfold cStore at h; (repeat' split at h) <;> first | (cases h; done) | (injection h with h; cases h)
  | alloc t => rw [ho] at h; obtain ⟨zs, hz, h⟩ := Option.map_eq_some_iff.1 h; injection h with h; subst h; exact ⟨t, rfl, hz⟩
  | box t x => rw [ho] at h; obtain ⟨_, _, h⟩ := Option.map_eq_some_iff.1 h; cases h
  | build t ps => rw [ho] at h; simp only [cOp] at h; unfold cBuild at h; (repeat' split at h) <;> first | (cases h; done) | (obtain ⟨_, _, h⟩ := Option.map_eq_some_iff.1 h; cases h)
  | buildSlice t l ps => rw [ho] at h; simp only [cOp] at h; unfold cBuildSl at h; (repeat' split at h) <;> first | (cases h; done) | (obtain ⟨_, _, h⟩ := Option.map_eq_some_iff.1 h; cases h)
  | fieldAddr s x f => rw [ho] at h; simp only [cOp] at h; unfold cFieldAddr at h; (repeat' split at h) <;> first | (cases h; done) | (injection h with h; cases h)
  | field s x f => rw [ho] at h; simp only [cOp] at h; unfold cField at h; (repeat' split at h) <;> first | (cases h; done) | (injection h with h; cases h)
  | indexAddr t x i => rw [ho] at h; simp only [cOp] at h; unfold cIndexAddr at h; (repeat' split at h) <;> first | (cases h; done) | (injection h with h; cases h)
  | index t x i => rw [ho] at h; simp only [cOp] at h; unfold cIndex at h; (repeat' split at h) <;> first | (cases h; done) | (injection h with h; cases h)
  | slice t x lo hi mx => rw [ho] at h; simp only [cOp] at h; unfold cSlice at h; (repeat' split at h) <;> first | (cases h; done) | (injection h with h; cases h)
  | convert s t x => rw [ho] at h; simp only [cOp] at h; unfold cConv at h; (repeat' split at h) <;> first | (cases h; done) | (injection h with h; cases h)
  | unOp op t x => rw [ho] at h; simp only [cOp] at h; (repeat' split at h) <;> first | (cases h; done) | (obtain ⟨_, _, h⟩ := Option.map_eq_some_iff.1 h; cases h)
  | binOp op t x y t' => rw [ho] at h; simp only [cOp] at h; unfold cBin at h; (repeat' split at h) <;> first | (cases h; done) | (injection h with h; cases h)
  | extract x i => rw [ho] at h; obtain ⟨_, _, h⟩ := Option.map_eq_some_iff.1 h; cases h
  | makeInterface t x => rw [ho] at h; simp only [cOp] at h; (repeat' split at h) <;> first | (cases h; done) | (obtain ⟨_, _, h⟩ := Option.map_eq_some_iff.1 h; cases h)
  | makeFunc fn first caps => rw [ho] at h; simp only [cOp] at h; (repeat' split at h) <;> first | (cases h; done) | (obtain ⟨_, _, h⟩ := Option.map_eq_some_iff.1 h; cases h)
  | makeSlice t l c => rw [ho] at h; simp only [cOp] at h; unfold cMakeSl at h; (repeat' split at h) <;> first | (cases h; done) | (injection h with h; cases h)
  | nilCheck x => rw [ho] at h; obtain ⟨_, _, h⟩ := Option.map_eq_some_iff.1 h; cases h
  | makeMap t r => rw [ho] at h; cases r <;> cases h
  | lookup t x k ok => rw [ho] at h; simp only [cOp] at h; unfold cLook at h; (repeat' split at h) <;> first | (cases h; done) | (injection h with h; cases h)
  | mapUpdate t m k x => rw [ho] at h; simp only [cOp] at h; unfold cMapPut at h; (repeat' split at h) <;> first | (cases h; done) | (injection h with h; cases h)
  | insert t m k x => rw [ho] at h; simp only [cOp] at h; unfold cMapPut at h; (repeat' split at h) <;> first | (cases h; done) | (injection h with h; cases h)
  | _ => rw [ho] at h; cases h
theorem cOp_box {o : Oper} {y0 : Opd} (h : cOp P o.op = some (.box y0)) : ∃ t x, o.op = .box t x ∧ cOpd x = some y0 := by
  have noBin : ∀ {b ts ys}, cBuiltin P b ts ys ≠ some (.box y0) := by
    intro b ts ys hc
    unfold cBuiltin at hc
    split at hc
    · (repeat' split at hc) <;> first | (cases hc; done) | (obtain ⟨_, _, h⟩ := Option.map_eq_some_iff.1 hc; cases h)
    · (repeat' split at hc) <;> first | (cases hc; done) | (injection hc with hc; cases hc)
    · unfold cAppend at hc
      (repeat' split at hc) <;> first | (cases hc; done) | (injection hc with hc; cases hc)
    · unfold cCopy at hc
      (repeat' split at hc) <;> first | (cases hc; done) | (injection hc with hc; cases hc)
    · obtain ⟨_, _, h⟩ := Option.map_eq_some_iff.1 hc; cases h
    · obtain ⟨_, _, h⟩ := Option.map_eq_some_iff.1 hc; cases h
    · cases hc
  cases ho : o.op with
  | call c =>
    rw [ho] at h
    obtain ⟨callee, args, ts⟩ := c
    simp only [cOp] at h
    split at h
    · rename_i b hb
      exact absurd h noBin
    · split at h
      · injection h with h
        cases h
      · cases h
    · cases h
  | move x => rw [ho] at h; obtain ⟨_, _, h⟩ := Option.map_eq_some_iff.1 h; cases h
  | assign x => rw [ho] at h; obtain ⟨_, _, h⟩ := Option.map_eq_some_iff.1 h; cases h
  | pick c x y => rw [ho] at h; simp only [cOp] at h; (repeat' split at h) <;> first | (cases h; done) | (injection h with h; cases h)
  | load t x => rw [ho] at h; simp only [cOp] at h; unfold cLoad at h; (repeat' split at h) <;> first | (cases h; done) | (injection h with h; cases h)
  | store t x y => rw [ho] at h; simp only [cOp] at h; unfold cStore at h; (repeat' split at h) <;> first | (cases h; done) | (injection h with h; cases h)
  | alloc t => rw [ho] at h; obtain ⟨_, _, h⟩ := Option.map_eq_some_iff.1 h; cases h
  | box t x => rw [ho] at h; obtain ⟨y, hy, h⟩ := Option.map_eq_some_iff.1 h; injection h with h; subst h; exact ⟨t, x, rfl, hy⟩
  | build t ps => rw [ho] at h; simp only [cOp] at h; unfold cBuild at h; (repeat' split at h) <;> first | (cases h; done) | (obtain ⟨_, _, h⟩ := Option.map_eq_some_iff.1 h; cases h)
  | buildSlice t l ps => rw [ho] at h; simp only [cOp] at h; unfold cBuildSl at h; (repeat' split at h) <;> first | (cases h; done) | (obtain ⟨_, _, h⟩ := Option.map_eq_some_iff.1 h; cases h)
  | fieldAddr s x f => rw [ho] at h; simp only [cOp] at h; unfold cFieldAddr at h; (repeat' split at h) <;> first | (cases h; done) | (injection h with h; cases h)
  | field s x f => rw [ho] at h; simp only [cOp] at h; unfold cField at h; (repeat' split at h) <;> first | (cases h; done) | (injection h with h; cases h)
  | indexAddr t x i => rw [ho] at h; simp only [cOp] at h; unfold cIndexAddr at h; (repeat' split at h) <;> first | (cases h; done) | (injection h with h; cases h)
  | index t x i => rw [ho] at h; simp only [cOp] at h; unfold cIndex at h; (repeat' split at h) <;> first | (cases h; done) | (injection h with h; cases h)
  | slice t x lo hi mx => rw [ho] at h; simp only [cOp] at h; unfold cSlice at h; (repeat' split at h) <;> first | (cases h; done) | (injection h with h; cases h)
  | convert s t x => rw [ho] at h; simp only [cOp] at h; unfold cConv at h; (repeat' split at h) <;> first | (cases h; done) | (injection h with h; cases h)
  | unOp op t x => rw [ho] at h; simp only [cOp] at h; (repeat' split at h) <;> first | (cases h; done) | (obtain ⟨_, _, h⟩ := Option.map_eq_some_iff.1 h; cases h)
  | binOp op t x y t' => rw [ho] at h; simp only [cOp] at h; unfold cBin at h; (repeat' split at h) <;> first | (cases h; done) | (injection h with h; cases h)
  | extract x i => rw [ho] at h; obtain ⟨_, _, h⟩ := Option.map_eq_some_iff.1 h; cases h
  | makeInterface t x => rw [ho] at h; simp only [cOp] at h; (repeat' split at h) <;> first | (cases h; done) | (obtain ⟨_, _, h⟩ := Option.map_eq_some_iff.1 h; cases h)
  | makeFunc fn first caps => rw [ho] at h; simp only [cOp] at h; (repeat' split at h) <;> first | (cases h; done) | (obtain ⟨_, _, h⟩ := Option.map_eq_some_iff.1 h; cases h)
  | makeSlice t l c => rw [ho] at h; simp only [cOp] at h; unfold cMakeSl at h; (repeat' split at h) <;> first | (cases h; done) | (injection h with h; cases h)
  | nilCheck x => rw [ho] at h; obtain ⟨_, _, h⟩ := Option.map_eq_some_iff.1 h; cases h
  | makeMap t r => rw [ho] at h; cases r <;> cases h
  | lookup t x k ok => rw [ho] at h; simp only [cOp] at h; unfold cLook at h; (repeat' split at h) <;> first | (cases h; done) | (injection h with h; cases h)
  | mapUpdate t m k x => rw [ho] at h; simp only [cOp] at h; unfold cMapPut at h; (repeat' split at h) <;> first | (cases h; done) | (injection h with h; cases h)
  | insert t m k x => rw [ho] at h; simp only [cOp] at h; unfold cMapPut at h; (repeat' split at h) <;> first | (cases h; done) | (injection h with h; cases h)
  | _ => rw [ho] at h; cases h
theorem cOp_move {o : Oper} {y0 : Opd} (h : cOp P o.op = some (.move y0)) : ∃ x, (o.op = .move x ∨ o.op = .assign x) ∧ cOpd x = some y0 := by
  have noBin : ∀ {b ts ys}, cBuiltin P b ts ys ≠ some (.move y0) := by
    intro b ts ys hc
    unfold cBuiltin at hc
    split at hc
    · (repeat' split at hc) <;> first | (cases hc; done) | (obtain ⟨_, _, h⟩ := Option.map_eq_some_iff.1 hc; cases h)
    · (repeat' split at hc) <;> first | (cases hc; done) | (injection hc with hc; cases hc)
    · unfold cAppend at hc
      (repeat' split at hc) <;> first | (cases hc; done) | (injection hc with hc; cases hc)
    · unfold cCopy at hc
      (repeat' split at hc) <;> first | (cases hc; done) | (injection hc with hc; cases hc)
    · obtain ⟨_, _, h⟩ := Option.map_eq_some_iff.1 hc; cases h
    · obtain ⟨_, _, h⟩ := Option.map_eq_some_iff.1 hc; cases h
    · cases hc
  cases ho : o.op with
  | call c =>
    rw [ho] at h
    obtain ⟨callee, args, ts⟩ := c
    simp only [cOp] at h
    split at h
    · rename_i b hb
      exact absurd h noBin
    · split at h
      · injection h with h
        cases h
      · cases h
    · cases h
  | move x => rw [ho] at h; obtain ⟨y, hy, h⟩ := Option.map_eq_some_iff.1 h; injection h with h; subst h; exact ⟨x, .inl rfl, hy⟩
  | assign x => rw [ho] at h; obtain ⟨y, hy, h⟩ := Option.map_eq_some_iff.1 h; injection h with h; subst h; exact ⟨x, .inr rfl, hy⟩
  | pick c x y => rw [ho] at h; simp only [cOp] at h; (repeat' split at h) <;> first | (cases h; done) | (injection h with h; cases h)
  | load t x => rw [ho] at h; simp only [cOp] at h; unfold cLoad at h; (repeat' split at h) <;> first | (cases h; done) | (injection h with h; cases h)
  | store t x y => rw [ho] at h; simp only [cOp] at h; unfold cStore at h; (repeat' split at h) <;> first | (cases h; done) | (injection h with h; cases h)
  | alloc t => rw [ho] at h; obtain ⟨_, _, h⟩ := Option.map_eq_some_iff.1 h; cases h
  | box t x => rw [ho] at h; obtain ⟨_, _, h⟩ := Option.map_eq_some_iff.1 h; cases h
  | build t ps => rw [ho] at h; simp only [cOp] at h; unfold cBuild at h; (repeat' split at h) <;> first | (cases h; done) | (obtain ⟨_, _, h⟩ := Option.map_eq_some_iff.1 h; cases h)
  | buildSlice t l ps => rw [ho] at h; simp only [cOp] at h; unfold cBuildSl at h; (repeat' split at h) <;> first | (cases h; done) | (obtain ⟨_, _, h⟩ := Option.map_eq_some_iff.1 h; cases h)
  | fieldAddr s x f => rw [ho] at h; simp only [cOp] at h; unfold cFieldAddr at h; (repeat' split at h) <;> first | (cases h; done) | (injection h with h; cases h)
  | field s x f => rw [ho] at h; simp only [cOp] at h; unfold cField at h; (repeat' split at h) <;> first | (cases h; done) | (injection h with h; cases h)
  | indexAddr t x i => rw [ho] at h; simp only [cOp] at h; unfold cIndexAddr at h; (repeat' split at h) <;> first | (cases h; done) | (injection h with h; cases h)
  | index t x i => rw [ho] at h; simp only [cOp] at h; unfold cIndex at h; (repeat' split at h) <;> first | (cases h; done) | (injection h with h; cases h)
  | slice t x lo hi mx => rw [ho] at h; simp only [cOp] at h; unfold cSlice at h; (repeat' split at h) <;> first | (cases h; done) | (injection h with h; cases h)
  | convert s t x => rw [ho] at h; simp only [cOp] at h; unfold cConv at h; (repeat' split at h) <;> first | (cases h; done) | (injection h with h; cases h)
  | unOp op t x => rw [ho] at h; simp only [cOp] at h; (repeat' split at h) <;> first | (cases h; done) | (obtain ⟨_, _, h⟩ := Option.map_eq_some_iff.1 h; cases h)
  | binOp op t x y t' => rw [ho] at h; simp only [cOp] at h; unfold cBin at h; (repeat' split at h) <;> first | (cases h; done) | (injection h with h; cases h)
  | extract x i => rw [ho] at h; obtain ⟨_, _, h⟩ := Option.map_eq_some_iff.1 h; cases h
  | makeInterface t x => rw [ho] at h; simp only [cOp] at h; (repeat' split at h) <;> first | (cases h; done) | (obtain ⟨_, _, h⟩ := Option.map_eq_some_iff.1 h; cases h)
  | makeFunc fn first caps => rw [ho] at h; simp only [cOp] at h; (repeat' split at h) <;> first | (cases h; done) | (obtain ⟨_, _, h⟩ := Option.map_eq_some_iff.1 h; cases h)
  | makeSlice t l c => rw [ho] at h; simp only [cOp] at h; unfold cMakeSl at h; (repeat' split at h) <;> first | (cases h; done) | (injection h with h; cases h)
  | nilCheck x => rw [ho] at h; obtain ⟨_, _, h⟩ := Option.map_eq_some_iff.1 h; cases h
  | makeMap t r => rw [ho] at h; cases r <;> cases h
  | lookup t x k ok => rw [ho] at h; simp only [cOp] at h; unfold cLook at h; (repeat' split at h) <;> first | (cases h; done) | (injection h with h; cases h)
  | mapUpdate t m k x => rw [ho] at h; simp only [cOp] at h; unfold cMapPut at h; (repeat' split at h) <;> first | (cases h; done) | (injection h with h; cases h)
  | insert t m k x => rw [ho] at h; simp only [cOp] at h; unfold cMapPut at h; (repeat' split at h) <;> first | (cases h; done) | (injection h with h; cases h)
  | _ => rw [ho] at h; cases h
def FIC (X : Cx) (n : Nat) (C : Chn) (b : Bool) (i : Nat) (ρ : Env) (a : Act) (w : World) : Prop :=
  (C.float b i = false ∧ ∃ G, Inv X (C.S i) G w ∧ EnvRep G (OwnF X (C.S i) G) w n ρ a) ∨
  (C.float b i = true ∧ ∃ ka d m cs G X' blk, C.al = some (ka, d, m, cs) ∧ Aside X X' blk cs ∧ Inv X' (C.S i) G w ∧ EnvRep G (OwnF X' (C.S i) G) w n (dropA [d] ρ) a ∧ a.tmps.getD d undef = .pointer (some ⟨blk, 0, none⟩) ∧ getA d ρ = some (.ptr (C.S m).next 0))
theorem away_at {C : Chn} {k ka d m : Nat} {cs : List PV} {o : POp} (ha : C.al = some (ka, d, m, cs)) (h : C.away k o = true) : d ∉ o.tmps ∧ o.dst ≠ some d := by
  simp only [Chn.away, ha, Bool.and_eq_true, decide_eq_true_eq, Bool.not_eq_true'] at h
  exact ⟨by simpa using h.2.1, h.2.2⟩
theorem drop_get {ρ : Env} {d t : Nat} (h : t ≠ d) : getA t (dropA [d] ρ) = getA t ρ := by
  rw [getA_dropA]
  rw [if_neg (by simpa using h)]
theorem drop_put {ρ : Env} {d : Nat} {e : Option Nat} {p : PV} (h : e ≠ some d) : EqA (Env.put (dropA [d] ρ) e p) (dropA [d] (Env.put ρ e p)) := by
  intro t
  cases e with
  | none => rfl
  | some e =>
    have he : e ≠ d := fun x => h (by rw [x])
    simp only [Env.put, getA_putA, getA_dropA]
    by_cases h1 : e = t
    · subst h1
      simp [he]
    · simp [h1]
theorem float_next {C : Chn} {b : Bool} {i : Nat} (hs : C.stores i = false) : C.float b (i + 1) = C.float b i := by
  unfold Chn.float Chn.stores at *
  split
  · rfl
  · rename_i ka d m cs h
    rw [h] at hs
    have hs : Nat.beq m i = false := hs
    have hne : m ≠ i := Nat.ne_of_beq_eq_false hs
    congr 1
    cases h1 : Nat.ble i m with
    | true => exact Nat.ble_eq_true_of_le (by have := Nat.le_of_ble_eq_true h1; omega)
    | false =>
      cases h2 : Nat.ble (i + 1) m with
      | false => rfl
      | true => exact absurd (Nat.ble_eq_true_of_le (Nat.le_trans (Nat.le_succ _) (Nat.le_of_ble_eq_true h2))) (by rw [h1]; simp)
theorem wpOp_stepC {C : Chn} {b b1 : Bool} {i i1 : Nat} {ops : Array Oper} {w : World} {ρ : Env} {a : Act} (hF : FIC X n C b i ρ a w) {k : Nat} {O : Oper} {o : POp} (hO : ops[k]? = some O) (hc : cPOp P ops n O = some o) {p : PV} (hy : StepC P C k o ρ b i p b1 i1) {K : Act → World → Prop} {Q : Exit → Act → World → Prop}
    (hK : ∀ a' w', FIC X n C b1 i1 (Env.put ρ o.dst p) a' w' → K a' w') : wpOp P ops Q k K a w := by
  obtain ⟨c1, c2, c3, c4⟩ := cPOp_spec hc
  have plain : ∀ {A B : St}, C.away k o = true → C.S i = A → C.S i1 = B → b1 = b → C.float b i1 = C.float b i → (∀ (X0 : Cx) (G : Gh) (ρ0 : Env) (K0 : Act → World → Prop), (∀ t ∈ o.tmps, getA t ρ = getA t ρ0) → Inv X0 A G w → EnvRep G (OwnF X0 A G) w n ρ0 a → After X0 n B (Env.put ρ0 o.dst p) K0 → wpOp P ops Q k K0 a w) → wpOp P ops Q k K a w := by
    intro A B haw hA hB hb hf hstep
    subst hA hB hb
    rcases hF with ⟨f1, G, f2, f3⟩ | ⟨f1, ka, d, m, cs, G, X', blk, g1, g2, g3, g4, g5, g6⟩
    · exact hstep X G ρ K (fun _ _ => rfl) f2 f3 fun G' w' a' h1 h2 => hK a' w' (.inl ⟨hf.trans f1, G', h1, h2⟩)
    · obtain ⟨e1, e2⟩ := away_at g1 haw
      refine wpOp_keeps hO (K := fun a' w' => ∃ G', Inv X' (C.S i1) G' w' ∧ EnvRep G' (OwnF X' (C.S i1) G') w' n (dropA [d] (Env.put ρ o.dst p)) a') (fun a' w' ht hh => ?_)
        (hstep X' G (dropA [d] ρ) _ (fun t ht => (drop_get (t := t) (d := d) (ρ := ρ) (by intro e; rw [e] at ht; exact e1 ht)).symm) g3 g4 fun G' w' a' h1 h2 => ⟨G', h1, eqA_env h2 (drop_put e2)⟩)
      obtain ⟨G', h1, h2⟩ := hh
      refine hK a' w' (.inr ⟨hf.trans f1, ka, d, m, cs, G', X', blk, g1, g2, h1, h2, ?_, ?_⟩)
      · rw [ht d (by rw [← c3]; exact e2)]; exact g5
      · rw [put_other e2]; exact g6
  rcases hy with ⟨a1, a2, rfl, rfl, a5⟩ | ⟨a1, a2, a3, a4, a5, rfl, rfl, a8⟩ | ⟨d, m, cs, a1, a2, a3, a4, a5, a6, a7, rfl, rfl, rfl⟩ | ⟨ka, d, cs, a1, a2, a3, a4, a5, rfl, rfl, rfl, a10, a9⟩
  · obtain ⟨M, y1, y2⟩ := a5
    exact plain a2 rfl rfl rfl rfl fun X0 G ρ0 K0 hc0 h1 h2 h3 => wpOp_ysem h1 h2 hO hc (ysem_congr hc0 (y1 i1 fun m hm => (y2 m hm).1)) fun w' a' k1 k2 => h3 G w' a' k1 k2
  · rcases a8 with a8 | ⟨a8, a9⟩
    · exact plain a2 rfl rfl rfl (float_next a5) fun X0 G ρ0 K0 hc0 h1 h2 h3 => wpOp_lsem h1 h2 hO hc (lsem_congr hc0 a8) h3
    · exact plain (A := C.S i) (B := C.S i) a2 rfl a8 rfl (float_next a5) fun X0 G ρ0 K0 hc0 h1 h2 h3 => wpOp_ysem h1 h2 hO hc (ysem_congr hc0 a9) fun w' a' k1 k2 => h3 G w' a' k1 k2
  · rcases hF with ⟨_, G, f2, f3⟩ | ⟨f1, _⟩
    · rw [a5] at c2
      obtain ⟨t, e1, e2⟩ := cOp_alloc c2
      obtain ⟨z, hzr, _⟩ := zeroOf_spec (G := G) (own := OwnF X (C.S i1) G) (w := w) e2
      have hz : ∀ (G : Gh) (own : Nat → Prop) (w : World), CellsRep G own w z.cells cs := fun G' own' w' => by
        obtain ⟨z', hz', hc'⟩ := zeroOf_spec (G := G') (own := own') (w := w') e2
        have h1 := hzr w
        rw [hz' w] at h1
        injection h1 with h1
        subst h1
        exact hc'
      obtain ⟨k1, k2, k3⟩ := aside_new f2 (hz noG _ w) t
      have hrun : (execOp a.eval O).run P w = .ok (.value (.pointer (some ⟨w.heap.size, 0, none⟩))) (w.alloc (.cells z.cells t)) := by
        simp only [execOp, e1, Instr.alloc]
        simp only [Sem.run_bind, hzr, Result.andThen_ok, newVar, newRow, run_newObj, Sem.run_pure]
        rfl
      have hdl : d < n := dst_lt c4 d (by rw [← c3]; exact a3)
      have hOd : O.dst = some d := by rw [← c3]; exact a3
      unfold wpOp
      simp only [hO]
      rw [gd_wanted f3 c1 (b := true) (by rw [a4]; rfl)]
      simp only [if_true]
      refine .inl ?_
      unfold Oper.wp
      rw [hrun, Oper.upon_value, hOd]
      refine hK _ _ (.inr ⟨?_, k, d, m, cs, G, _, _, a1, k1, k2, ⟨f3.defers, by simp [Act.put, f3.size], fun u q hq => ?_⟩, ?_, ?_⟩)
      · simp only [Chn.float, a1, Bool.true_and]
        exact Nat.ble_eq_true_of_le a7
      · rw [a3] at hq
        have hud : u ≠ d := fun e => by
          rw [e, getA_dropA] at hq
          simp at hq
        rw [drop_get hud, put_other (by simpa using fun e => hud e.symm)] at hq
        rw [getD_put (n := 0) (by simpa using fun e => hud e.symm)]
        exact k3 (f3.reps u q hq)
      · simp only [Act.put, Array.getD_eq_getD_getElem?, Array.getElem?_setIfInBounds]
        simp [f3.size, hdl]
      · rw [a3]
        simp only [Env.put, getA_putA]
        simp [a6]
    · unfold Chn.float at f1
      split at f1
      · cases f1
      · simp at f1
  · rcases hF with ⟨f1, _⟩ | ⟨_, ka', d', m', cs', G, X', blk, g1, g2, g3, g4, g5, g6⟩
    · simp only [Chn.float, a1, Bool.true_and] at f1
      rw [Nat.ble_eq_true_of_le (Nat.le_refl _)] at f1
      cases f1
    · rw [a1] at g1
      injection g1 with g1
      injection g1 with g11 g1
      injection g1 with g12 g1
      injection g1 with g13 g14
      subst g11 g12 g13 g14
      obtain ⟨G1, k1, k2, k3⟩ := aside_named g2 g3
      have hE : EnvRep G1 (OwnF X ((C.S i).new (.var cs)) G1) w n ρ a := by
        refine ⟨g4.defers, g4.size, fun u q hq => ?_⟩
        by_cases hud : u = d
        · subst hud
          rw [g6] at hq
          injection hq with hq
          subst hq
          rw [g5]
          exact k3
        · exact k2 (g4.reps u q (by rw [drop_get hud]; exact hq))
      refine wpOp_lsem k1 hE hO hc a9 fun G' w' a' h1 h2 => hK a' w' (.inl ⟨?_, G', h1, h2⟩)
      simp only [Chn.float, a1, Bool.true_and]
      cases h3 : Nat.ble (i + 1) i with
      | false => rfl
      | true => exact absurd (Nat.le_of_ble_eq_true h3) (by omega)
theorem wpAny_of_anyC {C : Chn} {b' : Bool} {c' : Nat} {ops : Array Oper} {L : List POp} {ρ' : Env} (hc : cOps P ops n ops.toList = some L) {Q : Exit → Act → World → Prop} (hQ : ∀ a w ρ, FIC X n C b' c' ρ a w → EqA ρ ρ' → Q .normal a w) :
    ∀ (fuel : Nat) (listed : Array Bool) (ρ : Env) (b : Bool) (c : Nat) (a : Act) (w : World), FIC X n C b c ρ a w → anyC P C ops L ρ' b' c' fuel listed ρ b c → wpAny P .any ops Q fuel listed a w
  | 0, _, ρ, b, c, a, w, hF, h => by
    obtain ⟨h1, h2, rfl, rfl⟩ := h
    exact ⟨h1, hQ a w ρ hF h2⟩
  | fuel + 1, listed, ρ, b, c, a, w, hF, h => ⟨fun h0 => by
      obtain ⟨h2, rfl, rfl⟩ := h.1 h0
      exact hQ a w ρ hF h2, fun i hi => by
      obtain ⟨o, p, b1, c1, h1, h2, h3⟩ := h.2 i hi
      obtain ⟨_, O, hO, _⟩ := mem_ready.1 hi
      exact wpOp_stepC hF hO ((cOps_get hc).2 i O o (by simpa using hO) h1) h2 (fun a' w' hF' => wpAny_of_anyC hc hQ fuel _ _ _ _ a' w' hF' h3)⟩
theorem wp_drawnLc {C : Chn} {b' : Bool} {c' : Nat} {G : Gh} {id : Nat} {ops : Array Oper} {L : List POp} {w : World} {ρ ρ' : Env} {a : Act} {Q : Exit → Act → World → Prop} (hm : P.follows .mixedOrders = true) (hB : Region.lexB .any ops = true) (hok : tmpsOk ops ops.toList L = true) (hc : cOps P ops n ops.toList = some L)
    (hI : Inv X (C.S 0) G w) (hE : EnvRep G (OwnF X (C.S 0) G) w n ρ a) (hf : C.float b' c' = false) (hl : LexC P C 0 L ρ false 0 ρ' b' c') (hQ : ∀ G a w, Inv X (C.S c') G w → EnvRep G (OwnF X (C.S c') G) w n ρ' a → Q .normal a w) : (Code.region id ops true).wp P Q a w := by
  simp only [Region.lexB, Bool.and_eq_true] at hB
  have hd : Below w.heap.size w { w with drawn := w.drawn + 1 } := ⟨rfl, rfl, rfl, Nat.le_refl _, fun _ _ => rfl⟩
  obtain ⟨i1, i2⟩ := inv_below hI hd
  refine wp_region_any hm ?_
  have := anyC_lex (P := P) (C := C) (ρ' := ρ') (b' := b') (c' := c') hok ops.toList L 0 (Array.replicate ops.size false) ρ false 0 (by simpa using (tmpsOk_spec hok).1) (by simp) (by simp) (by simpa using hB.2) hl
  refine wpAny_of_anyC (C := C) (b' := b') (c' := c') hc (fun a w ρ1 hF h3 => ?_) _ _ ρ false 0 a _ (.inl ⟨?_, G, i1, i2.env hE⟩) (by simpa using this)
  · rcases hF with ⟨_, G', h1, h2⟩ | ⟨h1, _⟩
    · exact hQ G' a w h1 (eqA_env h2 h3)
    · rw [hf] at h1; cases h1
  · unfold Chn.float
    split <;> simp
end
section
variable {σ : Type}
structure StepLaw (Step : Nat → POp → Env → σ → PV → σ → Prop) : Prop where
  congr : ∀ {k : Nat} {o : POp} {ρ ρ' : Env} {s s1 : σ} {p : PV}, (∀ t ∈ o.tmps, getA t ρ = getA t ρ') → Step k o ρ s p s1 → Step k o ρ' s p s1
  swap : ∀ {i j : Nat} {oi oj : POp} {ρ ρ1 : Env} {s si sij : σ} {v u : PV}, i ≠ j → (∀ d, oi.dst = some d → d ∉ oj.tmps) → Step i oi ρ s v si → Step j oj ρ1 si u sij → ∃ sj, Step j oj ρ1 s u sj ∧ Step i oi ρ sj v sij
def LexS (Step : Nat → POp → Env → σ → PV → σ → Prop) : Nat → List POp → Env → σ → Env → σ → Prop
  | k, [], ρ, s, ρ', s' => ρ' = ρ ∧ s' = s
  | k, o :: l, ρ, s, ρ', s' => ∃ p s1, Step k o ρ s p s1 ∧ LexS Step (k + 1) l (Env.put ρ o.dst p) s1 ρ' s'
def anyS (Step : Nat → POp → Env → σ → PV → σ → Prop) (ops : Array Oper) (L : List POp) (ρ' : Env) (s' : σ) : Nat → Array Bool → Env → σ → Prop
  | 0, listed, ρ, s => Region.ready .any ops listed = [] ∧ EqA ρ ρ' ∧ s = s'
  | fuel + 1, listed, ρ, s => (Region.ready .any ops listed = [] → EqA ρ ρ' ∧ s = s') ∧ ∀ i ∈ Region.ready .any ops listed, ∃ o p s1, L[i]? = some o ∧ Step i o ρ s p s1 ∧ anyS Step ops L ρ' s' fuel (listed.setIfInBounds i true) (Env.put ρ o.dst p) s1
variable {Step : Nat → POp → Env → σ → PV → σ → Prop} {ops : Array Oper} {L : List POp} {ρ' : Env} {s' : σ}
theorem anyS_eqv (hS : StepLaw Step) : ∀ (fuel : Nat) (listed : Array Bool) (ρ ρ1 : Env) (s : σ), EqA ρ ρ1 → anyS Step ops L ρ' s' fuel listed ρ s → anyS Step ops L ρ' s' fuel listed ρ1 s
  | 0, listed, ρ, ρ1, s, he, h => ⟨h.1, fun t => (he t).symm.trans (h.2.1 t), h.2.2⟩
  | fuel + 1, listed, ρ, ρ1, s, he, h => ⟨fun hr => ⟨fun t => (he t).symm.trans ((h.1 hr).1 t), (h.1 hr).2⟩, fun i hi => by
      obtain ⟨o, p, s1, h1, h2, h3⟩ := h.2 i hi
      exact ⟨o, p, s1, h1, hS.congr (fun t _ => he t) h2, anyS_eqv hS fuel _ _ _ _ (he.put _ _) h3⟩⟩
theorem anyS_first (hS : StepLaw Step) (hok : tmpsOk ops ops.toList L = true) {i : Nat} {oi : POp} {Oi : Oper} {v : PV} (hi : L[i]? = some oi) (hiO : ops[i]? = some Oi) :
    ∀ (fuel : Nat) (listed : Array Bool) (ρ : Env) (s s1 : σ),
      (∀ j Oj, ops[j]? = some Oj → j ≠ i → listed.getD j true = false → (∀ e ∈ Oj.after, Region.binds .any e = true → e.on ≠ i) → Oi.apart ops Oj = true) →
      i ∈ Region.ready .any ops listed → Step i oi ρ s v s1 → anyS Step ops L ρ' s' fuel (listed.setIfInBounds i true) (Env.put ρ oi.dst v) s1 → anyS Step ops L ρ' s' (fuel + 1) listed ρ s := by
  intro fuel
  induction fuel with
  | zero =>
    intro listed ρ s s1 _ hr hy H
    refine ⟨fun h => (by rw [h] at hr; cases hr), fun j hj => ?_⟩
    by_cases hji : j = i
    · subst hji; exact ⟨oi, v, s1, hi, hy, H⟩
    · have := ready_mono hj hji
      rw [H.1] at this
      cases this
  | succ fuel ih =>
    intro listed ρ s s1 hfree hr hy H
    refine ⟨fun h => (by rw [h] at hr; cases hr), fun j hj => ?_⟩
    by_cases hji : j = i
    · subst hji; exact ⟨oi, v, s1, hi, hy, H⟩
    · obtain ⟨oj, u, s2, hLj, hyj, hrest⟩ := H.2 j (ready_mono hj hji)
      obtain ⟨hjun, Oj, hOj, hall⟩ := mem_ready.1 hj
      have hnot : ∀ e ∈ Oj.after, Region.binds .any e = true → e.on ≠ i := fun e he hb heq => by
        have h1 := hall e he hb
        have h0 := (mem_ready.1 hr).1
        rw [heq] at h1
        rcases Nat.lt_or_ge i listed.size with h' | h'
        · simp [h'] at h0 h1; rw [h0] at h1; cases h1
        · simp [Array.getElem?_eq_none h'] at h1
      have hap := hfree j Oj hOj hji hjun hnot
      obtain ⟨a1, a2, a3⟩ := Oper.apart_spec hap
      obtain ⟨_, hk⟩ := tmpsOk_spec hok
      obtain ⟨ti, di⟩ := hk i Oi oi (by simpa using hiO) hi
      obtain ⟨tj, dj⟩ := hk j Oj oj (by simpa using hOj) hLj
      obtain ⟨sj, hyj0, hyi0⟩ := hS.swap (Ne.symm hji) (fun x hx => fun ht => a1 x (by rw [← di]; exact hx) (tj x ht)) hy hyj
      have hyj' : Step j oj ρ s u sj := hS.congr (fun t ht => put_other (fun e => a1 t (by rw [← di]; exact e) (tj t ht))) hyj0
      have hyi' : Step i oi (Env.put ρ oj.dst u) sj v s2 := hS.congr (fun t ht => (put_other (fun e => a3 t (by rw [← dj]; exact e) (ti t ht))).symm) hyi0
      refine ⟨oj, u, sj, hLj, hyj', ih (listed.setIfInBounds j true) (Env.put ρ oj.dst u) sj s2 (fun k Ok hk hki hun hno => ?_) (ready_mono hr (Ne.symm hji)) hyi' ?_⟩
      · refine hfree k Ok hk hki ?_ hno
        by_cases hjk : j = k
        · subst hjk; exact hjun
        · rw [getD_set_ne true hjk] at hun; exact hun
      · rw [Array.setIfInBounds_comm _ _ hji]
        refine anyS_eqv hS fuel _ _ _ _ (put_comm (fun x hx => ?_) v u) hrest
        rw [dj]
        exact a2 x (by rw [← di]; exact hx)
theorem anyS_lex (hS : StepLaw Step) (hok : tmpsOk ops ops.toList L = true) : ∀ (l : List Oper) (pl : List POp) (k : Nat) (listed : Array Bool) (ρ : Env) (s : σ), l.length = pl.length → (∀ j, l[j]? = ops[k + j]?) → (∀ j, pl[j]? = L[k + j]?) →
    Region.lexFrom .any ops l.length k listed = true → LexS Step k pl ρ s ρ' s' → anyS Step ops L ρ' s' l.length listed ρ s
  | [], [], _, _, _, _, _, _, _, hB, h => ⟨by simpa [Region.lexFrom] using hB, fun t => by rw [show ρ' = _ from h.1], h.2.symm⟩
  | [], _ :: _, _, _, _, _, hl, _, _, _, _ => by cases hl
  | _ :: _, [], _, _, _, _, hl, _, _, _, _ => by cases hl
  | O :: l, o :: pl, k, listed, ρ, s, hlen, hl, hp, hB, h => by
    have h0 : ops[k]? = some O := by simpa using (hl 0).symm
    have h1 : L[k]? = some o := by simpa using (hp 0).symm
    simp only [List.length_cons, Region.lexFrom, Bool.and_eq_true] at hB
    obtain ⟨⟨hr, hf⟩, hB'⟩ := hB
    obtain ⟨p, s1, hy, hrest⟩ := h
    exact anyS_first hS hok h1 h0 l.length listed ρ s s1 (Region.free_spec h0 hf) (by simpa using hr) hy
      (anyS_lex hS hok l pl (k + 1) _ _ _ (by simpa using hlen) (fun j => by have := hl (j + 1); simpa [Nat.add_assoc, Nat.add_comm 1 j] using this) (fun j => by have := hp (j + 1); simpa [Nat.add_assoc, Nat.add_comm 1 j] using this) hB' hrest)
end
def StepB (P : Program) (C : Bx) (k : Nat) (o : POp) (ρ : Env) (s : St × Bool) (p : PV) (s1 : St × Bool) : Prop :=
  (k ≠ C.m ∧ C.away o = true ∧ s1 = s ∧ (s.1 = C.A ∨ s.1 = C.B) ∧ YSem P C.A o ρ p ∧ YSem P C.B o ρ p) ∨
  (k = C.m ∧ C.away o = true ∧ s.1 = C.A ∧ s1 = (C.B, s.2) ∧ LSem P C.A o ρ p C.B) ∨
  (s.2 = false ∧ s1 = (s.1, true) ∧ (s.1 = C.A ∨ s.1 = C.B) ∧ o.guard = none ∧ o.dst = some C.d ∧ C.d ∈ C.D ∧ (∃ x, o.op = .box x ∧ (∀ t ∈ x.tmps, t ∉ C.D) ∧ (x.ev ρ).isJunk = false ∧ (x.ev ρ).cells = C.cs) ∧ (∀ look, ∀ c ∈ C.cs, View false look c c) ∧ p = .ptr C.N 0) ∨
  (s.2 = true ∧ s1 = s ∧ (s.1 = C.A ∨ s.1 = C.B) ∧ o.guard = none ∧ (∃ e, o.dst = some e ∧ e ∈ C.D ∧ e ≠ C.d) ∧ C.d ∈ C.D ∧ o.op = .move (.t C.d) ∧ getA C.d ρ = some (.ptr C.N 0) ∧ p = .ptr C.N 0)
theorem stepB_law {P : Program} {C : Bx} : StepLaw (StepB P C) where
  congr := by
    intro k o ρ ρ' s s1 p h hy
    rcases hy with ⟨h1, h2, h3, h4, h5, h6⟩ | ⟨h1, h2, h3, h4, h5⟩ | ⟨h1, h2, h3, h4, h5, h6, ⟨x, h7, h8, h9, h10⟩, h11, h12⟩ | ⟨h1, h2, h3, h4, h5, h6, h7, h8, h9⟩
    · exact .inl ⟨h1, h2, h3, h4, ysem_congr h h5, ysem_congr h h6⟩
    · exact .inr (.inl ⟨h1, h2, h3, h4, lsem_congr h h5⟩)
    · have e : x.ev ρ = x.ev ρ' := ev_congr fun t ht => h t (by simp [POp.tmps, h7, PI.tmps, ht])
      exact .inr (.inr (.inl ⟨h1, h2, h3, h4, h5, h6, ⟨x, h7, h8, by rw [← e]; exact h9, by rw [← e]; exact h10⟩, h11, h12⟩))
    · exact .inr (.inr (.inr ⟨h1, h2, h3, h4, h5, h6, h7, by rw [← h C.d (by simp [POp.tmps, h7, PI.tmps, Opd.tmps])]; exact h8, h9⟩))
  swap := by
    intro i j oi oj ρ ρ1 s si sij v u hij hap hi hj
    rcases hi with ⟨a1, a2, rfl, a4, a5, a6⟩ | ⟨a1, a2, a3, rfl, a5⟩ | ⟨a1, rfl, a3, a4, a5, a6, a7, a8, a9⟩ | ⟨a1, rfl, a3, a4, a5, a6, a7, a8, a9⟩
    · refine ⟨_, hj, .inl ⟨a1, a2, rfl, ?_, a5, a6⟩⟩
      rcases hj with ⟨_, _, rfl, b, _⟩ | ⟨_, _, _, rfl, _⟩ | ⟨_, rfl, b, _⟩ | ⟨_, rfl, b, _⟩
      · exact b
      · exact .inr rfl
      · exact b
      · exact b
    · rcases hj with ⟨b1, b2, rfl, b4, b5, b6⟩ | ⟨b1, _⟩ | ⟨b1, rfl, b3, b4⟩ | ⟨b1, rfl, b3, b4⟩
      · exact ⟨_, .inl ⟨b1, b2, rfl, .inl a3, b5, b6⟩, .inr (.inl ⟨a1, a2, a3, rfl, a5⟩)⟩
      · exact absurd (a1.trans b1.symm) hij
      · exact ⟨(s.1, true), .inr (.inr (.inl ⟨b1, rfl, .inl a3, b4⟩)), .inr (.inl ⟨a1, a2, a3, rfl, a5⟩)⟩
      · exact ⟨_, .inr (.inr (.inr ⟨b1, rfl, .inl a3, b4⟩)), .inr (.inl ⟨a1, a2, a3, rfl, a5⟩)⟩
    · rcases hj with ⟨b1, b2, rfl, b4, b5, b6⟩ | ⟨b1, b2, b3, rfl, b5⟩ | ⟨b1, _⟩ | ⟨b1, rfl, b3, b4, b5, b6, b7, b8⟩
      · exact ⟨_, .inl ⟨b1, b2, rfl, a3, b5, b6⟩, .inr (.inr (.inl ⟨a1, rfl, a3, a4, a5, a6, a7, a8, a9⟩))⟩
      · exact ⟨(C.B, s.2), .inr (.inl ⟨b1, b2, b3, rfl, b5⟩), .inr (.inr (.inl ⟨a1, rfl, .inr rfl, a4, a5, a6, a7, a8, a9⟩))⟩
      · cases b1
      · exact absurd (by simp [POp.tmps, b7, PI.tmps, Opd.tmps]) (hap C.d a5)
    · rcases hj with ⟨b1, b2, rfl, b4, b5, b6⟩ | ⟨b1, b2, b3, rfl, b5⟩ | ⟨b1, _⟩ | ⟨b1, rfl, b3, b4⟩
      · exact ⟨_, .inl ⟨b1, b2, rfl, a3, b5, b6⟩, .inr (.inr (.inr ⟨a1, rfl, a3, a4, a5, a6, a7, a8, a9⟩))⟩
      · exact ⟨(C.B, _), .inr (.inl ⟨b1, b2, b3, rfl, b5⟩), .inr (.inr (.inr ⟨a1, rfl, .inr rfl, a4, a5, a6, a7, a8, a9⟩))⟩
      · rw [a1] at b1; cases b1
      · exact ⟨_, .inr (.inr (.inr ⟨b1, rfl, b3, b4⟩)), .inr (.inr (.inr ⟨a1, rfl, a3, a4, a5, a6, a7, a8, a9⟩))⟩
section
variable {P : Program} {X : Cx} {n : Nat}
def FIB (X : Cx) (n : Nat) (C : Bx) (s : St × Bool) (ρ : Env) (a : Act) (w : World) : Prop :=
  (s.2 = false ∧ ∃ G, Inv X s.1 G w ∧ EnvRep G (OwnF X s.1 G) w n ρ a) ∨
  (s.2 = true ∧ ∃ G X' blk, Aside X X' blk C.cs ∧ Inv X' s.1 G w ∧ EnvRep G (OwnF X' s.1 G) w n (dropA C.D ρ) a ∧ ∀ e ∈ C.D, getA e ρ = some (.ptr C.N 0) → a.tmps.getD e undef = .pointer (some ⟨blk, 0, none⟩))
omit [Gl] in
theorem awayB {C : Bx} {o : POp} (h : C.away o = true) : (∀ t ∈ o.tmps, t ∉ C.D) ∧ ∀ e ∈ C.D, o.dst ≠ some e := by
  simp only [Bx.away, Bool.and_eq_true, List.all_eq_true, decide_eq_true_eq, Bool.not_eq_true'] at h
  exact ⟨fun t ht hd => by have := h.1 t ht; simp [hd] at this, h.2⟩
omit [Gl] in
theorem dropL_get {ρ : Env} {D : List Nat} {t : Nat} (h : t ∉ D) : getA t (dropA D ρ) = getA t ρ := by
  rw [getA_dropA]
  rw [if_neg (by simpa using h)]
omit [Gl] in
theorem dropL_put {ρ : Env} {D : List Nat} {e : Option Nat} {p : PV} (h : ∀ d ∈ D, e ≠ some d) : EqA (Env.put (dropA D ρ) e p) (dropA D (Env.put ρ e p)) := by
  intro t
  cases e with
  | none => rfl
  | some e =>
    have he : e ∉ D := fun x => h e x rfl
    simp only [Env.put, getA_putA, getA_dropA]
    by_cases h1 : e = t
    · subst h1
      simp [he]
    · simp [h1]
theorem wpOp_stepB {C : Bx} (hA : C.A.next ≤ C.N) (hB : C.B.next ≤ C.N) {s s1 : St × Bool} {ops : Array Oper} {w : World} {ρ : Env} {a : Act} (hF : FIB X n C s ρ a w) {k : Nat} {O : Oper} {o : POp} (hO : ops[k]? = some O) (hc : cPOp P ops n O = some o) {p : PV} (hy : StepB P C k o ρ s p s1) {K : Act → World → Prop} {Q : Exit → Act → World → Prop}
    (hK : ∀ a' w', FIB X n C s1 (Env.put ρ o.dst p) a' w' → K a' w') : wpOp P ops Q k K a w := by
  obtain ⟨c1, c2, c3, c4⟩ := cPOp_spec hc
  have plain : ∀ {A B : St}, C.away o = true → s.1 = A → s1 = (B, s.2) → (∀ (X0 : Cx) (G : Gh) (ρ0 : Env) (K0 : Act → World → Prop), (∀ t ∈ o.tmps, getA t ρ = getA t ρ0) → Inv X0 A G w → EnvRep G (OwnF X0 A G) w n ρ0 a → After X0 n B (Env.put ρ0 o.dst p) K0 → wpOp P ops Q k K0 a w) → wpOp P ops Q k K a w := by
    intro A B haw hA hB hstep
    subst hA hB
    obtain ⟨e1, e2⟩ := awayB haw
    rcases hF with ⟨f1, G, f2, f3⟩ | ⟨f1, G, X', blk, g2, g3, g4, g5⟩
    · exact hstep X G ρ K (fun _ _ => rfl) f2 f3 fun G' w' a' h1 h2 => hK a' w' (.inl ⟨f1, G', h1, h2⟩)
    · refine wpOp_keeps hO (K := fun a' w' => ∃ G', Inv X' B G' w' ∧ EnvRep G' (OwnF X' B G') w' n (dropA C.D (Env.put ρ o.dst p)) a') (fun a' w' ht hh => ?_)
        (hstep X' G (dropA C.D ρ) _ (fun t ht => (dropL_get (e1 t ht)).symm) g3 g4 fun G' w' a' h1 h2 => ⟨G', h1, eqA_env h2 (dropL_put e2)⟩)
      obtain ⟨G', h1, h2⟩ := hh
      refine hK a' w' (.inr ⟨f1, G', X', blk, g2, h1, h2, fun e he hq => ?_⟩)
      rw [ht e (by rw [← c3]; exact e2 e he)]
      exact g5 e he (by rw [put_other (e2 e he)] at hq; exact hq)
  have hlow : s.1 = C.A ∨ s.1 = C.B → s.1.next ≤ C.N := fun h => by rcases h with h | h <;> rw [h] <;> assumption
  rcases hy with ⟨a1, a2, a3, a4, a5, a6⟩ | ⟨a1, a2, a3, a4, a5⟩ | ⟨a1, a2, a3, a4, a5, a6, ⟨x, a7, a8, a9, a10⟩, a11, a12⟩ | ⟨a1, a2, a3, a4, ⟨e, a5, a6, a7⟩, a8, a9, a10, a11⟩
  · have hY : YSem P s.1 o ρ p := by rcases a4 with h | h <;> rw [h] <;> assumption
    exact plain (A := s.1) (B := s.1) a2 rfl a3 fun X0 G ρ0 K0 hc0 h1 h2 h3 => wpOp_ysem h1 h2 hO hc (ysem_congr hc0 hY) fun w' a' k1 k2 => h3 G w' a' k1 k2
  · exact plain (A := C.A) (B := C.B) a2 a3 a4 fun X0 G ρ0 K0 hc0 h1 h2 h3 => wpOp_lsem h1 h2 hO hc (lsem_congr hc0 a5) h3
  · rcases hF with ⟨_, G, f2, f3⟩ | ⟨f1, _⟩
    · rw [a7] at c2
      obtain ⟨t, y, e1, e2⟩ := cOp_box c2
      have hcr : CellsRep G (OwnF X s.1 G) w (a.eval y).cells C.cs := by rw [← a10]; exact rep_cells (opd_rep f3 e2) (junk_ne a9)
      have hcn : CellsRep noG (OwnF X s.1 G) w (a.eval y).cells C.cs := ⟨hcr.1, fun i c hi => view_rep f2 (live := false) (fun b hb => hb) (fun h => by cases h) (a11 _ c (List.mem_of_getElem? hi)) (hcr.2 i c hi)⟩
      obtain ⟨k1, k2, k3⟩ := aside_new f2 hcn t
      have hrun : (execOp a.eval O).run P w = .ok (.value (.pointer (some ⟨w.heap.size, 0, none⟩))) (w.alloc (.cells (a.eval y).cells t)) := by
        simp only [execOp, e1, Instr.box]
        simp only [Sem.run_bind, Result.andThen_ok, newVar, newRow, run_newObj, Sem.run_pure]
        rfl
      have hdl : C.d < n := dst_lt c4 C.d (by rw [← c3]; exact a5)
      have hOd : O.dst = some C.d := by rw [← c3]; exact a5
      unfold wpOp
      simp only [hO]
      rw [gd_wanted f3 c1 (b := true) (by rw [a4]; rfl)]
      simp only [if_true]
      refine .inl ?_
      unfold Oper.wp
      rw [hrun, Oper.upon_value, hOd]
      subst a2
      refine hK _ _ (.inr ⟨rfl, G, _, _, k1, k2, ⟨f3.defers, by simp [Act.put, f3.size], fun u q hq => ?_⟩, fun e he hq => ?_⟩)
      · have hu : u ∉ C.D := fun e => by
          rw [getA_dropA, if_pos (by simpa using e)] at hq
          cases hq
        have hud : u ≠ C.d := fun e => hu (e ▸ a6)
        rw [a5] at hq
        rw [dropL_get hu, put_other (by simpa using fun e => hud e.symm)] at hq
        rw [getD_put (n := 0) (by simpa using fun e => hud e.symm)]
        exact k3 (f3.reps u q hq)
      · by_cases hed : e = C.d
        · subst hed
          simp only [Act.put, Array.getD_eq_getD_getElem?, Array.getElem?_setIfInBounds]
          simp [f3.size, hdl]
        · rw [a5, put_other (by simpa using fun h => hed h.symm)] at hq
          have key : ∀ {v : Value}, Rep G (OwnF X s.1 G) w v (.ptr C.N 0) → ∃ L, G C.N 0 = some L := fun h => by
            cases h with
            | ptr _ _ L hG => exact ⟨L, hG⟩
          obtain ⟨L, hG⟩ := key (f3.reps e _ hq)
          have h1 := (f2.low _ _ _ hG).1
          have h2 := hlow a3
          omega
    · rw [a1] at f1; cases f1
  · rcases hF with ⟨f1, _⟩ | ⟨f1, G, X', blk, g2, g3, g4, g5⟩
    · rw [a1] at f1; cases f1
    · rw [a9] at c2
      obtain ⟨x, e1, e2⟩ := cOp_move c2
      have hx : a.eval x = a.tmps.getD C.d undef := by
        cases x <;> simp only [cOpd] at e2 <;> first | (injection e2 with e2; injection e2 with e2; subst e2; rfl) | (cases e2; done) | (split at e2 <;> first | (cases e2; done) | (injection e2 with e2; cases e2)) | (obtain ⟨_, _, e2⟩ := Option.map_eq_some_iff.1 e2; cases e2)
      have hrun : (execOp a.eval O).run P w = .ok (.value (a.eval x)) w := by
        rcases e1 with e1 | e1 <;> simp [execOp, e1]
      have hel : e < n := dst_lt c4 e (by rw [← c3]; exact a5)
      have hOd : O.dst = some e := by rw [← c3]; exact a5
      unfold wpOp
      simp only [hO]
      rw [gd_wanted g4 c1 (b := true) (by rw [a4]; rfl)]
      simp only [if_true]
      refine .inl ?_
      unfold Oper.wp
      rw [hrun, Oper.upon_value, hOd]
      subst a2
      refine hK _ _ (.inr ⟨f1, G, X', blk, g2, g3, ⟨g4.defers, by simp [Act.put, g4.size], fun u q hq => ?_⟩, fun e' he' hq => ?_⟩)
      · have hu : u ∉ C.D := fun h => by
          rw [getA_dropA, if_pos (by simpa using h)] at hq
          cases hq
        have hud : u ≠ e := fun h => hu (h ▸ a6)
        rw [a5] at hq
        rw [dropL_get hu, put_other (by simpa using fun h => hud h.symm)] at hq
        rw [getD_put (n := 0) (by simpa using fun h => hud h.symm)]
        exact g4.reps u q (by rw [dropL_get hu]; exact hq)
      · by_cases hee : e' = e
        · subst hee
          simp only [Act.put, Array.getD_eq_getD_getElem?, Array.getElem?_setIfInBounds]
          simp only [g4.size, hel, if_true, and_self, Option.getD_some]
          rw [hx]
          exact g5 C.d a8 a10
        · rw [a5, put_other (by simpa using fun h => hee h.symm)] at hq
          rw [getD_put (n := 0) (by simpa using fun h => hee h.symm)]
          exact g5 e' he' hq
theorem wpAny_of_anyB {C : Bx} (hA : C.A.next ≤ C.N) (hB : C.B.next ≤ C.N) {s' : St × Bool} {ops : Array Oper} {L : List POp} {ρ' : Env} (hc : cOps P ops n ops.toList = some L) {Q : Exit → Act → World → Prop} (hQ : ∀ a w ρ, FIB X n C s' ρ a w → EqA ρ ρ' → Q .normal a w) :
    ∀ (fuel : Nat) (listed : Array Bool) (ρ : Env) (s : St × Bool) (a : Act) (w : World), FIB X n C s ρ a w → anyS (StepB P C) ops L ρ' s' fuel listed ρ s → wpAny P .any ops Q fuel listed a w
  | 0, _, ρ, s, a, w, hF, h => by
    obtain ⟨h1, h2, rfl⟩ := h
    exact ⟨h1, hQ a w ρ hF h2⟩
  | fuel + 1, listed, ρ, s, a, w, hF, h => ⟨fun h0 => by
      obtain ⟨h2, rfl⟩ := h.1 h0
      exact hQ a w ρ hF h2, fun i hi => by
      obtain ⟨o, p, s1, h1, h2, h3⟩ := h.2 i hi
      obtain ⟨_, O, hO, _⟩ := mem_ready.1 hi
      exact wpOp_stepB hA hB hF hO ((cOps_get hc).2 i O o (by simpa using hO) h1) h2 (fun a' w' hF' => wpAny_of_anyB hA hB hc hQ fuel _ _ _ a' w' hF' h3)⟩
theorem wp_drawnB {C : Bx} (hA : C.A.next ≤ C.N) (hB : C.B.next ≤ C.N) {st' : St} (hN : st'.next = C.N) {G : Gh} {id : Nat} {ops : Array Oper} {L : List POp} {w : World} {ρ ρ' : Env} {a : Act} {Q : Exit → Act → World → Prop} (hD : ∀ e ∈ C.D, getA e ρ' = some (.ptr C.N 0)) (hm : P.follows .mixedOrders = true) (hBl : Region.lexB .any ops = true) (hok : tmpsOk ops ops.toList L = true) (hc : cOps P ops n ops.toList = some L)
    (hI : Inv X C.A G w) (hE : EnvRep G (OwnF X C.A G) w n ρ a) (hl : LexS (StepB P C) 0 L ρ (C.A, false) ρ' (st', true)) (hQ : ∀ G a w, Inv X (st'.new (.var C.cs)) G w → EnvRep G (OwnF X (st'.new (.var C.cs)) G) w n ρ' a → Q .normal a w) : (Code.region id ops true).wp P Q a w := by
  simp only [Region.lexB, Bool.and_eq_true] at hBl
  have hd : Below w.heap.size w { w with drawn := w.drawn + 1 } := ⟨rfl, rfl, rfl, Nat.le_refl _, fun _ _ => rfl⟩
  obtain ⟨i1, i2⟩ := inv_below hI hd
  refine wp_region_any hm ?_
  have := anyS_lex (ρ' := ρ') (s' := (st', true)) (stepB_law (P := P) (C := C)) hok ops.toList L 0 (Array.replicate ops.size false) ρ (C.A, false) (by simpa using (tmpsOk_spec hok).1) (by simp) (by simp) (by simpa using hBl.2) hl
  refine wpAny_of_anyB hA hB (C := C) (s' := (st', true)) hc (fun a w ρ1 hF h3 => ?_) _ _ ρ (C.A, false) a _ (.inl ⟨rfl, G, i1, i2.env hE⟩) (by simpa using this)
  rcases hF with ⟨h1, _⟩ | ⟨_, G', X', blk, g2, g3, g4, g5⟩
  · cases h1
  · obtain ⟨G1, k1, k2, k3⟩ := aside_named g2 g3
    refine hQ G1 a w k1 ⟨g4.defers, g4.size, fun u q hq => ?_⟩
    by_cases hu : u ∈ C.D
    · have h1 := hD u hu
      rw [hq] at h1
      injection h1 with h1
      subst h1
      rw [g5 u hu (by rw [h3 u]; exact hq), ← hN]
      exact k3
    · exact k2 (g4.reps u q (by rw [dropL_get hu, h3 u]; exact hq))
end
end Go.AM
