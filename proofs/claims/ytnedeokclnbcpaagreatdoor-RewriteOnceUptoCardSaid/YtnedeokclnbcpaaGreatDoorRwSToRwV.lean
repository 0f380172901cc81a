/- parse.Clone. · rewrite.shorter: what is within a step. · rewrite.shorter. -/
import Derived.Test.YtnedeokclnbcpaaGreatDoorRwLToRwR
import Derived.Test.YtnedeokclnbcpaaGreatDoorRwGToRwJ
import Derived.Test.YtnedeokclnbcpaaGreatDoorRwPToRwT
set_option linter.unusedVariables false
set_option linter.unusedSimpArgs false
namespace Go.Proofs.YtnedeokclnbcpaaGreatDoor
open Go Go.AM Go.RowKit
theorem Fsh.weak {a b : Nat} {F : List Nat} {st : St} (h : Fsh a F st) (hb : b ≤ a) : Fsh b F st := ⟨h.1, fun u hu => ⟨Nat.le_trans hb (h.2 u hu).1, (h.2 u hu).2⟩⟩
theorem okL1_mem : ∀ {l : List Stp}, Zkp l = true → ∀ {s : Stp}, s ∈ l → okS s = true
  | [], _, s, hs => by cases hs
  | x :: r, h, s, hs => by
    unfold Zkp at h
    simp only [Bool.and_eq_true] at h
    rcases List.mem_cons.1 hs with rfl | hs
    · exact h.1
    · exact okL1_mem h.2 hs
theorem preds_plain {st : St} {m : Nat} {vp o pa pb pd pe : PV} {preds : List Prd} (hg : st.get m = some (.var [o, pa, pb, vp, pd, pe])) (hA : AccR PrC 2 st vp preds) (ht : ∀ u, Z0i vp = some u → m < u) (hb : preds.length ≤ 32) :
    ∃ S' q, LR PrC q preds ∧ S'.get m = some (.var [o, pa, pb, q, pd, pe]) ∧ S'.base = st.base ∧ S'.next = st.next ∧ (∀ u, u < m → S'.get u = st.get u) ∧ ∀ {Q : Z6t} {k k' : List Fr} {x : EX} {ρ : EC} {c : PC}, Zn 200 k x = (.code c :: k', .normal) → Zn 200 (.code c :: k') .normal = (.code c :: k', .normal) → V T Q (.code c :: k') .normal ρ S' → V T Q k x ρ st := by
  rcases hA.plain (fun a cs h => h.c2.2.2) (by omega) with ⟨rfl, rfl⟩ | ⟨t, g, es, q, rfl, k1, k2, k3, k4, k5⟩
  · refine ⟨st, .nilSl, .inl ⟨rfl, rfl⟩, hg, rfl, rfl, fun _ _ => rfl, fun {Q k k' x ρ c} ha _ h => ?_⟩
    exact Z5a ha h
  · have hm : m < t := ht t rfl
    obtain ⟨S1, hS1⟩ : ∃ S, st.put t (.row g 2 es false) = S := ⟨_, rfl⟩
    have g1 : S1.get m = some (.var [o, pa, pb, .osl t g 0 es.length false, pd, pe]) := by rw [← hS1]; exact (St.get_put_old (by omega)).trans hg
    obtain ⟨S2, hS2⟩ : ∃ S, S1.put m (.var [o, pa, pb, q, pd, pe]) = S := ⟨_, rfl⟩
    refine ⟨S2, q, k3, by rw [← hS2]; exact St.get_put, by rw [← hS2, ← hS1]; rfl, by rw [← hS2, ← hS1]; rfl, fun u hu => by rw [← hS2, ← hS1]; exact (St.get_put_old (by omega)).trans (St.get_put_old (by omega)), fun {Q k k' x ρ c} hadv hadv2 h => ?_⟩
    refine V_frozeE k2 hS1 hadv ?_
    refine Zo9 g1 ?_ hS2 hadv2 h
    refine ⟨rfl, fun i c d h1 h2 => ?_⟩
    match i, h1, h2 with
    | 0, h1, h2 => simp at h1 h2; subst h1 h2; exact .inl rfl
    | 1, h1, h2 => simp at h1 h2; subst h1 h2; exact .inl rfl
    | 2, h1, h2 => simp at h1 h2; subst h1 h2; exact .inl rfl
    | 3, h1, h2 => simp at h1 h2; subst h1 h2; exact k5 _ hS1
    | 4, h1, h2 => simp at h1 h2; subst h1 h2; exact .inl rfl
    | 5, h1, h2 => simp at h1 h2; subst h1 h2; exact .inl rfl
    | i + 6, h1, h2 => simp at h1
set_option maxHeartbeats 8000000 in
theorem cstep_loop {n : Nat} (ihc : CloneR n) {l : List Stp} {p : PV} (hp : SL (n + 1) p l) (hok : Zkp l = true) (hcn : Zg l ≤ 134217728) {b : Nat} : ∀ (rest pre : List Stp) (st : St) (c : PV) (F : List Nat), l = pre ++ rest → TR (StpT n) 6 st c pre F → Fsh b F st → b ≤ st.next →
    V T (PE fun x e st' => x = .exit 0 ∧ ∃ c' F', e = Zj [(3, c')] ∧ TR (StpT n) 6 st' c' l F' ∧ Fsh b F' st' ∧ st'.base = st.base ∧ st.next ≤ st'.next ∧ ∀ u, u < b → st'.get u = st.get u)
      [.code (.loop Zbp)] .normal (Zj [(3, c), (11, p), (12, .int .i64 l.length), (13, .int .i64 pre.length)]) st := by
  have hbig := Nat.le_trans (Zhk l) hcn
  intro rest
  induction rest with
  | nil =>
    intro pre st c F hl hA hF hbn
    have hlt : decide ((pre.length : Int) < l.length) = false := decide_eq_false (by subst hl; simp)
    have hA' : TR (StpT n) 6 st c l F := by
      rw [hl, List.append_nil]
      exact hA
    refine Ze ?_
    repeat' first | ((with_reducible show V _ _ _ _ _ _); first | refine Z6s hlt rfl rfl ?_ | refine Z0w [(3, c)] rfl ⟨rfl, trivial⟩ ⟨rfl, c, F, rfl, hA', hF, rfl, Nat.le_refl _, fun _ _ => rfl⟩ | refine Z1 rfl ?_) | refine Z0 rfl ?_ | refine Z2 ?_
  | cons y rest ihr =>
    intro pre st c F hl hA hF hbn
    have hlt : decide ((pre.length : Int) < l.length) = true := decide_eq_true (by subst hl; simp; omega)
    have hpl : pre.length < l.length := by subst hl; simp
    obtain ⟨cs, ay, hcs⟩ := SL.at hp (j := pre.length) (s := y) (by subst hl; simp)
    have h6 := hcs.len6
    have h1 := hcs.one
    have hoky := okL1_mem hok (s := y) (by subst hl; simp)
    have hcy := cntS_mem (l := l) (s := y) (by subst hl; simp)
    obtain ⟨op, names, nums, preds, vals, subs⟩ := y
    obtain ⟨io, pa, pb, pc, pd, pe, rfl, ha, hb, hc, hd, he⟩ := hcs
    unfold okS at hoky
    simp only [Bool.and_eq_true] at hoky
    obtain ⟨hst, hsub⟩ := hoky
    obtain ⟨b1, b2, b3, b4, b5, b6, b7⟩ := stepB_len hst
    have pla : Pl pa := ha.pl fun _ _ _ h => h.pl
    have plb : Pl pb := hb.pl fun _ _ _ h => h.pl
    have plc : Pl pc := hc.pl fun _ _ _ h => h.pl
    have pld : Pl pd := hd.pl fun _ _ _ h => h.pl
    obtain ⟨qa, ca, ha'⟩ := run_NClone ha (by omega)
    obtain ⟨qb, cb, hb'⟩ := run_UClone hb (by omega)
    obtain ⟨qd, cd, hd'⟩ := run_cvals hd (by omega) b7
    have qla : Pl qa := ha'.pl fun _ _ _ h => h.pl
    have qlb : Pl qb := hb'.pl fun _ _ _ h => h.pl
    have qld : Pl qd := hd'.pl fun _ _ _ h => h.pl
    obtain ⟨lc1, lc2, _⟩ := hc.len
    obtain ⟨le1, le2, _⟩ := he.len
    obtain ⟨S1, hS1⟩ : ∃ S, st.new (.var z6) = S := ⟨_, rfl⟩
    have a1 : S1.get st.next = some (.var z6) := by rw [← hS1]; exact St.get_new
    have n1 : S1.next = st.next + 1 := by rw [← hS1]; rfl
    have e1 : S1.base = st.base := by rw [← hS1]; rfl
    have k1 : ∀ u, u < st.next → S1.get u = st.get u := fun u hu => by rw [← hS1]; exact St.get_new_old hu
    obtain ⟨S2, hS2⟩ : ∃ S, S1.put st.next (.var [.int .i64 op, pa, pb, pc, pd, pe]) = S := ⟨_, rfl⟩
    have a2 : S2.get st.next = some (.var [.int .i64 op, pa, pb, pc, pd, pe]) := by rw [← hS2]; exact St.get_put
    have n2 : S2.next = st.next + 1 := by rw [← hS2]; exact n1
    have e2 : S2.base = st.base := by rw [← hS2]; exact e1
    have k2 : ∀ u, u < st.next → S2.get u = st.get u := fun u hu => by rw [← hS2]; exact (St.get_put_old (by omega)).trans (k1 u hu)
    obtain ⟨m, hmm⟩ : ∃ m, st.next + 1 = m := ⟨_, rfl⟩
    obtain ⟨S3, hS3⟩ : ∃ S, S2.new (.var z6) = S := ⟨_, rfl⟩
    have g3 : S3.get m = some (.var z6) := by rw [← hS3, ← hmm, ← n2]; exact St.get_new
    have n3 : S3.next = m + 1 := by rw [← hS3]; show S2.next + 1 = m + 1; omega
    have e3 : S3.base = st.base := by rw [← hS3]; exact e2
    have k3 : ∀ u, u < m → S3.get u = S2.get u := fun u hu => by rw [← hS3]; exact St.get_new_old (by omega)
    obtain ⟨S4, hS4⟩ : ∃ S, S3.put m (.var [.int .i64 op, qa, qb, .nilSl, qd, .nilSl]) = S := ⟨_, rfl⟩
    have g4 : S4.get m = some (.var [.int .i64 op, qa, qb, .nilSl, qd, .nilSl]) := by rw [← hS4]; exact St.get_put
    have n4 : S4.next = m + 1 := by rw [← hS4]; exact n3
    have e4 : S4.base = st.base := by rw [← hS4]; exact e3
    have k4 : ∀ u, u < m → S4.get u = S2.get u := fun u hu => by rw [← hS4]; exact (St.get_put_old (by omega)).trans (k3 u hu)
    have a3 : S3.get st.next = some (.var [.int .i64 op, pa, pb, pc, pd, pe]) := (k3 _ (by omega)).trans a2
    have a4 : S4.get st.next = some (.var [.int .i64 op, pa, pb, pc, pd, pe]) := (k4 _ (by omega)).trans a2
    have hall : ∀ s, s = S2 ∨ s = S3 ∨ s = S4 → s.get st.next = some (.var [.int .i64 op, pa, pb, pc, pd, pe]) := fun s hs => by
      rcases hs with rfl | rfl | rfl
      · exact a2
      · exact a3
      · exact a4
    have hal : ∀ ρ : EC, Z1c S2 ρ (.alloc [.int .i64 0, .nilSl, .nilSl, .nilSl, .nilSl, .nilSl]) = some (.ptr m 0, S3) := fun ρ => by
      rw [← hS3, ← hmm, ← n2]
      rfl
    have hst4 : ∀ {e : EC} {a x : Opd}, a.get e = some (.ptr m 0) → x.get e = some (.agg [.int .i64 op, qa, qb, .nilSl, qd, .nilSl]) → Z1c S3 e (.store 6 a x) = some (.tuple [], S4) := fun {e a x} h1 h2 => by
      have : (PV.agg [.int .i64 op, qa, qb, .nilSl, qd, .nilSl]).cells.all PV.one = true := by
        show [PV.int .i64 op, qa, qb, .nilSl, qd, .nilSl].all PV.one = true
        simp only [List.all_cons, List.all_nil, (Z8p ha').one, (Z8p hb').one, (Z8p hd').one]
        rfl
      simp only [Z1c, h1, h2]
      rw [if_pos ⟨this, rfl, by decide⟩, Z1x g3 (by rfl)]
      rw [← hS4]
      rfl
    have hl1 := cpreds_loop hc (by omega) b6 (m := m) (c := c) (t5 := .ptr st.next 0) (p := p) (L := .int .i64 l.length) (I := .int .i64 pre.length) (o := .int .i64 op) (pa := qa) (pb := qb) (pd := qd) preds [] S4 .nilSl rfl g4 (by omega) .nil (fun u hu => by cases hu)
    refine Ze ?_
    repeat' first | ((with_reducible show V _ _ _ _ _ _); first | refine Zao hlt rfl rfl ?_ | refine V_M2 12 13 6 S3 S4 rfl rfl ?_ | refine Z0h rfl hl1 ⟨rfl, rfl, rfl, rfl, rfl, rfl, rfl, rfl, rfl, trivial⟩ ?_ | refine Z1 rfl ?_) | ((with_reducible show VO _ _ _ _ _ _ _); first | refine Zt rfl rfl ay ?_ | refine Z0n rfl h6 ?_ | refine Z5h hS1 rfl ?_ | refine Zb7 hS2 a1 h1 rfl rfl rfl rfl rfl ?_ | refine Z6u rfl a4 rfl ?_ | refine Z8 rfl lc1 lc2 ?_ | refine Z0 rfl ?_ | refine Z2 ?_) | refine M2_loadV rfl rfl (.inl rfl) rfl hall rfl ?_ | refine Zn0 rfl rfl (.inl rfl) rfl rfl (fun _ => Z08) ca ?_ | refine Zn0 rfl rfl (.inl rfl) rfl rfl (fun _ => Z08) cb ?_ | refine Zn0 rfl rfl (.inl rfl) rfl rfl (fun _ => Z08) cd ?_ | refine M2_loud1 rfl (hal _) ?_ | refine M2_loud2 rfl (by decide) (hst4 rfl rfl) ?_ | refine Z5b rfl rfl (.inl rfl) (bld6 (Z8p ha') (Z8p hb') (Z8p hd') rfl rfl rfl rfl) (bld6 (Z8p ha') (Z8p hb') (Z8p hd') rfl rfl rfl rfl) (bld6 (Z8p ha') (Z8p hb') (Z8p hd') rfl rfl rfl rfl) ?_ | refine Z5b rfl rfl (.inl rfl) rfl rfl rfl ?_ | refine M2_nil ?_
    rintro x e st5 ⟨rfl, rfl, vp, z1, z2, z3, z4, z5, z6⟩
    obtain ⟨S6, qc, hc', y1, y2, y3, y4, y5⟩ := preds_plain z1 z2 z3 b3
    have a6 : S6.get st.next = some (.var [.int .i64 op, pa, pb, pc, pd, pe]) := (y4 _ (by omega)).trans ((z6 _ (by omega)).trans a4)
    have qlc : Pl qc := hc'.pl fun _ _ _ h => h.pl
    have hl2 := csubs_loop ihc he (by omega) hsub (by rw [Zef] at hcy; omega) (m := m) (c := c) (p := p) (L := .int .i64 l.length) (I := .int .i64 pre.length) (o := .int .i64 op) (pa := qa) (pb := qb) (pc := qc) (pd := qd) subs [] S6 .nilSl [] rfl y1 (by omega) .nil ⟨List.nodup_nil, fun u hu => by cases hu⟩
    refine y5 rfl rfl ?_
    repeat' first | refine Z0h rfl hl2 ⟨rfl, rfl, rfl, rfl, rfl, rfl, rfl, rfl, trivial⟩ ?_ | refine Z1 rfl ?_ | ((with_reducible show VO _ _ _ _ _ _ _); first | refine Z6u rfl a6 rfl ?_ | refine Z8 rfl le1 le2 ?_ | refine Z0 rfl ?_ | refine Z2 ?_)
    rintro x e st7 ⟨rfl, rfl, ve, G, x1, x2, x3, x4, x5, x6⟩
    have kk : ∀ u, u < st.next → st7.get u = st.get u := fun u hu => (x6 u (by omega)).trans ((y4 u (by omega)).trans ((z6 u (by omega)).trans ((k4 u (by omega)).trans (k2 u hu))))
    have n7 : st.next ≤ st7.next := by omega
    have hA7 : TR (StpT n) 6 st7 c pre F := hA.keep (StpT.mono n) n7 (fun u hu => kk u (hF.2 u hu).2)
    have hF7 : Fsh b (F ++ G) st7 := hF.app (x3.weak (by omega)) n7 hbn
    have hS : StpT n st7 (.mk op names nums preds vals subs) [.int .i64 op, qa, qb, qc, qd, ve] G := ⟨io, qa, qb, qc, qd, ve, rfl, ha', hb', hc', hd', x2⟩
    obtain ⟨v', S8, F8, r1, r2, r3, r4⟩ := hA7.app (StpT.mono n) hS hF7 (bytes := 128) (by omega) (by subst hl; simp only [List.length_append, List.length_cons] at hbig; simp only [Z04]; omega)
    have hw : IntKind.i64.wrap ((pre.length : Int) + 1) = ((pre ++ [Stp.mk op names nums preds vals subs]).length : Int) := by rw [Z00]; simp; omega
    have hi := ihr (pre ++ [.mk op names nums preds vals subs]) S8 v' F8 (by rw [hl]; simp) r2 r3 (by have := r4.2.1; omega)
    have hone : ∀ c ∈ [PV.int .i64 op, qa, qb, qc, qd, ve], PV.one c = true := by
      simp only [List.mem_cons, List.not_mem_nil, or_false, forall_eq_or_imp, forall_eq, (Z8p ha').one, (Z8p hb').one, (Z8p hc').one, (Z8p hd').one, (TR.shape x2).2.2.1, and_self, and_true]
      rfl
    have hok6 : okEls 6 [[PV.int .i64 op, qa, qb, qc, qd, ve]] = true := okEl1 rfl hone
    repeat' first | refine Ziz (Zg8 rfl hi ⟨rfl, rfl, rfl, Z05 hw, trivial⟩) ?_ | refine Z1 rfl ?_ | ((with_reducible show VO _ _ _ _ _ _ _); first | refine Z07 rfl x1 rfl ?_ | refine Z7n rfl rfl rfl hok6 (by decide) (by decide) r1 ?_ | refine Z0 rfl ?_ | refine Z2 ?_)
    rintro x e st' ⟨rfl, c', F', rfl, w1, w2, w3, w4, w5⟩
    refine ⟨rfl, c', F', rfl, w1, w2, w3.trans (r4.1.trans (x4.trans (y2.trans (z4.trans e4)))), by have := r4.2.1; omega, fun u hu => (w5 u hu).trans ((r4.2.2.2 u (by omega) fun e => ?_).trans (kk u (by omega)))⟩
    have := (hF.2 u (hA.mem e)).1
    omega
theorem cloneRaw : ∀ n : Nat, CloneR n
  | 0, l, p, hp, hok, hcn, st => by
    have hl : l = [] := by
      cases l with
      | nil => rfl
      | cons s r =>
        obtain ⟨cs, _, h⟩ := SL.at hp (j := 0) (s := s) rfl
        exact h.elim
    subst hl
    obtain ⟨e1, e2, _⟩ := hp.len
    have hlt : decide ((0 : Int) < (([] : List Stp).length : Int)) = false := by decide
    have key : ∃ v' st', T.R (.raw Zax [p] st v' st') ∧ v' = .nilSl ∧ st' = st := by
      refine Zcg (Q := fun v' st' => v' = .nilSl ∧ st' = st) rfl rfl ?_
      repeat' first | ((with_reducible show V _ _ _ _ _ _); first | refine Z9m rfl (Ze ?_) | refine Z6s hlt rfl rfl ?_ | refine Z6r rfl rfl ⟨rfl, rfl⟩ | refine Z1 rfl ?_) | ((with_reducible show VO _ _ _ _ _ _ _); first | refine Z8 rfl e1 e2 ?_ | refine Z0 rfl ?_ | refine Z2 ?_)
    obtain ⟨v', st', h1, rfl, rfl⟩ := key
    exact ⟨_, _, [], h1, ⟨rfl, rfl, rfl⟩, ⟨List.nodup_nil, fun u hu => by cases hu⟩, Grow.refl _ _⟩
  | n + 1, l, p, hp, hok, hcn, st => by
    obtain ⟨e1, e2, _⟩ := hp.len
    have hlp := cstep_loop (cloneRaw n) hp hok hcn (b := st.next) l [] st .nilSl [] rfl .nil ⟨List.nodup_nil, fun u hu => by cases hu⟩ (Nat.le_refl _)
    have key : ∃ v' st', T.R (.raw Zax [p] st v' st') ∧ ∃ F, TR (StpT n) 6 st' v' l F ∧ Fsh st.next F st' ∧ st'.base = st.base ∧ st.next ≤ st'.next ∧ ∀ u, u < st.next → st'.get u = st.get u := by
      refine Zcg (Q := fun v' st' => ∃ F, TR (StpT n) 6 st' v' l F ∧ Fsh st.next F st' ∧ st'.base = st.base ∧ st.next ≤ st'.next ∧ ∀ u, u < st.next → st'.get u = st.get u) rfl rfl ?_
      repeat' first | refine Z0h rfl hlp ⟨rfl, rfl, rfl, rfl, trivial⟩ ?_ | refine Z1 rfl ?_ | ((with_reducible show VO _ _ _ _ _ _ _); first | refine Z8 rfl e1 e2 ?_ | refine Z0 rfl ?_ | refine Z2 ?_)
      rintro x e st' ⟨rfl, c', F', rfl, w1, w2, w3, w4, w5⟩
      repeat' first | refine Z6r rfl rfl ⟨F', w1, w2, w3, w4, w5⟩ | refine Z1 rfl ?_ | refine Z0 rfl ?_ | refine Z2 ?_
    obtain ⟨v', st', h1, F, w1, w2, w3, w4, w5⟩ := key
    refine ⟨v', st', F, h1, ot_tr.2 w1, w2, w3, w4, ?_, fun u hu _ => w5 u hu⟩
    cases ht : Z0i v' with
    | none => exact .inl rfl
    | some t => exact .inr ⟨t, rfl, (w2.2 t (TR.mem w1 ht)).1⟩
def Res (n : Nat) (st : St) (v : PV) (L : List Stp) : Prop := OwnL n st v L ∨ SL n v L
theorem Res.keep {n : Nat} {st st' : St} {v : PV} {L : List Stp} (h : Res n st v L) (hn : st.next ≤ st'.next) (hk : ∀ u, Z0i v = some u → st'.get u = st.get u) : Res n st' v L := by
  rcases h with h | h
  · exact .inl (h.keep hn hk)
  · exact .inr h
theorem Sh.cells {p : PV} (h : Sh p) : p.cells = [p] ∧ p.isJunk = false := by rcases h with rfl | ⟨_, _, rfl⟩ <;> exact ⟨rfl, rfl⟩
theorem SL.sh {n : Nat} {p : PV} {l : List Stp} (h : SL n p l) : Sh p := by
  rcases h with ⟨rfl, _⟩ | ⟨xs, f, rfl, _⟩
  · exact .inl rfl
  · exact .inr ⟨_, _, rfl⟩
theorem Res.cell {n : Nat} {st : St} {v : PV} {L : List Stp} (h : Res n st v L) : v.cells = [v] ∧ PV.one v = true := by
  rcases h with h | h
  · rcases h with ⟨rfl, _⟩ | ⟨t, g, es, rfl, _⟩ <;> exact ⟨rfl, rfl⟩
  · exact ⟨(SL.sh h).cells.1, (SL.sh h).one⟩
def Zkw (n : Nat) : Prop := ∀ (l : List Stp) (p : PV) (F : List Nat) (st : St), OT n st p l F → okL l = true → Zg l ≤ 134217728 → Fsh 0 F st →
  ∃ v' st', T.R (.raw Zig [p] ⟨st.next, st.next, st.toks⟩ v' st') ∧ Res n st' v' (rwL l) ∧ st'.base = st.next ∧ st.next ≤ st'.next ∧ (∀ u, Z0i v' = some u → st.next ≤ u) ∧ ∀ u, u < st.next → u ∉ F → st'.get u = st.get u
theorem rwLL_get : ∀ (op : Int) (k : Nat) (subs : List (List Stp)) (j : Nat) (l : List Stp), subs[j]? = some l → (Z8k op k subs)[j]? = some (if askB op (k + j) then trimS (rwL l) else rwL l)
  | op, k, [], j, l, h => by simp at h
  | op, k, x :: r, 0, l, h => by
    simp at h
    subst h
    rw [Z8k]
    rfl
  | op, k, x :: r, j + 1, l, h => by
    rw [Z8k, List.getElem?_cons_succ, rwLL_get op (k + 1) r j l (by simpa using h)]
    have e : k + 1 + j = k + (j + 1) := by omega
    rw [e]
theorem ld1 {look : Nat → Option Tok} {t g i : Nat} {es : List (List PV)} {lv : Bool} {q : PV} (hg : look t = some (.row g 1 es lv)) (hc : es[i]? = some [q]) : loadAt look 1 false (.rptr t g i 0) = some q := by
  simp only [loadAt, behind, hg, if_true, hc, Option.map_some, Option.bind_some, slice?]
  rfl
theorem storeEl {st : St} {t g i : Nat} {es : List (List PV)} {q v : PV} (hg : st.get t = some (.row g 1 es true)) (hc : es[i]? = some [q]) (hv : v.cells = [v]) (h1 : PV.one v = true) {e : EC} {a x : Opd} (ha : a.get e = some (.rptr t g i 0)) (hx : x.get e = some v) : Z1c st e (.store 1 a x) = some (.tuple [], st.put t (.row g 1 (es.set i [v]) true)) := by
  simp only [Z1c, ha, hx, hv]
  rw [if_pos ⟨by simp [h1], rfl, by decide⟩]
  simp only [storeAt, hg, if_true, hc, hv]
  rw [if_pos (by simp)]
  simp [Z8z]
def SubsI (n : Nat) (st : St) (t g : Nat) (subs done : List (List Stp)) (k : Nat) (Fs : List (List Nat)) : Prop :=
  ∃ es, st.get t = some (.row g 1 es true) ∧ es.length = subs.length ∧ (∀ (j : Nat) (l : List Stp) (cs : List PV), j < k → done[j]? = some l → es[j]? = some cs → ∃ q, cs = [q] ∧ SL n q l) ∧ ∀ (j : Nat) (l : List Stp) (cs : List PV) (G : List Nat), k ≤ j → subs[j]? = some l → es[j]? = some cs → Fs[j]? = some G → ∃ q, cs = [q] ∧ OT n st q l G
theorem row_plain {n : Nat} {st : St} {b t g k : Nat} {es : List (List PV)} {v : PV} {L : List Stp} (hr : Res n st v L) (hg : st.get t = some (.row g 1 (es.set k [v]) true)) (hk : k < es.length) (ht : t < b) (hb : ∀ u, Z0i v = some u → b ≤ u) (hL : L.length ≤ 134217728) :
    ∃ S' q, SL n q L ∧ S'.get t = some (.row g 1 (es.set k [q]) true) ∧ S'.base = st.base ∧ S'.next = st.next ∧ (∀ u, u < b → u ≠ t → S'.get u = st.get u) ∧ ∀ {Q : Z6t} {kk k' : List Fr} {x : EX} {ρ : EC} {c : PC}, Zn 200 kk x = (.code c :: k', .normal) → Zn 200 (.code c :: k') .normal = (.code c :: k', .normal) → V T Q (.code c :: k') .normal ρ S' → V T Q kk x ρ st := by
  have triv : SL n v L → ∃ S' q, SL n q L ∧ S'.get t = some (.row g 1 (es.set k [q]) true) ∧ S'.base = st.base ∧ S'.next = st.next ∧ (∀ u, u < b → u ≠ t → S'.get u = st.get u) ∧ ∀ {Q : Z6t} {kk k' : List Fr} {x : EX} {ρ : EC} {c : PC}, Zn 200 kk x = (.code c :: k', .normal) → Zn 200 (.code c :: k') .normal = (.code c :: k', .normal) → V T Q (.code c :: k') .normal ρ S' → V T Q kk x ρ st :=
    fun h => ⟨st, v, h, hg, rfl, rfl, fun _ _ _ => rfl, fun {Q kk k' x ρ c} ha _ h => Z5a ha h⟩
  rcases hr with hr | hr
  · rcases hr.plain (by omega) with ⟨rfl, rfl⟩ | ⟨t1, g1, es1, q, k1, k2, k3, k4, k5⟩
    · exact triv (.inl ⟨rfl, rfl⟩)
    · have hb1 := hb t1 k1
      obtain ⟨S1, hS1⟩ : ∃ S, st.put t1 (.row g1 6 es1 false) = S := ⟨_, rfl⟩
      have g1' : S1.get t = some (.row g 1 (es.set k [v]) true) := by rw [← hS1]; exact (St.get_put_old (by omega)).trans hg
      obtain ⟨S2, hS2⟩ : ∃ S, S1.put t (.row g 1 (es.set k [q]) true) = S := ⟨_, rfl⟩
      refine ⟨S2, q, k3, by rw [← hS2]; exact St.get_put, by rw [← hS2, ← hS1]; rfl, by rw [← hS2, ← hS1]; rfl, fun u hu hne => by rw [← hS2, ← hS1]; exact (St.get_put_old (fun e => hne e.symm)).trans (St.get_put_old (by omega)), fun {Q kk k' x ρ c} ha ha2 h => ?_⟩
      refine V_frozeE k2 hS1 ha ?_
      refine V_lookRowE g1' (by simp) (fun j cs ds e1 e2 => ?_) hS2 ha2 h
      by_cases hj : k = j
      · subst hj
        rw [List.getElem?_set_self hk] at e1 e2
        simp at e1 e2
        subst e1 e2
        refine ⟨rfl, fun i c d h1 h2 => ?_⟩
        match i, h1, h2 with
        | 0, h1, h2 => simp at h1 h2; subst h1 h2; exact k5 _ hS1
        | i + 1, h1, h2 => simp at h1
      · rw [List.getElem?_set_ne hj] at e1 e2
        rw [e1] at e2
        injection e2 with e2
        subst e2
        exact ⟨rfl, fun i c d h1 h2 => .inl (by rw [h1] at h2; injection h2)⟩
  · exact triv hr
theorem okLL_memL : ∀ {subs : List (List Stp)}, Zcb subs = true → ∀ {l : List Stp}, l ∈ subs → okL l = true
  | [], _, l, hl => by cases hl
  | x :: r, h, l, hl => by
    unfold Zcb at h
    simp only [Bool.and_eq_true] at h
    rcases List.mem_cons.1 hl with rfl | hl
    · unfold okL
      simp only [Bool.and_eq_true]
      exact h.1
    · exact okLL_memL h.2 hl
theorem nodup_mem {l : List (List Nat)} (h : l.flatten.Nodup) : ∀ {i : Nat} {G : List Nat}, l[i]? = some G → G.Nodup := by
  induction l with
  | nil => intro i G e; simp at e
  | cons x r ih =>
    rw [List.flatten_cons] at h
    obtain ⟨h1, h2, _⟩ := List.nodup_append.1 h
    intro i G e
    match i, e with
    | 0, e => simp at e; subst e; exact h1
    | i + 1, e => exact ih h2 (by simpa using e)
theorem Zlq {l : List (List Nat)} (h : l.flatten.Nodup) : ∀ {i j : Nat} {G H : List Nat}, l[i]? = some G → l[j]? = some H → i ≠ j → ∀ u ∈ G, u ∉ H := by
  induction l with
  | nil => intro i j G H e1; simp at e1
  | cons x r ih =>
    rw [List.flatten_cons] at h
    obtain ⟨h1, h2, h3⟩ := List.nodup_append.1 h
    intro i j G H e1 e2 hne u hu hu'
    match i, j, e1, e2, hne with
    | 0, 0, _, _, hne => exact hne rfl
    | 0, j + 1, e1, e2, _ =>
      simp at e1 e2
      subst e1
      exact h3 u hu u (Z5d e2 hu') rfl
    | i + 1, 0, e1, e2, _ =>
      simp at e1 e2
      subst e2
      exact h3 u hu' u (Z5d e1 hu) rfl
    | i + 1, j + 1, e1, e2, hne =>
      simp at e1 e2
      exact ih h2 e1 e2 (by omega) u hu hu'
theorem SubsI.step {n : Nat} {st st' : St} {t g k : Nat} {subs done : List (List Stp)} {Fs : List (List Nat)} {es : List (List PV)} {q : PV} {l : List Stp} (hl : es.length = subs.length)
    (h1 : ∀ (j : Nat) (l : List Stp) (cs : List PV), j < k → done[j]? = some l → es[j]? = some cs → ∃ q, cs = [q] ∧ SL n q l)
    (h2 : ∀ (j : Nat) (l : List Stp) (cs : List PV) (G : List Nat), k ≤ j → subs[j]? = some l → es[j]? = some cs → Fs[j]? = some G → ∃ q, cs = [q] ∧ OT n st q l G)
    (hg : st'.get t = some (.row g 1 (es.set k [q]) true)) (hn : st.next ≤ st'.next) (hk : k < es.length) (hd : done[k]? = some l) (hq : SL n q l) (hkeep : ∀ (j : Nat) (G : List Nat), k < j → Fs[j]? = some G → ∀ u ∈ G, st'.get u = st.get u) : SubsI n st' t g subs done (k + 1) Fs := by
  refine ⟨_, hg, by simpa using hl, fun j x cs hj e1 e2 => ?_, fun j x cs G hj e1 e2 e3 => ?_⟩
  · by_cases hjk : k = j
    · subst hjk
      rw [List.getElem?_set_self hk] at e2
      rw [hd] at e1
      injection e1 with e1
      injection e2 with e2
      subst e1 e2
      exact ⟨q, rfl, hq⟩
    · rw [List.getElem?_set_ne hjk] at e2
      exact h1 j x cs (by omega) e1 e2
  · rw [List.getElem?_set_ne (by omega)] at e2
    obtain ⟨w, e, hw⟩ := h2 j x cs G (by omega) e1 e2 e3
    exact ⟨w, e, hw.keep n hn (hkeep j G (by omega) e3)⟩
set_option maxHeartbeats 8000000 in
theorem ssubs_loop {n : Nat} (ihs : Zkw n) {subs : List (List Stp)} (hb : subs.length ≤ 32) (hok : Zcb subs = true) (hcn : Z28 subs ≤ 134217728) {Fs : List (List Nat)} (hFs : Fs.length = subs.length) {t g m : Nat} {op : Int} {v p L I pa pb pc pd : PV} (hnd : (t :: Fs.flatten).Nodup) (hFm : ∀ u ∈ t :: Fs.flatten, u < m) : ∀ (rest pre : List (List Stp)) (st : St), subs = pre ++ rest →
    st.get m = some (.var [.int .i64 op, pa, pb, pc, pd, .osl t g 0 subs.length false]) → m < st.next → SubsI n st t g subs (Z8k op 0 subs) pre.length Fs →
    V T (PE fun x e st' => x = .exit 2 ∧ e = Zj [(3, v), (5, .ptr m 0), (8, p), (9, L), (10, I)] ∧ SubsI n st' t g subs (Z8k op 0 subs) subs.length Fs ∧ st'.get m = some (.var [.int .i64 op, pa, pb, pc, pd, .osl t g 0 subs.length false]) ∧ st'.base = st.base ∧ st.next ≤ st'.next ∧ ∀ u, u < st.next → u ∉ t :: Fs.flatten → st'.get u = st.get u)
      [.code (.loop Z1j)] .normal (Zj [(3, v), (5, .ptr m 0), (8, p), (9, L), (10, I), (15, .osl t g 0 subs.length false), (16, .int .i64 subs.length), (17, .int .i64 pre.length)]) st := by
  intro rest
  induction rest with
  | nil =>
    intro pre st hl hg hm hI
    have hlt : decide ((pre.length : Int) < subs.length) = false := decide_eq_false (by subst hl; simp)
    have hI' : SubsI n st t g subs (Z8k op 0 subs) subs.length Fs := by
      have : pre.length = subs.length := by rw [hl, List.append_nil]
      rw [← this]
      exact hI
    refine Ze ?_
    repeat' first | ((with_reducible show V _ _ _ _ _ _); first | refine Z6s hlt rfl rfl ?_ | refine Z0w [(3, v), (5, .ptr m 0), (8, p), (9, L), (10, I)] rfl ⟨rfl, rfl, rfl, rfl, rfl, trivial⟩ ⟨rfl, rfl, hI', hg, rfl, Nat.le_refl _, fun _ _ _ => rfl⟩ | refine Z1 rfl ?_) | refine Z0 rfl ?_ | refine Z2 ?_
  | cons y rest ihr =>
    intro pre st hl hg hm hI
    have hlt : decide ((pre.length : Int) < subs.length) = true := decide_eq_true (by subst hl; simp; omega)
    have hpl : pre.length < subs.length := by subst hl; simp
    have hy : subs[pre.length]? = some y := by subst hl; simp
    have hymem : y ∈ subs := by subst hl; simp
    obtain ⟨es, ht, hes, hdone, hrest⟩ := hI
    have hke : pre.length < es.length := by omega
    obtain ⟨G, hG⟩ : ∃ G, Fs[pre.length]? = some G := ⟨_, List.getElem?_eq_getElem (by omega)⟩
    obtain ⟨cs0, hcs0⟩ : ∃ cs, es[pre.length]? = some cs := ⟨_, List.getElem?_eq_getElem hke⟩
    obtain ⟨q, rfl, hq⟩ := hrest _ _ _ _ (Nat.le_refl _) hy hcs0 hG
    have hoky : okL y = true := okLL_memL hok hymem
    have hcy : Zg y ≤ 134217728 := Nat.le_trans (Zml hymem) hcn
    have hnG : G.Nodup := (nodup_mem (List.nodup_cons.1 hnd).2 hG)
    have hGF : ∀ u ∈ G, u ∈ Fs.flatten := fun u hu => Z5d hG hu
    have htG : t ∉ G := fun h => (List.nodup_cons.1 hnd).1 (hGF t h)
    have htm : t < m := hFm t (List.mem_cons_self ..)
    have hGm : ∀ u ∈ G, u < m := fun u hu => hFm u (List.mem_cons_of_mem _ (hGF u hu))
    obtain ⟨v1, st1, c1, c2, c3, c4, c5, c6⟩ := ihs y q G st hq hoky hcy ⟨hnG, fun u hu => ⟨Nat.zero_le _, Nat.lt_trans (hGm u hu) hm⟩⟩
    obtain ⟨S1, hS1⟩ : ∃ S : St, (⟨st.base, st1.next, st1.toks⟩ : St) = S := ⟨_, rfl⟩
    have n1 : st.next ≤ S1.next := by rw [← hS1]; exact c4
    have e1 : S1.base = st.base := by rw [← hS1]
    have k1 : ∀ u, u < st.next → u ∉ G → S1.get u = st.get u := fun u hu hn => by rw [← hS1]; exact c6 u hu hn
    have w1 : Res n S1 v1 (rwL y) := c2.keep (by rw [← hS1]; exact Nat.le_refl _) (fun u _ => by rw [← hS1]; rfl)
    have g1 : S1.get m = some (.var [.int .i64 op, pa, pb, pc, pd, .osl t g 0 subs.length false]) := (k1 m hm (fun h => by have := hGm m h; omega)).trans hg
    have t1 : S1.get t = some (.row g 1 es true) := (k1 t (by omega) htG).trans ht
    obtain ⟨S2, hS2⟩ : ∃ S, S1.put t (.row g 1 (es.set pre.length [v1]) true) = S := ⟨_, rfl⟩
    have t2 : S2.get t = some (.row g 1 (es.set pre.length [v1]) true) := by rw [← hS2]; exact St.get_put
    have n2 : S2.next = S1.next := by rw [← hS2]; rfl
    have e2 : S2.base = st.base := by rw [← hS2]; exact e1
    have k2 : ∀ u, u ≠ t → S2.get u = S1.get u := fun u hu => by rw [← hS2]; exact St.get_put_old (fun e => hu e.symm)
    have w2 : Res n S2 v1 (rwL y) := w1.keep (by omega) (fun u hu => k2 u (by have := c5 u hu; omega))
    have g2 : S2.get m = some (.var [.int .i64 op, pa, pb, pc, pd, .osl t g 0 subs.length false]) := (k2 m (by omega)).trans g1
    have hlen : (rwL y).length ≤ 134217728 := Nat.le_trans (Zhk _) (Nat.le_trans (rwL_cnt hoky) hcy)
    obtain ⟨S4, q1, y1, y2, y3, y4, y5, y6⟩ := row_plain w2 t2 hke (b := st.next) (by omega) c5 hlen
    have g4 : S4.get m = some (.var [.int .i64 op, pa, pb, pc, pd, .osl t g 0 subs.length false]) := (y5 m hm (by omega)).trans g2
    have k4 : ∀ u, u < st.next → u ≠ t → u ∉ G → S4.get u = st.get u := fun u hu hne hn => (y5 u hu hne).trans ((k2 u hne).trans (k1 u hu hn))
    have plq1 : Pl q1 := SL.pl y1
    have hak := run_asked op pre.length
    have hw : IntKind.i64.wrap ((pre.length : Int) + 1) = ((pre ++ [y]).length : Int) := by rw [Z00]; simp; omega
    have hpre1 : (pre ++ [y]).length = pre.length + 1 := by simp
    have hallm := Zb6 (Q := fun s' => s'.get m = some (.var [.int .i64 op, pa, pb, pc, pd, .osl t g 0 subs.length false])) (a := st) (r := [S1, S2]) ⟨hg, g1, g2⟩
    have hallt := Zb6 (Q := fun s' => ∃ es', s'.get t = some (.row g 1 es' true)) (a := st) (r := [S1, S2]) ⟨⟨_, ht⟩, ⟨_, t1⟩, ⟨_, t2⟩⟩
    have hix : ∀ (i : Nat) {e : EC} {x j : Opd}, x.get e = some (.osl t g 0 subs.length false) → j.get e = some (.int .i64 (pre.length : Int)) → Zo ((mkC [4, 6] [some 26, none] st [S1, S2] none).S i).get e (.indexS x j 1) = some (.rptr t g pre.length 0) := fun i {e x j} hx hj => by
      obtain ⟨es', h⟩ := hallt i
      exact Zke hx hj (Zit h hpl)
    have hcell := w1.cell
    have hst2 : ∀ {e : EC} {a x : Opd}, a.get e = some (.rptr t g pre.length 0) → x.get e = some v1 → Z1c S1 e (.store 1 a x) = some (.tuple [], S2) := fun {e a x} ha hx => by
      rw [storeEl t1 hcs0 hcell.1 hcell.2 ha hx, hS2]
    have hfin : ∀ S5 q2, S5.get t = some (.row g 1 (es.set pre.length [q2]) true) → S5.get m = some (.var [.int .i64 op, pa, pb, pc, pd, .osl t g 0 subs.length false]) → S5.base = st.base → S4.next ≤ S5.next → (∀ u, u ≠ t → S5.get u = S4.get u) → SL n q2 (if askB op pre.length then trimS (rwL y) else rwL y) →
        V T (PE fun x e st' => x = .exit 2 ∧ e = Zj [(3, v), (5, .ptr m 0), (8, p), (9, L), (10, I)] ∧ SubsI n st' t g subs (Z8k op 0 subs) subs.length Fs ∧ st'.get m = some (.var [.int .i64 op, pa, pb, pc, pd, .osl t g 0 subs.length false]) ∧ st'.base = st.base ∧ st.next ≤ st'.next ∧ ∀ u, u < st.next → u ∉ t :: Fs.flatten → st'.get u = st.get u)
          [.code (.loop Z1j)] .normal (Zj [(3, v), (5, .ptr m 0), (8, p), (9, L), (10, I), (15, .osl t g 0 subs.length false), (16, .int .i64 subs.length), (17, .int .i64 ((pre ++ [y]).length : Int))]) S5 := fun S5 q2 a1 a2 a3 a4 a5 a6 => by
      have hd : (Z8k op 0 subs)[pre.length]? = some (if askB op pre.length then trimS (rwL y) else rwL y) := by
        rw [rwLL_get op 0 subs _ _ hy, Nat.zero_add]
      have hI5 : SubsI n S5 t g subs (Z8k op 0 subs) (pre ++ [y]).length Fs := by
        rw [hpre1]
        refine SubsI.step hes hdone hrest a1 (by omega) hke hd a6 (fun j H hj hH u hu => ?_)
        have huF := Z5d hH hu
        have hut : u ≠ t := fun e => (List.nodup_cons.1 hnd).1 (e ▸ huF)
        have hum := hFm u (List.mem_cons_of_mem _ huF)
        exact (a5 u hut).trans (k4 u (by omega) hut (Zlq (List.nodup_cons.1 hnd).2 hH hG (by omega) u hu))
      refine Ziz (ihr (pre ++ [y]) S5 (by rw [hl]; simp) a2 (by omega) hI5) ?_
      rintro x e st' ⟨rfl, rfl, z1, z2, z3, z4, z5⟩
      refine ⟨rfl, rfl, z1, z2, z3.trans a3, by omega, fun u hu hn => (z5 u (by omega) hn).trans ((a5 u fun e => hn (e ▸ List.mem_cons_self ..)).trans (k4 u hu (fun e => hn (e ▸ List.mem_cons_self ..)) fun h => hn (List.mem_cons_of_mem _ (hGF u h))))⟩
    cases hask : askB op pre.length with
    | false =>
      rw [hask] at hak
      have hi := hfin S4 q1 y2 g4 (y3.trans e2) (Nat.le_refl _) (fun _ _ => rfl) (by rw [hask]; exact y1)
      refine Ze ?_
      repeat' first | ((with_reducible show V _ _ _ _ _ _); first | refine Zao hlt rfl rfl ?_ | refine V_C (mkC [4, 6] [some 26, none] st [S1, S2] none) rfl rfl ?_ | refine Zg8 rfl hi ⟨rfl, rfl, rfl, rfl, rfl, rfl, rfl, Z05 hw, trivial⟩ | refine Z1 rfl ?_ | refine Zb rfl rfl ?_) | ((with_reducible show VO _ _ _ _ _ _ _); first | refine Z0 (Zke rfl rfl (Zit ht hpl)) ?_ | refine Z0 (ld_q rfl (ld1 ht hcs0)) ?_ | refine Z6u rfl g4 rfl ?_ | refine Z7 rfl rfl hak ?_ | refine Z0 rfl ?_ | refine Z2 ?_) | ((with_reducible show Go.AM.VC _ _ _ _ _ _ _ _ _ _); first | refine Zkx rfl rfl rfl rfl rfl rfl rfl rfl c1 c3 hS1.symm ?_ | refine Zn2 rfl rfl rfl rfl rfl (hst2 rfl rfl) ?_ | refine Zn4 rfl rfl rfl hallm rfl ?_ | refine Zn3 rfl rfl (fun i => hix i rfl rfl) ?_ | refine Zn1 rfl rfl (fun _ => rfl) ?_ | refine C_nil rfl rfl (y6 rfl rfl ?_))
    | true =>
      rw [hask] at hak
      obtain ⟨q2, r1, r2⟩ := run_Trim y1
      obtain ⟨S5, hS5⟩ : ∃ S, S4.put t (.row g 1 (es.set pre.length [q2]) true) = S := ⟨_, rfl⟩
      have t5 : S5.get t = some (.row g 1 (es.set pre.length [q2]) true) := by rw [← hS5]; exact St.get_put
      have k5 : ∀ u, u ≠ t → S5.get u = S4.get u := fun u hu => by rw [← hS5]; exact St.get_put_old (fun e => hu e.symm)
      have g5 : S5.get m = some (.var [.int .i64 op, pa, pb, pc, pd, .osl t g 0 subs.length false]) := (k5 m (by omega)).trans g4
      have hi := hfin S5 q2 t5 g5 (by rw [← hS5]; exact y3.trans e2) (by rw [← hS5]; exact Nat.le_refl _) k5 (by rw [hask]; exact r2)
      have hallm4 := Zb6 (Q := fun s' => s'.get m = some (.var [.int .i64 op, pa, pb, pc, pd, .osl t g 0 subs.length false])) (a := S4) (r := [S4, S4, S5]) ⟨g4, g4, g4, g5⟩
      have hallt4 := Zb6 (Q := fun s' => ∃ es', s'.get t = some (.row g 1 es' true)) (a := S4) (r := [S4, S4, S5]) ⟨⟨_, y2⟩, ⟨_, y2⟩, ⟨_, y2⟩, ⟨_, t5⟩⟩
      have hix4 : ∀ (i : Nat) {e : EC} {x j : Opd}, x.get e = some (.osl t g 0 subs.length false) → j.get e = some (.int .i64 (pre.length : Int)) → Zo ((mkC [7, 8, 10] [some 39, some 40, none] S4 [S4, S4, S5] none).S i).get e (.indexS x j 1) = some (.rptr t g pre.length 0) := fun i {e x j} hx hj => by
        obtain ⟨es', h⟩ := hallt4 i
        exact Zke hx hj (Zit h hpl)
      have hc4 : (es.set pre.length [q1])[pre.length]? = some [q1] := List.getElem?_set_self hke
      have hst5 : ∀ {e : EC} {a x : Opd}, a.get e = some (.rptr t g pre.length 0) → x.get e = some q2 → Z1c S4 e (.store 1 a x) = some (.tuple [], S5) := fun {e a x} ha hx => by
        rw [storeEl y2 hc4 (SL.sh r2).cells.1 (SL.sh r2).one ha hx, List.set_set, hS5]
      refine Ze ?_
      repeat' first | ((with_reducible show V _ _ _ _ _ _); first | refine Zao hlt rfl rfl ?_ | refine V_C (mkC [4, 6] [some 26, none] st [S1, S2] none) rfl rfl ?_ | refine V_C (mkC [7, 8, 10] [some 39, some 40, none] S4 [S4, S4, S5] none) rfl rfl ?_ | refine Zg8 rfl hi ⟨rfl, rfl, rfl, rfl, rfl, rfl, rfl, Z05 hw, trivial⟩ | refine Z1 rfl ?_ | refine Za rfl rfl ?_) | ((with_reducible show VO _ _ _ _ _ _ _); first | refine Z0 (Zke rfl rfl (Zit ht hpl)) ?_ | refine Z0 (ld_q rfl (ld1 ht hcs0)) ?_ | refine Z6u rfl g4 rfl ?_ | refine Z7 rfl rfl hak ?_ | refine Z0 rfl ?_ | refine Z2 ?_) | ((with_reducible show Go.AM.VC _ _ _ _ _ _ _ _ _ _); first | refine Zkx rfl rfl rfl rfl rfl rfl rfl rfl c1 c3 hS1.symm ?_ | refine Zn2 rfl rfl rfl rfl rfl (hst2 rfl rfl) ?_ | refine Zn2 rfl rfl rfl rfl rfl (hst5 rfl rfl) ?_ | refine C_move rfl rfl rfl rfl rfl rfl rfl (ld_q rfl (ld1 y2 hc4)) ?_ | refine C_mcall rfl rfl rfl rfl rfl rfl rfl rfl rfl (Z08) r1 ?_ | refine Zn4 rfl rfl rfl hallm rfl ?_ | refine Zn4 rfl rfl rfl hallm4 rfl ?_ | refine Zn3 rfl rfl (fun i => hix i rfl rfl) ?_ | refine Zn3 rfl rfl (fun i => hix4 i rfl rfl) ?_ | refine Zn1 rfl rfl (fun _ => rfl) ?_ | refine C_nil rfl rfl (y6 rfl rfl ?_) | refine C_nil rfl rfl ?_)
theorem O_rawE {T : Tb} {Q : Z6t} {k : List Fr} {ρ : EC} {st S' : St} {l : List POp} {kill : List Nat} {d : Option Nat} {f : Opd} {xs : List Opd} {g : Nat} {caps vals : List PV} {r : PV} {st1 : St} (hc : T.R (.raw g (vals ++ caps) ⟨st.next, st.next, st.toks⟩ r st1)) (hb : st1.base = st.next) (hS : (⟨st.base, st1.next, st1.toks⟩ : St) = S') (hf : f.get ρ = some (.func g caps)) (hx : Zo1 ρ xs = some vals) (h : VO T Q l kill k (ρ.sets d r) S') : VO T Q (⟨d, none, .call f xs⟩ :: l) kill k ρ st := by
  subst hS
  exact O_rawAll hc hb hf hx h
theorem putR_len : ∀ (l : List Stp) (s : Stp), (Za3 l s).length ≤ l.length + 1
  | [], s => by
    rw [Za3]
    split <;> simp
  | a :: r, s => by
    rw [Za3]
    split
    · simp
    · split
      · rename_i x _
        have := putR_len r x
        simp only [List.length_cons]
        omega
      · simp
def SubsD (n : Nat) (st0 st : St) (m : Nat) (op : Int) (pa pb pc pd pe : PV) (subs : List (List Stp)) (G : List Nat) : Prop :=
  st.get m = some (.var [.int .i64 op, pa, pb, pc, pd, pe]) ∧ st.base = st0.base ∧ st0.next ≤ st.next ∧ (∀ u, u < st0.next → u ∉ G → st.get u = st0.get u) ∧
    ((pe = .nilSl ∧ subs = []) ∨ ∃ t g Fs, pe = .osl t g 0 subs.length false ∧ t < m ∧ SubsI n st t g subs (Z8k op 0 subs) subs.length Fs)
set_option maxHeartbeats 4000000 in
theorem ssubs_any {n : Nat} (ihs : Zkw n) {subs : List (List Stp)} (hb : subs.length ≤ 32) (hok : Zcb subs = true) (hcn : Z28 subs ≤ 134217728) {m : Nat} {op : Int} {v p L I pa pb pc pd pe : PV} {G : List Nat} {st : St} (hT : OSubs (OT n) st pe subs G) (hnd : G.Nodup) (hFm : ∀ u ∈ G, u < m)
    (hg : st.get m = some (.var [.int .i64 op, pa, pb, pc, pd, pe])) (hm : m < st.next) :
    V T (PE fun x e st' => x = .exit 2 ∧ e = Zj [(3, v), (5, .ptr m 0), (8, p), (9, L), (10, I)] ∧ SubsD n st st' m op pa pb pc pd pe subs G)
      [.code (.loop Z1j)] .normal (Zj [(3, v), (5, .ptr m 0), (8, p), (9, L), (10, I), (15, pe), (16, .int .i64 subs.length), (17, .int .i64 0)]) st := by
  obtain ⟨es, Fs, h1, h2, h3, rfl, h5⟩ := hT
  rcases h1 with ⟨rfl, rfl⟩ | ⟨t, g, rfl, k1, k2⟩
  · have : subs = [] := List.length_eq_zero_iff.1 (by simpa using h2.symm)
    subst this
    have hlt : decide ((0 : Int) < (([] : List (List Stp)).length : Int)) = false := by decide
    refine Ze ?_
    repeat' first | ((with_reducible show V _ _ _ _ _ _); first | refine Z6s hlt rfl rfl ?_ | refine Z0w [(3, v), (5, .ptr m 0), (8, p), (9, L), (10, I)] rfl ⟨rfl, rfl, rfl, rfl, rfl, trivial⟩ ⟨rfl, rfl, hg, rfl, Nat.le_refl _, fun _ _ _ => rfl, .inl ⟨rfl, rfl⟩⟩ | refine Z1 rfl ?_) | refine Z0 rfl ?_ | refine Z2 ?_
  · have hnd' : (t :: Fs.flatten).Nodup := hnd
    have hFm' : ∀ u ∈ t :: Fs.flatten, u < m := hFm
    rw [h2]
    rw [h2] at hg
    have hlp := ssubs_loop ihs hb hok hcn h3 (g := g) (op := op) (v := v) (p := p) (L := L) (I := I) (pa := pa) (pb := pb) (pc := pc) (pd := pd) hnd' hFm' subs [] st rfl hg hm ⟨es, k1, h2, fun j l cs hj => by simp at hj, fun j l cs G _ e1 e2 e3 => h5 j l cs G e1 e2 e3⟩
    refine Ziz hlp ?_
    rintro x e st' ⟨rfl, rfl, z1, z2, z3, z4, z5⟩
    exact ⟨rfl, rfl, z2, z3, z4, z5, .inr ⟨t, g, Fs, rfl, hFm' t (List.mem_cons_self ..), z1⟩⟩
theorem rwLL_len : ∀ (op : Int) (k : Nat) (ls : List (List Stp)), (Z8k op k ls).length = ls.length
  | op, k, [] => by rw [Z8k]
  | op, k, l :: r => by rw [Z8k, List.length_cons, List.length_cons, rwLL_len op (k + 1) r]
theorem subs_plain {n : Nat} {st0 st : St} {m : Nat} {op : Int} {pa pb pc pd pe : PV} {subs : List (List Stp)} {G : List Nat} (h : SubsD n st0 st m op pa pb pc pd pe subs G) (hb : subs.length ≤ 32) (hG : ∀ t, Z0i pe = some t → t ∈ G) (hm : m < st0.next) :
    ∃ S' q, LR (SubC (SC n)) q (Z8k op 0 subs) ∧ S'.get m = some (.var [.int .i64 op, pa, pb, pc, pd, q]) ∧ S'.base = st0.base ∧ st0.next ≤ S'.next ∧ (∀ u, u < m → u ∉ G → S'.get u = st0.get u) ∧ ∀ {Q : Z6t} {kk k' : List Fr} {x : EX} {ρ : EC} {c : PC}, Zn 200 kk x = (.code c :: k', .normal) → Zn 200 (.code c :: k') .normal = (.code c :: k', .normal) → V T Q (.code c :: k') .normal ρ S' → V T Q kk x ρ st := by
  obtain ⟨h1, h2, h3, h4, h5⟩ := h
  rcases h5 with ⟨rfl, rfl⟩ | ⟨t, g, Fs, rfl, htm, hI⟩
  · exact ⟨st, .nilSl, .inl ⟨rfl, by rw [Z8k]⟩, h1, h2, h3, fun u hu hn => h4 u (by omega) hn, fun {Q kk k' x ρ c} ha _ h => Z5a ha h⟩
  · obtain ⟨es, i1, i2, i3, i4⟩ := hI
    have htG := hG t rfl
    have hll := rwLL_len op 0 subs
    have hget : ∀ (j : Nat) (cs : List PV), es[j]? = some cs → ∃ q l, cs = [q] ∧ SL n q l := fun j cs hc => by
      have hj : j < es.length := (List.getElem?_eq_some_iff.1 hc).1
      obtain ⟨l, hl⟩ : ∃ l, (Z8k op 0 subs)[j]? = some l := ⟨_, List.getElem?_eq_getElem (by omega)⟩
      obtain ⟨q, e, hq⟩ := i3 j l cs (by omega) hl hc
      exact ⟨q, l, e, hq⟩
    obtain ⟨S1, hS1⟩ : ∃ S, st.put t (.row g 1 es false) = S := ⟨_, rfl⟩
    have g1 : S1.get m = some (.var [.int .i64 op, pa, pb, pc, pd, .osl t g 0 subs.length false]) := by rw [← hS1]; exact (St.get_put_old (by omega)).trans h1
    have t1 : S1.get t = some (.row g 1 es false) := by rw [← hS1]; exact St.get_put
    obtain ⟨S2, hS2⟩ : ∃ S, S1.put m (.var [.int .i64 op, pa, pb, pc, pd, .sl es false]) = S := ⟨_, rfl⟩
    have hseen : SeenV S1 (.osl t g 0 subs.length false) (.sl es false) := by
      have := seen_osl (f := false) (len := subs.length) t1 (by omega) (fun cs hcs c hc => by
        obtain ⟨j, hj⟩ := List.getElem?_of_mem (List.mem_of_mem_take hcs)
        obtain ⟨q, l, rfl, hq⟩ := hget j cs hj
        simp at hc
        subst hc
        exact SL.pl hq)
      rwa [List.take_of_length_le (by omega)] at this
    refine ⟨S2, .sl es false, .inr ⟨es, false, rfl, by omega, by omega, fun j l cs e1 e2 => ?_⟩, by rw [← hS2]; exact St.get_put, by rw [← hS2, ← hS1]; exact h2, by rw [← hS2, ← hS1]; exact h3, fun u hu hn => ?_, fun {Q kk k' x ρ c} ha ha2 h => ?_⟩
    · have hj : j < es.length := (List.getElem?_eq_some_iff.1 e2).1
      exact i3 j l cs (by omega) e1 e2
    · have hut : t ≠ u := fun e => hn (e ▸ htG)
      rw [← hS2, ← hS1]
      exact (St.get_put_old (by omega)).trans ((St.get_put_old hut).trans (h4 u (by omega) hn))
    · refine V_frozeE i1 hS1 ha ?_
      refine Zo9 g1 (ds := [.int .i64 op, pa, pb, pc, pd, .sl es false]) ⟨rfl, fun i c d e1 e2 => ?_⟩ hS2 ha2 h
      match i, e1, e2 with
      | 0, e1, e2 => simp at e1 e2; subst e1 e2; exact .inl rfl
      | 1, e1, e2 => simp at e1 e2; subst e1 e2; exact .inl rfl
      | 2, e1, e2 => simp at e1 e2; subst e1 e2; exact .inl rfl
      | 3, e1, e2 => simp at e1 e2; subst e1 e2; exact .inl rfl
      | 4, e1, e2 => simp at e1 e2; subst e1 e2; exact .inl rfl
      | 5, e1, e2 => simp at e1 e2; subst e1 e2; exact hseen
      | i + 6, e1, e2 => simp at e1
set_option maxHeartbeats 8000000 in
theorem sstep_loop {n : Nat} (ihs : Zkw n) {l : List Stp} (hok : Zkp l = true) (hcn : Zg l ≤ 134217728) {es : List (List PV)} {Fs : List (List Nat)} (hes : es.length = l.length) (hFs : Fs.length = l.length) {tp gp b : Nat} (hnd : (tp :: Fs.flatten).Nodup) (hFb : ∀ u ∈ tp :: Fs.flatten, u < b) : ∀ (rest pre acc : List Stp) (st : St) (v : PV), l = pre ++ rest →
    st.get tp = some (.row gp 6 es true) → (∀ (j : Nat) (s : Stp) (cs : List PV) (G : List Nat), pre.length ≤ j → l[j]? = some s → es[j]? = some cs → Fs[j]? = some G → StpT n st s cs G) →
    OwnL (n + 1) st v acc.reverse → (∀ u, Z0i v = some u → b ≤ u) → b ≤ st.next → okA acc → acc.length ≤ pre.length →
    V T (PE fun x e st' => x = .exit 0 ∧ ∃ v', e = Zj [(3, v')] ∧ OwnL (n + 1) st' v' (rwA rest acc).reverse ∧ (∀ u, Z0i v' = some u → b ≤ u) ∧ st'.base = st.base ∧ st.next ≤ st'.next ∧ ∀ u, u < b → u ∉ tp :: Fs.flatten → st'.get u = st.get u)
      [.code (.loop Z76)] .normal (Zj [(3, v), (8, .osl tp gp 0 l.length false), (9, .int .i64 l.length), (10, .int .i64 pre.length)]) st := by
  have hbig := Nat.le_trans (Zhk l) hcn
  intro rest
  induction rest with
  | nil =>
    intro pre acc st v hl htp hel hv hvb hbn hacc hlen
    have hlt : decide ((pre.length : Int) < l.length) = false := decide_eq_false (by subst hl; simp)
    have hv' : OwnL (n + 1) st v (rwA [] acc).reverse := by rw [rwA]; exact hv
    refine Ze ?_
    repeat' first | ((with_reducible show V _ _ _ _ _ _); first | refine Z6s hlt rfl rfl ?_ | refine Z0w [(3, v)] rfl ⟨rfl, trivial⟩ ⟨rfl, v, rfl, hv', hvb, rfl, Nat.le_refl _, fun _ _ _ => rfl⟩ | refine Z1 rfl ?_) | refine Z0 rfl ?_ | refine Z2 ?_
  | cons y rest ihr =>
    intro pre acc st v hl htp hel hv hvb hbn hacc hlen
    have hlt : decide ((pre.length : Int) < l.length) = true := decide_eq_true (by subst hl; simp; omega)
    have hpl : pre.length < l.length := by subst hl; simp
    have hy : l[pre.length]? = some y := by subst hl; simp
    have hymem : y ∈ l := by subst hl; simp
    have hoky := okL1_mem hok hymem
    have hokr := rwS_ok y hoky
    have hcy := cntS_mem hymem
    obtain ⟨G, hG⟩ : ∃ G, Fs[pre.length]? = some G := ⟨_, List.getElem?_eq_getElem (by omega)⟩
    obtain ⟨cs, hcs⟩ : ∃ cs, es[pre.length]? = some cs := ⟨_, List.getElem?_eq_getElem (by omega)⟩
    have hS := hel _ _ _ _ (Nat.le_refl _) hy hcs hG
    have hnG : G.Nodup := nodup_mem (List.nodup_cons.1 hnd).2 hG
    have hGF : ∀ u ∈ G, u ∈ Fs.flatten := fun u hu => Z5d hG hu
    have hGb : ∀ u ∈ G, u < b := fun u hu => hFb u (List.mem_cons_of_mem _ (hGF u hu))
    have htpG : tp ∉ G := fun h => (List.nodup_cons.1 hnd).1 (hGF tp h)
    have htpb : tp < b := hFb tp (List.mem_cons_self ..)
    obtain ⟨op, names, nums, preds, vals, subs⟩ := y
    obtain ⟨io, pa, pb, pc, pd, pe, rfl, ha, hb, hc, hd, he⟩ := hS
    simp only [Stp.op, Stp.names, Stp.nums, Stp.preds, Stp.vals, Stp.subs] at io ha hb hc hd he
    have hokk := hoky
    unfold okS at hokk
    simp only [Bool.and_eq_true] at hokk
    obtain ⟨hst, hsub⟩ := hokk
    obtain ⟨_, _, _, _, b5, _, _⟩ := stepB_len hst
    have pla : Pl pa := ha.pl fun _ _ _ h => h.pl
    have plb : Pl pb := hb.pl fun _ _ _ h => h.pl
    have plc : Pl pc := hc.pl fun _ _ _ h => h.pl
    have pld : Pl pd := hd.pl fun _ _ _ h => h.pl
    obtain ⟨le1, le2, le3, _, _⟩ := TR.shape (osubs_tr.1 he)
    have hone : ∀ c ∈ [PV.int .i64 op, pa, pb, pc, pd, pe], PV.one c = true := by
      simp only [List.mem_cons, List.not_mem_nil, or_false, forall_eq_or_imp, forall_eq, (Z8p ha).one, (Z8p hb).one, (Z8p hc).one, (Z8p hd).one, le3, and_self, and_true]
      rfl
    obtain ⟨m, hmm⟩ : ∃ m, st.next = m := ⟨_, rfl⟩
    obtain ⟨S1, hS1⟩ : ∃ S, st.new (.var z6) = S := ⟨_, rfl⟩
    have a1 : S1.get m = some (.var z6) := by rw [← hS1, ← hmm]; exact St.get_new
    have n1 : S1.next = m + 1 := by rw [← hS1, ← hmm]; rfl
    have k1 : ∀ u, u < m → S1.get u = st.get u := fun u hu => by rw [← hS1]; exact St.get_new_old (by omega)
    obtain ⟨S2, hS2⟩ : ∃ S, S1.put m (.var [.int .i64 op, pa, pb, pc, pd, pe]) = S := ⟨_, rfl⟩
    have a2 : S2.get m = some (.var [.int .i64 op, pa, pb, pc, pd, pe]) := by rw [← hS2]; exact St.get_put
    have n2 : S2.next = m + 1 := by rw [← hS2]; exact n1
    have e2 : S2.base = st.base := by rw [← hS2, ← hS1]; rfl
    have k2 : ∀ u, u < m → S2.get u = st.get u := fun u hu => by rw [← hS2]; exact (St.get_put_old (by omega)).trans (k1 u hu)
    have he2 : OSubs (OT n) S2 pe subs G := osubs_tr.2 (TR.keep (SubT.mono n) (osubs_tr.1 he) (by omega) (fun u hu => k2 u (by have := hGb u hu; omega)))
    have hlp := ssubs_any ihs b5 hsub (by rw [Zef] at hcy; omega) (v := v) (p := .osl tp gp 0 l.length false) (L := .int .i64 l.length) (I := .int .i64 pre.length) he2 hnG (fun u hu => by have := hGb u hu; omega) a2 (by omega)
    have hix : Zo st.get (Zj []) (.move (.c .nilSl)) = some .nilSl := rfl
    refine Ze ?_
    repeat' first | ((with_reducible show V _ _ _ _ _ _); first | refine Zao hlt rfl rfl ?_ | refine Z0h rfl hlp ⟨rfl, rfl, rfl, rfl, rfl, rfl, rfl, rfl, trivial⟩ ?_ | refine Z1 rfl ?_) | ((with_reducible show VO _ _ _ _ _ _ _); first | refine Z0 (Zke rfl rfl (Zit htp hpl)) ?_ | refine Z0 (ld_q rfl (ld_row htp hcs rfl)) ?_ | refine Z5h hS1 hmm ?_ | refine Zb7 hS2 a1 hone rfl rfl rfl rfl rfl ?_ | refine Z6u rfl a2 rfl ?_ | refine Z8 rfl le1 le2 ?_ | refine Z0 rfl ?_ | refine Z2 ?_)
    rintro x e st5 ⟨rfl, rfl, hD⟩
    obtain ⟨S6, q, w1, w2, w3, w4, w5, w6⟩ := subs_plain hD b5 (fun t ht => TR.mem (osubs_tr.1 he) ht) (by omega)
    have k6 : ∀ u, u < m → u ∉ G → S6.get u = st.get u := fun u hu hn => (w5 u hu hn).trans (k2 u hu)
    have hsc : SC (n + 1) (rwS (.mk op names nums preds vals subs)) [.int .i64 op, pa, pb, pc, pd, q] := by
      rw [rwS]
      exact ⟨io, pa, pb, pc, pd, q, rfl, ha, hb, hc, hd, w1⟩
    have hvt : ∀ u, Z0i v = some u → u < m ∧ u ∉ G := fun u hu => by
      have h1 := (hv.tok hu).1
      exact ⟨by omega, fun h => by have := hGb u h; have := hvb u hu; omega⟩
    have hv6 : OwnL (n + 1) ⟨S6.next, S6.next, S6.toks⟩ v acc.reverse := hv.keep (show st.next ≤ S6.next by omega) (fun u hu => k6 u (hvt u hu).1 (hvt u hu).2)
    have hokR : okA acc.reverse := fun x hx => hacc x (by simpa using hx)
    obtain ⟨v', st1, r1, r2, r3⟩ := putRaw (n := n + 1) acc.reverse.length acc.reverse (Nat.le_refl _) (by rw [List.length_reverse]; omega) hokR ⟨S6.next, S6.next, S6.toks⟩ v _ _ rfl hv6 hsc hokr
    obtain ⟨S7, hS7⟩ : ∃ S : St, (⟨S6.base, st1.next, st1.toks⟩ : St) = S := ⟨_, rfl⟩
    have n7 : S6.next ≤ S7.next := by rw [← hS7]; exact r3.2.1
    have e7 : S7.base = st.base := by rw [← hS7]; exact w3.trans e2
    have k7 : ∀ u, u < S6.next → Z0i v ≠ some u → S7.get u = S6.get u := fun u hu hne => by rw [← hS7]; exact r3.2.2.2 u hu hne
    have hputF : putF acc.reverse (rwS (.mk op names nums preds vals subs)) = (Za3 acc (rwS (.mk op names nums preds vals subs))).reverse := by
      unfold putF
      rw [List.reverse_reverse]
    have hv7 : OwnL (n + 1) S7 v' (Za3 acc (rwS (.mk op names nums preds vals subs))).reverse := by
      rw [← hputF]
      exact r2.keep (by rw [← hS7]; exact Nat.le_refl _) (fun u _ => by rw [← hS7]; rfl)
    have hvb7 : ∀ u, Z0i v' = some u → b ≤ u := fun u hu => by
      rcases r3.2.2.1 with e | ⟨t, e, h⟩
      · exact hvb u (e ▸ hu)
      · rw [e] at hu
        injection hu with hu
        have h' : S6.next ≤ t := h
        omega
    have kk : ∀ u, u < b → u ∉ G → S7.get u = st.get u := fun u hu hn => (k7 u (by omega) (fun e => by have := hvb u e; omega)).trans (k6 u (by omega) hn)
    have hw : IntKind.i64.wrap ((pre.length : Int) + 1) = ((pre ++ [Stp.mk op names nums preds vals subs]).length : Int) := by rw [Z00]; simp; omega
    have hlen1 : (pre ++ [Stp.mk op names nums preds vals subs]).length = pre.length + 1 := by simp
    have hi := ihr (pre ++ [.mk op names nums preds vals subs]) (Za3 acc (rwS (.mk op names nums preds vals subs))) S7 v' (by rw [hl]; simp) ((kk tp htpb htpG).trans htp) (fun j s cs' H hj e1 e2 e3 => by
      rw [hlen1] at hj
      refine StpT.mono n _ _ _ _ _ (hel j s cs' H (by omega) e1 e2 e3) (by omega) fun u hu => kk u (hFb u (List.mem_cons_of_mem _ (Z5d e3 hu))) ?_
      exact Zlq (List.nodup_cons.1 hnd).2 e3 hG (by omega) u hu) hv7 hvb7 (by omega) (putR_ok acc _ hacc hokr) (by
      have := putR_len acc (rwS (.mk op names nums preds vals subs))
      omega)
    refine w6 rfl rfl ?_
    repeat' first | refine Ziz (Zg8 rfl hi ⟨rfl, rfl, rfl, Z05 hw, trivial⟩) ?_ | refine Z1 rfl ?_ | ((with_reducible show VO _ _ _ _ _ _ _); first | refine Z07 rfl w2 rfl ?_ | refine O_rawE r1 r3.1 hS7 rfl rfl ?_ | refine Z0 rfl ?_ | refine Z2 ?_)
    rintro x e st' ⟨rfl, v'', rfl, z1, z2, z3, z4, z5⟩
    refine ⟨rfl, v'', rfl, by rw [rwA]; exact z1, z2, ?_, by omega, fun u hu hn => (z5 u hu hn).trans (kk u hu fun h => hn (List.mem_cons_of_mem _ (hGF u h)))⟩
    exact z3.trans e7
end Go.Proofs.YtnedeokclnbcpaaGreatDoor
