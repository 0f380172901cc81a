/- rewrite.only, rewrite.rule, rewrite.simple. · rewrite.rule, rewrite.simple. · rewrite.simple; stores of whole variables; results in cells. -/
import Derived.Test.YtnedeokclnbcpaaGreatDoorRwPToRwT
set_option linter.unusedVariables false
set_option linter.unusedSimpArgs false
namespace Go.Proofs.YtnedeokclnbcpaaGreatDoor
open Go Go.AM Go.RowKit
def z6 : List PV := [.int .i64 0, .nilSl, .nilSl, .nilSl, .nilSl, .nilSl]
theorem z6_pl : ∀ c ∈ z6, Pl c := by
  intro c hc
  simp only [z6, List.mem_cons, List.not_mem_nil, or_false] at hc
  rcases hc with rfl | rfl | rfl | rfl | rfl | rfl <;> first | exact .int _ _ | exact .nilSl
def C6 (cs : List PV) : Prop := (∀ c ∈ cs, Pl c) ∧ cs.length = 6 ∧ ∀ c ∈ cs, PV.one c = true
theorem c6_z : C6 z6 := ⟨z6_pl, rfl, by simp [z6, PV.one]⟩
theorem SC.c6 {n : Nat} {s : Stp} {cs : List PV} (h : SC n s cs) : C6 cs := ⟨h.pl, h.len6, h.one⟩
theorem run_idx2 (a b v : Int) : T.R (.call Z4o [.sl [[.int .i64 a], [.int .i64 b]] true, .int .i64 v] (.int .i64 (if v = a then 0 else if v = b then 1 else -1))) := by
  by_cases h1 : v = a
  · rw [if_pos h1]
    refine Z6 rfl rfl ?_
    repeat' first | ((with_reducible show V _ _ _ _ _ _); first | refine Z9m rfl (Ze ?_) | refine Z1 rfl ?_ | refine Za rfl rfl ?_ | refine Z4 rfl rfl ?_) | ((with_reducible show VO _ _ _ _ _ _ _); first | refine Z5 (Z0g h1) rfl ?_ | refine Z0 rfl ?_ | refine Z2 ?_)
    rfl
  · rw [if_neg h1]
    by_cases h2 : v = b
    · rw [if_pos h2]
      refine Z6 rfl rfl ?_
      repeat' first | ((with_reducible show V _ _ _ _ _ _); first | refine Z9m rfl (Ze ?_) | refine Z1 rfl ?_ | refine Za rfl rfl ?_ | refine Zb rfl rfl ?_ | refine Z4 rfl rfl ?_) | ((with_reducible show VO _ _ _ _ _ _ _); first | refine Z5 (Zi h1) rfl ?_ | refine Z5 (Z0g h2) rfl ?_ | refine Z0 rfl ?_ | refine Z2 ?_)
      rfl
    · rw [if_neg h2]
      refine Z6 rfl rfl ?_
      repeat' first | ((with_reducible show V _ _ _ _ _ _); first | refine Z9m rfl (Ze ?_) | refine Z1 rfl ?_ | refine Za rfl rfl ?_ | refine Zb rfl rfl ?_ | refine Z4 rfl rfl ?_) | ((with_reducible show VO _ _ _ _ _ _ _); first | refine Z5 (Zi h1) rfl ?_ | refine Z5 (Zi h2) rfl ?_ | refine Z0 rfl ?_ | refine Z2 ?_)
      rfl
theorem run_idx1 (a v : Int) : T.R (.call Z4o [.sl [[.int .i64 a]] true, .int .i64 v] (.int .i64 (if v = a then 0 else -1))) := by
  by_cases h1 : v = a
  · rw [if_pos h1]
    refine Z6 rfl rfl ?_
    repeat' first | ((with_reducible show V _ _ _ _ _ _); first | refine Z9m rfl (Ze ?_) | refine Z1 rfl ?_ | refine Za rfl rfl ?_ | refine Z4 rfl rfl ?_) | ((with_reducible show VO _ _ _ _ _ _ _); first | refine Z5 (Z0g h1) rfl ?_ | refine Z0 rfl ?_ | refine Z2 ?_)
    rfl
  · rw [if_neg h1]
    refine Z6 rfl rfl ?_
    repeat' first | ((with_reducible show V _ _ _ _ _ _); first | refine Z9m rfl (Ze ?_) | refine Z1 rfl ?_ | refine Za rfl rfl ?_ | refine Zb rfl rfl ?_ | refine Z4 rfl rfl ?_) | ((with_reducible show VO _ _ _ _ _ _ _); first | refine Z5 (Zi h1) rfl ?_ | refine Z0 rfl ?_ | refine Z2 ?_)
    rfl
def opsP (ops : List Int) : PV := .sl (ops.map fun o => [.int .i64 o]) true
theorem run_con2 (a b v : Int) : T.R (.call Z1d [opsP [a, b], .int .i64 v] (.bool (decide (v = a) || decide (v = b)))) := by
  have h := run_idx2 a b v
  have pl : Pl (.sl [[.int .i64 a], [.int .i64 b]] true) := .sl _ _ (by simp; exact ⟨.int _ _, .int _ _⟩)
  by_cases h1 : v = a
  · rw [if_pos h1] at h
    rw [decide_eq_true h1]
    refine Z6 rfl rfl ?_
    repeat' first | refine Z1 rfl ?_ | refine Z4 rfl rfl ?_ | ((with_reducible show VO _ _ _ _ _ _ _); first | refine Z7 rfl rfl h ?_ | refine Z0 rfl ?_ | refine Z2 ?_)
    rfl
  · rw [if_neg h1] at h
    rw [decide_eq_false h1]
    by_cases h2 : v = b
    · rw [if_pos h2] at h
      rw [decide_eq_true h2]
      refine Z6 rfl rfl ?_
      repeat' first | refine Z1 rfl ?_ | refine Z4 rfl rfl ?_ | ((with_reducible show VO _ _ _ _ _ _ _); first | refine Z7 rfl rfl h ?_ | refine Z0 rfl ?_ | refine Z2 ?_)
      rfl
    · rw [if_neg h2] at h
      rw [decide_eq_false h2]
      refine Z6 rfl rfl ?_
      repeat' first | refine Z1 rfl ?_ | refine Z4 rfl rfl ?_ | ((with_reducible show VO _ _ _ _ _ _ _); first | refine Z7 rfl rfl h ?_ | refine Z0 rfl ?_ | refine Z2 ?_)
      rfl
theorem run_con1 (a v : Int) : T.R (.call Z1d [opsP [a], .int .i64 v] (.bool (decide (v = a)))) := by
  have h := run_idx1 a v
  have pl : Pl (.sl [[.int .i64 a]] true) := .sl _ _ (by simp; exact .int _ _)
  by_cases h1 : v = a
  · rw [if_pos h1] at h
    rw [decide_eq_true h1]
    refine Z6 rfl rfl ?_
    repeat' first | refine Z1 rfl ?_ | refine Z4 rfl rfl ?_ | ((with_reducible show VO _ _ _ _ _ _ _); first | refine Z7 rfl rfl h ?_ | refine Z0 rfl ?_ | refine Z2 ?_)
    rfl
  · rw [if_neg h1] at h
    rw [decide_eq_false h1]
    refine Z6 rfl rfl ?_
    repeat' first | refine Z1 rfl ?_ | refine Z4 rfl rfl ?_ | ((with_reducible show VO _ _ _ _ _ _ _); first | refine Z7 rfl rfl h ?_ | refine Z0 rfl ?_ | refine Z2 ?_)
    rfl
theorem run_only {n : Nat} {l : List Stp} {p : PV} (hp : SL n p l) (ops : List Int) (P : Int → Bool) (plo : Pl (opsP ops)) (hc : ∀ v, T.R (.call Z1d [opsP ops, .int .i64 v] (.bool (P v)))) :
    ∃ cs, T.R (.call Z29 [p, opsP ops] (.tuple [.agg cs, .bool (Zaa l P).isSome])) ∧ (∀ x, Zaa l P = some x → SC n x cs) ∧ C6 cs := by
  obtain ⟨e1, e2, e3⟩ := hp.len
  have plp := SL.pl hp
  have none6 : ∀ (h : (l.length : Int) ≠ 1) (h2 : Zaa l P = none), ∃ cs, T.R (.call Z29 [p, opsP ops] (.tuple [.agg cs, .bool (Zaa l P).isSome])) ∧ (∀ x, Zaa l P = some x → SC n x cs) ∧ C6 cs := by
    intro h h2
    rw [h2]
    refine ⟨z6, ?_, fun x hx => (by cases hx), c6_z⟩
    refine Z6 rfl rfl ?_
    repeat' first | ((with_reducible show V _ _ _ _ _ _); first | refine Z1 rfl ?_ | refine Zb rfl rfl ?_ | refine Z4 rfl rfl ?_) | ((with_reducible show VO _ _ _ _ _ _ _); first | refine Z8 rfl e1 e2 ?_ | refine Z5 (Zi h) rfl ?_ | refine Z0 rfl ?_ | refine Zc rfl ?_ | refine Z2 ?_ | refine Zs rfl rfl ?_)
    rfl
  match l, hp, e1, none6 with
  | [], hp, e1, none6 => exact none6 (by simp) rfl
  | [s], hp, e1, none6 =>
    obtain ⟨cs, hat, hs⟩ := SL.at hp (j := 0) (s := s) rfl
    have h6 := hs.len6
    have hpl := hs.pl
    have hone := hs.one
    have hcc := hc s.op
    have d1 : PV.bool (decide ((([s] : List Stp).length : Int) = 1)) = PV.bool true := Z0g (by simp)
    have hs0 := hs
    cases n with
    | zero => exact hs.elim
    | succ m =>
      obtain ⟨op, names, nums, preds, vals, subs⟩ := s
      obtain ⟨ho, pa, pb, pc, pd, pe, rfl, _⟩ := hs
      simp only [Stp.op] at hcc
      cases hP : P op with
      | false =>
        have h2 : Zaa [Stp.mk op names nums preds vals subs] P = none := by simp [Zaa, Stp.op, hP]
        rw [hP] at hcc
        rw [h2]
        refine ⟨z6, ?_, fun x hx => (by cases hx), c6_z⟩
        refine Z6 rfl rfl ?_
        repeat' first | ((with_reducible show V _ _ _ _ _ _); first | refine Z1 rfl ?_ | refine Zb rfl rfl ?_ | refine Z4 rfl rfl ?_) | ((with_reducible show VO _ _ _ _ _ _ _); first | refine Z8 rfl e1 e2 ?_ | refine Z5 d1 rfl ?_ | refine Zt rfl rfl hat ?_ | refine Z7 rfl rfl hcc ?_ | refine Z0 rfl ?_ | refine Zc rfl ?_ | refine Z2 ?_ | refine Zk rfl ?_)
        rfl
      | true =>
        have h2 : Zaa [Stp.mk op names nums preds vals subs] P = some (Stp.mk op names nums preds vals subs) := by simp [Zaa, Stp.op, hP]
        rw [hP] at hcc
        rw [h2]
        have pa1 : Pl pa := hpl _ (by simp)
        have pb1 : Pl pb := hpl _ (by simp)
        have pc1 : Pl pc := hpl _ (by simp)
        have pd1 : Pl pd := hpl _ (by simp)
        have pe1 : Pl pe := hpl _ (by simp)
        refine ⟨_, ?_, fun x hx => (by injection hx with hx; subst hx; exact hs0), hs0.c6⟩
        refine Z6 rfl rfl ?_
        repeat' first | ((with_reducible show V _ _ _ _ _ _); first | refine Z1 rfl ?_ | refine Za rfl rfl ?_ | refine Z4 rfl rfl ?_) | ((with_reducible show VO _ _ _ _ _ _ _); first | refine Z8 rfl e1 e2 ?_ | refine Z5 d1 rfl ?_ | refine Zt rfl rfl hat ?_ | refine Z0n rfl h6 ?_ | refine Z7 rfl rfl hcc ?_ | refine Z0d rfl rfl hone rfl rfl rfl rfl ?_ | refine Z0 rfl ?_ | refine Zc rfl ?_ | refine Z2 ?_ | refine Zk rfl ?_)
        rfl
  | s :: s' :: r, hp, e1, none6 => exact none6 (by simp; omega) rfl
theorem Za0 {n : Nat} {op : Int} {subs : List (List Stp)} {pe : PV} (ho : Zp op) (h : LR (SubC (SC n)) pe subs) : SC (n + 1) (Zf op subs) [.int .i64 op, .nilSl, .nilSl, .nilSl, .nilSl, pe] := ⟨ho, _, _, _, _, _, rfl, .inl ⟨rfl, rfl⟩, .inl ⟨rfl, rfl⟩, .inl ⟨rfl, rfl⟩, .inl ⟨rfl, rfl⟩, h⟩
theorem nu_one {k : Int} (hk : Zp k) (f : Bool) : LR NuC (.sl [[.int .i64 k]] f) [k] := .inr ⟨_, f, rfl, by simp, rfl, fun j a cs h1 h2 => by
  cases j with
  | zero => simp at h1 h2; subst h1 h2; exact ⟨hk, rfl⟩
  | succ j => simp at h1⟩
theorem Zgk {n : Nat} {op k : Int} (ho : Zp op) (hk : Zp k) : SC (n + 1) (numS op k) [.int .i64 op, .nilSl, .sl [[.int .i64 k]] true, .nilSl, .nilSl, .nilSl] := ⟨ho, _, _, _, _, _, rfl, .inl ⟨rfl, rfl⟩, nu_one hk true, .inl ⟨rfl, rfl⟩, .inl ⟨rfl, rfl⟩, .inl ⟨rfl, rfl⟩⟩
def idC : List PV := [.int .i64 60, .nilSl, .nilSl, .nilSl, .nilSl, .nilSl]
theorem sc_id (n : Nat) : SC (n + 1) idS idC := Za0 (by simp [Zp]) (.inl ⟨rfl, rfl⟩)
theorem Zj1 : T.R (.call Zhd [] (.agg idC)) := by
  refine Z6 rfl rfl ?_
  repeat' first | refine Z1 rfl ?_ | refine Z4 rfl rfl ?_ | ((with_reducible show VO _ _ _ _ _ _ _); first | refine Z0 rfl ?_ | refine Zc rfl ?_ | refine Z2 ?_)
  rfl
def limC (k : Int) : List PV := [.int .i64 26, .nilSl, .sl [[.int .i64 k]] true, .nilSl, .nilSl, .nilSl]
theorem Zl7 (k : Int) : T.R (.call Zlv [.int .i64 k] (.agg (limC k))) := by
  refine Z6 rfl rfl ?_
  repeat' first | refine Z1 rfl ?_ | refine Z4 rfl rfl ?_ | ((with_reducible show VO _ _ _ _ _ _ _); first | refine Z0 rfl ?_ | refine Zc rfl ?_ | refine Z2 ?_)
  rfl
theorem limC_pl (k : Int) : ∀ c ∈ limC k, Pl c := by
  intro c hc
  simp only [limC, List.mem_cons, List.not_mem_nil, or_false] at hc
  rcases hc with rfl | rfl | rfl | rfl | rfl | rfl <;> first | exact .int _ _ | exact .nilSl | exact .sl _ _ (by simp; exact .int _ _)
theorem Zdc {sz : Nat} {v : PV} {n : Int} {cs : List PV} {kk : IntKind} (ha : At sz v n cs) {look : Nat → Option Tok} {e : EC} {x i : Opd} (hx : x.get e = some v) (hi : i.get e = some (.int kk n)) : Zo look e (.indexS x i sz) = some (.iptr cs 0) := by
  obtain ⟨h0, hl, xs, f, rfl, hc⟩ := ha
  simp only [Zo, get2, hx, hi, Z6o, indexS?]
  rw [if_pos h0, hc]
  simp [hl]
theorem build_sub {α : Type} {R : α → List PV → Prop} {l : List α} {pe : PV} (h : LR R pe l) (o : Int) {look : Nat → Option Tok} {e : EC} {i : Nat} (hi : e.get i = some pe) : Zo look e (.build [.int .i64 0, .nilSl, .nilSl, .nilSl, .nilSl, .nilSl] [(0, (1, .c (.int .i64 o))), (5, (1, .t i))]) = some (.agg [.int .i64 o, .nilSl, .nilSl, .nilSl, .nilSl, pe]) := by
  rcases h with ⟨rfl, _⟩ | ⟨_, _, rfl, _⟩ <;> (simp only [Zo, Z6e, Zmi, Opd.get, hi]; rfl)
theorem Zo7 {α : Type} {R : α → List PV → Prop} {l : List α} {pe : PV} (h : LR R pe l) {o : Int} {look : Nat → Option Tok} {e : EC} {i j : Nat} (hj : e.get j = some (.int .i64 o)) (hi : e.get i = some pe) : Zo look e (.build [.int .i64 0, .nilSl, .nilSl, .nilSl, .nilSl, .nilSl] [(0, (1, .t j)), (5, (1, .t i))]) = some (.agg [.int .i64 o, .nilSl, .nilSl, .nilSl, .nilSl, pe]) := by
  rcases h with ⟨rfl, _⟩ | ⟨_, _, rfl, _⟩ <;> (simp only [Zo, Z6e, Zmi, Opd.get, hi, hj]; rfl)
def stW (a b : List PV) : St := ⟨0, 2, [(0, .var a), (1, .var b)]⟩
set_option maxHeartbeats 4000000 in
theorem run_rule {n : Nat} {s : Stp} {cs : List PV} (h : SC n s cs) (hok : okS s = true) : ∃ cs', T.R (.call Z9o [.agg cs] (.tuple [.agg cs', .bool (rlS s).isSome])) ∧ (∀ x, rlS s = some x → SC n x cs') ∧ C6 cs' := by
  have hpl := h.pl
  have hone := h.one
  have hok0 := hok
  cases n with
  | zero => exact h.elim
  | succ m =>
  obtain ⟨op, names, nums, preds, vals, subs⟩ := s
  obtain ⟨ho, pa, pb, pc, pd, pe, rfl, h1, h2, h3, h4, h5⟩ := h
  obtain ⟨k1, k2, k3⟩ := Zko hok
  have pa1 : Pl pa := hpl _ (by simp)
  have pb1 : Pl pb := hpl _ (by simp)
  have pc1 : Pl pc := hpl _ (by simp)
  have pd1 : Pl pd := hpl _ (by simp)
  have pe1 : Pl pe := hpl _ (by simp)
  have hrl : rlS (.mk op names nums preds vals subs) = rlO op nums subs := rfl
  rw [hrl]
  obtain ⟨e1, e2, e3⟩ := h5.len
  have sub1 : subs.length = 1 → ∃ l q, subs = [l] ∧ At 1 pe 0 [q] ∧ SL m q l := by
    intro hl
    obtain ⟨l, rfl⟩ := List.length_eq_one_iff.1 hl
    obtain ⟨cy, ay, q, rfl, hq⟩ := h5.at (sz := 1) (fun _ _ h => h.len1) (j := 0) (a := l) rfl
    exact ⟨l, q, rfl, ay, hq⟩
  have zpl := z6_pl
  have h5one := (Za0 (op := 20) (by simp [Zp]) h5).one
  by_cases o22 : op = 22 ∨ op = 23
  · by_cases hl : subs.length = 1
    · have hr : rlO op nums subs = some (Zf 20 subs) := by unfold rlO; rw [if_pos o22, if_pos hl]
      rw [hr]
      have d1 : PV.bool (decide ((subs.length : Int) = 1)) = PV.bool true := Z0g (by omega)
      refine ⟨_, ?_, fun x hx => (by injection hx with hx; subst hx; exact Za0 (by simp [Zp]) h5), (Za0 (by simp [Zp]) h5).c6⟩
      rcases o22 with rfl | rfl
      · refine Z6 rfl rfl ?_
        repeat' first | ((with_reducible show V _ _ _ _ _ _); first | refine Z1 rfl ?_ | refine Za rfl rfl ?_ | refine Zb rfl rfl ?_ | refine Z4 rfl rfl ?_) | ((with_reducible show VO _ _ _ _ _ _ _); first | refine Z8 rfl e1 e2 ?_ | refine Z5 d1 rfl ?_ | refine Z0 (build_sub h5 _ rfl) ?_ | refine Z0d rfl rfl h5one rfl rfl rfl rfl ?_ | refine Z0 rfl ?_ | refine Zc rfl ?_ | refine Z2 ?_)
        rfl
      · refine Z6 rfl rfl ?_
        repeat' first | ((with_reducible show V _ _ _ _ _ _); first | refine Z1 rfl ?_ | refine Za rfl rfl ?_ | refine Z4 rfl rfl ?_) | ((with_reducible show VO _ _ _ _ _ _ _); first | refine Z8 rfl e1 e2 ?_ | refine Z5 d1 rfl ?_ | refine Z0 (build_sub h5 _ rfl) ?_ | refine Z0d rfl rfl h5one rfl rfl rfl rfl ?_ | refine Z0 rfl ?_ | refine Zc rfl ?_ | refine Z2 ?_)
        rfl
    · have hr : rlO op nums subs = none := by unfold rlO; rw [if_pos o22, if_neg hl]
      rw [hr]
      have d1 : PV.bool (decide ((subs.length : Int) = 1)) = PV.bool false := Zi (by omega)
      refine ⟨z6, ?_, fun x hx => (by cases hx), c6_z⟩
      rcases o22 with rfl | rfl
      · refine Z6 rfl rfl ?_
        repeat' first | ((with_reducible show V _ _ _ _ _ _); first | refine Z1 rfl ?_ | refine Za rfl rfl ?_ | refine Zb rfl rfl ?_ | refine Z4 rfl rfl ?_) | ((with_reducible show VO _ _ _ _ _ _ _); first | refine Z8 rfl e1 e2 ?_ | refine Z5 d1 rfl ?_ | refine Z0 rfl ?_ | refine Zc rfl ?_ | refine Z2 ?_)
        rfl
      · refine Z6 rfl rfl ?_
        repeat' first | ((with_reducible show V _ _ _ _ _ _); first | refine Z1 rfl ?_ | refine Za rfl rfl ?_ | refine Zb rfl rfl ?_ | refine Z4 rfl rfl ?_) | ((with_reducible show VO _ _ _ _ _ _ _); first | refine Z8 rfl e1 e2 ?_ | refine Z5 d1 rfl ?_ | refine Z0 rfl ?_ | refine Zc rfl ?_ | refine Z2 ?_)
        rfl
  by_cases o21 : op = 21
  · subst o21
    obtain ⟨l, q, rfl, ay, hq⟩ := sub1 (by have := (Zev (op := 21) rfl k1).2.2.2.2; omega)
    have hr : rlO 21 nums [l] = (Zaa l wnB).map notS := by unfold rlO; rw [if_neg (by decide), if_pos rfl]; rfl
    rw [hr]
    have plq := SL.pl hq
    have plo : Pl (opsP [21, 20]) := .sl _ _ (by simp [opsP]; exact ⟨.int _ _, .int _ _⟩)
    obtain ⟨cx, c1, c2, c3, c4, o6⟩ := run_only hq [21, 20] wnB plo (fun v => by
      have := run_con2 21 20 v
      rwa [Bool.or_comm] at this)
    cases hx : Zaa l wnB with
    | none =>
      rw [hx] at c1
      have c1' : T.R (.call Z29 [q, .sl [[.int .i64 21], [.int .i64 20]] true] (.tuple [.agg cx, .bool false])) := c1
      refine ⟨z6, ?_, fun x hx => (by cases hx), c6_z⟩
      refine Z6 rfl rfl ?_
      repeat' first | ((with_reducible show V _ _ _ _ _ _); first | refine Z1 rfl ?_ | refine Za rfl rfl ?_ | refine Zb rfl rfl ?_ | refine Z4 rfl rfl ?_) | ((with_reducible show VO _ _ _ _ _ _ _); first | refine Zt rfl rfl ay ?_ | refine Z7 rfl rfl c1' ?_ | refine Z0d rfl rfl o6 c4 rfl rfl rfl ?_ | refine Z0 rfl ?_ | refine Zc rfl ?_ | refine Z2 ?_)
      rfl
    | some y =>
      rw [hx] at c1 c2
      have c1' : T.R (.call Z29 [q, .sl [[.int .i64 21], [.int .i64 20]] true] (.tuple [.agg cx, .bool true])) := c1
      have hy := c2 y rfl
      obtain ⟨e5, e6⟩ := Z13 hx
      cases m with
      | zero => exact hy.elim
      | succ m =>
        obtain ⟨yo, yn, yu, yp, yv, ys⟩ := y
        obtain ⟨hyo, xa, xb, xc, xd, xe, rfl, _, _, _, _, y5⟩ := hy
        have xe1 : Pl xe := c3 _ (by simp)
        have xa1 : Pl xa := c3 _ (by simp)
        have xb1 : Pl xb := c3 _ (by simp)
        have xc1 : Pl xc := c3 _ (by simp)
        have xd1 : Pl xd := c3 _ (by simp)
        have hn : notS (.mk yo yn yu yp yv ys) = Zf (if yo = 20 then 21 else 20) ys := rfl
        have y5one := (Za0 (op := 20) (by simp [Zp]) y5).one
        have y5one' := (Za0 (op := 21) (by simp [Zp]) y5).one
        by_cases h20 : yo = 20
        · have d1 := Z0g (p := yo = 20) h20
          refine ⟨[.int .i64 21, .nilSl, .nilSl, .nilSl, .nilSl, xe], ?_, fun x hx => (by injection hx with hx; subst hx; rw [hn, if_pos h20]; exact (Za0 (by simp [Zp]) y5).mono (by omega)), (Za0 (op := 21) (by simp [Zp]) y5).c6⟩
          refine Z6 rfl rfl ?_
          repeat' first | ((with_reducible show V _ _ _ _ _ _); first | refine Z1 rfl ?_ | refine Za rfl rfl ?_ | refine Zb rfl rfl ?_ | refine Z4 rfl rfl ?_) | ((with_reducible show VO _ _ _ _ _ _ _); first | refine Zt rfl rfl ay ?_ | refine Z7 rfl rfl c1' ?_ | refine Z0d rfl rfl o6 rfl rfl rfl rfl ?_ | refine Z5 d1 rfl ?_ | refine Z0 (Zo7 y5 rfl rfl) ?_ | refine Z0d rfl rfl y5one' rfl rfl rfl rfl ?_ | refine Z0 rfl ?_ | refine Zc rfl ?_ | refine Z2 ?_)
          rfl
        · have d1 := Zi (p := yo = 20) h20
          refine ⟨[.int .i64 20, .nilSl, .nilSl, .nilSl, .nilSl, xe], ?_, fun x hx => (by injection hx with hx; subst hx; rw [hn, if_neg h20]; exact (Za0 (by simp [Zp]) y5).mono (by omega)), (Za0 (op := 20) (by simp [Zp]) y5).c6⟩
          refine Z6 rfl rfl ?_
          repeat' first | ((with_reducible show V _ _ _ _ _ _); first | refine Z1 rfl ?_ | refine Za rfl rfl ?_ | refine Zb rfl rfl ?_ | refine Z4 rfl rfl ?_) | ((with_reducible show VO _ _ _ _ _ _ _); first | refine Zt rfl rfl ay ?_ | refine Z7 rfl rfl c1' ?_ | refine Z0d rfl rfl o6 rfl rfl rfl rfl ?_ | refine Z5 d1 rfl ?_ | refine Z0 (Zo7 y5 rfl rfl) ?_ | refine Z0d rfl rfl y5one rfl rfl rfl rfl ?_ | refine Z0 rfl ?_ | refine Zc rfl ?_ | refine Z2 ?_)
          rfl
  by_cases o20 : op = 20
  · subst o20
    obtain ⟨l, q, rfl, ay, hq⟩ := sub1 (by have := (Zev (op := 20) rfl k1).2.2.2.2; omega)
    have hr : rlO 20 nums [l] = Zaa l wnB := by unfold rlO; rw [if_neg (by decide), if_neg (by decide), if_pos rfl]; rfl
    rw [hr]
    have plq := SL.pl hq
    have plo : Pl (opsP [20, 21]) := .sl _ _ (by simp [opsP]; exact ⟨.int _ _, .int _ _⟩)
    obtain ⟨cx, c1, c2, c3, c4, o6⟩ := run_only hq [20, 21] wnB plo (fun v => run_con2 20 21 v)
    generalize Zaa l wnB = r at c1 c2 ⊢
    have c1' : T.R (.call Z29 [q, .sl [[.int .i64 20], [.int .i64 21]] true] (.tuple [.agg cx, .bool r.isSome])) := c1
    refine ⟨cx, ?_, fun x hx => (c2 x hx).mono (by omega), ⟨c3, c4, o6⟩⟩
    match cx, c4, c1', c3, o6 with
    | [x0, x1, x2, x3, x4, x5], c4, c1', c3, o6 =>
      have y0 : Pl x0 := c3 _ (by simp)
      have y1 : Pl x1 := c3 _ (by simp)
      have y2 : Pl x2 := c3 _ (by simp)
      have y3 : Pl x3 := c3 _ (by simp)
      have y4 : Pl x4 := c3 _ (by simp)
      have y5 : Pl x5 := c3 _ (by simp)
      refine Z6 rfl rfl ?_
      repeat' first | ((with_reducible show V _ _ _ _ _ _); first | refine Z1 rfl ?_ | refine Za rfl rfl ?_ | refine Zb rfl rfl ?_ | refine Z4 rfl rfl ?_) | ((with_reducible show VO _ _ _ _ _ _ _); first | refine Zt rfl rfl ay ?_ | refine Z7 rfl rfl c1' ?_ | refine Z0d rfl rfl o6 rfl rfl rfl rfl ?_ | refine Z0 rfl ?_ | refine Zc rfl ?_ | refine Z2 ?_)
      rfl
  by_cases o54 : op = 54 ∨ op = 27
  · obtain ⟨k, rfl⟩ : ∃ k, nums = [k] := by
      rcases o54 with rfl | rfl
      · exact len1 (Zev (op := 54) rfl k1).2.1
      · exact len1 (Zev (op := 27) rfl k1).2.1
    obtain ⟨cy, ay, hy, rfl⟩ := h2.at (sz := 1) (fun _ _ h => h.len1) (j := 0) (a := k) rfl
    have hr : rlO op [k] subs = if k = 0 then some idS else none := by
      unfold rlO
      rw [if_neg o22, if_neg o21, if_neg o20, if_pos o54]
      rfl
    rw [hr]
    have hid := Zj1
    have fin : T.R (.call Z9o [.agg [.int .i64 op, pa, pb, pc, pd, pe]] (.tuple [.agg idC, .bool (decide (k = 0))])) := by
      rcases o54 with rfl | rfl
      · refine Z6 rfl rfl ?_
        repeat' first | ((with_reducible show V _ _ _ _ _ _); first | refine V_M 6 (stW [.int .i64 54, pa, pb, pc, pd, pe] idC) rfl ?_ | refine Z1 rfl ?_ | refine Za rfl rfl ?_ | refine Zb rfl rfl ?_ | refine Z4 rfl rfl ?_) | ((with_reducible show VO _ _ _ _ _ _ _); first | refine Z0 rfl ?_ | refine Zc rfl ?_ | refine Z2 ?_) | ((with_reducible show VM _ _ _ _ _ _ _ _ _ _ _); first | refine Zi1 rfl (.inl rfl) rfl rfl (Z08) (Z08) hid ?_ | refine Z2y rfl (.inl rfl) (Zdc ay rfl rfl) (Zdc ay rfl rfl) ?_ | refine Zjs rfl rfl ?_ | refine Z2y rfl (.inl rfl) rfl rfl ?_ | refine Z2y rfl (.inr rfl) rfl rfl ?_ | refine M_nil ?_)
        rfl
      · refine Z6 rfl rfl ?_
        repeat' first | ((with_reducible show V _ _ _ _ _ _); first | refine V_M 6 (stW [.int .i64 27, pa, pb, pc, pd, pe] idC) rfl ?_ | refine Z1 rfl ?_ | refine Za rfl rfl ?_ | refine Zb rfl rfl ?_ | refine Z4 rfl rfl ?_) | ((with_reducible show VO _ _ _ _ _ _ _); first | refine Z0 rfl ?_ | refine Zc rfl ?_ | refine Z2 ?_) | ((with_reducible show VM _ _ _ _ _ _ _ _ _ _ _); first | refine Zi1 rfl (.inl rfl) rfl rfl (Z08) (Z08) hid ?_ | refine Z2y rfl (.inl rfl) (Zdc ay rfl rfl) (Zdc ay rfl rfl) ?_ | refine Zjs rfl rfl ?_ | refine Z2y rfl (.inl rfl) rfl rfl ?_ | refine Z2y rfl (.inr rfl) rfl rfl ?_ | refine M_nil ?_)
        rfl
    have pid : ∀ c ∈ idC, Pl c := (sc_id 0).pl
    by_cases hk : k = 0
    · rw [if_pos hk]
      rw [decide_eq_true hk] at fin
      exact ⟨idC, fin, fun x hx => (by injection hx with hx; subst hx; exact sc_id m), (sc_id 0).c6⟩
    · rw [if_neg hk]
      rw [decide_eq_false hk] at fin
      exact ⟨idC, fin, fun x hx => (by cases hx), (sc_id 0).c6⟩
  by_cases o52 : op = 52
  · subst o52
    obtain ⟨l, q, rfl, ay, hq⟩ := sub1 (by have := (Zev (op := 52) rfl k1).2.2.2.2; omega)
    have hr : rlO 52 nums [l] = Zaa l (fun o => decide (o = 60)) := by unfold rlO; rw [if_neg (by decide), if_neg (by decide), if_neg (by decide), if_neg (by decide), if_pos rfl]; rfl
    rw [hr]
    have plq := SL.pl hq
    have plo : Pl (opsP [60]) := .sl _ _ (by simp [opsP]; exact .int _ _)
    obtain ⟨cx, c1, c2, c3, c4, o6⟩ := run_only hq [60] (fun o => decide (o = 60)) plo (fun v => run_con1 60 v)
    generalize Zaa l (fun o => decide (o = 60)) = r at c1 c2 ⊢
    have c1' : T.R (.call Z29 [q, .sl [[.int .i64 60]] true] (.tuple [.agg cx, .bool r.isSome])) := c1
    refine ⟨cx, ?_, fun x hx => (c2 x hx).mono (by omega), ⟨c3, c4, o6⟩⟩
    match cx, c4, c1', c3, o6 with
    | [x0, x1, x2, x3, x4, x5], c4, c1', c3, o6 =>
      have y0 : Pl x0 := c3 _ (by simp)
      have y1 : Pl x1 := c3 _ (by simp)
      have y2 : Pl x2 := c3 _ (by simp)
      have y3 : Pl x3 := c3 _ (by simp)
      have y4 : Pl x4 := c3 _ (by simp)
      have y5 : Pl x5 := c3 _ (by simp)
      refine Z6 rfl rfl ?_
      repeat' first | ((with_reducible show V _ _ _ _ _ _); first | refine Z1 rfl ?_ | refine Za rfl rfl ?_ | refine Zb rfl rfl ?_ | refine Z4 rfl rfl ?_) | ((with_reducible show VO _ _ _ _ _ _ _); first | refine Zt rfl rfl ay ?_ | refine Z7 rfl rfl c1' ?_ | refine Z0d rfl rfl o6 rfl rfl rfl rfl ?_ | refine Z0 rfl ?_ | refine Zc rfl ?_ | refine Z2 ?_)
      rfl
  by_cases o28 : op = 28
  · subst o28
    obtain ⟨a, b, rfl⟩ : ∃ a b, nums = [a, b] := by
      have := (Zev (op := 28) rfl k1).2.1
      match nums, this with
      | [a, b], _ => exact ⟨a, b, rfl⟩
    obtain ⟨ca, aa, ha, rfl⟩ := h2.at (sz := 1) (fun _ _ h => h.len1) (j := 0) (a := a) rfl
    obtain ⟨cb, ab, hb, rfl⟩ := h2.at (sz := 1) (fun _ _ h => h.len1) (j := 1) (a := b) rfl
    have hr : rlO 28 [a, b] subs = if a ≥ b then some (limS 0) else if a = 0 then some (limS b) else none := by
      unfold rlO
      rw [if_neg (by decide), if_neg (by decide), if_neg (by decide), if_neg (by decide), if_neg (by decide), if_pos rfl]
      rfl
    rw [hr]
    by_cases hab : a ≥ b
    · rw [if_pos hab]
      have d1 := Z0g (p := b ≤ a) hab
      have hl := Zl7 0
      refine ⟨limC 0, ?_, fun x hx => (by injection hx with hx; subst hx; exact Zgk (by simp [Zp]) (by simp [Zp])), (Zgk (n := 0) (op := 26) (k := 0) (by simp [Zp]) (by simp [Zp])).c6⟩
      refine Z6 rfl rfl ?_
      repeat' first | ((with_reducible show V _ _ _ _ _ _); first | refine Z1 rfl ?_ | refine Za rfl rfl ?_ | refine Zb rfl rfl ?_ | refine Z4 rfl rfl ?_ | refine V_D rfl ?_) | ((with_reducible show VO _ _ _ _ _ _ _); first | refine Z5 d1 rfl ?_ | refine Z7 rfl rfl hl ?_ | refine Z0 rfl ?_ | refine Zc rfl ?_ | refine Z2 ?_) | ((with_reducible show VD _ _ _ _ _ _ _); first | refine Zdq rfl rfl aa ?_ | refine Zdq rfl rfl ab ?_ | refine Z0b rfl ?_ | refine Z1w ?_)
      rfl
    · rw [if_neg hab]
      have d1 := Zi (p := b ≤ a) hab
      have hl := Zl7 b
      have fin : T.R (.call Z9o [.agg [.int .i64 28, pa, pb, pc, pd, pe]] (.tuple [.agg (limC b), .bool (decide (a = 0))])) := by
        refine Z6 rfl rfl ?_
        repeat' first | ((with_reducible show V _ _ _ _ _ _); first | refine Z1 rfl ?_ | refine Za rfl rfl ?_ | refine Zb rfl rfl ?_ | refine Z4 rfl rfl ?_ | refine V_D rfl ?_) | ((with_reducible show VO _ _ _ _ _ _ _); first | refine Z5 d1 rfl ?_ | refine Z7 rfl rfl hl ?_ | refine Z0 rfl ?_ | refine Zc rfl ?_ | refine Z2 ?_) | ((with_reducible show VD _ _ _ _ _ _ _); first | refine Zdq rfl rfl aa ?_ | refine Zdq rfl rfl ab ?_ | refine Z0b rfl ?_ | refine Z1w ?_)
        rfl
      by_cases ha0 : a = 0
      · rw [if_pos ha0]
        rw [decide_eq_true ha0] at fin
        exact ⟨limC b, fin, fun x hx => (by injection hx with hx; subst hx; exact Zgk (by simp [Zp]) hb), (Zgk (n := 0) (op := 26) (by simp [Zp]) hb).c6⟩
      · rw [if_neg ha0]
        rw [decide_eq_false ha0] at fin
        exact ⟨limC b, fin, fun x hx => (by cases hx), (Zgk (n := 0) (op := 26) (by simp [Zp]) hb).c6⟩
  have hr : rlO op nums subs = none := by
    unfold rlO
    rw [if_neg o22, if_neg o21, if_neg o20, if_neg o54, if_neg o52, if_neg o28]
  rw [hr]
  rw [not_or] at o22 o54
  refine ⟨z6, ?_, fun x hx => (by cases hx), c6_z⟩
  refine Z6 rfl rfl ?_
  repeat' first | ((with_reducible show V _ _ _ _ _ _); first | refine Z1 rfl ?_ | refine Zb rfl rfl ?_ | refine Z4 rfl rfl ?_) | ((with_reducible show VO _ _ _ _ _ _ _); first | refine Z5 (Zi o22.2) rfl ?_ | refine Z5 (Zi o22.1) rfl ?_ | refine Z5 (Zi o21) rfl ?_ | refine Z5 (Zi o20) rfl ?_ | refine Z5 (Zi o54.1) rfl ?_ | refine Z5 (Zi o54.2) rfl ?_ | refine Z5 (Zi o52) rfl ?_ | refine Z5 (Zi o28) rfl ?_ | refine Z0 rfl ?_ | refine Zc rfl ?_ | refine Z2 ?_)
  rfl
section
variable {T : Tb} {Q : Z6t} {k : List Fr} {ρ : EC} {st S' : St} {l : List POp} {kill : List Nat}
theorem Z5g {a x : Opd} {t n : Nat} {cs cs0 : List PV} (hS : st.put t (.var cs) = S') (hg : st.get t = some (.var cs0)) (hc : C6 cs) (h0 : cs0.length = 6) (ha : a.get ρ = some (.ptr t 0)) (hx : x.get ρ = some (.agg cs)) (hn : n = 6) (h : VO T Q l kill k (ρ.sets none (.tuple [])) S') : VO T Q (⟨none, none, .store n a x⟩ :: l) kill k ρ st := by
  subst hS hn
  exact Z0d ha hx hc.2.2 hc.2.1 rfl hg h0 h
theorem Z5h {d : Option Nat} {cs : List PV} {m : Nat} (hS : st.new (.var cs) = S') (hn : st.next = m) (h : VO T Q l kill k (ρ.sets d (.ptr m 0)) S') : VO T Q (⟨d, none, .alloc cs⟩ :: l) kill k ρ st := by
  subst hS hn
  exact Zc rfl h
end
theorem Zjr {T : Tb} {Q : Z6t} {k : List Fr} {ρ : EC} {st S' : St} {l : List POp} {kill : List Nat} {d : Option Nat} {x : Opd} {cs : List PV} {m : Nat} (hS : st.new (.var cs) = S') (hn : st.next = m) (hx : x.get ρ = some (.agg cs)) (h : VO T Q l kill k (ρ.sets d (.ptr m 0)) S') : VO T Q (⟨d, none, .box x⟩ :: l) kill k ρ st := by
  subst hS hn
  exact Zc (by simp only [Z1c, hx]; rfl) h
theorem loadC {look : Nat → Option Tok} {t n : Nat} {cs : List PV} (hg : look t = some (.var cs)) (hl : cs.length = n) : loadAt look n true (.ptr t 0) = some (.agg cs) := by
  simp only [loadAt, behind, hg, Option.bind_some]
  rw [← hl]
  simp [slice?]
theorem resC {e : EC} {look : Nat → Option Tok} {t a n : Nat} {cs : List PV} (ha : e.get a = some (.ptr t 0)) (hg : look t = some (.var cs)) (hl : cs.length = n) : resG e look [.cell a n true] = some (.agg cs) := by
  have := loadC hg hl
  simp [resG, resGs, resG1, ha, this]
theorem simple_loop {n : Nat} : ∀ s : Stp, ∀ (cs cx : List PV) (st : St) (tx : Nat), SC n s cs → okS s = true → st.get 0 = some (.var cs) → (∃ z, st.get 1 = some (.var z) ∧ z.length = 6) → st.get tx = some (.var cx) → 2 ≤ tx → tx < st.next → (∀ x, rlS s = some x → SC n x cx) → C6 cx →
    V T (PE fun y e st' => y = .exit 0 ∧ e = Zj [(1, .ptr 0 0), (2, .ptr 1 0)] ∧ ∃ cs', st'.get 0 = some (.var cs') ∧ SC n (Z6a s) cs' ∧ ∃ z, st'.get 1 = some (.var z) ∧ z.length = 6) [.code (.loop Z8g)] .normal (Zj [(1, .ptr 0 0), (2, .ptr 1 0), (3, .ptr tx 0), (4, .bool (rlS s).isSome)]) st := by
  refine Zdk (fun s hr cs cx st tx hs hok h0 h1 hx htx hlt hsc hc => ?_) (fun s x hr ih cs cx st tx hs hok h0 h1 hx htx hlt hsc hc => ?_)
  · rw [Z41 hr, hr]
    obtain ⟨z, h1, hz⟩ := h1
    refine Ze ?_
    repeat' first | ((with_reducible show V _ _ _ _ _ _); first | refine Z0w [(1, .ptr 0 0), (2, .ptr 1 0)] rfl ⟨rfl, rfl, trivial⟩ ⟨rfl, rfl, cs, h0, hs, z, h1, hz⟩ | refine Z1 rfl ?_ | refine Zb rfl rfl ?_) | refine Z0 rfl ?_ | refine Z2 ?_
  · rw [Z7r hr, hr]
    have hxs := hsc x hr
    have hxo := rlS_ok hok hr
    obtain ⟨cy, y1, y2, y3⟩ := run_rule hxs hxo
    obtain ⟨z, h1, hz⟩ := h1
    obtain ⟨S1, hS1⟩ : ∃ S1, st.put 0 (.var cx) = S1 := ⟨_, rfl⟩
    have a0 : S1.get 0 = some (.var cx) := by rw [← hS1]; exact St.get_put
    have a1 : S1.get 1 = some (.var z) := by rw [← hS1]; exact (St.get_put_old (by decide)).trans h1
    have ax : S1.get tx = some (.var cx) := by rw [← hS1]; exact (St.get_put_old (by omega)).trans hx
    have an : S1.next = st.next := by rw [← hS1]; rfl
    obtain ⟨S2, hS2⟩ : ∃ S2, S1.new (.var z6) = S2 := ⟨_, rfl⟩
    have b0 : S2.get 0 = some (.var cx) := by rw [← hS2]; exact (St.get_new_old (by omega)).trans a0
    have b1 : S2.get 1 = some (.var z) := by rw [← hS2]; exact (St.get_new_old (by omega)).trans a1
    have bx : S2.get st.next = some (.var z6) := by rw [← hS2, ← an]; exact St.get_new
    have bn : S2.next = st.next + 1 := by rw [← hS2, ← an]; rfl
    obtain ⟨S3, hS3⟩ : ∃ S3, S2.put st.next (.var cx) = S3 := ⟨_, rfl⟩
    have c0 : S3.get 0 = some (.var cx) := by rw [← hS3]; exact (St.get_put_old (by omega)).trans b0
    have c1 : S3.get 1 = some (.var z) := by rw [← hS3]; exact (St.get_put_old (by omega)).trans b1
    have c2 : S3.get st.next = some (.var cx) := by rw [← hS3]; exact St.get_put
    have cn : S3.next = st.next + 1 := by rw [← hS3]; exact bn
    obtain ⟨S4, hS4⟩ : ∃ S4, S3.put st.next (.var cy) = S4 := ⟨_, rfl⟩
    have d0 : S4.get 0 = some (.var cx) := by rw [← hS4]; exact (St.get_put_old (by omega)).trans c0
    have d1 : S4.get 1 = some (.var z) := by rw [← hS4]; exact (St.get_put_old (by omega)).trans c1
    have d2 : S4.get st.next = some (.var cy) := by rw [← hS4]; exact St.get_put
    have dn : S4.next = st.next + 1 := by rw [← hS4]; exact cn
    have hi := ih cx cy S4 st.next hxs hxo d0 ⟨z, d1, hz⟩ d2 (by omega) (by omega) y2 y3
    have l6 := hs.len6
    have lx := hc.2.1
    have z66 : z6.length = 6 := rfl
    have plx := hc.1
    refine Ze ?_
    repeat' first | ((with_reducible show V _ _ _ _ _ _); first | refine Zg8 rfl hi ⟨rfl, rfl, rfl, rfl, trivial⟩ | refine Z1 rfl ?_ | refine Za rfl rfl ?_) | ((with_reducible show VO _ _ _ _ _ _ _); first | refine Z07 rfl hx lx ?_ | refine Z07 rfl ax lx ?_ | refine Z07 rfl c0 lx ?_ | refine Z5g hS1 h0 hc l6 rfl rfl rfl ?_ | refine Z5g hS3 bx hc z66 rfl rfl rfl ?_ | refine Z5g hS4 c2 y3 lx rfl rfl rfl ?_ | refine Z5h hS2 an ?_ | refine Z7 rfl rfl y1 ?_ | refine Z0 rfl ?_ | refine Z2 ?_)
theorem run_simple {n : Nat} {s : Stp} {cs : List PV} (h : SC n s cs) (hok : okS s = true) : ∃ cs', T.R (.call Z6j [.agg cs] (.agg cs')) ∧ SC n (Z6a s) cs' := by
  obtain ⟨cy, y1, y2, y3⟩ := run_rule h hok
  have plc := h.pl
  have l6 := h.len6
  obtain ⟨S0, hS0⟩ : ∃ S, emptySt.new (.var cs) = S := ⟨_, rfl⟩
  have g0 : S0.get 0 = some (.var cs) := by rw [← hS0]; rfl
  have n0 : S0.next = 1 := by rw [← hS0]; rfl
  obtain ⟨S1, hS1⟩ : ∃ S, S0.new (.var z6) = S := ⟨_, rfl⟩
  have a0 : S1.get 0 = some (.var cs) := by rw [← hS1]; exact (St.get_new_old (by omega)).trans g0
  have a1 : S1.get 1 = some (.var z6) := by rw [← hS1, ← n0]; exact St.get_new
  have n1 : S1.next = 2 := by rw [← hS1]; show S0.next + 1 = 2; omega
  obtain ⟨S2, hS2⟩ : ∃ S, S1.new (.var z6) = S := ⟨_, rfl⟩
  have b0 : S2.get 0 = some (.var cs) := by rw [← hS2]; exact (St.get_new_old (by omega)).trans a0
  have b1 : S2.get 1 = some (.var z6) := by rw [← hS2]; exact (St.get_new_old (by omega)).trans a1
  have b2 : S2.get 2 = some (.var z6) := by rw [← hS2, ← n1]; exact St.get_new
  have n2 : S2.next = 3 := by rw [← hS2]; show S1.next + 1 = 3; omega
  obtain ⟨S3, hS3⟩ : ∃ S, S2.put 2 (.var cy) = S := ⟨_, rfl⟩
  have c0 : S3.get 0 = some (.var cs) := by rw [← hS3]; exact (St.get_put_old (by decide)).trans b0
  have c1 : S3.get 1 = some (.var z6) := by rw [← hS3]; exact (St.get_put_old (by decide)).trans b1
  have c2 : S3.get 2 = some (.var cy) := by rw [← hS3]; exact St.get_put
  have n3 : S3.next = 3 := by rw [← hS3]; exact n2
  have z66 : z6.length = 6 := rfl
  have hlp := simple_loop s cs cy S3 2 h hok c0 ⟨z6, c1, rfl⟩ c2 (by decide) (by omega) y2 y3
  have key : ∃ r, T.R (.call Z6j [.agg cs] r) ∧ ∃ cs', r = .agg cs' ∧ SC n (Z6a s) cs' := by
    refine Z9v rfl rfl ?_
    repeat' first | refine Z0h rfl hlp ⟨rfl, rfl, rfl, rfl, trivial⟩ ?_ | refine Z1 rfl ?_ | ((with_reducible show VO _ _ _ _ _ _ _); first | refine Zjr hS0 rfl rfl ?_ | refine Z5h hS1 n0 ?_ | refine Z5h hS2 n1 ?_ | refine Z07 rfl a0 l6 ?_ | refine Z5g hS3 b2 y3 z66 rfl rfl rfl ?_ | refine Z7 rfl rfl y1 ?_ | refine Z0 rfl ?_ | refine Z2 ?_)
    rintro x e st' ⟨rfl, rfl, cs', k0, k1, z, k2, k3⟩
    have c6 := k1.c6
    have l6' := c6.2.1
    obtain ⟨S4, hS4⟩ : ∃ S, st'.put 1 (.var cs') = S := ⟨_, rfl⟩
    have d1 : S4.get 1 = some (.var cs') := by rw [← hS4]; exact St.get_put
    repeat' first | refine Zmy rfl (resC rfl d1 l6') (Pl.agg _ c6.1).view ⟨cs', rfl, k1⟩ | refine Z1 rfl ?_ | ((with_reducible show VO _ _ _ _ _ _ _); first | refine Z07 rfl k0 l6' ?_ | refine Z5g hS4 k2 c6 k3 rfl rfl rfl ?_ | refine Z2 ?_)
  obtain ⟨r, r1, cs', rfl, r2⟩ := key
  exact ⟨cs', r1, r2⟩
end Go.Proofs.YtnedeokclnbcpaaGreatDoor
