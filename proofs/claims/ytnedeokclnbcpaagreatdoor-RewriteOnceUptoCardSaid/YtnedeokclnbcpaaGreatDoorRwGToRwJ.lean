/- rewrite.join. · rewrite.put. · rewrite.asked, rewrite.Trim. · Copies of lists of names, numbers and values. -/
import Derived.Test.YtnedeokclnbcpaaGreatDoorRwDToRwF
import Derived.Test.YtnedeokclnbcpaaGreatDoorRwPToRwT
import Derived.Test.YtnedeokclnbcpaaGreatDoorAmZ
set_option linter.unusedVariables false
set_option linter.unusedSimpArgs false
namespace Go.Proofs.YtnedeokclnbcpaaGreatDoor
open Go Go.AM Go.RowKit
def st3 (a b c : List PV) : St := ⟨0, 3, [(0, .var a), (1, .var b), (2, .var c)]⟩
theorem Znq {a b c x : List PV} (hx : ∀ y ∈ x, PV.one y = true) {e : EC} {i j : Nat} (hi : e.get i = some (.ptr 2 0) := by rfl) (hj : e.get j = some (.agg x) := by rfl) (hl : x.length = 6 := by rfl) (hc : c.length = 6 := by rfl) : Z1c (st3 a b c) e (.store 6 (.t i) (.t j)) = some (.tuple [], st3 a b x) := by
  have h1 : (PV.agg x).cells.all PV.one = true := List.all_eq_true.2 hx
  have h2 : (PV.agg x).cells.length = 6 := hl
  simp only [Z1c, Opd.get, hi, hj]
  rw [if_pos ⟨h1, h2, by omega⟩, Z1x (cs := c) rfl (by rw [hl, hc])]
  rfl
theorem eqSB_D {a b : Stp} : eqSB a b = eqD a b := rfl
theorem eqD_one {a b : Stp} : eqD [a] [b] = eqSB a b := by
  rw [eqSB_D]
  refine Zix ?_
  rw [eqD_is, eqD_is]
  constructor
  · intro h; injection h
  · rintro rfl; rfl
theorem pl6 {a b c d e f : PV} (h : ∀ x ∈ [a, b, c, d, e, f], Pl x) : Pl a ∧ Pl b ∧ Pl c ∧ Pl d ∧ Pl e ∧ Pl f := ⟨h _ (by simp), h _ (by simp), h _ (by simp), h _ (by simp), h _ (by simp), h _ (by simp)⟩
theorem num_at {n : Nat} {s : Stp} {cs : List PV} (h : SC n s cs) {k : Int} (hk : s.nums = [k]) : ∃ o pa pb pc pd pe, cs = [.int .i64 o, pa, pb, pc, pd, pe] ∧ o = s.op ∧ At 1 pb 0 [.int .i64 k] ∧ Zp k := by
  cases n with
  | zero => exact h.elim
  | succ n =>
    obtain ⟨op, names, nums, preds, vals, subs⟩ := s
    obtain ⟨_, pa, pb, pc, pd, pe, rfl, h1, h2, _⟩ := h
    obtain rfl : nums = [k] := hk
    obtain ⟨cy, ay, hy, rfl⟩ := h2.at (sz := 1) (fun _ _ h => h.len1) (j := 0) (a := k) rfl
    exact ⟨_, _, _, _, _, _, rfl, rfl, ay, hy⟩
def JoinR (n : Nat) (ca cb : List PV) (r : Option Stp) : Prop := ∃ cs, T.R (.call Z5c [.agg ca, .agg cb] (.tuple [.agg cs, .bool r.isSome])) ∧ (∀ x, r = some x → SC n x cs) ∧ C6 cs
set_option maxHeartbeats 8000000 in
theorem run_join {n : Nat} {a b : Stp} {ca cb : List PV} (ha : SC n a ca) (hb : SC n b cb) (oka : okS a = true) (okb : okS b = true) : JoinR n ca cb (Zal a b) := by
  have c6a := ha.c6
  have c6b := hb.c6
  obtain ⟨pla, la, ona⟩ := c6a
  obtain ⟨plb, lb, onb⟩ := c6b
  have h0a := ha.op0
  have h0b := hb.op0
  have hio := Zf5 ha.c6 h0a
  have hjo := Zf5 hb.c6 h0b
  have hn : 1 ≤ n := by
    cases n with
    | zero => exact ha.elim
    | succ n => omega
  obtain ⟨m, rfl⟩ : ∃ m, n = m + 1 := ⟨n - 1, by omega⟩
  unfold Zal
  by_cases ho : ordB a.op = true
  · rw [if_pos ho]
    rw [ho] at hio
    have fin : T.R (.call Z5c [.agg ca, .agg cb] (.tuple [.agg cb, .bool (ordB b.op || decide (b.op = 35))])) := by
      clear ha hb
      generalize b.op = ob at h0b hjo ⊢
      match ca, la, pla, ona, hio, cb, lb, plb, onb, hjo, h0b with
      | [x0, x1, x2, x3, x4, x5], la, pla, ona, hio, [y0, y1, y2, y3, y4, y5], lb, plb, onb, hjo, h0b =>
        obtain ⟨px0, px1, px2, px3, px4, px5⟩ := pl6 pla
        obtain ⟨py0, py1, py2, py3, py4, py5⟩ := pl6 plb
        simp at h0b
        subst h0b
        cases hq : ordB ob with
        | true =>
          rw [hq] at hjo
          refine Z6 rfl rfl ?_
          repeat' first | ((with_reducible show V _ _ _ _ _ _); first | refine V_M 8 (st3 [x0, x1, x2, x3, x4, x5] [.int .i64 ob, y1, y2, y3, y4, y5] [.int .i64 ob, y1, y2, y3, y4, y5]) rfl ?_ | refine Z1 rfl ?_ | refine Za rfl rfl ?_ | refine Z4 rfl rfl ?_) | ((with_reducible show VO _ _ _ _ _ _ _); first | refine Z07 rfl rfl la ?_ | refine Z7 rfl rfl hio ?_ | refine Z0 rfl ?_ | refine Zc rfl ?_ | refine Z2 ?_) | ((with_reducible show VM _ _ _ _ _ _ _ _ _ _ _); first | refine M_gF rfl (.inl rfl) rfl rfl ?_ | refine Zi1 rfl (.inl rfl) rfl rfl (Z08) (Z08) hjo ?_ | refine Zjs rfl (Znq onb) ?_ | refine Z2y rfl (.inl rfl) rfl rfl ?_ | refine Z2y rfl (.inr rfl) rfl rfl ?_ | refine M_nil ?_)
          rfl
        | false =>
          rw [hq] at hjo
          by_cases h35 : ob = 35
          · rw [decide_eq_true h35]
            refine Z6 rfl rfl ?_
            repeat' first | ((with_reducible show V _ _ _ _ _ _); first | refine V_M 8 (st3 [x0, x1, x2, x3, x4, x5] [.int .i64 ob, y1, y2, y3, y4, y5] [.int .i64 ob, y1, y2, y3, y4, y5]) rfl ?_ | refine Z1 rfl ?_ | refine Za rfl rfl ?_ | refine Z4 rfl rfl ?_) | ((with_reducible show VO _ _ _ _ _ _ _); first | refine Z07 rfl rfl la ?_ | refine Z7 rfl rfl hio ?_ | refine Z0 rfl ?_ | refine Zc rfl ?_ | refine Z2 ?_) | ((with_reducible show VM _ _ _ _ _ _ _ _ _ _ _); first | refine M_gT rfl rfl ?_ | refine Zi1 rfl (.inl rfl) rfl rfl (Z08) (Z08) hjo ?_ | refine M_is (Z0g h35) rfl (.inl rfl) rfl rfl ?_ | refine Zjs rfl (Znq onb) ?_ | refine Z2y rfl (.inl rfl) rfl rfl ?_ | refine Z2y rfl (.inr rfl) rfl rfl ?_ | refine M_nil ?_)
            rfl
          · rw [decide_eq_false h35]
            refine Z6 rfl rfl ?_
            repeat' first | ((with_reducible show V _ _ _ _ _ _); first | refine V_M 8 (st3 [x0, x1, x2, x3, x4, x5] [.int .i64 ob, y1, y2, y3, y4, y5] [.int .i64 ob, y1, y2, y3, y4, y5]) rfl ?_ | refine Z1 rfl ?_ | refine Za rfl rfl ?_ | refine Z4 rfl rfl ?_) | ((with_reducible show VO _ _ _ _ _ _ _); first | refine Z07 rfl rfl la ?_ | refine Z7 rfl rfl hio ?_ | refine Z0 rfl ?_ | refine Zc rfl ?_ | refine Z2 ?_) | ((with_reducible show VM _ _ _ _ _ _ _ _ _ _ _); first | refine M_gT rfl rfl ?_ | refine Zi1 rfl (.inl rfl) rfl rfl (Z08) (Z08) hjo ?_ | refine M_is (Zi h35) rfl (.inl rfl) rfl rfl ?_ | refine Zjs rfl (Znq onb) ?_ | refine Z2y rfl (.inl rfl) rfl rfl ?_ | refine Z2y rfl (.inr rfl) rfl rfl ?_ | refine M_nil ?_)
            rfl
    by_cases hc : ordB b.op = true ∨ b.op = 35
    · rw [if_pos hc]
      have : (ordB b.op || decide (b.op = 35)) = true := by simpa using hc
      rw [this] at fin
      exact ⟨cb, fin, fun x hx => (by injection hx with hx; subst hx; exact hb), hb.c6⟩
    · rw [if_neg hc]
      have : (ordB b.op || decide (b.op = 35)) = false := by simpa using hc
      rw [this] at fin
      exact ⟨cb, fin, fun x hx => (by cases hx), hb.c6⟩
  · rw [if_neg ho]
    have ho' : ordB a.op = false := by simpa using ho
    rw [ho'] at hio
    by_cases hne : a.op ≠ b.op
    · rw [if_pos hne]
      refine ⟨z6, ?_, fun x hx => (by cases hx), c6_z⟩
      clear ha hb
      have hne' : ¬ a.op = b.op := hne
      generalize a.op = oa at h0a hne'
      generalize b.op = ob at h0b hne'
      match ca, la, pla, ona, hio, cb, lb, plb, onb, h0a, h0b with
      | [x0, x1, x2, x3, x4, x5], la, pla, ona, hio, [y0, y1, y2, y3, y4, y5], lb, plb, onb, h0a, h0b =>
        obtain ⟨px0, px1, px2, px3, px4, px5⟩ := pl6 pla
        obtain ⟨py0, py1, py2, py3, py4, py5⟩ := pl6 plb
        simp at h0b h0a
        subst h0b h0a
        refine Z6 rfl rfl ?_
        repeat' first | ((with_reducible show V _ _ _ _ _ _); first | refine Z1 rfl ?_ | refine Za rfl rfl ?_ | refine Zb rfl rfl ?_ | refine Z4 rfl rfl ?_) | ((with_reducible show VO _ _ _ _ _ _ _); first | refine Z07 rfl rfl la ?_ | refine Z7 rfl rfl hio ?_ | refine Z5 (Z2l hne') rfl ?_ | refine Z0 rfl ?_ | refine Zc rfl ?_ | refine Z2 ?_)
        rfl
    · rw [if_neg hne]
      have heq : a.op = b.op := Classical.not_not.1 hne
      have dne := Z2b (p := a.op = b.op) heq
      by_cases h24 : a.op = 24
      · rw [if_pos h24]
        refine ⟨ca, ?_, fun x hx => (by injection hx with hx; subst hx; exact ha), ha.c6⟩
        clear ha hb
        rw [heq] at h24
        rw [← heq] at h24
        rw [← heq] at h0b
        rw [h24] at h0a h0b
        match ca, la, pla, ona, hio, cb, lb, plb, onb, h0a, h0b with
        | [x0, x1, x2, x3, x4, x5], la, pla, ona, hio, [y0, y1, y2, y3, y4, y5], lb, plb, onb, h0a, h0b =>
          obtain ⟨px0, px1, px2, px3, px4, px5⟩ := pl6 pla
          obtain ⟨py0, py1, py2, py3, py4, py5⟩ := pl6 plb
          simp at h0b h0a
          subst h0b h0a
          refine Z6 rfl rfl ?_
          repeat' first | ((with_reducible show V _ _ _ _ _ _); first | refine Z1 rfl ?_ | refine Za rfl rfl ?_ | refine Zb rfl rfl ?_ | refine Z4 rfl rfl ?_) | ((with_reducible show VO _ _ _ _ _ _ _); first | refine Z07 rfl rfl la ?_ | refine Z7 rfl rfl hio ?_ | refine Z0d rfl rfl ona la rfl rfl rfl ?_ | refine Z0 rfl ?_ | refine Zc rfl ?_ | refine Z2 ?_)
          rfl
      · rw [if_neg h24]
        by_cases h26 : a.op = 26
        · rw [if_pos h26]
          obtain ⟨x, ex, nx⟩ := Zco oka (.inl h26)
          obtain ⟨y, ey, ny⟩ := Zco okb (.inl (heq ▸ h26))
          obtain ⟨o1, a1, a2, a3, a4, a5, rfl, rfl, ax, ix⟩ := num_at ha ex
          obtain ⟨o2, b1, b2, b3, b4, b5, rfl, rfl, ay, iy⟩ := num_at hb ey
          obtain ⟨px0, px1, px2, px3, px4, px5⟩ := pl6 pla
          obtain ⟨py0, py1, py2, py3, py4, py5⟩ := pl6 plb
          have hl := Zl7 (min2 x y)
          have ixy : Zp (min2 x y) := by unfold min2; split <;> assumption
          have plm := limC_pl (min2 x y)
          have o6 := (Zgk (n := 0) (op := 26) (by simp [Zp]) ixy).one
          rw [ex, ey]
          refine ⟨limC (min2 x y), ?_, fun z hz => (by injection hz with hz; subst hz; exact Zgk (by simp [Zp]) ixy), (Zgk (n := 0) (op := 26) (by simp [Zp]) ixy).c6⟩
          clear ha hb
          rw [← heq] at hjo lb plb onb h0b ⊢
          rw [h26] at *
          refine Z6 rfl rfl ?_
          repeat' first | ((with_reducible show V _ _ _ _ _ _); first | refine V_M 10 (st3 [.int .i64 26, a1, a2, a3, a4, a5] [.int .i64 26, b1, b2, b3, b4, b5] (limC (min2 x y))) rfl ?_ | refine Z1 rfl ?_ | refine Za rfl rfl ?_ | refine Zb rfl rfl ?_ | refine Z4 rfl rfl ?_) | ((with_reducible show VO _ _ _ _ _ _ _); first | refine Z07 rfl rfl la ?_ | refine Z7 rfl rfl hio ?_ | refine Z0 rfl ?_ | refine Zc rfl ?_ | refine Z2 ?_) | ((with_reducible show VM _ _ _ _ _ _ _ _ _ _ _); first | refine Z2y rfl (.inl rfl) (Zdc ax rfl rfl) (Zdc ax rfl rfl) ?_ | refine Z2y rfl (.inl rfl) (Zdc ay rfl rfl) (Zdc ay rfl rfl) ?_ | refine Zi1 rfl (.inl rfl) rfl rfl (Z08) (Z08) hl ?_ | refine Zjs rfl (Znq o6) ?_ | refine Z2y rfl (.inl rfl) rfl rfl ?_ | refine Z2y rfl (.inr rfl) rfl rfl ?_ | refine M_nil ?_)
          rfl
        · rw [if_neg h26]
          by_cases h27 : a.op = 27
          · rw [if_pos h27]
            obtain ⟨x, ex, nx⟩ := Zco oka (.inr (.inl h27))
            obtain ⟨y, ey, ny⟩ := Zco okb (.inr (.inl (heq ▸ h27)))
            obtain ⟨o1, a1, a2, a3, a4, a5, rfl, rfl, ax, ix⟩ := num_at ha ex
            obtain ⟨o2, b1, b2, b3, b4, b5, rfl, rfl, ay, iy⟩ := num_at hb ey
            obtain ⟨px0, px1, px2, px3, px4, px5⟩ := pl6 pla
            obtain ⟨py0, py1, py2, py3, py4, py5⟩ := pl6 plb
            have nx' := numB_of nx
            have ny' := numB_of ny
            have ixy : Zp (x + y) := by unfold Zp; omega
            have e1 : PV.int .i64 (IntKind.i64.wrap (x + y)) = PV.int .i64 (x + y) := Z9h (Zey ixy)
            have fin : T.R (.call Z5c [.agg [.int .i64 a.op, a1, a2, a3, a4, a5], .agg [.int .i64 b.op, b1, b2, b3, b4, b5]] (.tuple [.agg [.int .i64 27, .nilSl, .sl [[.int .i64 (x + y)]] true, .nilSl, .nilSl, .nilSl], .bool (decide (x + y ≤ 9007199254740992))])) := by
              clear ha hb
              rw [← heq] at hjo lb plb onb h0b ⊢
              rw [h27] at *
              refine Z6 rfl rfl ?_
              repeat' first | ((with_reducible show V _ _ _ _ _ _); first | refine Z1 rfl ?_ | refine Za rfl rfl ?_ | refine Zb rfl rfl ?_ | refine Z4 rfl rfl ?_ | refine V_D rfl ?_) | ((with_reducible show VO _ _ _ _ _ _ _); first | refine Z07 rfl rfl la ?_ | refine Z7 rfl rfl hio ?_ | refine Z0 rfl ?_ | refine Zc rfl ?_ | refine Z2 ?_) | ((with_reducible show VD _ _ _ _ _ _ _); first | refine Zdq rfl rfl ax ?_ | refine Zdq rfl rfl ay ?_ | refine D_is e1 rfl ?_ | refine Z0b rfl ?_ | refine Z1w ?_)
              rfl
            rw [ex, ey]
            show JoinR _ _ _ (if x + y ≤ 9007199254740992 then some (skS (x + y)) else none)
            have hc := Zgk (n := m) (op := 27) (k := x + y) (by simp [Zp]) ixy
            by_cases hle : x + y ≤ 9007199254740992
            · rw [if_pos hle]
              rw [decide_eq_true hle] at fin
              exact ⟨_, fin, fun z hz => (by injection hz with hz; subst hz; exact hc), hc.c6⟩
            · rw [if_neg hle]
              rw [decide_eq_false hle] at fin
              exact ⟨_, fin, fun z hz => (by cases hz), hc.c6⟩
          · rw [if_neg h27]
            have hf := run_isFilter ha
            have hs := run_PSame (m + 1) [a] [b] _ _ (sl_one ha) (sl_one hb)
            rw [eqD_one] at hs
            have sa : C6 ca := ha.c6
            have sb : C6 cb := hb.c6
            have psa : Pl (.sl [ca] true) := .sl _ _ (by simpa using pla)
            have psb : Pl (.sl [cb] true) := .sl _ _ (by simpa using plb)
            have ba := fun (look : Nat → Option Tok) (e : EC) (i : Nat) (hi : e.get i = some (.agg ca)) => Zdp (look := look) sa hi
            have bb := fun (look : Nat → Option Tok) (e : EC) (i : Nat) (hi : e.get i = some (.agg cb)) => Zdp (look := look) sb hi
            have fin : T.R (.call Z5c [.agg ca, .agg cb] (.tuple [.agg ca, .bool (filtB a && eqSB a b)])) := by
              clear ha hb sa sb
              rw [← heq] at h0b
              generalize a.op = oa at h0a h0b h24 h26 h27
              generalize filtB a = v at hf ⊢
              generalize eqSB a b = w at hs ⊢
              match ca, la, pla, ona, hio, hf, psa, ba, cb, lb, plb, onb, hjo, h0a, h0b, psb, bb, hs with
              | [x0, x1, x2, x3, x4, x5], la, pla, ona, hio, hf, psa, ba, [y0, y1, y2, y3, y4, y5], lb, plb, onb, hjo, h0a, h0b, psb, bb, hs =>
                obtain ⟨px0, px1, px2, px3, px4, px5⟩ := pl6 pla
                obtain ⟨py0, py1, py2, py3, py4, py5⟩ := pl6 plb
                simp at h0b h0a
                subst h0b h0a
                have dne := Z2b (p := oa = oa) rfl
                cases v with
                | false =>
                  refine Z6 rfl rfl ?_
                  repeat' first | ((with_reducible show V _ _ _ _ _ _); first | refine V_M 10 (st3 [.int .i64 oa, x1, x2, x3, x4, x5] [.int .i64 oa, y1, y2, y3, y4, y5] [.int .i64 oa, x1, x2, x3, x4, x5]) rfl ?_ | refine Z1 rfl ?_ | refine Zb rfl rfl ?_ | refine Z4 rfl rfl ?_) | ((with_reducible show VO _ _ _ _ _ _ _); first | refine Z07 rfl rfl la ?_ | refine Z7 rfl rfl hio ?_ | refine Z5 dne rfl ?_ | refine Z5 (Zi h24) rfl ?_ | refine Z5 (Zi h26) rfl ?_ | refine Z5 (Zi h27) rfl ?_ | refine Z0 rfl ?_ | refine Zc rfl ?_ | refine Z2 ?_) | ((with_reducible show VM _ _ _ _ _ _ _ _ _ _ _); first | refine M_gF rfl (.inl rfl) rfl rfl ?_ | refine Zi1 rfl (.inl rfl) rfl rfl (Z08) (Z08) hf ?_ | refine Zjs rfl (Znq ona) ?_ | refine Z2y rfl (.inl rfl) rfl rfl ?_ | refine Z2y rfl (.inr rfl) rfl rfl ?_ | refine M_nil ?_)
                  rfl
                | true =>
                  refine Z6 rfl rfl ?_
                  repeat' first | ((with_reducible show V _ _ _ _ _ _); first | refine V_M 10 (st3 [.int .i64 oa, x1, x2, x3, x4, x5] [.int .i64 oa, y1, y2, y3, y4, y5] [.int .i64 oa, x1, x2, x3, x4, x5]) rfl ?_ | refine Z1 rfl ?_ | refine Zb rfl rfl ?_ | refine Z4 rfl rfl ?_) | ((with_reducible show VO _ _ _ _ _ _ _); first | refine Z07 rfl rfl la ?_ | refine Z7 rfl rfl hio ?_ | refine Z5 dne rfl ?_ | refine Z5 (Zi h24) rfl ?_ | refine Z5 (Zi h26) rfl ?_ | refine Z5 (Zi h27) rfl ?_ | refine Z0 rfl ?_ | refine Zc rfl ?_ | refine Z2 ?_) | ((with_reducible show VM _ _ _ _ _ _ _ _ _ _ _); first | refine M_gT rfl rfl ?_ | refine Zi1 rfl (.inl rfl) rfl rfl (Z08) (Z08) hf ?_ | refine Zi1 rfl (.inl rfl) rfl rfl (Z08) (Z08) hs ?_ | refine Z2y rfl (.inl rfl) (ba _ _ _ rfl) (ba _ _ _ rfl) ?_ | refine Z2y rfl (.inl rfl) (bb _ _ _ rfl) (bb _ _ _ rfl) ?_ | refine Zjs rfl (Znq ona) ?_ | refine Z2y rfl (.inl rfl) rfl rfl ?_ | refine Z2y rfl (.inr rfl) rfl rfl ?_ | refine M_nil ?_)
                  rfl
            by_cases hc : (filtB a && eqSB a b) = true
            · rw [if_pos hc]
              rw [hc] at fin
              exact ⟨ca, fin, fun x hx => (by injection hx with hx; subst hx; exact ha), ha.c6⟩
            · rw [if_neg hc]
              have : (filtB a && eqSB a b) = false := by simpa using hc
              rw [this] at fin
              exact ⟨ca, fin, fun x hx => (by cases hx), ha.c6⟩
noncomputable def putF (L : List Stp) (s : Stp) : List Stp := (Za3 L.reverse s).reverse
theorem putF_id {L : List Stp} {s : Stp} (h : (Z6a s).op = 60) : putF L s = L := by
  unfold putF
  cases hr : L.reverse with
  | nil =>
    rw [Za3, if_pos h]
    simpa using hr
  | cons a r =>
    rw [Za3, if_pos h, ← hr, List.reverse_reverse]
theorem putF_nil {s : Stp} (h : (Z6a s).op ≠ 60) : putF [] s = [Z6a s] := by
  unfold putF
  rw [List.reverse_nil, Za3, if_neg h]
  rfl
theorem putF_join {L : List Stp} {a s x : Stp} (h : (Z6a s).op ≠ 60) (hj : Zal a (Z6a s) = some x) : putF (L ++ [a]) s = putF L x := by
  unfold putF
  rw [List.reverse_append, List.reverse_singleton, List.singleton_append, Za3, if_neg h, hj]
theorem putF_app {L : List Stp} {a s : Stp} (h : (Z6a s).op ≠ 60) (hj : Zal a (Z6a s) = none) : putF (L ++ [a]) s = L ++ [a] ++ [Z6a s] := by
  unfold putF
  rw [List.reverse_append, List.reverse_singleton, List.singleton_append, Za3, if_neg h, hj]
  simp
theorem OwnL.atAll {n : Nat} {st : St} {v : PV} {L : List Stp} (h : OwnL n st v L) {j : Nat} {s : Stp} (hs : L[j]? = some s) : ∃ p cs, (∀ look : Nat → Option Tok, (∀ u, Z0i v = some u → look u = st.get u) → indexS? look 6 (j : Int) v = some p ∧ loadAt look 6 true p = some (.agg cs)) ∧ SC n s cs := by
  have hj := (List.getElem?_eq_some_iff.1 hs).1
  rcases h with ⟨rfl, rfl⟩ | ⟨t, g, es, rfl, h1, h2, h3, h4⟩
  · simp at hs
  · have he : es[j]? = some es[j] := List.getElem?_eq_getElem (by omega)
    have hc := h4 j s _ hs he
    have h6 := hc.len6
    refine ⟨.rptr t g j 0, es[j], fun look hlook => ?_, hc⟩
    have hl : look t = some (.row g 6 es true) := (hlook t rfl).trans h1
    constructor
    · simp only [indexS?]
      rw [if_pos ⟨by omega, by omega⟩]
      simp only [hl, and_self, if_true, Int.toNat_natCast, Nat.zero_add]
    · simp only [loadAt, behind, hl, if_true, he, Option.map_some, Option.bind_some, slice?]
      rw [if_pos (by omega)]
      simp [List.take_of_length_le (Nat.le_of_eq h6)]
theorem Zke {look : Nat → Option Tok} {e : EC} {x i : Opd} {v p : PV} {kk : IntKind} {m : Int} {sz : Nat} (hx : x.get e = some v) (hi : i.get e = some (.int kk m)) (h : indexS? look sz m v = some p) : Zo look e (.indexS x i sz) = some p := by
  simp only [Zo, get2, hx, hi, Z6o, h]
theorem ld_q {look : Nat → Option Tok} {e : EC} {x : Opd} {p v : PV} {n : Nat} {agg : Bool} (hx : x.get e = some p) (h : loadAt look n agg p = some v) : Zo look e (.load n agg x) = some v := by
  simp only [Zo, Zcc, hx, h]
def PutS (n : Nat) (L : List Stp) : Prop := ∀ (st : St) (v : PV) (s : Stp) (cs : List PV), st.base = st.next → OwnL n st v L → SC n s cs → okS s = true → ∃ v' st', T.R (.raw n_rewrite_put [v, .agg cs] st v' st') ∧ OwnL n st' v' (putF L s) ∧ Grow st v st' v'
theorem put_begin {n : Nat} {L : List Stp} {st : St} {v : PV} {s : Stp} {cs : List PV} (hv : OwnL n st v L) (hs : SC n s cs) (hok : okS s = true) : ∃ cx S0 S1, T.R (.call Z6j [.agg cs] (.agg cx)) ∧ SC n (Z6a s) cx ∧ st.new (.var cs) = S0 ∧ S0.get st.next = some (.var cs) ∧ S0.put st.next (.var cx) = S1 ∧ S1.get st.next = some (.var cx) ∧ S1.next = st.next + 1 ∧ OwnL n S1 v L ∧ Grow st v S1 v := by
  obtain ⟨cx, x1, x2⟩ := run_simple hs hok
  refine ⟨cx, _, _, x1, x2, rfl, St.get_new, rfl, St.get_put, rfl, ?_⟩
  have hg : Grow st v ((st.new (.var cs)).put st.next (.var cx)) v := ⟨rfl, Nat.le_succ _, .inl rfl, fun u hu _ => by rw [St.get_put_old (by omega)]; exact St.get_new_old hu⟩
  refine ⟨hv.keep hg.2.1 fun u hu => ?_, hg⟩
  have := (hv.tok hu).1
  rw [St.get_put_old (by omega)]
  exact St.get_new_old this
set_option maxHeartbeats 4000000 in
theorem putRaw0 {n : Nat} : PutS n [] := by
  intro st v s cs hbn hv hs hok
  obtain ⟨cx, S0, S1, x1, x2, e0, g0, e1, g1, n1, hv1, hg1⟩ := put_begin hv hs hok
  have c6 := x2.c6
  have l6 := hs.len6
  have lx := c6.2.1
  have plc := hs.pl
  have hop := x2.op0
  obtain ⟨f1, f2⟩ := hv1.len
  by_cases h60 : (Z6a s).op = 60
  · rw [putF_id h60]
    refine Zcg (Q := fun v' st' => OwnL n st' v' [] ∧ Grow st v st' v') rfl rfl ?_
    repeat' first | ((with_reducible show V _ _ _ _ _ _); first | refine Z6r rfl rfl ⟨hv1, hg1⟩ | refine Z1 rfl ?_ | refine Za rfl rfl ?_) | ((with_reducible show VO _ _ _ _ _ _ _); first | refine Zjr e0 rfl rfl ?_ | refine Z07 rfl g0 l6 ?_ | refine Z7 rfl rfl x1 ?_ | refine Z5g e1 g0 c6 l6 rfl rfl rfl ?_ | refine Z6u rfl g1 hop ?_ | refine Z5 (Z0g h60) rfl ?_ | refine Z0 rfl ?_ | refine Z2 ?_)
  · rw [putF_nil h60]
    obtain ⟨v', S2, a1, a2, a3⟩ := hv1.app (bytes := 128) x2 (by simp [Z04])
    have hb := fun (look : Nat → Option Tok) (e : EC) (i : Nat) (hi : e.get i = some (.agg cx)) => Zdp (look := look) c6 hi
    have hend := hg1.trans a3
    have hok6 : okEls 6 [cx] = true := by simp only [okEls, List.all_cons, List.all_nil, lx, List.all_eq_true.2 c6.2.2]; rfl
    refine Zcg (Q := fun v' st' => OwnL n st' v' [Z6a s] ∧ Grow st v st' v') rfl rfl ?_
    repeat' first | ((with_reducible show V _ _ _ _ _ _); first | refine Z6r rfl rfl ⟨a2, hend⟩ | refine Z1 rfl ?_ | refine Zb rfl rfl ?_) | ((with_reducible show VO _ _ _ _ _ _ _); first | refine Zjr e0 rfl rfl ?_ | refine Z07 rfl g0 l6 ?_ | refine Z07 rfl g1 lx ?_ | refine Z7 rfl rfl x1 ?_ | refine Z5g e1 g0 c6 l6 rfl rfl rfl ?_ | refine Z6u rfl g1 hop ?_ | refine Z5 (Zi h60) rfl ?_ | refine Z8 rfl f1 f2 ?_ | refine Z0 (hb _ _ _ rfl) ?_ | refine Z7n rfl rfl rfl hok6 (by decide) (by decide) a1 ?_ | refine Z0 rfl ?_ | refine Z2 ?_)
set_option maxHeartbeats 8000000 in
theorem putRaw1 {n : Nat} {L0 : List Stp} {a : Stp} (hL2 : L0.length ≤ 999999999) (hok0 : okA (L0 ++ [a])) (ih : PutS n L0) : PutS n (L0 ++ [a]) := by
  intro st v s cs hbn hv hs hok
  obtain ⟨cx, S0, S1, x1, x2, e0, g0, e1, g1, n1, hv1, hg1⟩ := put_begin hv hs hok
  have c6 := x2.c6
  have l6 := hs.len6
  have lx := c6.2.1
  have plc := hs.pl
  have plx := c6.1
  have hop := x2.op0
  obtain ⟨f1, f2⟩ := hv1.len
  by_cases h60 : (Z6a s).op = 60
  · rw [putF_id h60]
    refine Zcg (Q := fun v' st' => OwnL n st' v' (L0 ++ [a]) ∧ Grow st v st' v') rfl rfl ?_
    repeat' first | ((with_reducible show V _ _ _ _ _ _); first | refine Z6r rfl rfl ⟨hv1, hg1⟩ | refine Z1 rfl ?_ | refine Za rfl rfl ?_) | ((with_reducible show VO _ _ _ _ _ _ _); first | refine Zjr e0 rfl rfl ?_ | refine Z07 rfl g0 l6 ?_ | refine Z7 rfl rfl x1 ?_ | refine Z5g e1 g0 c6 l6 rfl rfl rfl ?_ | refine Z6u rfl g1 hop ?_ | refine Z5 (Z0g h60) rfl ?_ | refine Z0 rfl ?_ | refine Z2 ?_)
  · have hoka := hok0 a (by simp)
    have hokx := simS_ok s hok
    obtain ⟨p, ca, hat, sca⟩ := hv1.atAll (j := L0.length) (s := a) (by simp)
    obtain ⟨cj, j1, j2, j3⟩ := run_join sca x2 hoka hokx
    have pla := sca.pl
    have plj := j3.1
    have e2 : PV.int .i64 (IntKind.i64.wrap (((L0 ++ [a]).length : Int) - 1)) = PV.int .i64 (L0.length : Int) := Z9h (by rw [Z00]; simp; omega)
    have d2 := Z0g (p := (0 : Int) ≤ (L0.length : Int)) (by omega)
    obtain ⟨B1, hB1⟩ : ∃ S, S1.new (.var z6) = S := ⟨_, rfl⟩
    have b1 : B1.get st.next = some (.var cx) := by rw [← hB1]; exact (St.get_new_old (by omega)).trans g1
    have b2 : B1.get (st.next + 1) = some (.var z6) := by rw [← hB1, ← n1]; exact St.get_new
    have bn : B1.next = st.next + 2 := by rw [← hB1]; show S1.next + 1 = _; omega
    obtain ⟨C1, hC1⟩ : ∃ S, B1.put (st.next + 1) (.var cj) = S := ⟨_, rfl⟩
    have c1 : C1.get st.next = some (.var cx) := by rw [← hC1]; exact (St.get_put_old (by omega)).trans b1
    have c2 : C1.get (st.next + 1) = some (.var cj) := by rw [← hC1]; exact St.get_put
    have cn : C1.next = st.next + 2 := by rw [← hC1]; exact bn
    have kB : ∀ u, u < S1.next → B1.get u = S1.get u := fun u hu => by rw [← hB1]; exact St.get_new_old hu
    have kC : ∀ u, u < S1.next → C1.get u = S1.get u := fun u hu => by rw [← hC1]; exact (St.get_put_old (by omega)).trans (kB u hu)
    have tv : ∀ u, Z0i v = some u → u < S1.next := fun u hu => (hv1.tok hu).1
    have hA' := hat S1.get (fun u hu => rfl)
    have hB' := hat B1.get (fun u hu => kB u (tv u hu))
    have hC' := hat C1.get (fun u hu => kC u (tv u hu))
    have hvC : OwnL n C1 v (L0 ++ [a]) := hv1.keep (by omega) (fun u hu => kC u (tv u hu))
    have gC : Grow st v C1 v := ⟨by rw [← hC1, ← hB1]; exact hg1.1, by omega, .inl rfl, fun u hu hne => (kC u (by omega)).trans (hg1.2.2.2 u hu hne)⟩
    have gg : ∀ X : St, X = S1 ∨ X = B1 ∨ X = C1 → X.get st.next = some (.var cx) := fun X hX => by rcases hX with rfl | rfl | rfl <;> assumption
    have lq : ∀ {e : EC} {x : Opd}, x.get e = some (.ptr st.next 0) → ∀ {X : St}, X.get st.next = some (.var cx) → Zo X.get e (.load 6 true x) = some (.agg cx) := fun hx X hX => ld_q hx (loadC hX lx)
    have hz6 : z6.length = 6 := rfl
    have hsto : Z1c B1 ((EC.nil : EC)) (.store 6 (.c (.ptr (st.next + 1) 0)) (.c (.agg cj))) = some (.tuple [], C1) := by
      have h1 : (PV.agg cj).cells.all PV.one = true := List.all_eq_true.2 j3.2.2
      have h2 : (PV.agg cj).cells.length = 6 := j3.2.1
      simp only [Z1c, Opd.get]
      rw [if_pos ⟨h1, h2, by omega⟩, Z1x b2 (by rw [hz6, j3.2.1]), hC1]
      rfl
    have hst2 : ∀ {e : EC} {i j : Nat}, e.get i = some (.ptr (st.next + 1) 0) → e.get j = some (.agg cj) → Z1c B1 e (.store 6 (.t i) (.t j)) = some (.tuple [], C1) := fun {e i j} hi hj => by
      have h1 : (PV.agg cj).cells.all PV.one = true := List.all_eq_true.2 j3.2.2
      have h2 : (PV.agg cj).cells.length = 6 := j3.2.1
      simp only [Z1c, Opd.get, hi, hj]
      rw [if_pos ⟨h1, h2, by omega⟩, Z1x b2 (by rw [hz6, j3.2.1]), hC1]
      rfl
    have hal : ∀ {e : EC}, Z1c S1 e (.alloc [.int .i64 0, .nilSl, .nilSl, .nilSl, .nilSl, .nilSl]) = some (.ptr (st.next + 1) 0, B1) := fun {e} => by
      rw [← hB1, ← n1]
      rfl
    cases hj : Zal a (Z6a s) with
    | none =>
      rw [hj] at j1
      rw [putF_app h60 hj]
      obtain ⟨v', S2, a1, a2, a3⟩ := hvC.app (bytes := 128) x2 (by simp only [Z04, List.length_append, List.length_singleton]; omega)
      have hb := fun (look : Nat → Option Tok) (e : EC) (i : Nat) (hi : e.get i = some (.agg cx)) => Zdp (look := look) c6 hi
      have hend := gC.trans a3
      have hok6 : okEls 6 [cx] = true := by simp only [okEls, List.all_cons, List.all_nil, lx, List.all_eq_true.2 c6.2.2]; rfl
      refine Zcg (Q := fun v' st' => OwnL n st' v' (L0 ++ [a] ++ [Z6a s]) ∧ Grow st v st' v') rfl rfl ?_
      repeat' first | ((with_reducible show V _ _ _ _ _ _); first | refine V_M2 9 10 6 B1 C1 rfl rfl ?_ | refine Z6r rfl rfl ⟨a2, hend⟩ | refine Z1 rfl ?_ | refine Za rfl rfl ?_ | refine Zb rfl rfl ?_) | ((with_reducible show VO _ _ _ _ _ _ _); first | refine Zjr e0 rfl rfl ?_ | refine Z07 rfl g0 l6 ?_ | refine Z07 rfl c1 lx ?_ | refine Z7 rfl rfl x1 ?_ | refine Z5g e1 g0 c6 l6 rfl rfl rfl ?_ | refine Z6u rfl g1 hop ?_ | refine Z5 (Zi h60) rfl ?_ | refine Z8 rfl f1 f2 ?_ | refine Z5 e2 rfl ?_ | refine Z5 d2 rfl ?_ | refine Z0 (hb _ _ _ rfl) ?_ | refine Z7n rfl rfl rfl hok6 (by decide) (by decide) a1 ?_ | refine Z0 rfl ?_ | refine Z2 ?_) | refine M2_loud1 rfl hal ?_ | refine M2_loud2 rfl (by decide) (hst2 rfl rfl) ?_ | refine Z5b rfl rfl (.inl rfl) (Zke rfl rfl hA'.1) (Zke rfl rfl hB'.1) (Zke rfl rfl hC'.1) ?_ | refine Z5b rfl rfl (.inl rfl) (ld_q rfl hA'.2) (ld_q rfl hB'.2) (ld_q rfl hC'.2) ?_ | refine Z5b rfl rfl (.inl rfl) (lq rfl g1) (lq rfl b1) (lq rfl c1) ?_ | refine Zn0 rfl rfl (.inl rfl) rfl rfl (fun _ => Z08) j1 ?_ | refine Z5b rfl rfl (.inl rfl) rfl rfl rfl ?_ | refine Z5b rfl rfl (.inr (.inr rfl)) rfl rfl rfl ?_ | refine M2_nil ?_
    | some x =>
      rw [hj] at j1
      rw [putF_join h60 hj]
      have hxok := joinS_ok hoka hokx hj
      obtain ⟨v0, k1, k2, k3⟩ := hvC.take (m := L0.length) (by simp)
      have htk : (L0 ++ [a]).take L0.length = L0 := by simp
      rw [htk] at k2
      have k2' : OwnL n ⟨C1.next, C1.next, C1.toks⟩ v0 L0 := k2.keep (Nat.le_refl _) (fun _ _ => rfl)
      obtain ⟨v', S2, r1, r2, r3⟩ := ih ⟨C1.next, C1.next, C1.toks⟩ v0 x cj rfl k2' (j2 x hj) hxok
      have gD : Grow C1 v0 ⟨C1.base, S2.next, S2.toks⟩ v' := Grow.re (b := 0) r3
      have hvE : OwnL n ⟨C1.base, S2.next, S2.toks⟩ v' (putF L0 x) := r2
      have gE : Grow st v ⟨C1.base, S2.next, S2.toks⟩ v' := by
        refine gC.trans ⟨gD.1, gD.2.1, ?_, fun u hu hne => gD.2.2.2 u hu (by rw [k3]; exact hne)⟩
        rw [← k3]
        exact gD.2.2.1
      have hall6 := Zb6 (Q := fun s => s.get (st.next + 1) = some (.var cj)) (a := C1) (r := [C1, ⟨C1.base, S2.next, S2.toks⟩]) ⟨c2, c2, (gD.2.2.2 _ (by omega) (fun hu => by rw [k3] at hu; have := tv _ hu; omega)).trans c2⟩
      have lj := j3.2.1
      have sl_q : ∀ {e : EC}, e.get 29 = some v → e.get 30 = some (.int .i64 (L0.length : Int)) → Zo C1.get e (.sliceSl (.t 29) 6 none (some (.t 30)) none) = some v0 := fun {e} h1 h2 => by
        simp only [Zo, Zcc, Opd.get, Z9i, h1, h2]
        exact k1
      refine Zcg (Q := fun v' st' => OwnL n st' v' (putF L0 x) ∧ Grow st v st' v') rfl rfl ?_
      repeat' first | ((with_reducible show V _ _ _ _ _ _); first | refine V_C (mkC [2, 4] [some 31, some 33] C1 [C1, ⟨C1.base, S2.next, S2.toks⟩] none) rfl rfl ?_ | refine V_M2 9 10 6 B1 C1 rfl rfl ?_ | refine Z6r rfl rfl ⟨hvE, gE⟩ | refine Z1 rfl ?_ | refine Za rfl rfl ?_ | refine Zb rfl rfl ?_) | ((with_reducible show VO _ _ _ _ _ _ _); first | refine Zjr e0 rfl rfl ?_ | refine Z07 rfl g0 l6 ?_ | refine Z7 rfl rfl x1 ?_ | refine Z5g e1 g0 c6 l6 rfl rfl rfl ?_ | refine Z6u rfl g1 hop ?_ | refine Z5 (Zi h60) rfl ?_ | refine Z8 rfl f1 f2 ?_ | refine Z5 e2 rfl ?_ | refine Z5 d2 rfl ?_ | refine Z0 rfl ?_ | refine Z2 ?_) | ((with_reducible show Go.AM.VC _ _ _ _ _ _ _ _ _ _); first | refine C_move rfl rfl rfl rfl rfl rfl rfl (sl_q rfl rfl) ?_ | refine C_loadP rfl rfl rfl hall6 lj ?_ | refine Zkx rfl rfl rfl rfl rfl rfl rfl rfl r1 r3.1 rfl ?_ | refine Zn1 rfl rfl (fun _ => rfl) ?_ | refine C_nil rfl rfl ?_) | refine M2_loud1 rfl hal ?_ | refine M2_loud2 rfl (by decide) (hst2 rfl rfl) ?_ | refine Z5b rfl rfl (.inl rfl) (Zke rfl rfl hA'.1) (Zke rfl rfl hB'.1) (Zke rfl rfl hC'.1) ?_ | refine Z5b rfl rfl (.inl rfl) (ld_q rfl hA'.2) (ld_q rfl hB'.2) (ld_q rfl hC'.2) ?_ | refine Z5b rfl rfl (.inl rfl) (lq rfl g1) (lq rfl b1) (lq rfl c1) ?_ | refine Zn0 rfl rfl (.inl rfl) rfl rfl (fun _ => Z08) j1 ?_ | refine Z5b rfl rfl (.inl rfl) rfl rfl rfl ?_ | refine Z5b rfl rfl (.inr (.inr rfl)) rfl rfl rfl ?_ | refine M2_nil ?_
set_option maxHeartbeats 8000000 in
theorem putRaw {n : Nat} : ∀ (N : Nat) (L : List Stp), L.length ≤ N → L.length ≤ 1000000000 → okA L → PutS n L := by
  intro N
  induction N with
  | zero =>
    intro L hL hL2 hok
    obtain rfl : L = [] := List.length_eq_zero_iff.1 (by omega)
    exact putRaw0
  | succ N ih =>
    intro L hL hL2 hok
    rcases List.eq_nil_or_concat L with rfl | ⟨L0, a, rfl⟩
    · exact putRaw0
    · rw [List.concat_eq_append] at hL hL2 hok ⊢
      exact putRaw1 (by simp at hL2; omega) hok (ih L0 (by simp at hL; omega) (by simp at hL2; omega) (fun x hx => hok x (by simp [hx])))
theorem run_asked (op : Int) (k : Nat) : T.R (.call Zlw [.int .i64 op, .int .i64 (k : Int)] (.bool (askB op k))) := by
  unfold askB
  by_cases o20 : op = 20
  · subst o20
    refine Z6 rfl rfl ?_
    repeat' first | ((with_reducible show V _ _ _ _ _ _); first | refine Z1 rfl ?_ | refine Za rfl rfl ?_ | refine Z4 rfl rfl ?_) | refine Z0 rfl ?_ | refine Z2 ?_
    rfl
  by_cases o21 : op = 21
  · subst o21
    refine Z6 rfl rfl ?_
    repeat' first | ((with_reducible show V _ _ _ _ _ _); first | refine Z1 rfl ?_ | refine Za rfl rfl ?_ | refine Zb rfl rfl ?_ | refine Z4 rfl rfl ?_) | refine Z0 rfl ?_ | refine Z2 ?_
    rfl
  by_cases o22 : op = 22
  · subst o22
    refine Z6 rfl rfl ?_
    repeat' first | ((with_reducible show V _ _ _ _ _ _); first | refine Z1 rfl ?_ | refine Za rfl rfl ?_ | refine Zb rfl rfl ?_ | refine Z4 rfl rfl ?_) | refine Z0 rfl ?_ | refine Z2 ?_
    rfl
  by_cases o23 : op = 23
  · subst o23
    refine Z6 rfl rfl ?_
    repeat' first | ((with_reducible show V _ _ _ _ _ _); first | refine Z1 rfl ?_ | refine Za rfl rfl ?_ | refine Zb rfl rfl ?_ | refine Z4 rfl rfl ?_) | refine Z0 rfl ?_ | refine Z2 ?_
    rfl
  have hk : decide ((k : Int) = 0) = decide (k = 0) := by
    by_cases h : k = 0
    · subst h; rfl
    · rw [decide_eq_false h, decide_eq_false (by omega)]
  rw [decide_eq_false o20, decide_eq_false o21, decide_eq_false o22, decide_eq_false o23, ← hk]
  by_cases o53 : op = 53
  · subst o53
    refine Z6 rfl rfl ?_
    repeat' first | ((with_reducible show V _ _ _ _ _ _); first | refine Z1 rfl ?_ | refine Za rfl rfl ?_ | refine Zb rfl rfl ?_ | refine Z4 rfl rfl ?_) | refine Z0 rfl ?_ | refine Z2 ?_
    rfl
  rw [decide_eq_false o53]
  by_cases o55 : op = 55
  · subst o55
    refine Z6 rfl rfl ?_
    repeat' first | ((with_reducible show V _ _ _ _ _ _); first | refine Z1 rfl ?_ | refine Za rfl rfl ?_ | refine Zb rfl rfl ?_ | refine Z4 rfl rfl ?_) | refine Z0 rfl ?_ | refine Z2 ?_
    rfl
  · rw [decide_eq_false o55]
    refine Z6 rfl rfl ?_
    repeat' first | ((with_reducible show V _ _ _ _ _ _); first | refine Z1 rfl ?_ | refine Zb rfl rfl ?_ | refine Z4 rfl rfl ?_) | ((with_reducible show VO _ _ _ _ _ _ _); first | refine Z5 (Zi o20) rfl ?_ | refine Z5 (Zi o21) rfl ?_ | refine Z5 (Zi o22) rfl ?_ | refine Z5 (Zi o23) rfl ?_ | refine Z5 (Zi o53) rfl ?_ | refine Z5 (Zi o55) rfl ?_ | refine Z0 rfl ?_ | refine Z2 ?_)
    rfl
theorem sl_take {n : Nat} {p : PV} {l : List Stp} (hp : SL n p l) {m : Nat} (hm : m ≤ l.length) (hne : l ≠ []) : ∃ q, (∀ look : Nat → Option Tok, sliceSl? look 6 none (some (.int .i64 (m : Int))) none p = some q) ∧ SL n q (l.take m) := by
  rcases hp with ⟨rfl, rfl⟩ | ⟨xs, f, rfl, hb, hl, h⟩
  · exact absurd rfl hne
  · have ha : Z0v 6 xs = true := by
      unfold Z0v
      rw [List.all_eq_true]
      intro cs hcs
      obtain ⟨j, hj⟩ := List.getElem?_of_mem hcs
      have hlt : j < l.length := by rw [← hl]; exact (List.getElem?_eq_some_iff.1 hj).1
      simp [(h j l[j] cs (List.getElem?_eq_getElem hlt) hj).len6]
    refine ⟨_, fun look => slice_hi ha (by omega) (by omega), .inr ⟨_, _, rfl, by simp; omega, by simp [hl], fun j s cs h1 h2 => ?_⟩⟩
    rw [List.getElem?_take] at h1 h2
    split at h1
    · rename_i hj
      rw [if_pos (by simpa using hj)] at h2
      exact h j s cs h1 h2
    · cases h1
theorem trimS_snoc {l : List Stp} {s : Stp} (h : l ≠ []) : trimS (l ++ [s]) = if trB s then trimS l else l ++ [s] := by
  unfold trimS
  rw [List.reverse_append, List.reverse_singleton, List.singleton_append]
  cases hr : l.reverse with
  | nil => exact absurd (by simpa using hr) h
  | cons a r =>
    rw [Z9x]
    split
    · rfl
    · rw [← hr]; simp
theorem trimS_one (l : List Stp) (h : l.length ≤ 1) : trimS l = l := by
  match l, h with
  | [], _ => rfl
  | [s], _ => rfl
set_option maxHeartbeats 8000000 in
theorem trim_loop {n : Nat} : ∀ (N : Nat) (l : List Stp) (p : PV), l.length ≤ N → SL n p l →
    V T (PE fun x e st' => x = .exit 0 ∧ ∃ q, e = Zj [(0, q)] ∧ SL n q (trimS l)) [.code (.loop Z53)] .normal (Zj [(0, p)]) emptySt := by
  have stop : ∀ (l : List Stp) (p : PV), l.length ≤ 1 → SL n p l → V T (PE fun x e st' => x = .exit 0 ∧ ∃ q, e = Zj [(0, q)] ∧ SL n q (trimS l)) [.code (.loop Z53)] .normal (Zj [(0, p)]) emptySt := by
    intro l p hl hp
    obtain ⟨e1, e2, _⟩ := hp.len
    have hlt : decide ((1 : Int) < (l.length : Int)) = false := decide_eq_false (by omega)
    rw [trimS_one l hl]
    refine Ze ?_
    repeat' first | ((with_reducible show V _ _ _ _ _ _); first | refine Z6s hlt rfl rfl ?_ | refine Z0w [(0, p)] rfl ⟨rfl, trivial⟩ ⟨rfl, p, rfl, hp⟩ | refine Z1 rfl ?_) | ((with_reducible show VO _ _ _ _ _ _ _); first | refine Z8 rfl e1 e2 ?_ | refine Z0 rfl ?_ | refine Z2 ?_)
  intro N
  induction N with
  | zero => exact fun l p hl hp => stop l p (by omega) hp
  | succ N ih =>
    intro l p hl hp
    by_cases hl1 : l.length ≤ 1
    · exact stop l p hl1 hp
    rcases List.eq_nil_or_concat l with rfl | ⟨l0, s, rfl⟩
    · simp at hl1
    rw [List.concat_eq_append] at *
    have hne : l0 ≠ [] := by rintro rfl; simp at hl1
    obtain ⟨e1, e2, e3⟩ := hp.len
    have plp := SL.pl hp
    have hll : (l0 ++ [s]).length = l0.length + 1 := by simp
    have hlt : decide ((1 : Int) < ((l0 ++ [s]).length : Int)) = true := decide_eq_true (by omega)
    have w1 : PV.int .i64 (IntKind.i64.wrap (((l0 ++ [s]).length : Int) - 1)) = PV.int .i64 (l0.length : Int) := Z9h (by rw [Z00]; omega)
    obtain ⟨cs, ay, hs⟩ := SL.at hp (j := l0.length) (s := s) (by simp)
    obtain ⟨q', hsl, hq'⟩ := sl_take hp (m := l0.length) (by omega) (by simp)
    rw [List.take_left' rfl] at hq'
    have hi := ih l0 q' (by omega) hq'
    have h6 := hs.len6
    have hone := hs.one
    have hpl := hs.pl
    have hio := Zf5 hs.c6 hs.op0
    rw [trimS_snoc hne]
    cases n with
    | zero => exact hs.elim
    | succ m =>
    obtain ⟨op, names, nums, preds, vals, subs⟩ := s
    obtain ⟨ho, pa, pb, pc, pd, pe, rfl, h1, h2, h3, h4, h5⟩ := hs
    obtain ⟨g1, g2, g3⟩ := h2.len
    obtain ⟨px0, px1, px2, px3, px4, px5⟩ := pl6 hpl
    simp only [Stp.op] at hio
    have trE : trB (.mk op names nums preds vals subs) = (decide (op = 24) || ordB op || (decide (op = 26) && decide (nums.length = 1) && decide (0 < nums.headD 0))) := rfl
    by_cases o26 : op = 26
    · subst o26
      have hio' : T.R (.call Zaf [.agg [.int .i64 26, pa, pb, pc, pd, pe]] (.bool false)) := hio
      by_cases hn1 : nums.length = 1
      · obtain ⟨k, rfl⟩ := List.length_eq_one_iff.1 hn1
        obtain ⟨ck, ak, hk, rfl⟩ := h2.at (sz := 1) (fun _ _ h => h.len1) (j := 0) (a := k) rfl
        have d1 := Z0g (p := (([k] : List Int).length : Int) = 1) (by simp)
        by_cases hk0 : 0 < k
        · have tr : trB (.mk 26 names [k] preds vals subs) = true := by rw [trE]; simp [hk0]
          rw [tr, if_pos rfl]
          refine Ze ?_
          repeat' first | ((with_reducible show V _ _ _ _ _ _); first | refine Zao hlt rfl rfl ?_ | refine V_reF rfl hi rfl ⟨rfl, trivial⟩ ⟨SL.pl hq', trivial⟩ | refine Z1 rfl ?_ | refine Zb rfl rfl ?_) | ((with_reducible show VO _ _ _ _ _ _ _); first | refine Z8 rfl e1 e2 ?_ | refine Z5 w1 rfl ?_ | refine Zt rfl rfl ay ?_ | refine Z0n rfl h6 ?_ | refine Z0d rfl rfl hone h6 rfl rfl rfl ?_ | refine Z07 rfl rfl h6 ?_ | refine Z7 rfl rfl hio' ?_ | refine Z8 rfl g1 g2 ?_ | refine Z5 d1 rfl ?_ | refine Zt rfl rfl ak ?_ | refine Z5 (Z0g hk0) rfl ?_ | refine O_slice q' rfl rfl rfl rfl (hsl _) ?_ | refine Z0 rfl ?_ | refine Zc rfl ?_ | refine Z2 ?_ | refine Zk rfl ?_)
        · have tr : trB (.mk 26 names [k] preds vals subs) = false := by rw [trE]; simp [hk0, ordB]
          rw [tr, if_neg (by decide)]
          refine Ze ?_
          repeat' first | ((with_reducible show V _ _ _ _ _ _); first | refine Zao hlt rfl rfl ?_ | refine Z0w [(0, p)] rfl ⟨rfl, trivial⟩ ⟨rfl, p, rfl, hp⟩ | refine Z1 rfl ?_ | refine Za rfl rfl ?_) | ((with_reducible show VO _ _ _ _ _ _ _); first | refine Z8 rfl e1 e2 ?_ | refine Z5 w1 rfl ?_ | refine Zt rfl rfl ay ?_ | refine Z0n rfl h6 ?_ | refine Z0d rfl rfl hone h6 rfl rfl rfl ?_ | refine Z07 rfl rfl h6 ?_ | refine Z7 rfl rfl hio' ?_ | refine Z8 rfl g1 g2 ?_ | refine Z5 d1 rfl ?_ | refine Zt rfl rfl ak ?_ | refine Z5 (Zi hk0) rfl ?_ | refine Z0 rfl ?_ | refine Zc rfl ?_ | refine Z2 ?_ | refine Zk rfl ?_)
      · have tr : trB (.mk 26 names nums preds vals subs) = false := by rw [trE]; simp [hn1, ordB]
        rw [tr, if_neg (by decide)]
        have d1 := Zi (p := (nums.length : Int) = 1) (by omega)
        refine Ze ?_
        repeat' first | ((with_reducible show V _ _ _ _ _ _); first | refine Zao hlt rfl rfl ?_ | refine Z0w [(0, p)] rfl ⟨rfl, trivial⟩ ⟨rfl, p, rfl, hp⟩ | refine Z1 rfl ?_ | refine Za rfl rfl ?_) | ((with_reducible show VO _ _ _ _ _ _ _); first | refine Z8 rfl e1 e2 ?_ | refine Z5 w1 rfl ?_ | refine Zt rfl rfl ay ?_ | refine Z0n rfl h6 ?_ | refine Z0d rfl rfl hone h6 rfl rfl rfl ?_ | refine Z07 rfl rfl h6 ?_ | refine Z7 rfl rfl hio' ?_ | refine Z8 rfl g1 g2 ?_ | refine Z5 d1 rfl ?_ | refine Z0 rfl ?_ | refine Zc rfl ?_ | refine Z2 ?_ | refine Zk rfl ?_ | refine Zs rfl rfl ?_)
    by_cases o24 : op = 24
    · subst o24
      have tr : trB (.mk 24 names nums preds vals subs) = true := by rw [trE]; simp
      rw [tr, if_pos rfl]
      refine Ze ?_
      repeat' first | ((with_reducible show V _ _ _ _ _ _); first | refine Zao hlt rfl rfl ?_ | refine V_reF rfl hi rfl ⟨rfl, trivial⟩ ⟨SL.pl hq', trivial⟩ | refine Z1 rfl ?_ | refine Zb rfl rfl ?_) | ((with_reducible show VO _ _ _ _ _ _ _); first | refine Z8 rfl e1 e2 ?_ | refine Z5 w1 rfl ?_ | refine Zt rfl rfl ay ?_ | refine Z0n rfl h6 ?_ | refine Z0d rfl rfl hone h6 rfl rfl rfl ?_ | refine O_slice q' rfl rfl rfl rfl (hsl _) ?_ | refine Z0 rfl ?_ | refine Zc rfl ?_ | refine Z2 ?_ | refine Zs rfl rfl ?_)
    · by_cases oo : ordB op = true
      · have tr : trB (.mk op names nums preds vals subs) = true := by rw [trE]; simp [oo]
        rw [tr, if_pos rfl]
        rw [oo] at hio
        refine Ze ?_
        repeat' first | ((with_reducible show V _ _ _ _ _ _); first | refine Zao hlt rfl rfl ?_ | refine V_reF rfl hi rfl ⟨rfl, trivial⟩ ⟨SL.pl hq', trivial⟩ | refine Z1 rfl ?_ | refine Zb rfl rfl ?_) | ((with_reducible show VO _ _ _ _ _ _ _); first | refine Z8 rfl e1 e2 ?_ | refine Z5 w1 rfl ?_ | refine Zt rfl rfl ay ?_ | refine Z0n rfl h6 ?_ | refine Z0d rfl rfl hone h6 rfl rfl rfl ?_ | refine Z07 rfl rfl h6 ?_ | refine Z7 rfl rfl hio ?_ | refine Z5 (Zi o26) rfl ?_ | refine Z5 (Z2l o24) rfl ?_ | refine O_slice q' rfl rfl rfl rfl (hsl _) ?_ | refine Z0 rfl ?_ | refine Zc rfl ?_ | refine Z2 ?_ | refine Zk rfl ?_ | refine Zs rfl rfl ?_)
      · have oo' : ordB op = false := by simpa using oo
        have tr : trB (.mk op names nums preds vals subs) = false := by rw [trE]; simp [oo', o24, o26]
        rw [tr, if_neg (by decide)]
        rw [oo'] at hio
        refine Ze ?_
        repeat' first | ((with_reducible show V _ _ _ _ _ _); first | refine Zao hlt rfl rfl ?_ | refine Z0w [(0, p)] rfl ⟨rfl, trivial⟩ ⟨rfl, p, rfl, hp⟩ | refine Z1 rfl ?_ | refine Za rfl rfl ?_) | ((with_reducible show VO _ _ _ _ _ _ _); first | refine Z8 rfl e1 e2 ?_ | refine Z5 w1 rfl ?_ | refine Zt rfl rfl ay ?_ | refine Z0n rfl h6 ?_ | refine Z0d rfl rfl hone h6 rfl rfl rfl ?_ | refine Z07 rfl rfl h6 ?_ | refine Z7 rfl rfl hio ?_ | refine Z5 (Zi o26) rfl ?_ | refine Z5 (Z2l o24) rfl ?_ | refine Z0 rfl ?_ | refine Zc rfl ?_ | refine Z2 ?_ | refine Zk rfl ?_ | refine Zs rfl rfl ?_)
theorem run_Trim {n : Nat} {l : List Stp} {p : PV} (hp : SL n p l) : ∃ q, T.R (.call Zni [p] q) ∧ SL n q (trimS l) := by
  have hl := trim_loop l.length l p (Nat.le_refl _) hp
  refine Z9v rfl rfl ?_
  repeat' first | refine Z0h rfl hl ⟨rfl, trivial⟩ ?_ | refine Z1 rfl ?_ | refine Z0 rfl ?_ | refine Z2 ?_
  rintro x e st' ⟨rfl, q, rfl, hq⟩
  have plq := SL.pl hq
  repeat' first | refine Zmy rfl rfl plq.view hq | refine Z1 rfl ?_ | refine Z0 rfl ?_ | refine Z2 ?_
def AccR {α : Type} (R : α → List PV → Prop) (sz : Nat) (st : St) (v : PV) (L : List α) : Prop := ∃ es, AccT sz st v es ∧ es.length = L.length ∧ ∀ (j : Nat) (a : α) (cs : List PV), L[j]? = some a → es[j]? = some cs → R a cs
section
variable {α : Type} {R : α → List PV → Prop} {sz : Nat} {st : St} {v : PV} {L : List α}
theorem AccR.nil : AccR R sz st .nilSl ([] : List α) := ⟨[], .inl ⟨rfl, rfl⟩, rfl, fun j a cs h => by simp at h⟩
theorem AccR.len (h : AccR R sz st v L) : lenOf v = some L.length ∧ Zb2 v = false := by
  obtain ⟨es, h1, h2, _⟩ := h
  rcases h1 with ⟨rfl, rfl⟩ | ⟨t, g, rfl, _⟩
  · have : L = [] := List.length_eq_zero_iff.1 (by simpa using h2.symm)
    subst this
    exact ⟨rfl, rfl⟩
  · exact ⟨by simp [lenOf, h2], rfl⟩
theorem AccR.one (h : AccR R sz st v L) : PV.one v = true := by
  obtain ⟨es, h1, h2, _⟩ := h
  rcases h1 with ⟨rfl, rfl⟩ | ⟨t, g, rfl, _⟩ <;> rfl
theorem AccR.app (h : AccR R sz st v L) {a : α} {cs : List PV} (ha : R a cs) {bytes : Nat} (hb : (L.length + 1) * bytes ≤ Z04) : ∃ v' st', Z0k st sz bytes v [cs] = some (v', st') ∧ AccR R sz st' v' (L ++ [a]) ∧ Grow st v st' v' := by
  obtain ⟨es, h1, h2, h3⟩ := h
  obtain ⟨v', st', k1, k2, k3⟩ := h1.grow (bytes := bytes) (src := [cs]) (by simp) (by rw [h2]; simpa using hb)
  refine ⟨v', st', k1, ⟨_, k2, by simp [h2], fun j b ds hj hd => ?_⟩, k3⟩
  rcases Nat.lt_or_ge j L.length with hlt | hge
  · rw [List.getElem?_append_left hlt] at hj
    rw [List.getElem?_append_left (by omega)] at hd
    exact h3 j b ds hj hd
  · rw [List.getElem?_append_right hge] at hj
    rw [List.getElem?_append_right (by omega), h2] at hd
    cases hz : j - L.length with
    | zero => rw [hz] at hj hd; simp at hj hd; subst hj hd; exact ha
    | succ k => rw [hz] at hj; simp at hj
theorem AccR.keep {st' : St} (h : AccR R sz st v L) (hn : st.next ≤ st'.next) (hk : ∀ u, Z0i v = some u → st'.get u = st.get u) : AccR R sz st' v L := by
  obtain ⟨es, h1, h2, h3⟩ := h
  exact ⟨es, Zi0 h1 hn hk, h2, h3⟩
theorem AccR.tok (h : AccR R sz st v L) {u : Nat} (hu : Z0i v = some u) : u < st.next ∧ ∃ g es, st.get u = some (.row g sz es true) := by
  obtain ⟨es, h1, h2, h3⟩ := h
  rcases h1 with ⟨rfl, rfl⟩ | ⟨t, g, rfl, k1, k2⟩
  · cases hu
  · injection hu with hu
    subst hu
    exact ⟨k2, g, es, k1⟩
theorem AccR.view (h : AccR R sz st v L) (hpl : ∀ a cs, R a cs → ∀ c ∈ cs, Pl c) (hl : L.length ≤ 140737488355328) : ∃ q, View true st.get v q ∧ LR R q L := by
  obtain ⟨es, h1, h2, h3⟩ := h
  rcases h1 with ⟨rfl, rfl⟩ | ⟨t, g, rfl, k1, k2⟩
  · have : L = [] := List.length_eq_zero_iff.1 (by simpa using h2.symm)
    subst this
    exact ⟨.nilSl, .nilSl, .inl ⟨rfl, rfl⟩⟩
  · have hp : ∀ cs ∈ es, ∀ c ∈ cs, Pl c := fun cs hcs c hc => by
      obtain ⟨j, hj⟩ := List.getElem?_of_mem hcs
      have hlt : j < L.length := by rw [← h2]; exact (List.getElem?_eq_some_iff.1 hj).1
      exact hpl _ _ (h3 j L[j] cs (List.getElem?_eq_getElem hlt) hj) c hc
    refine ⟨.sl es false, .osl t g 0 es.length false sz es true es k1 (.inl rfl) (by omega) (by simp) (fun j cs ds e1 e2 => ?_) (fun j cs ds i c d e1 e2 e3 e4 => ?_), .inr ⟨es, false, rfl, hl, h2, h3⟩⟩
    · rw [List.drop_zero, List.take_of_length_le (Nat.le_refl _), e2] at e1
      injection e1 with e1
      rw [e1]
    · rw [List.drop_zero, List.take_of_length_le (Nat.le_refl _), e2] at e1
      injection e1 with e1
      subst e1
      rw [e3] at e4
      injection e4 with e4
      subst e4
      exact (hp ds (List.mem_of_getElem? e2) c (List.mem_of_getElem? e3)).view
theorem AccR.plain (h : AccR R sz st v L) (hpl : ∀ a cs, R a cs → ∀ c ∈ cs, Pl c) (hl : L.length ≤ 140737488355328) : (v = .nilSl ∧ L = []) ∨ ∃ t g es q, v = .osl t g 0 es.length false ∧ Z0i v = some t ∧ st.get t = some (.row g sz es true) ∧ LR R q L ∧ PV.one q = true ∧ ∀ S', st.put t (.row g sz es false) = S' → SeenV S' v q := by
  obtain ⟨es, h1, h2, h3⟩ := h
  rcases h1 with ⟨rfl, rfl⟩ | ⟨t, g, rfl, k1, k2⟩
  · exact .inl ⟨rfl, List.length_eq_zero_iff.1 (by simpa using h2.symm)⟩
  · refine .inr ⟨t, g, es, .sl es false, rfl, rfl, k1, .inr ⟨es, false, rfl, hl, h2, h3⟩, rfl, ?_⟩
    rintro S' rfl
    have := seen_osl (f := false) (len := es.length) (St.get_put (st := st) (t := t) (k := .row g sz es false)) (Nat.le_refl _) (fun cs hcs c hc => by
      obtain ⟨j, hj⟩ := List.getElem?_of_mem (List.mem_of_mem_take hcs)
      have hlt : j < L.length := by rw [← h2]; exact (List.getElem?_eq_some_iff.1 hj).1
      exact hpl _ _ (h3 j L[j] cs (List.getElem?_eq_getElem hlt) hj) c hc)
    rwa [List.take_of_length_le (Nat.le_refl _)] at this
end
def scPF (sz bytes : Nat) (z : List PV) : PF := ⟨8, [(.tmp 2)], (.seq (.ops [(.mk (some 2) none (.move (.c .nilSl)))] []) (.seq (.seq (.ops [(.mk (some 3) none (.move (.t 0))), (.mk (some 4) none (.eqNil false 0 (.t 3)))] [3]) (.cond (.t 4) (.seq (.ops [(.mk (some 2) none (.move (.c .nilSl)))] []) .ret) .skip)) (.seq (.ops [(.mk (some 5) none (.buildSl sz [] [])), (.mk (some 6) none (.move (.t 0))), (.mk (some 7) none (.append sz bytes z (.t 5) (.t 6))), (.mk (some 2) none (.move (.t 7)))] [5, 6, 7]) .ret)))⟩
section
variable {α : Type} {R : α → List PV → Prop} {l : List α} {p : PV} {sz bytes : Nat} {z : List PV}
theorem sCloneRaw {f : Nat} (hf : T.tbl f = some (scPF sz bytes z)) (hz : 0 < sz) (hby : 0 < bytes) (hp : LR R p l) (hs : ∀ a cs, R a cs → cs.length = sz ∧ ∀ c ∈ cs, PV.one c = true) (hb : l.length * bytes ≤ Z04) (st : St) :
    ∃ v' st', T.R (.raw f [p] st v' st') ∧ (AccR R sz st' v' l ∨ (v' = .sl [] true ∧ l = [])) ∧ Grow st .nilSl st' v' := by
  rcases hp with ⟨rfl, rfl⟩ | ⟨xs, fl, rfl, hbl, hl, h⟩
  · refine Zcg (Q := fun v' st' => (AccR R sz st' v' ([] : List α) ∨ (v' = .sl [] true ∧ ([] : List α) = [])) ∧ Grow st .nilSl st' v') hf rfl ?_
    repeat' first | ((with_reducible show V _ _ _ _ _ _); first | refine Z6r rfl rfl ⟨.inl .nil, Grow.refl _ _⟩ | refine Z1 rfl ?_ | refine Za rfl rfl ?_) | refine Z0 rfl ?_ | refine Z2 ?_
  · have hok : okEls sz xs = true := List.all_eq_true.2 fun cs hcs => by
      obtain ⟨j, hj⟩ := List.getElem?_of_mem hcs
      have hlt : j < l.length := by rw [← hl]; exact (List.getElem?_eq_some_iff.1 hj).1
      obtain ⟨k1, k2⟩ := hs _ _ (h j l[j] cs (List.getElem?_eq_getElem hlt) hj)
      simp [k1]
      exact k2
    have hbs : ∀ (look : Nat → Option Tok) (e : EC), Zo look e (.buildSl sz [] []) = some (.sl [] true) := fun look e => rfl
    cases xs with
    | nil =>
      have : l = [] := List.length_eq_zero_iff.1 (by simpa using hl.symm)
      subst this
      refine Zcg (Q := fun v' st' => (AccR R sz st' v' ([] : List α) ∨ (v' = .sl [] true ∧ ([] : List α) = [])) ∧ Grow st .nilSl st' v') hf rfl ?_
      repeat' first | ((with_reducible show V _ _ _ _ _ _); first | refine Z6r rfl rfl ⟨.inr ⟨rfl, rfl⟩, rfl, Nat.le_refl _, .inl rfl, fun _ _ _ => rfl⟩ | refine Z1 rfl ?_ | refine Zb rfl rfl ?_) | ((with_reducible show VO _ _ _ _ _ _ _); first | refine Z0 (hbs _ _) ?_ | refine Z7n rfl rfl rfl hok hz hby rfl ?_ | refine Z0 rfl ?_ | refine Z2 ?_)
    | cons x xs =>
      have ha := Zhz (st := st) (sz := sz) (bytes := bytes) (xs := []) (src := x :: xs) (by simp) (by simp only [List.length_nil, Nat.zero_add]; rw [hl]; exact hb) rfl
      refine Zcg (Q := fun v' st' => (AccR R sz st' v' l ∨ (v' = .sl [] true ∧ l = [])) ∧ Grow st .nilSl st' v') hf rfl ?_
      repeat' first | ((with_reducible show V _ _ _ _ _ _); first | refine Z6r rfl rfl ⟨.inl ⟨x :: xs, .inr ⟨st.next, 0, by simp, St.get_new, by simp [St.new]⟩, hl, h⟩, rfl, by simp [St.new], .inr ⟨st.next, rfl, Nat.le_refl _⟩, fun u hu _ => St.get_new_old hu⟩ | refine Z1 rfl ?_ | refine Zb rfl rfl ?_) | ((with_reducible show VO _ _ _ _ _ _ _); first | refine Z0 (hbs _ _) ?_ | refine Z7n rfl rfl rfl hok hz hby ha ?_ | refine Z0 rfl ?_ | refine Z2 ?_)
theorem Znt {f : Nat} (hf : T.tbl f = some (scPF sz bytes z)) (hz : 0 < sz) (hby : 0 < bytes) (hp : LR R p l) (hs : ∀ a cs, R a cs → cs.length = sz ∧ ∀ c ∈ cs, PV.one c = true) (hpl : ∀ a cs, R a cs → ∀ c ∈ cs, Pl c) (hb : l.length * bytes ≤ Z04) : ∃ q, T.R (.call f [p] q) ∧ LR R q l := by
  obtain ⟨_, _, hbig⟩ := hp.len
  obtain ⟨v', st', h1, h2, _⟩ := sCloneRaw hf hz hby hp hs hb emptySt
  rcases h2 with h2 | ⟨rfl, rfl⟩
  · obtain ⟨q, k1, k2⟩ := h2.view hpl hbig
    exact ⟨q, Zg4 h1 k1, k2⟩
  · exact ⟨.sl [] true, Zg4 h1 (.sl [] [] true rfl (fun j cs ds h => by simp at h) (fun j cs ds i c d h => by simp at h)), .inr ⟨[], true, rfl, by simp, rfl, fun j a cs h => by simp at h⟩⟩
end
theorem NmC.one1 {s : List UInt8} {cs : List PV} (h : NmC s cs) : cs.length = 1 ∧ ∀ c ∈ cs, PV.one c = true := by
  obtain ⟨_, rfl⟩ := h
  exact ⟨rfl, by simp [PV.one]⟩
theorem NuC.one1 {s : Int} {cs : List PV} (h : NuC s cs) : cs.length = 1 ∧ ∀ c ∈ cs, PV.one c = true := by
  obtain ⟨_, rfl⟩ := h
  exact ⟨rfl, by simp [PV.one]⟩
theorem run_NClone {p : PV} {l : List (List UInt8)} (hp : LR NmC p l) (hl : l.length ≤ 1000000) : ∃ q, T.R (.call Z7j [p] q) ∧ LR NmC q l :=
  Znt (sz := 1) (bytes := 16) (z := [.str []]) rfl (by decide) (by decide) hp (fun _ _ h => h.one1) (fun _ _ h => h.pl) (by simp only [Z04]; omega)
theorem run_UClone {p : PV} {l : List Int} (hp : LR NuC p l) (hl : l.length ≤ 1000000) : ∃ q, T.R (.call Z8o [p] q) ∧ LR NuC q l :=
  Znt (sz := 1) (bytes := 8) (z := [.int .i64 0]) rfl (by decide) (by decide) hp (fun _ _ h => h.one1) (fun _ _ h => h.pl) (by simp only [Z04]; omega)
end Go.Proofs.YtnedeokclnbcpaaGreatDoor
