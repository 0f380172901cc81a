/- The abstract machine: AM14: append, copy, texts turned to bytes of one's own: the steps. · AM15: copy; texts turned to bytes of one's own; the operations all together. · AM16: the instruction of an operation; that its step is the operation's. · AM17: values without what is one's own; states parted and joined; code made plain; what a run is. -/
import Derived.Test.YtbeaalkfakjoiaaDoorAmB
import Derived.Lib.AppendZeros
set_option linter.unusedSectionVars false
set_option linter.unusedVariables false
set_option linter.unusedSimpArgs false
namespace Go.AM
open Go.RowKit
variable [Gl]
section
variable {P : Program} {X : Cx} {st : St} {G : Gh} {w : World} {n : Nat} {ρ : Env} {a : Act}
theorem allOf_append {sz : Nat} {a b : List (List PV)} (h : allOf sz a = true) (k : allOf sz b = true) : allOf sz (a ++ b) = true := by
  simp only [allOf, List.all_append, Bool.and_eq_true] at *
  exact ⟨h, k⟩
theorem allOf_part {sz : Nat} {es : List (List PV)} (h : allOf sz es = true) (l m : Nat) : allOf sz ((es.drop l).take m) = true :=
  List.all_eq_true.2 fun cs hcs => (List.all_eq_true.1 h) cs (List.mem_of_mem_drop (List.mem_of_mem_take hcs))
theorem append_grow (hI : Inv X st G w) {t t' e : TypeId} {d : TypeDesc} {i : TypeInfo} {z : Value} (hT : AppTy P t t' e d i z) {v : Value} {p : PV} (hr : Rep G (OwnF X st G) w v p) {xs : List (List PV)} (hxs : elemsOf st.get p = some xs) (hax : allOf i.size xs = true)
    {sLen sCap : Nat} {base : Option Addr} (hv : v = .slice base sLen sCap) {xv : Value} {x : PV} (hrx : Rep G (OwnF X st G) w xv x) {src : List (List PV)} (hsrc : srcOf st x = some src) (has : allOf i.size src = true) (hroom : sCap < sLen + src.length) (hbig : (sLen + src.length) * i.bytes ≤ roomLen) (ty : TypeId) :
    ∃ (cap : Nat) (w' : World) (c : Array Value), (Builtin.append_ #[t, t'] ty #[v, xv]).run P w = .ok (.slice (some ⟨w.heap.size, 0, none⟩) (xs.length + src.length) cap) w' ∧ Below w.heap.size w w' ∧ w.heap.size < w'.heap.size ∧ w'.heap[w.heap.size]? = some (.cells c e (0, 0)) ∧ (xs ++ src).length ≤ cap ∧ c.size = cap * i.size ∧
      ∀ (j k : Nat) (cs : List PV) (q : PV), (xs ++ src)[j]? = some cs → cs[k]? = some q → Rep G (OwnF X st G) w (c.getD (j * i.size + k) undef) q := by
  obtain ⟨ad, cap0, hv0, _⟩ := elems_rep hI hr hxs hax
  have hlen : sLen = xs.length ∧ base = ad ∧ sCap = cap0 := by
    rw [hv] at hv0
    injection hv0 with h1 h2 h3
    exact ⟨h2, h1, h3⟩
  obtain ⟨rfl, rfl, rfl⟩ := hlen
  subst hv
  obtain ⟨s1, s2⟩ := src_run (P := P) hI hrx hsrc has
  obtain ⟨us, u1, u2, u3⟩ := s2 src.length (Nat.le_refl _)
  obtain ⟨o1, o2⟩ := src_slice (P := P) hI hr hxs hax
  obtain ⟨old, v1, v2, v3⟩ := o2 xs.length (Nat.le_refl _)
  obtain ⟨cap, w', hcap, hrun, hb, hsz, hnew⟩ := run_append_new hT s1 u1 v1 hroom hbig ty
  have hzc := size_zeroCells z.cells (cap - (xs.length + src.length))
  have hold : old.size = xs.length * i.size := v2
  have hall := allOf_append hax has
  refine ⟨cap, w', _, hrun, hb, hsz, hnew, by simpa using hcap, ?_, ?_⟩
  · simp only [Array.size_append, hold, u2, hzc, hT.hzs]
    rw [← Nat.add_mul, ← Nat.add_mul]
    congr 1
    omega
  · intro j k cs c hj hk
    have hk2 : k < i.size := by rw [← allOf_spec hall hj]; exact (List.getElem?_eq_some_iff.1 hk).1
    rw [List.getElem?_append] at hj
    split at hj
    · rename_i hjl
      have hlt : j * i.size + k < old.size := by rw [hold]; exact mul_lt_of hjl hk2
      have := v3 j cs k c hjl hj hk
      rw [Array.getD_eq_getD_getElem?, Array.getElem?_append_left (by rw [Array.size_append]; omega), Array.getElem?_append_left hlt]
      rwa [Array.getD_eq_getD_getElem?] at this
    · rename_i hjl
      have hjl2 := (List.getElem?_eq_some_iff.1 hj).1
      have hlt : (j - xs.length) * i.size + k < us.size := by rw [u2]; exact mul_lt_of hjl2 hk2
      have := u3 (j - xs.length) cs k c hjl2 hj hk
      have hj3 : j * i.size = xs.length * i.size + (j - xs.length) * i.size := by rw [← Nat.add_mul]; congr 1; omega
      rw [Array.getD_eq_getD_getElem?, Array.getElem?_append_left (by rw [Array.size_append]; omega), Array.getElem?_append_right (by omega), show j * i.size + k - old.size = (j - xs.length) * i.size + k by omega]
      rwa [Array.getD_eq_getD_getElem?] at this
theorem append_new (hI : Inv X st G w) {t t' e : TypeId} {d : TypeDesc} {i : TypeInfo} {z : Value} (hT : AppTy P t t' e d i z) {v : Value} {p : PV} (hr : Rep G (OwnF X st G) w v p) {xs : List (List PV)} (hxs : elemsOf st.get p = some xs) (hax : allOf i.size xs = true)
    {sLen sCap : Nat} {base : Option Addr} (hv : v = .slice base sLen sCap) {xv : Value} {x : PV} (hrx : Rep G (OwnF X st G) w xv x) {src : List (List PV)} (hsrc : srcOf st x = some src) (has : allOf i.size src = true) (hroom : sCap < sLen + src.length) (hbig : (sLen + src.length) * i.bytes ≤ roomLen) (ty : TypeId) :
    ∃ u w' G', (Builtin.append_ #[t, t'] ty #[v, xv]).run P w = .ok u w' ∧ Inv X (st.new (.row 0 i.size (xs ++ src) true)) G' w' ∧ Later X st G w (st.new (.row 0 i.size (xs ++ src) true)) G' w' ∧ Rep G' (OwnF X (st.new (.row 0 i.size (xs ++ src) true)) G') w' u (.osl st.next 0 0 (xs.length + src.length) false) := by
  obtain ⟨cap, w', c, hrun, hb, hsz, hnew, hcap, hcs, hcells⟩ := append_grow hI hT hr hxs hax hv hrx hsrc has hroom hbig ty
  obtain ⟨G', h1, h2, h3⟩ := new_row hI hb hsz hnew (allOf_append hax has) hcap hcs (fun q _ => by simp) hcells (len := xs.length + src.length) (by simp)
  exact ⟨_, w', G', hrun, h1, h2, h3⟩
theorem regen_row (hI : Inv X st G w) {t : Nat} {k : Tok} {L : Loc} (hk : st.get t = some k) (hlv : k.live = true) (hG : G t k.gen = some L) {w' : World} {c : Array Value} {ty : TypeId} (hb : Below w.heap.size w w') (hsz : w.heap.size < w'.heap.size) (hnew : w'.heap[w.heap.size]? = some (.cells c ty (0, 0)))
    {es : List (List PV)} {sz cap : Nat} (hall : allOf sz es = true) (hcap : es.length ≤ cap) (hc : c.size = cap * sz)
    (hcells : ∀ (j i : Nat) (cs : List PV) (p : PV), es[j]? = some cs → cs[i]? = some p → Rep G (OwnF X st G) w (c.getD (j * sz + i) undef) p) {len : Nat} (hlen : len = es.length) :
    ∃ G', Inv X (st.put t (.row (k.gen + 1) sz es true)) G' w' ∧ Later X st G w (st.put t (.row (k.gen + 1) sz es true)) G' w' ∧ Rep G' (OwnF X (st.put t (.row (k.gen + 1) sz es true)) G') w' (.slice (some ⟨w.heap.size, 0, none⟩) len cap) (.osl t (k.gen + 1) 0 len false) := by
  subst hlen
  let L' : Loc := ⟨w.heap.size, 0, cap, sz⟩
  have hch : Chg (fun b => b = L.blk) w w' := chg_of_below hb
  have hla := later_regen hI hk hlv hG (k' := .row (k.gen + 1) sz es true) (Nat.lt_succ_self _) hch (L' := L') (.inr rfl)
  refine ⟨ghNew G t (k.gen + 1) L', inv_regen hI hk hlv hG (k' := .row (k.gen + 1) sz es true) rfl (Nat.lt_succ_self _) hch (.inr rfl) hsz ?_, hla, ?_⟩
  · refine ⟨L', ghNew_same _ _ _ _, rfl, hcap, fun q h1 h2 => ?_, fun j cs hj => ⟨allOf_spec hall hj, fun i p hi => ?_⟩, by simp⟩
    · simp only [L', Nat.zero_add] at h2
      have hq : q < c.size := by omega
      refine ⟨⟨c[q], by rw [cellAt_push hnew]; exact Array.getElem?_eq_getElem hq⟩, ?_⟩
      simp only [L', World.frozen?, hnew]
      simp
    · have hcl := allOf_spec hall hj
      have hil : i < sz := by rw [← hcl]; exact (List.getElem?_eq_some_iff.1 hi).1
      have hjl : j < es.length := (List.getElem?_eq_some_iff.1 hj).1
      have hlt : j * sz + i < c.size := by
        have := mul_lt_of hjl hil
        have : es.length * sz ≤ cap * sz := Nat.mul_le_mul_right _ hcap
        omega
      refine ⟨c[j * sz + i], ?_, ?_⟩
      · simp only [L', Nat.zero_add]
        rw [cellAt_push hnew]
        exact Array.getElem?_eq_getElem hlt
      · have := hcells j i cs p hj hi
        rw [Array.getD_eq_getD_getElem?, Array.getElem?_eq_getElem hlt] at this
        exact hla.rep this
  · exact .osl t (k.gen + 1) 0 es.length false L' cap _ (ghNew_same _ _ _ _) hcap (by simp [L']) (by simp) (fun _ => by simp [L']) rfl
def isIntT : TypeDesc → Bool
  | .int _ => true
  | _ => false
def cAppend (P : Program) (ts : List TypeId) (xs : List Operand) : Option PI :=
  match ts, xs with
  | [t, t'], [s, x] => match P.underlying t, P.underlying t', cOpd s, cOpd x with
    | some (.slice e), some d', some s', some x' => match tyOf P e, zeroOf P e with
      | some (_, i), some zs => if sliceOrText d' = true ∧ zs.length = i.size ∧ 0 < i.bytes then some (.append i.size i.bytes zs s' x') else if isIntT d' = true ∧ zs.length = i.size ∧ 0 < i.size ∧ 0 < i.bytes then some (.appendZ i.size i.bytes zs s' x') else none
      | _, _ => none
    | _, _, _, _ => none
  | _, _ => none
theorem zeroOf_at {own : Nat → Prop} {t : TypeId} {zs : List PV} {d : TypeDesc} {i : TypeInfo} (h : zeroOf P t = some zs) (hT : tyOf P t = some (d, i)) : ∃ z, i.zero = some z ∧ CellsRep G own w z.cells zs := by
  unfold zeroOf at h
  rw [hT] at h
  simp only [] at h
  split at h
  · rename_i z hz
    split at h
    · rename_i p hp
      split at h
      · rename_i hj
        injection h with h
        subst h
        exact ⟨z, hz, rep_cells (cVal_rep hp) (junk_ne hj)⟩
      · cases h
    · cases h
  · cases h
theorem l_appendZ (hI : Inv X st G w) (hE : EnvRep G (OwnF X st G) w n ρ a) {o : Oper} {t t' e : TypeId} {s x : Operand} {d d' : TypeDesc} {i : TypeInfo} {zs : List PV} {s' x' : Opd} (ho : o.op = .call { callee := .builtin .append, args := #[s, x], argTypes := #[t, t'] }) (hU : P.underlying t = some (.slice e)) (hU' : P.underlying t' = some d') (hk : isIntT d' = true)
    (hs : cOpd s = some s') (hx : cOpd x = some x') (hT : tyOf P e = some (d, i)) (hz : zeroOf P e = some zs) (hzl : zs.length = i.size) (hpos : 0 < i.size) (hby : 0 < i.bytes) {p : PV} {st' : St} (hq : loud st (Opd.ev ρ) (.appendZ i.size i.bytes zs s' x') = some (p, st')) : LOk P X st G w o a p st' := by
  simp only [loud] at hq
  split at hq
  · rename_i kk k hse hxe
    split at hq
    · rename_i hb
      obtain ⟨_, h0, h2⟩ := hb
      injection hq with hq
      simp only [Prod.mk.injEq] at hq
      obtain ⟨rfl, rfl⟩ := hq
      have rs := opd_rep hE hs
      have rx := opd_rep hE hx
      rw [hse] at rs
      rw [hxe] at rx
      have hvx := rep_int rx
      have hv : a.eval s = .slice none 0 0 := by
        generalize a.eval s = v at rs
        cases rs
        rfl
      obtain ⟨kn, rfl⟩ : ∃ kn, d' = .int kn := by
        cases d' <;> first | exact ⟨_, rfl⟩ | cases hk
      obtain ⟨N, rfl⟩ := Int.eq_ofNat_of_zero_le (Int.le_of_lt h0)
      obtain ⟨z, hz0, hzc⟩ := zeroOf_at (G := G) (own := OwnF X st G) (w := w) hz hT
      have hzs : z.cells.size = i.size := by rw [hzc.1, hzl]
      have h2' : N * i.bytes ≤ 140737488355328 := by
        have : ((N * i.bytes : Nat) : Int) ≤ ((roomLen : Nat) : Int) := by rw [Int.natCast_mul]; exact h2
        simp only [roomLen] at this
        omega
      have hN : N ≤ 140737488355328 := by
        have : N * 1 ≤ N * i.bytes := Nat.mul_le_mul_left _ hby
        omega
      have hrun := Lib.run_append_nil_zeros (P := P) w t t' o.type e i z kk kn hU hU' (tyOf_spec hT).2 hz0 N (by omega) hpos (by omega) (by omega)
      have hcap := grownCap_ge w N 0 e
      have hd : Below w.heap.size w w.drew := (Below.refl _ _).drew
      have hall : allOf i.size (List.replicate N zs) = true := List.all_eq_true.2 fun cs hcs => by rw [List.eq_of_mem_replicate hcs]; simpa using hzl
      obtain ⟨G', e1, e2, e3⟩ := new_row hI (es := List.replicate N zs) (sz := i.size) (cap := grownCap w N 0 e) (hd.alloc (Nat.le_refl _) _) (by simp) (heap_alloc_new w.drew (.cells (Builtin.zeroCells z.cells N ++ Builtin.zeroCells z.cells (grownCap w N 0 e - N)) e)) hall (by simpa using hcap)
        (by rw [Array.size_append, size_zeroCells, size_zeroCells, hzs, ← Nat.add_mul]; congr 1; omega) (fun q hq => by simp)
        (fun j q cs p hj hk => by
          have hcs : cs = zs := List.eq_of_mem_replicate (List.mem_of_getElem? hj)
          subst hcs
          have hjl : j < N := by simpa using (List.getElem?_eq_some_iff.1 hj).1
          have hkl : q < i.size := by rw [← hzl]; exact (List.getElem?_eq_some_iff.1 hk).1
          have hlt : j * i.size + q < (Builtin.zeroCells z.cells N).size := by rw [size_zeroCells, hzs]; exact mul_lt_of hjl hkl
          rw [Array.getD_eq_getD_getElem?, Array.getElem?_append_left hlt, ← Array.getD_eq_getD_getElem?]
          have hzz : Builtin.zeroCells z.cells N = zerosOf z.cells (N * i.size) := by rw [← hzs]; rfl
          rw [hzz]
          exact zerosOf_rep hzc hzl hpos _ (mul_lt_of hjl hkl) hk) (len := N) (by simp)
      refine ⟨.value (.slice (some ⟨w.heap.size, 0, none⟩) N (grownCap w N 0 e)), _, _, G', ?_, rfl, e1, e2, e3⟩
      simp only [execOp, ho, resolve]
      simp [invoke, builtin, hv, hvx, hrun]
    · cases hq
  · cases hq
theorem q_append (hI : Inv X st G w) (hE : EnvRep G (OwnF X st G) w n ρ a) {o : Oper} {ts : Array TypeId} {xs : Array Operand} (ho : o.op = .call { callee := .builtin .append, args := xs, argTypes := ts }) {pi : PI} (hc : cAppend P ts.toList xs.toList = some pi) {p : PV} (hq : quiet st.get (Opd.ev ρ) pi = some p) : QOk P X st G w o a p := by
  unfold cAppend at hc
  split at hc
  · rename_i t t' s x hts hxs
    have ets : ts = #[t, t'] := by cases ts; simp_all
    have exs : xs = #[s, x] := by cases xs; simp_all
    subst ets exs
    split at hc
    · rename_i e d' s' x' hU hU' hs hx
      split at hc
      · rename_i d i zs hT hz
        split at hc
        · rename_i hcond
          obtain ⟨hk, hzl, hby⟩ := hcond
          injection hc with hc
          subst hc
          simp only [quiet] at hq
          obtain ⟨z, hzr, hzc⟩ := zeroOf_spec (G := G) (own := OwnF X st G) (w := w) hz
          have hA : AppTy P t t' e d i z := ⟨hU, ⟨d', hU', hk⟩, hT, hzr, by rw [hzc.1, hzl], hby⟩
          have hrs := opd_rep hE hs
          have hrx := opd_rep hE hx
          have done : ∀ {u : Value} {w' : World}, (Builtin.append_ #[t, t'] o.type #[a.eval s, a.eval x]).run P w = .ok u w' → Below w.heap.size w w' → Rep G (OwnF X st G) w' u p → QOk P X st G w o a p := by
            intro u w' hrun h1 h2
            refine ⟨u, w', ?_, h1, h2⟩
            simp only [execOp, ho, resolve]
            simp [invoke, builtin, hrun]
          generalize s'.ev ρ = q at hrs hq
          generalize x'.ev ρ = y at hrx hq
          generalize a.eval s = v at hrs done
          have none_ : ∀ {src : List (List PV)}, src = [] → srcOf st y = some src → v = .slice none 0 0 → p = .nilSl → QOk P X st G w o a p := by
            intro src h0 hsrc hv hp
            subst h0 hv hp
            obtain ⟨s1, s2⟩ := src_run (P := P) hI hrx hsrc (sz := i.size) rfl
            obtain ⟨us, u1, u2, u3⟩ := s2 0 (Nat.le_refl _)
            have hus : us = #[] := by
              apply Array.eq_empty_of_size_eq_zero
              simpa using u2
            subst hus
            exact done (run_append_in (w := w) (w' := w) hA (base := none) (sLen := 0) (sCap := 0) s1 (u1 w (Below.refl _ _)) (by simp) rfl o.type) (Below.refl _ _) .nilSl
          unfold appQ at hq
          split at hq
          · injection hq with hq
            cases hrs
            exact none_ rfl rfl rfl hq.symm
          · injection hq with hq
            cases hrs
            exact none_ rfl rfl rfl hq.symm
          · rename_i c r f
            split at hq
            · rename_i hok
              obtain ⟨hok, hpos, hb2, hroom⟩ := hok
              obtain ⟨has, hone⟩ := okEls_all hok
              injection hq with hq
              subst hq
              have hv : v = .slice none 0 0 := by cases hrs; rfl
              obtain ⟨cap, w', cc, hrun, hb, hsz, hnew, hcap, hcs, hcells⟩ := append_grow hI hA hrs (xs := []) rfl rfl hv hrx (src := c :: r) rfl has (by simp) (by simpa using hroom) o.type
              subst hv
              exact done hrun hb (new_imm hI hb hnew (es := c :: r) has (by simpa using hcap) (fun h => by cases h) (by rw [hcs]; exact Nat.mul_le_mul_right _ (by simpa using hcap)) (fun j k cs q hj hk => hcells j k cs q (by simpa using hj) hk) (by simp))
            · cases hq
          · cases hq
        · split at hc
          · injection hc with hc
            subst hc
            cases hq
          · cases hc
      · cases hc
    · cases hc
  · cases hc
theorem l_append (hI : Inv X st G w) (hE : EnvRep G (OwnF X st G) w n ρ a) {o : Oper} {ts : Array TypeId} {xs : Array Operand} (ho : o.op = .call { callee := .builtin .append, args := xs, argTypes := ts }) {pi : PI} (hc : cAppend P ts.toList xs.toList = some pi) {p : PV} {st' : St} (hq : loud st (Opd.ev ρ) pi = some (p, st')) : LOk P X st G w o a p st' := by
  unfold cAppend at hc
  split at hc
  · rename_i t t' s x hts hxs
    have ets : ts = #[t, t'] := by cases ts; simp_all
    have exs : xs = #[s, x] := by cases xs; simp_all
    subst ets exs
    split at hc
    · rename_i e d' s' x' hU hU' hs hx
      split at hc
      · rename_i d i zs hT hz
        split at hc
        · rename_i hcond
          obtain ⟨hk, hzl, hby⟩ := hcond
          injection hc with hc
          subst hc
          simp only [loud] at hq
          obtain ⟨src, hsrc, hq⟩ := Option.bind_eq_some_iff.1 hq
          split at hq
          · rename_i hok
            obtain ⟨hok, hpos, _⟩ := hok
            obtain ⟨has, hone⟩ := okEls_all hok
            obtain ⟨z, hzr, hzc⟩ := zeroOf_spec (G := G) (own := OwnF X st G) (w := w) hz
            have hA : AppTy P t t' e d i z := ⟨hU, ⟨d', hU', hk⟩, hT, hzr, by rw [hzc.1, hzl], hby⟩
            have hrs := opd_rep hE hs
            have hrx := opd_rep hE hx
            have done : ∀ {u : Value} {w' : World} {G' : Gh}, (Builtin.append_ #[t, t'] o.type #[a.eval s, a.eval x]).run P w = .ok u w' → Inv X st' G' w' → Later X st G w st' G' w' → Rep G' (OwnF X st' G') w' u p → LOk P X st G w o a p st' := by
              intro u w' G' hrun h1 h2 h3
              refine ⟨.value u, u, w', G', ?_, rfl, h1, h2, h3⟩
              simp only [execOp, ho, resolve]
              simp [invoke, builtin, hrun]
            generalize hes : s'.ev ρ = q at hrs hq
            generalize hvs : a.eval s = v at hrs done
            obtain ⟨s1, s2⟩ := src_run (P := P) hI hrx hsrc has
            unfold appendTo at hq
            split at hq
            ·
              rename_i hnil
              subst hnil
              obtain ⟨us, u1, u2, u3⟩ := s2 0 (Nat.le_refl _)
              have hus : us = #[] := by
                apply Array.eq_empty_of_size_eq_zero
                simpa using u2
              subst hus
              have go : ∀ (base : Option Addr) (sLen sCap : Nat), v = .slice base sLen sCap → sLen ≤ sCap → q = p → st = st' → LOk P X st G w o a p st' := by
                intro base sLen sCap hv hle hqp hst
                subst hv hqp hst
                have hrun := run_append_in (w := w) (w' := w) hA (base := base) (sLen := sLen) (sCap := sCap) s1 (u1 w (Below.refl _ _)) (by simpa using hle) (by cases base <;> rfl) o.type
                exact done hrun hI (Later.refl _ _ _ _) hrs
              split at hq
              · injection hq with hq
                simp only [Prod.mk.injEq] at hq
                cases hrs
                exact go none 0 0 rfl (Nat.le_refl _) hq.1 hq.2
              · injection hq with hq
                simp only [Prod.mk.injEq] at hq
                cases hrs with
                | sl xs full b o' cap sz adr u hcap hfull hadr hsz hc hr => exact go _ _ _ rfl hcap hq.1 hq.2
              · injection hq with hq
                simp only [Prod.mk.injEq] at hq
                cases hrs with
                | osl t g off len full L cap ad h hcap hL hfull ha => exact go _ _ _ rfl hcap hq.1 hq.2
              · cases hq
            · rename_i hne
              have hpos2 : 0 < src.length := List.length_pos_iff.2 hne
              split at hq
              ·
                split at hq
                · rename_i hb
                  injection hq with hq
                  simp only [Prod.mk.injEq] at hq
                  obtain ⟨rfl, rfl⟩ := hq
                  have hv : v = .slice none 0 0 := by cases hrs; rfl
                  obtain ⟨u, w', G', h1, h2, h3, h4⟩ := append_new hI hA hrs (xs := []) rfl rfl hv hrx hsrc has (by omega) (by simpa using hb) o.type
                  refine done h1 (by simpa using h2) (by simpa using h3) (by simpa using h4)
                · cases hq
              ·
                rename_i xs
                split at hq
                · rename_i hb
                  obtain ⟨hb, hax⟩ := hb
                  injection hq with hq
                  simp only [Prod.mk.injEq] at hq
                  obtain ⟨rfl, rfl⟩ := hq
                  have hv : ∃ ad, v = .slice ad xs.length xs.length := by
                    cases hrs with
                    | sl _ _ b o' cap sz adr u hcap hfull hadr hsz hc hr => rw [hfull rfl]; exact ⟨_, rfl⟩
                  obtain ⟨ad, hv⟩ := hv
                  obtain ⟨u, w', G', h1, h2, h3, h4⟩ := append_new hI hA hrs (xs := xs) rfl hax hv hrx hsrc has (by omega) hb o.type
                  exact done h1 h2 h3 h4
                · cases hq
              · rename_i tk g off len
                split at hq
                · rename_i g' sz' es lv hg
                  split at hq
                  · rename_i hb
                    obtain ⟨rfl, rfl, hlen, hb⟩ := hb
                    injection hq with hq
                    simp only [Prod.mk.injEq] at hq
                    obtain ⟨rfl, rfl⟩ := hq
                    have hv : ∃ ad, v = .slice ad len len := by
                      cases hrs with
                      | osl _ _ _ _ _ L cap ad h hcap hL hfull ha => rw [hfull rfl]; exact ⟨_, rfl⟩
                    obtain ⟨ad, hv⟩ := hv
                    have hel : elemsOf st.get (.osl tk g' off len true) = some ((es.drop off).take len) := by simp [elemsOf, hg, hlen]
                    have hll : ((es.drop off).take len).length = len := by simp; omega
                    obtain ⟨L, k1, k2, k3, k4, k5, k6⟩ := hI.toks tk _ hg
                    have hax : allOf i.size es = true := List.all_eq_true.2 fun cs hcs => by
                      obtain ⟨j, hj⟩ := List.getElem?_of_mem hcs
                      simpa using (k5 j cs hj).1
                    obtain ⟨u, w', G', h1, h2, h3, h4⟩ := append_new hI hA hrs hel (allOf_part hax _ _) hv hrx hsrc has (by omega) hb o.type
                    rw [hll] at h4
                    exact done h1 h2 h3 h4
                  · cases hq
                · cases hq
              · rename_i tk g off len
                split at hq
                · rename_i g' sz' es hg
                  split at hq
                  · rename_i hb
                    obtain ⟨rfl, rfl, hlen, hb⟩ := hb
                    injection hq with hq
                    simp only [Prod.mk.injEq] at hq
                    obtain ⟨rfl, rfl⟩ := hq
                    obtain ⟨L, k1, k2, k3, k4, k5, k6⟩ := hI.toks tk _ hg
                    have hax : allOf i.size es = true := List.all_eq_true.2 fun cs hcs => by
                      obtain ⟨j, hj⟩ := List.getElem?_of_mem hcs
                      simpa using (k5 j cs hj).1
                    have hll : ((es.drop off).take len).length = len := by simp; omega
                    have hel : elemsOf st.get (.osl tk g' off len false) = some ((es.drop off).take len) := by simp [elemsOf, hg, hlen]
                    generalize hqq : PV.osl tk g' off len false = q0 at hrs
                    have hrs0 := hrs
                    rw [← hqq] at hrs
                    cases hrs with
                    | osl _ _ _ _ _ L0 cap ad h hcap hL hfull ha hspot =>
                      rw [k1] at h
                      injection h with h
                      subst h
                      by_cases hin : len + src.length ≤ cap
                      · have had := ha (by omega)
                        subst had
                        obtain ⟨us, u1, u2, u3⟩ := s2 src.length (Nat.le_refl _)
                        have hcr := flat_src has u2 u3
                        have hbase : L.off + off * L.sz + len * L.sz + src.length * L.sz ≤ L.off + L.cap * L.sz := by
                          have : (off + len + src.length) * L.sz ≤ L.cap * L.sz := Nat.mul_le_mul_right _ (by omega)
                          rw [Nat.add_mul, Nat.add_mul] at this
                          omega
                        have hul : us.toList.length = src.length * L.sz := by rw [Array.length_toList, u2, k2]
                        have hex : ∀ j, j < us.toList.length → ∃ v, cellAt w L.blk (L.off + off * L.sz + len * L.sz + j) = some v := fun j hj => (k4 _ (by omega) (by rw [k2] at hbase hul; rw [← k2] at *; omega)).1
                        have hst := run_storeCells_cells (P := P) L.blk (L.off + off * L.sz + len * L.sz) us.toList 0 w (fun j hj => by obtain ⟨u, hu⟩ := hex j hj; simp [cellAt] at hu; simp [hu])
                          (fun j hj => (k4 _ (by omega) (by rw [← k2]; omega)).2) (hcr.list.one hone)
                        have hrun := run_append_in (w := w) hA (base := some ⟨L.blk, L.off + off * L.sz, none⟩) (sLen := len) (sCap := cap) s1 (u1 w (Below.refl _ _)) hin
                          (w' := w.setCells L.blk (L.off + off * L.sz + len * L.sz) us.toList) (by
                            show (storeCells ((⟨L.blk, L.off + off * L.sz, none⟩ : Addr).add (len * i.size)) us.toList).run P w = _
                            rw [add_at, ← k2]
                            exact hst) o.type
                        let L' : Loc := ⟨L.blk, L.off + off * L.sz, L.cap - off, L.sz⟩
                        have hch : Chg (fun b => b = L.blk) w (w.setCells L.blk (L.off + off * L.sz + len * L.sz) us.toList) := setCells_chg rfl
                        have hla := later_regen hI hg rfl k1 (k' := .row (g' + 1) i.size ((es.drop off).take len ++ src) true) (Nat.lt_succ_self _) hch (L' := L') (.inl rfl)
                        have hcapsz : L.off + off * L.sz + (L.cap - off) * L.sz = L.off + L.cap * L.sz := by
                          rw [Nat.add_assoc, ← Nat.add_mul]
                          congr 2
                          omega
                        refine done hrun (inv_regen hI hg rfl k1 (k' := .row (g' + 1) i.size ((es.drop off).take len ++ src) true) rfl (Nat.lt_succ_self _) hch (L' := L') (.inl rfl) (Nat.lt_of_lt_of_le (hI.low _ _ _ k1).2 hch.size) ?_) hla ?_
                        · refine ⟨L', ghNew_same _ _ _ _, k2, ?_, ?_, fun j cs hj => ?_, by simp⟩
                          · simp only [List.length_append, hll, L']
                            omega
                          · have hr2 : Room w L.blk (L.off + off * L.sz) (L.off + off * L.sz + (L.cap - off) * i.size) := fun q hq1 hq2 => k4 q (by omega) (by rw [← k2] at hq2 ⊢; omega)
                            exact room_setCells hr2 hex
                          · have hcl : cs.length = i.size := allOf_spec (allOf_append (allOf_part hax off len) has) hj
                            refine ⟨hcl, fun k c hk => ?_⟩
                            have hk2 : k < L.sz := by rw [k2, ← hcl]; exact (List.getElem?_eq_some_iff.1 hk).1
                            rw [List.getElem?_append, hll] at hj
                            split at hj
                            · rename_i hjl
                              rw [List.getElem?_take, if_pos hjl, List.getElem?_drop] at hj
                              obtain ⟨v, e1, e2⟩ := (k5 _ _ hj).2 k c hk
                              have hjb : j * L.sz + k < len * L.sz := mul_lt_of hjl hk2
                              refine ⟨v, ?_, hla.rep e2⟩
                              simp only [L']
                              rw [setCells_out (by rw [← k2]; omega), ← e1]
                              congr 1
                              rw [Nat.add_mul, k2]
                              omega
                            · rename_i hjl
                              have hjl2 := (List.getElem?_eq_some_iff.1 hj).1
                              have hlt : (j - len) * i.size + k < us.size := by rw [u2]; exact mul_lt_of hjl2 (by omega)
                              have hj3 : j * L.sz = len * L.sz + (j - len) * L.sz := by rw [← Nat.add_mul]; congr 1; omega
                              have hrep := u3 (j - len) cs k c hjl2 hj hk
                              rw [Array.getD_eq_getD_getElem?, Array.getElem?_eq_getElem hlt] at hrep
                              refine ⟨us[(j - len) * i.size + k], ?_, hla.rep hrep⟩
                              simp only [L']
                              refine setCells_in hex (by rw [← k2]; omega) ?_
                              have hidx : L.off + off * L.sz + j * i.size + k - (L.off + off * L.sz + len * L.sz) = (j - len) * i.size + k := by rw [← k2]; omega
                              rw [hidx]
                              simp [hlt]
                        · exact .osl tk (g' + 1) 0 (len + src.length) false L' cap _ (ghNew_same _ _ _ _) hin (by simp only [L']; omega) (by simp) (fun _ => by simp [L']) rfl
                      · obtain ⟨cap', w', c, e1, e2, e3, e4, e5, e6, e7⟩ := append_grow hI hA (Rep.osl tk g' off len false L cap ad k1 hcap hL hfull ha hspot) hel (allOf_part hax _ _) rfl hrx hsrc has (by omega) hb o.type
                        obtain ⟨G', f1, f2, f3⟩ := regen_row hI hg rfl k1 e2 e3 e4 (allOf_append (allOf_part hax off len) has) e5 e6 e7 (len := len + src.length) (by rw [List.length_append, hll])
                        rw [hll] at e1
                        exact done e1 f1 f2 f3
                  · cases hq
                · cases hq
              · cases hq
          · cases hq
        · split at hc
          · rename_i hcond
            obtain ⟨hk, hzl, hpos, hby⟩ := hcond
            injection hc with hc
            subst hc
            exact l_appendZ hI hE ho hU hU' hk hs hx hT hz hzl hpos hby hq
          · cases hc
      · cases hc
    · cases hc
  · cases hc
end
end Go.AM
set_option linter.unusedVariables false
set_option linter.unusedSimpArgs false
namespace Go.AM
open Go.RowKit
variable [Gl]
section
variable {P : Program} {X : Cx} {st : St} {G : Gh} {w : World} {n : Nat} {ρ : Env} {a : Act}
theorem l_toBytes (hI : Inv X st G w) (hE : EnvRep G (OwnF X st G) w n ρ a) {o : Oper} {s t e : TypeId} {x : Operand} (ho : o.op = .convert s t x) {d : TypeDesc} (hs : P.underlying s = some d) (ht : P.underlying t = some (.slice e)) (he : P.underlying e = some (.int .u8)) {y : Opd} (hy : cOpd x = some y) {bs : List UInt8}
    (hb : y.ev ρ = .str bs) : LOk P X st G w o a (.osl st.next 0 0 bs.length false) (st.new (.row 0 1 (byteCells bs) true)) := by
  have hr := opd_rep hE hy
  rw [hb] at hr
  have hv := rep_str hr
  have hsz : (⟨bs.toArray⟩ : ByteArray).size = bs.length := by simp [ByteArray.size]
  have hge := grownCap_ge w (⟨bs.toArray⟩ : ByteArray).size 0 e
  have hall : allOf 1 (byteCells bs) = true := List.all_eq_true.2 fun cs hcs => by
    obtain ⟨q, _, rfl⟩ := List.mem_map.1 hcs
    rfl
  have hcs : (Lib.bytesCells w e ⟨bs.toArray⟩).size = grownCap w (⟨bs.toArray⟩ : ByteArray).size 0 e := by
    simp only [Lib.bytesCells, Array.size_append, Array.size_map, Array.size_replicate]
    have : bs.toArray.size = (⟨bs.toArray⟩ : ByteArray).size := rfl
    omega
  obtain ⟨G', h1, h2, h3⟩ := new_row hI (es := byteCells bs) (sz := 1) (cap := grownCap w (⟨bs.toArray⟩ : ByteArray).size 0 e) (bytesWorld_below w e ⟨bs.toArray⟩) (by rw [Lib.bytesWorld_size]; omega) (Lib.bytesWorld_at_new w e ⟨bs.toArray⟩) hall (by simp [byteCells]; omega) (by rw [hcs]; omega) (fun q hq => by simp only [hcs]; omega)
    (fun j i cs p hj hi => by
      simp only [byteCells, List.getElem?_map] at hj
      obtain ⟨q, hq, rfl⟩ := Option.map_eq_some_iff.1 hj
      have hi0 : i = 0 := by
        have := (List.getElem?_eq_some_iff.1 hi).1
        simp at this
        exact this
      subst hi0
      simp at hi
      subst hi
      have hlt := (List.getElem?_eq_some_iff.1 hq).1
      have : (Lib.bytesCells w e ⟨bs.toArray⟩).getD (j * 1 + 0) undef = .int .u8 q.toNat := by
        rw [Array.getD_eq_getD_getElem?]
        simp only [Lib.bytesCells, Nat.mul_one, Nat.add_zero]
        rw [Array.getElem?_append_left (by simpa using hlt)]
        simp [hq]
      rw [this]
      exact .int _ _) (len := (⟨bs.toArray⟩ : ByteArray).size) (by simp [byteCells, hsz])
  refine ⟨.value (.slice (some ⟨w.heap.size, 0, none⟩) (⟨bs.toArray⟩ : ByteArray).size (grownCap w (⟨bs.toArray⟩ : ByteArray).size 0 e)), _, _, G', ?_, rfl, h1, h2, ?_⟩
  · simp only [execOp, ho, hv]
    rw [Sem.run_bind, Lib.run_convert_string_bytes w s t e _ hs ht he]
    rfl
  · rw [← hsz]
    exact h3
def cCopy (P : Program) (ts : List TypeId) (xs : List Operand) : Option PI :=
  match ts, xs with
  | t :: _, [s, x] => match P.underlying t, cOpd s, cOpd x with
    | some (.slice e), some s', some x' => match tyOf P e with
      | some (_, i) => some (.copy i.size s' x')
      | none => none
    | _, _, _ => none
  | _, _ => none
theorem run_copy {t e : TypeId} {ts : List TypeId} {d : TypeDesc} {i : TypeInfo} (ht : P.underlying t = some (.slice e)) (hT : tyOf P e = some (d, i)) {base : Option Addr} {dLen dCap : Nat} {xv : Value} {m : Nat} {us : Array Value} (hlen : (Builtin.lenOf xv).run P w = .ok m w) (hus : (Builtin.firstCells i.size (min m dLen) xv).run P w = .ok us w) {w' : World}
    (hst : (match base with | some a => storeCells a us.toList | none => pure ()).run P w = .ok () w') (ty : TypeId) :
    (Builtin.copy_ (t :: ts).toArray ty #[.slice base dLen dCap, xv]).run P w = .ok (.int .i64 ((min m dLen : Nat) : Int)) w' := by
  unfold Builtin.copy_
  simp only [List.getElem?_toArray, List.getElem?_cons_zero, List.getElem?_cons_succ, Sem.run_bind, run_underlying ht, Result.andThen_ok, run_sizeOf hT, hlen]
  have hm : Nat.min m dLen = min m dLen := rfl
  cases base with
  | none =>
    simp only [Sem.run_pure, Result.ok.injEq, true_and] at hst
    subst hst
    simp only [hm, hus, Sem.run_bind, Result.andThen_ok, Sem.run_pure, Sem.run_pure']
    rfl
  | some ad =>
    simp only [hm, hus, Sem.run_bind, Result.andThen_ok, Sem.run_pure, hst]
    rfl
theorem l_copy (hI : Inv X st G w) (hE : EnvRep G (OwnF X st G) w n ρ a) {o : Oper} {ts : Array TypeId} {xs : Array Operand} (ho : o.op = .call { callee := .builtin .copy, args := xs, argTypes := ts }) {pi : PI} (hc : cCopy P ts.toList xs.toList = some pi) {p : PV} {st' : St} (hq : loud st (Opd.ev ρ) pi = some (p, st')) : LOk P X st G w o a p st' := by
  unfold cCopy at hc
  split at hc
  · rename_i t tr s x hts hxs
    have exs : xs = #[s, x] := by cases xs; simp_all
    have ets : ts = (t :: tr).toArray := by cases ts; simp_all
    subst exs ets
    split at hc
    · rename_i e s' x' hU hs hx
      split at hc
      · rename_i d i hT
        injection hc with hc
        subst hc
        simp only [loud] at hq
        obtain ⟨src, hsrc, hq⟩ := Option.bind_eq_some_iff.1 hq
        split at hq
        · rename_i hok
          obtain ⟨hok, hpos⟩ := hok
          obtain ⟨has, hone⟩ := okEls_all hok
          have hrs := opd_rep hE hs
          have hrx := opd_rep hE hx
          have done : ∀ {u : Value} {w' : World} {G' : Gh}, (Builtin.copy_ (t :: tr).toArray o.type #[a.eval s, a.eval x]).run P w = .ok u w' → Inv X st' G' w' → Later X st G w st' G' w' → Rep G' (OwnF X st' G') w' u p → LOk P X st G w o a p st' := by
            intro u w' G' hrun h1 h2 h3
            refine ⟨.value u, u, w', G', ?_, rfl, h1, h2, h3⟩
            simp only [execOp, ho, resolve]
            simp [invoke, builtin, hrun]
          generalize hes : s'.ev ρ = q at hrs hq
          generalize hvs : a.eval s = v at hrs done
          obtain ⟨s1, s2⟩ := src_run (P := P) hI hrx hsrc has
          unfold copyTo at hq
          split at hq
          · injection hq with hq
            simp only [Prod.mk.injEq] at hq
            obtain ⟨rfl, rfl⟩ := hq
            have hv : v = .slice none 0 0 := by cases hrs; rfl
            subst hv
            obtain ⟨us, u1, u2, u3⟩ := s2 0 (Nat.zero_le _)
            have hrun := run_copy (w := w) (w' := w) (ts := tr) hU hT (base := none) (dLen := 0) (dCap := 0) s1 (by rw [Nat.min_zero]; exact u1 w (Below.refl _ _)) rfl o.type
            exact done hrun hI (Later.refl _ _ _ _) (by rw [Nat.min_zero]; exact .int _ _)
          · rename_i tk g off len full
            split at hq
            · rename_i g' sz' es hg
              split at hq
              · rename_i hb
                obtain ⟨rfl, rfl, hlen⟩ := hb
                injection hq with hq
                simp only [Prod.mk.injEq] at hq
                obtain ⟨rfl, rfl⟩ := hq
                obtain ⟨L, k1, k2, k3, k4, k5, k6⟩ := hI.toks tk _ hg
                cases hrs with
                | osl _ _ _ _ _ L0 cap ad h hcap hL hfull ha =>
                  rw [k1] at h
                  injection h with h
                  subst h
                  obtain ⟨us, u1, u2, u3⟩ := s2 (min src.length len) (Nat.min_le_left _ _)
                  by_cases hm0 : min src.length len = 0
                  · have hus : us = #[] := by
                      apply Array.eq_empty_of_size_eq_zero
                      rw [u2, hm0]; simp
                    subst hus
                    have hrun := run_copy (w := w) (w' := w) (ts := tr) hU hT (base := some ad) (dLen := len) (dCap := cap) s1 (u1 w (Below.refl _ _)) rfl o.type
                    have hes2 : es.take off ++ src.take (min src.length len) ++ es.drop (off + min src.length len) = es := by
                      rw [hm0]; simp
                    rw [hes2] at done ⊢
                    obtain ⟨h1, h2⟩ := inv_put hI hg rfl k1 (k' := .row g' i.size es true) rfl rfl (w' := w) (Chg.refl _ _) (hI.toks tk _ hg)
                    exact done hrun h1 h2 (.int _ _)
                  · have hlp : 0 < len := by
                      rcases Nat.eq_zero_or_pos len with h0 | h0
                      · subst h0; simp at hm0
                      · exact h0
                    have had := ha (by omega)
                    subst had
                    generalize hmm : min src.length len = m at *
                    have hmle : m ≤ src.length ∧ m ≤ len := by omega
                    have hul : us.toList.length = m * L.sz := by rw [Array.length_toList, u2, k2]
                    have hbd : L.off + off * L.sz + m * L.sz ≤ L.off + L.cap * L.sz := by
                      have : (off + m) * L.sz ≤ L.cap * L.sz := Nat.mul_le_mul_right _ (by omega)
                      rw [Nat.add_mul] at this
                      omega
                    have hat : allOf i.size (src.take m) = true := by
                      have := allOf_part has 0 m
                      simpa using this
                    have hcr : CellsRep G (OwnF X st G) w us (src.take m).flatten := flat_src hat (by rw [u2, List.length_take]; congr 1; omega) (fun j cs k c hj hjs hk => by
                      rw [List.getElem?_take] at hjs
                      split at hjs
                      · rename_i hjm; exact u3 j cs k c hjm hjs hk
                      · cases hjs)
                    have hone' : (src.take m).flatten.all PV.one = true := List.all_eq_true.2 fun q hq => by
                      obtain ⟨cs, h1, h2⟩ := List.mem_flatten.1 hq
                      exact (List.all_eq_true.1 hone) q (List.mem_flatten.2 ⟨cs, List.mem_of_mem_take h1, h2⟩)
                    have hex : ∀ j, j < us.toList.length → ∃ v, cellAt w L.blk (L.off + off * L.sz + j) = some v := fun j hj => (k4 _ (by omega) (by rw [← k2]; omega)).1
                    have hst := run_storeCells_cells (P := P) L.blk (L.off + off * L.sz) us.toList 0 w (fun j hj => by obtain ⟨u, hu⟩ := hex j hj; simp [cellAt] at hu; simp [hu])
                      (fun j hj => (k4 _ (by omega) (by rw [← k2]; omega)).2) (hcr.list.one hone')
                    have hrun := run_copy (w := w) (w' := w.setCells L.blk (L.off + off * L.sz) us.toList) (ts := tr) hU hT (base := some ⟨L.blk, L.off + off * L.sz, none⟩) (dLen := len) (dCap := cap) s1 (by rw [hmm]; exact u1 w (Below.refl _ _)) hst o.type
                    rw [hmm] at hrun
                    have hown : OwnF X st G L.blk := .inr ⟨tk, _, L, hg, rfl, k1, rfl⟩
                    have hch : Chg (fun b => b = L.blk) w (w.setCells L.blk (L.off + off * L.sz) us.toList) := setCells_chg rfl
                    have up : ∀ {v : Value} {p : PV}, Rep G (OwnF X st G) w v p → Rep G (OwnF X st G) (w.setCells L.blk (L.off + off * L.sz) us.toList) v p := fun h => h.mono (fun _ _ _ h => h) hch (fun i h => h ▸ hown) (fun _ h => .inl h)
                    have hlen2 : (es.take off ++ src.take m ++ es.drop (off + m)).length = es.length := by simp; omega
                    obtain ⟨h1, h2⟩ := inv_put hI hg rfl k1 (k' := .row g' i.size (es.take off ++ src.take m ++ es.drop (off + m)) true) rfl rfl (w' := w.setCells L.blk (L.off + off * L.sz) us.toList) hch
                      ⟨L, k1, k2, by rw [hlen2]; exact k3, room_setCells k4 hex, fun j cs hj => by
                        rw [List.append_assoc, List.getElem?_append] at hj
                        have hto : (es.take off).length = off := by simp; omega
                        rw [hto] at hj
                        split at hj
                        · rename_i hjo
                          rw [List.getElem?_take, if_pos hjo] at hj
                          refine ⟨(k5 j cs hj).1, cells_apart hown (k5 j cs hj).2 (.inl ?_)⟩
                          have hcl := (k5 j cs hj).1
                          have : (j + 1) * i.size ≤ off * i.size := Nat.mul_le_mul_right _ hjo
                          rw [Nat.add_mul] at this
                          rw [k2]
                          omega
                        · rename_i hjo
                          rw [List.getElem?_append] at hj
                          have htm : (src.take m).length = m := by simp; omega
                          rw [htm] at hj
                          split at hj
                          · rename_i hjm
                            have hcl : cs.length = i.size := allOf_spec hat hj
                            refine ⟨hcl, fun k c hk => ?_⟩
                            have hk2 : k < i.size := by rw [← hcl]; exact (List.getElem?_eq_some_iff.1 hk).1
                            rw [List.getElem?_take, if_pos hjm] at hj
                            have hlt : (j - off) * i.size + k < us.size := by rw [u2]; exact mul_lt_of hjm hk2
                            have hrep := u3 (j - off) cs k c hjm hj hk
                            rw [Array.getD_eq_getD_getElem?, Array.getElem?_eq_getElem hlt] at hrep
                            have hj3 : j * i.size = off * i.size + (j - off) * i.size := by rw [← Nat.add_mul]; congr 1; omega
                            refine ⟨us[(j - off) * i.size + k], setCells_in hex (by rw [k2]; omega) ?_, up hrep⟩
                            have hidx : L.off + j * i.size + k - (L.off + off * L.sz) = (j - off) * i.size + k := by rw [k2]; omega
                            rw [hidx]
                            simp [hlt]
                          · rename_i hjm
                            rw [List.getElem?_drop] at hj
                            rw [show off + m + (j - off - m) = j by omega] at hj
                            refine ⟨(k5 j cs hj).1, cells_apart hown (k5 j cs hj).2 (.inr ?_)⟩
                            have : (off + m) * i.size ≤ j * i.size := Nat.mul_le_mul_right _ (by omega)
                            rw [Nat.add_mul] at this
                            rw [hul, k2]
                            omega, by simp⟩
                    exact done hrun h1 h2 (.int _ _)
              · cases hq
            · cases hq
          · cases hq
        · cases hq
      · cases hc
    · cases hc
  · cases hc
def zeroP (P : Program) (t : TypeId) : Option PV :=
  match tyOf P t with
  | some (_, i) => match i.zero with
    | some z => cVal z
    | none => none
  | none => none
theorem zeroP_spec {own : Nat → Prop} {t : TypeId} {p : PV} (h : zeroP P t = some p) : ∃ z, (∀ w' : World, (zeroValue t).run P w' = .ok z w') ∧ Rep G own w z p := by
  unfold zeroP at h
  split at h
  · rename_i d i hT
    split at h
    · rename_i z hz
      exact ⟨z, fun w' => run_zeroValue hT hz, cVal_rep h⟩
    · cases h
  · cases h
def cLook (P : Program) (t : TypeId) (x k : Operand) (ok : Bool) : Option PI :=
  match P.underlying t with
  | some (.map kt e) => match P.underlying kt, zeroP P e, cOpd x, cOpd k with
    | some .string, some z, some x', some k' => some (.mapLook z ok x' k')
    | _, _, _, _ => none
  | _ => none
def cMapPut (P : Program) (t : TypeId) (m k x : Operand) : Option PI :=
  match P.underlying t with
  | some (.map kt _) => match P.underlying kt, cOpd m, cOpd k, cOpd x with
    | some .string, some m', some k', some x' => some (.mapPut m' k' x')
    | _, _, _, _ => none
  | _ => none
theorem bytes_beq (s u : List UInt8) : ((⟨s.toArray⟩ : ByteArray) == ⟨u.toArray⟩) = decide (s = u) := by
  show (s.toArray == u.toArray) = _
  by_cases h : s = u
  · subst h; simp
  · simp [h]
theorem findNow_lemma {R : Value → PV → Prop} {s : List UInt8} : ∀ {es : List (List UInt8 × PV)} {ms : List MapEntry} (i : Nat), ms.length = es.length → (∀ (j : Nat) (u : List UInt8) (p : PV), es[j]? = some (u, p) → ∃ e, ms[j]? = some e ∧ e.key = .string ⟨u.toArray⟩ ∧ R e.val p) →
    (Instr.findNow .string (.string ⟨s.toArray⟩) ms i = some none ∧ getMp s es = none ∧ ∀ x, setMp s x es = es ++ [(s, x)]) ∨ ∃ j e p, Instr.findNow .string (.string ⟨s.toArray⟩) ms i = some (some (i + j, e.val)) ∧ ms[j]? = some e ∧ es[j]? = some (s, p) ∧ getMp s es = some p ∧ ∀ x, setMp s x es = es.set j (s, x)
  | [], ms, i, hl, _ => by
    have : ms = [] := List.length_eq_zero_iff.1 hl
    subst this
    exact .inl ⟨rfl, rfl, fun _ => rfl⟩
  | (u, p) :: es, [], i, hl, _ => by simp at hl
  | (u, p) :: es, m :: ms, i, hl, h => by
    obtain ⟨e, e1, e2, e3⟩ := h 0 u p rfl
    simp at e1
    subst e1
    by_cases hs : s = u
    · subst hs
      refine .inr ⟨0, m, p, ?_, rfl, rfl, by simp [getMp], fun x => by simp [setMp]⟩
      simp [Instr.findNow, Instr.sameNow, e2, bytes_beq]
    · have hstep : Instr.findNow .string (.string ⟨s.toArray⟩) (m :: ms) i = Instr.findNow .string (.string ⟨s.toArray⟩) ms (i + 1) := by
        simp [Instr.findNow, Instr.sameNow, e2, hs, bytes_beq]
      rcases findNow_lemma (R := R) (s := s) (es := es) (ms := ms) (i + 1) (by simpa using hl) (fun j u' p' hj => by simpa using h (j + 1) u' p' (by simpa using hj)) with ⟨h1, h2, h3⟩ | ⟨j, e, q, h1, h2, h3, h4, h5⟩
      · exact .inl ⟨hstep.trans h1, by simp [getMp, hs, h2], fun x => by simp [setMp, hs, h3]⟩
      · refine .inr ⟨j + 1, e, q, ?_, by simpa using h2, by simpa using h3, by simp [getMp, hs, h4], fun x => by simp [setMp, hs, h5]⟩
        rw [hstep, h1, show i + 1 + j = i + (j + 1) from by omega]
theorem rep_mapv {own : Nat → Prop} {v : Value} {t : Nat} (h : Rep G own w v (.mapv t)) : ∃ L, G t 0 = some L ∧ v = .map (some L.blk) := by
  cases h with
  | mapv _ L h => exact ⟨L, h, rfl⟩
theorem run_checkKeyS {kt : TypeId} (hk : P.underlying kt = some .string) (em : Bool) (s : ByteArray) : (Instr.checkKey em 10000 kt (.string s)).run P w = .ok () w := by
  have : ∀ n, (Instr.checkKey em (n + 1) kt (.string s)).run P w = .ok () w := fun n => by simp [Instr.checkKey, run_underlying hk]
  exact this 9999
theorem run_findKeyS {kt : TypeId} (hk : P.underlying kt = some .string) {v : Value} {l : List MapEntry} {r : Option (Nat × Value)} (h : Instr.findNow .string v l 0 = some r) : (Instr.findKey kt v l).run P w = .ok r w := by
  simp [Instr.findKey, run_underlying hk, h]
theorem rep_tup2 {own : Nat → Prop} {u v : Value} {p q : PV} (h1 : Rep G own w u p) (h2 : Rep G own w v q) : Rep G own w (.tuple #[u, v]) (.tuple [p, q]) :=
  .tuple _ _ rfl (fun i c hi => by
    match i with
    | 0 => simp at hi; subst hi; simpa using h1
    | 1 => simp at hi; subst hi; simpa using h2
    | n + 2 => simp at hi)
theorem q_mapLook (hI : Inv X st G w) (hE : EnvRep G (OwnF X st G) w n ρ a) {o : Oper} {t : TypeId} {x k : Operand} {ok : Bool} (ho : o.op = .lookup t x k ok) {pi : PI} (hc : cLook P t x k ok = some pi) {p : PV} (hq : quiet st.get (Opd.ev ρ) pi = some p) : QOk P X st G w o a p := by
  unfold cLook at hc
  split at hc
  · rename_i kt e ht
    split at hc
    · rename_i z x' k' hk hz hx hkk
      injection hc with hc
      subst hc
      simp only [quiet, mapLook?] at hq
      have hrx := opd_rep hE hx
      have hrk := opd_rep hE hkk
      split at hq
      · rename_i tk s hm hs
        rw [hm] at hrx
        rw [hs] at hrk
        have hv := rep_str hrk
        obtain ⟨L, hL, hmv⟩ := rep_mapv hrx
        split at hq
        · rename_i es hg
          injection hq with hq
          obtain ⟨L', ms, clock, h1, h2, h3, h4⟩ := hI.toks tk _ hg
          rw [hL] at h1
          injection h1 with h1
          subst h1
          obtain ⟨zv, hz1, hz2⟩ := zeroP_spec (G := G) (own := OwnF X st G) (w := w) hz
          have hf := findNow_lemma (R := fun v p => Rep G (OwnF X st G) w v p) (s := s) (es := es) (ms := ms.toList) 0 (by simpa using h3) (fun j u p hj => by obtain ⟨e, e1, e2, e3⟩ := h4 j u p hj; exact ⟨e, by simpa using e1, e2, e3⟩)
          rcases hf with ⟨f1, f2, _⟩ | ⟨j, e, q, f1, f2, f3, f4, _⟩
          · rw [f2] at hq
            refine qok_same (u := if ok = true then .tuple #[zv, .bool false] else zv) ?_ ?_
            · simp only [execOp, ho, hmv, hv]
              simp [Instr.lookup, run_underlying ht, MapKept.run_getObj_map h2, run_checkKeyS hk, run_findKeyS hk f1, hz1, Result.andThen]
            · subst hq; cases ok
              · exact hz2
              · exact rep_tup2 hz2 (.bool _)
          · rw [f4] at hq
            refine qok_same (u := if ok = true then .tuple #[e.val, .bool true] else e.val) ?_ ?_
            · simp only [execOp, ho, hmv, hv]
              simp [Instr.lookup, run_underlying ht, MapKept.run_getObj_map h2, run_checkKeyS hk, run_findKeyS hk f1, Result.andThen]
            · obtain ⟨e', e1, e2, e3⟩ := h4 j s q f3
              rw [show ms[j]? = some e from by simpa using f2] at e1
              injection e1 with e1
              subst e1
              subst hq; cases ok
              · exact e3
              · exact rep_tup2 e3 (.bool _)
        · cases hq
      · cases hq
    · cases hc
  · cases hc
theorem l_makeMap (hI : Inv X st G w) {o : Oper} {t : TypeId} (ho : o.op = .makeMap t none) : LOk P X st G w o a (.mapv st.next) (st.new (.mp [])) := by
  let L : Loc := ⟨w.heap.size, 0, 0, 0⟩
  have hb := alloc_below w (.map #[] 0)
  have hnew : (w.alloc (.map #[] 0)).heap[w.heap.size]? = some (.map #[] 0) := heap_alloc_new w _
  have hla : Later X st G w (st.new (.mp [])) (ghNew G st.next 0 L) (w.alloc (.map #[] 0)) := later_new hI hb (k := .mp []) (L := L) rfl
  refine ⟨.value (.map (some w.heap.size)), _, w.alloc (.map #[] 0), ghNew G st.next 0 L, ?_, rfl, inv_new hI hb (by rw [alloc_size]; omega) (k := .mp []) (L := L) rfl rfl ?_, hla, ?_⟩
  · simp only [execOp, ho]
    rfl
  · exact ⟨L, #[], 0, ghNew_same _ _ _ _, hnew, rfl, fun i s p hi => by simp at hi⟩
  · exact Rep.mapv (G := ghNew G st.next 0 L) st.next L (ghNew_same _ _ _ _)
theorem run_keyStaysS (s : ByteArray) : (Instr.keyThatStays (.string s) (.string s)).run P w = .ok (.string s) w := by
  have h : Instr.sameBits 10000 (.string s) (.string s) = true := by
    show (s.data == s.data) = true
    simp
  simp [Instr.keyThatStays, h]
theorem l_mapPut (hI : Inv X st G w) (hE : EnvRep G (OwnF X st G) w n ρ a) {o : Oper} {t : TypeId} {m k x : Operand} (ho : o.op = .mapUpdate t m k x ∨ o.op = .insert t m k x) {pi : PI} (hc : cMapPut P t m k x = some pi) {p : PV} {st' : St} (hq : loud st (Opd.ev ρ) pi = some (p, st')) : LOk P X st G w o a p st' := by
  unfold cMapPut at hc
  split at hc
  · rename_i kt e ht
    split at hc
    · rename_i m' k' x' hk hm hkk hx
      injection hc with hc
      subst hc
      simp only [loud] at hq
      have hrm := opd_rep hE hm
      have hrk := opd_rep hE hkk
      have hrx := opd_rep hE hx
      split at hq
      · rename_i tk s hm1 hs
        rw [hm1] at hrm
        rw [hs] at hrk
        have hv := rep_str hrk
        obtain ⟨L, hL, hmv⟩ := rep_mapv hrm
        split at hq
        · split at hq
          · rename_i es hg
            simp only [Option.some.injEq, Prod.mk.injEq] at hq
            obtain ⟨rfl, rfl⟩ := hq
            obtain ⟨L', ms, clock, h1, h2, h3, h4⟩ := hI.toks tk _ hg
            rw [hL] at h1
            injection h1 with h1
            subst h1
            have hlt : L.blk < w.heap.size := (Array.getElem?_eq_some_iff.1 h2).1
            have chg : ∀ ob : Obj, Chg (fun b => b = L.blk) w { w with heap := w.heap.setIfInBounds L.blk ob } := fun ob => ⟨rfl, rfl, rfl, by simp, fun b hb hn => by
              rw [Array.getElem?_setIfInBounds, if_neg (fun h => hn h.symm)]⟩
            have hown : ∀ b, b = L.blk → OwnF X st G b := fun b hb => .inr ⟨tk, _, L, hg, rfl, hL, hb.symm⟩
            have fin : ∀ (ms' : Array MapEntry) (clock' : Nat) (es' : List (List UInt8 × PV)), (execOp a.eval o).run P w = .ok .skip { w with heap := w.heap.setIfInBounds L.blk (.map ms' clock') } → ms'.size = es'.length →
                (∀ (i : Nat) (s : List UInt8) (p : PV), es'[i]? = some (s, p) → ∃ e, ms'[i]? = some e ∧ e.key = .string ⟨s.toArray⟩ ∧ Rep G (OwnF X st G) w e.val p) → LOk P X st G w o a (.tuple []) (st.put tk (.mp es')) := by
              intro ms' clock' es' hrun hsz hrep
              obtain ⟨hi, hla⟩ := inv_put hI hg rfl hL (k' := .mp es') rfl rfl (chg (.map ms' clock')) ⟨L, ms', clock', hL, by simp [hlt], hsz, fun i s p hi => by
                obtain ⟨e, e1, e2, e3⟩ := hrep i s p hi
                exact ⟨e, e1, e2, e3.mono (fun _ _ _ h => h) (chg _) hown (fun _ h => .inl h)⟩⟩
              exact ⟨.skip, undef, _, G, hrun, rfl, hi, hla, .tuple [] #[] rfl (fun i c h => by simp at h)⟩
            have hf := findNow_lemma (R := fun v p => Rep G (OwnF X st G) w v p) (s := s) (es := es) (ms := ms.toList) 0 (by simpa using h3) (fun j u p hj => by obtain ⟨e, e1, e2, e3⟩ := h4 j u p hj; exact ⟨e, by simpa using e1, e2, e3⟩)
            rcases hf with ⟨f1, _, f3⟩ | ⟨j, e, q, f1, f2, f3, _, f5⟩
            · rw [f3]
              refine fin (ms.push ⟨.string ⟨s.toArray⟩, a.eval x, clock⟩) (clock + 1) _ ?_ (by simp [h3]) (fun i u p hi => ?_)
              · rcases ho with ho | ho <;>
                · simp only [execOp, ho, hmv, hv]
                  simp [Instr.mapUpdate, run_underlying ht, MapKept.run_getObj_map h2, run_checkKeyS hk, run_findKeyS hk f1, MapKept.run_setObj_map _ h2, Result.andThen]
              · rw [List.getElem?_append] at hi
                split at hi
                · rename_i hlt'
                  obtain ⟨e, e1, e2, e3⟩ := h4 i u p hi
                  exact ⟨e, by rw [Array.getElem?_push, if_neg (by omega)]; exact e1, e2, e3⟩
                · rename_i hge
                  have hi0 : i = es.length := by
                    have := (List.getElem?_eq_some_iff.1 hi).1
                    simp at this
                    omega
                  subst hi0
                  simp at hi
                  obtain ⟨rfl, rfl⟩ := hi
                  exact ⟨⟨.string ⟨s.toArray⟩, a.eval x, clock⟩, by rw [← h3]; simp, rfl, hrx⟩
            · rw [f5]
              have hj : ms[j]? = some e := by simpa using f2
              obtain ⟨e', e1, e2, e3⟩ := h4 j s q f3
              rw [hj] at e1
              injection e1 with e1
              subst e1
              refine fin (ms.modify j fun e => { e with key := .string ⟨s.toArray⟩, val := a.eval x }) clock _ ?_ (by simp [h3]) (fun i u p hi => ?_)
              · simp only [Nat.zero_add] at f1
                rcases ho with ho | ho <;>
                · simp only [execOp, ho, hmv, hv]
                  simp [Instr.mapUpdate, run_underlying ht, MapKept.run_getObj_map h2, run_checkKeyS hk, run_findKeyS hk f1, hj, e2, run_keyStaysS, MapKept.run_setObj_map _ h2, Result.andThen]
              · rw [List.getElem?_set] at hi
                split at hi
                · rename_i hij
                  subst hij
                  split at hi
                  · injection hi with hi
                    simp only [Prod.mk.injEq] at hi
                    obtain ⟨rfl, rfl⟩ := hi
                    exact ⟨{ e with key := .string ⟨s.toArray⟩, val := a.eval x }, by rw [Array.getElem?_modify]; simp [hj], rfl, hrx⟩
                  · cases hi
                · rename_i hij
                  obtain ⟨e'', e1, e2', e3'⟩ := h4 i u p hi
                  exact ⟨e'', by rw [Array.getElem?_modify, if_neg hij]; exact e1, e2', e3'⟩
          · cases hq
        · cases hq
      · cases hq
    · cases hc
  · cases hc
end
end Go.AM
set_option linter.unusedVariables false
set_option linter.unusedSimpArgs false
namespace Go.AM
open Go.RowKit
variable [Gl]
def cConv (P : Program) (s t : TypeId) (x : Operand) : Option PI :=
  match P.underlying s, P.underlying t, cOpd x with
  | some _, some (.int k), some y => some (.conv k y)
  | some .string, some .string, some y => some (.textId y)
  | some .string, some (.slice e), some y => match P.underlying e with
    | some (.int .u8) => some (.toBytes y)
    | _ => none
  | some (.slice e), some .string, some y => match P.underlying e with
    | some (.int .u8) => some (.toStr y)
    | _ => none
  | _, _, _ => none
def cBin (P : Program) (op : BinOp) (t : TypeId) (x y : Operand) : Option PI :=
  match P.underlying t, cOpd x, cOpd y with
  | some .bool, some x', some y' => match op with
    | .eql => some (.eqBool false x' y')
    | .neq => some (.eqBool true x' y')
    | _ => none
  | some (.int _), some x', some y' => some (.bin op x' y')
  | some .string, some x', some y' => some (.bin op x' y')
  | some (.struct fs), some x', some y' => match P.stoodInHeld t, fieldKinds P 0 fs.toList with
    | false, some ks => (match op with
      | .eql => some (.eqAgg false ks x' y')
      | .neq => some (.eqAgg true ks x' y')
      | _ => none)
    | _, _ => none
  | some d, some x', some _ => match nilKind d with
    | some (k, _) => if isConstNil k y = true then (match op with
      | .eql => some (.eqNil false k x')
      | .neq => some (.eqNil true k x')
      | _ => none) else none
    | none => none
  | _, _, _ => none
def cBuiltin (P : Program) (b : Builtin) (ts : List TypeId) (xs : List Operand) : Option PI :=
  match b with
  | .len => match ts, xs with
    | [t], [x] => match P.underlying t, cOpd x with
      | some d, some y => (lenKind d).map fun txt => .len txt y
      | _, _ => none
    | _, _ => none
  | .cap => match ts, xs with
    | [t], [x] => match P.underlying t, cOpd x with
      | some (.slice _), some y => some (.cap y)
      | _, _ => none
    | _, _ => none
  | .append => cAppend P ts xs
  | .copy => cCopy P ts xs
  | .max => (cOpds xs).map (.minmax true)
  | .min => (cOpds xs).map (.minmax false)
  | _ => none
def cOp (P : Program) : Op → Option PI
  | .move x => (cOpd x).map .move
  | .assign x => (cOpd x).map .move
  | .pick c x y => match cOpd c, cOpd x, cOpd y with
    | some c', some x', some y' => some (.pick c' x' y')
    | _, _, _ => none
  | .load t x => cLoad P t x
  | .store t x y => cStore P t x y
  | .alloc t => (zeroOf P t).map .alloc
  | .box _ x => (cOpd x).map .box
  | .build t ps => cBuild P t ps.toList
  | .buildSlice t l ps => cBuildSl P t l ps.toList
  | .fieldAddr s x f => cFieldAddr P s x f
  | .field s x f => cField P s x f
  | .indexAddr t x i => cIndexAddr P t x i
  | .index t x i => cIndex P t x i
  | .slice t x lo hi mx => cSlice P t x lo hi mx
  | .convert s t x => cConv P s t x
  | .unOp op _ x => match op with
    | .neg => (cOpd x).map .neg
    | .not => (cOpd x).map .not
    | _ => none
  | .binOp op t x y _ => cBin P op t x y
  | .extract x i => (cOpd x).map fun y => .extract y i
  | .makeInterface t x => if P.concrete t = true then (cOpd x).map (.mkIface t) else none
  | .makeFunc fn first caps => match fn, first.toList with
    | .func f, [] => (cOpds caps.toList).map (.mkFunc f)
    | _, _ => none
  | .makeSlice t l c => cMakeSl P t l c
  | .nilCheck x => (cOpd x).map .nilCheck
  | .call c => match c.callee with
    | .builtin b => cBuiltin P b c.argTypes.toList c.args.toList
    | .value f => match cOpd f, cOpds c.args.toList with
      | some f', some xs => some (.call f' xs)
      | _, _ => none
    | _ => none
  | .makeMap _ none => some .makeMap
  | .lookup t x k ok => cLook P t x k ok
  | .mapUpdate t m k x => cMapPut P t m k x
  | .insert t m k x => cMapPut P t m k x
  | _ => none
section
variable {P : Program} {X : Cx} {st : St} {G : Gh} {w : World} {n : Nat} {ρ : Env} {a : Act}
theorem arr1 {α : Type} {xs : Array α} {x : α} (h : xs.toList = [x]) : xs = #[x] := by cases xs; simp_all
theorem step_builtin (hI : Inv X st G w) (hE : EnvRep G (OwnF X st G) w n ρ a) {o : Oper} {b : Builtin} {ts : Array TypeId} {xs : Array Operand} (ho : o.op = .call { callee := .builtin b, args := xs, argTypes := ts }) {pi : PI} (hc : cBuiltin P b ts.toList xs.toList = some pi) :
    (∀ p, quiet st.get (Opd.ev ρ) pi = some p → QOk P X st G w o a p) ∧ ∀ p st', loud st (Opd.ev ρ) pi = some (p, st') → LOk P X st G w o a p st' := by
  unfold cBuiltin at hc
  split at hc
  · split at hc
    · rename_i t x hts hxs
      split at hc
      · rename_i d y hd hy
        obtain ⟨txt, hk, rfl⟩ := Option.map_eq_some_iff.1 hc
        rw [arr1 hts, arr1 hxs] at ho
        refine ⟨fun p hp => ?_, fun p st' h => by cases h⟩
        simp only [quiet] at hp
        split at hp
        · rename_i hkk
          obtain ⟨m, hm, rfl⟩ := Option.map_eq_some_iff.1 hp
          exact q_len hE ho hd hk hy hkk hm
        · cases hp
      · cases hc
    · cases hc
  · split at hc
    · rename_i t x hts hxs
      split at hc
      · rename_i e y hd hy
        injection hc with hc
        subst hc
        rw [arr1 hts, arr1 hxs] at ho
        refine ⟨fun p hp => ?_, fun p st' h => by cases h⟩
        simp only [quiet] at hp
        obtain ⟨m, hm, rfl⟩ := Option.map_eq_some_iff.1 hp
        exact q_cap hE ho hd hy hm
      · cases hc
    · cases hc
  · exact ⟨fun p hp => q_append hI hE ho hc hp, fun p st' h => l_append hI hE ho hc h⟩
  · refine ⟨fun p hp => ?_, fun p st' h => l_copy hI hE ho hc h⟩
    unfold cCopy at hc
    (repeat' split at hc) <;> first | (cases hc; done) | (injection hc with hc; subst hc; cases hp)
  · obtain ⟨ys, hy, rfl⟩ := Option.map_eq_some_iff.1 hc
    exact ⟨fun p hp => q_minmax (mx := true) hE ho hy hp, fun p st' h => by cases h⟩
  · obtain ⟨ys, hy, rfl⟩ := Option.map_eq_some_iff.1 hc
    exact ⟨fun p hp => q_minmax (mx := false) hE ho hy hp, fun p st' h => by cases h⟩
  · cases hc
theorem step_bin (hI : Inv X st G w) (hE : EnvRep G (OwnF X st G) w n ρ a) {o : Oper} {op : BinOp} {t t' : TypeId} {x y : Operand} (ho : o.op = .binOp op t x y t') {pi : PI} (hc : cBin P op t x y = some pi) :
    (∀ p, quiet st.get (Opd.ev ρ) pi = some p → QOk P X st G w o a p) ∧ ∀ p st', loud st (Opd.ev ρ) pi = some (p, st') → LOk P X st G w o a p st' := by
  unfold cBin at hc
  split at hc
  · rename_i x' y' hd hx hy
    split at hc
    · injection hc with hc
      subst hc
      refine ⟨fun p hp => ?_, fun p st' h => by cases h⟩
      simp only [quiet] at hp
      obtain ⟨b, hb, rfl⟩ := Option.map_eq_some_iff.1 hp
      exact q_eqBool (neq := false) hE ho hd hx hy hb
    · injection hc with hc
      subst hc
      refine ⟨fun p hp => ?_, fun p st' h => by cases h⟩
      simp only [quiet] at hp
      obtain ⟨b, hb, rfl⟩ := Option.map_eq_some_iff.1 hp
      exact q_eqBool (neq := true) hE ho hd hx hy hb
    · cases hc
  · rename_i k x' y' hd hx hy
    injection hc with hc
    subst hc
    exact ⟨fun p hp => q_bin hE ho hd rfl hx hy hp, fun p st' h => by cases h⟩
  · rename_i x' y' hd hx hy
    injection hc with hc
    subst hc
    exact ⟨fun p hp => q_bin hE ho hd rfl hx hy hp, fun p st' h => by cases h⟩
  · rename_i fs x' y' hd hx hy
    split at hc
    · rename_i ks hst hks
      split at hc
      · injection hc with hc
        subst hc
        refine ⟨fun p hp => ?_, fun p st' h => by cases h⟩
        simp only [quiet] at hp
        obtain ⟨b, hb, rfl⟩ := Option.map_eq_some_iff.1 hp
        exact q_eqAgg (neq := false) hE ho hd hst hks hx hy hb
      · injection hc with hc
        subst hc
        refine ⟨fun p hp => ?_, fun p st' h => by cases h⟩
        simp only [quiet] at hp
        obtain ⟨b, hb, rfl⟩ := Option.map_eq_some_iff.1 hp
        exact q_eqAgg (neq := true) hE ho hd hst hks hx hy hb
      · cases hc
    · cases hc
  · rename_i d x' y' h1 h2 h3 h4 hd hx hy
    split at hc
    · rename_i k z hk
      split at hc
      · rename_i hcn
        have hyz := isConstNil_spec hk hcn
        subst hyz
        split at hc
        · injection hc with hc
          subst hc
          refine ⟨fun p hp => ?_, fun p st' h => by cases h⟩
          simp only [quiet] at hp
          obtain ⟨b, hb, rfl⟩ := Option.map_eq_some_iff.1 hp
          exact q_eqNil (neq := false) hE hk ho hd hx hb
        · injection hc with hc
          subst hc
          refine ⟨fun p hp => ?_, fun p st' h => by cases h⟩
          simp only [quiet] at hp
          obtain ⟨b, hb, rfl⟩ := Option.map_eq_some_iff.1 hp
          exact q_eqNil (neq := true) hE hk ho hd hx hb
        · cases hc
      · cases hc
    · cases hc
  · cases hc
theorem step_conv (hI : Inv X st G w) (hE : EnvRep G (OwnF X st G) w n ρ a) {o : Oper} {s t : TypeId} {x : Operand} (ho : o.op = .convert s t x) {pi : PI} (hc : cConv P s t x = some pi) :
    (∀ p, quiet st.get (Opd.ev ρ) pi = some p → QOk P X st G w o a p) ∧ ∀ p st', loud st (Opd.ev ρ) pi = some (p, st') → LOk P X st G w o a p st' := by
  unfold cConv at hc
  split at hc
  · rename_i d k y hs ht hy
    injection hc with hc
    subst hc
    exact ⟨fun p hp => q_conv hE ho hs ht hy hp, fun p st' h => by cases h⟩
  · rename_i y hs ht hy
    injection hc with hc
    subst hc
    refine ⟨fun p hp => ?_, fun p st' h => by cases h⟩
    simp only [quiet] at hp
    split at hp
    · rename_i u hu
      injection hp with hp
      subst hp
      exact q_convStr hE ho hs ht hy hu
    · cases hp
  · rename_i e y hs ht hy
    split at hc
    · rename_i he
      injection hc with hc
      subst hc
      refine ⟨fun p hp => ?_, fun p st' h => ?_⟩
      · simp only [quiet] at hp
        split at hp
        · rename_i u hu
          injection hp with hp
          subst hp
          exact q_toBytes hI hE ho hs ht he hy hu
        · cases hp
      · simp only [loud] at h
        split at h
        · rename_i u hu
          injection h with h
          simp only [Prod.mk.injEq] at h
          obtain ⟨rfl, rfl⟩ := h
          exact l_toBytes hI hE ho hs ht he hy hu
        · cases h
    · cases hc
  · rename_i e y hs ht hy
    split at hc
    · rename_i he
      injection hc with hc
      subst hc
      refine ⟨fun p hp => ?_, fun p st' h => by cases h⟩
      simp only [quiet] at hp
      obtain ⟨es, h1, h2⟩ := Option.bind_eq_some_iff.1 hp
      obtain ⟨bs, h3, rfl⟩ := Option.map_eq_some_iff.1 h2
      exact q_toStr hI hE ho hs he ht hy h1 h3
    · cases hc
  · cases hc
theorem step_sound (hI : Inv X st G w) (hE : EnvRep G (OwnF X st G) w n ρ a) {o : Oper} {pi : PI} (hc : cOp P o.op = some pi) :
    (∀ p, quiet st.get (Opd.ev ρ) pi = some p → QOk P X st G w o a p) ∧ ∀ p st', loud st (Opd.ev ρ) pi = some (p, st') → LOk P X st G w o a p st' := by
  cases ho : o.op with
  | move x =>
    rw [ho] at hc
    obtain ⟨y, hy, rfl⟩ := Option.map_eq_some_iff.1 hc
    exact ⟨fun p hp => by injection hp with hp; subst hp; exact q_move hE (.inl ho) hy, fun p st' h => by cases h⟩
  | assign x =>
    rw [ho] at hc
    obtain ⟨y, hy, rfl⟩ := Option.map_eq_some_iff.1 hc
    exact ⟨fun p hp => by injection hp with hp; subst hp; exact q_move hE (.inr ho) hy, fun p st' h => by cases h⟩
  | pick c x y =>
    rw [ho] at hc
    simp only [cOp] at hc
    split at hc
    · rename_i c' x' y' h1 h2 h3
      injection hc with hc
      subst hc
      exact ⟨fun p hp => q_pick hE ho h1 h2 h3 hp, fun p st' h => by cases h⟩
    · cases hc
  | load t x =>
    rw [ho] at hc
    simp only [cOp] at hc
    refine ⟨fun p hp => q_load hI hE ho hc hp, fun p st' h => ?_⟩
    unfold cLoad at hc
    (repeat' split at hc) <;> first | (cases hc; done) | (injection hc with hc; subst hc; cases h)
  | store t x y =>
    rw [ho] at hc
    simp only [cOp] at hc
    refine ⟨fun p hp => ?_, fun p st' h => l_store hI hE ho hc h⟩
    unfold cStore at hc
    split at hc
    · injection hc with hc; subst hc; cases hp
    · cases hc
  | alloc t =>
    rw [ho] at hc
    obtain ⟨zs, hz, rfl⟩ := Option.map_eq_some_iff.1 hc
    refine ⟨fun p hp => (by cases hp), fun p st' h => ?_⟩
    simp only [loud, Option.some.injEq, Prod.mk.injEq] at h
    obtain ⟨rfl, rfl⟩ := h
    exact l_alloc hI ho hz
  | box t x =>
    rw [ho] at hc
    obtain ⟨y, hy, rfl⟩ := Option.map_eq_some_iff.1 hc
    refine ⟨fun p hp => (by cases hp), fun p st' h => ?_⟩
    simp only [loud] at h
    split at h
    · rename_i hj
      simp only [Option.some.injEq, Prod.mk.injEq] at h
      obtain ⟨rfl, rfl⟩ := h
      exact l_box hI hE ho hy hj
    · cases h
  | build t ps =>
    rw [ho] at hc
    simp only [cOp] at hc
    refine ⟨fun p hp => q_build hE ho hc hp, fun p st' h => ?_⟩
    unfold cBuild at hc
    (repeat' split at hc) <;> first | (cases hc; done) | (obtain ⟨qs, _, rfl⟩ := Option.map_eq_some_iff.1 hc; cases h)
  | buildSlice t l ps =>
    rw [ho] at hc
    simp only [cOp] at hc
    have hform : ∃ sz zero qs, pi = .buildSl sz zero qs := by
      unfold cBuildSl at hc
      (repeat' split at hc) <;> first | (cases hc; done) | (obtain ⟨qs, _, rfl⟩ := Option.map_eq_some_iff.1 hc; exact ⟨_, _, _, rfl⟩)
    obtain ⟨sz, zero, qs, rfl⟩ := hform
    refine ⟨fun p hp => ?_, fun p st' h => ?_⟩
    · simp only [quiet] at hp
      split at hp
      · obtain ⟨es, he, rfl⟩ := Option.map_eq_some_iff.1 hp
        exact q_buildSl hI hE ho hc he
      · cases hp
    · simp only [loud] at h
      split at h
      · obtain ⟨es, he, h⟩ := Option.map_eq_some_iff.1 h
        simp only [Prod.mk.injEq] at h
        obtain ⟨rfl, rfl⟩ := h
        exact l_buildSl hI hE ho hc he
      · cases h
  | fieldAddr s x f =>
    rw [ho] at hc
    simp only [cOp] at hc
    refine ⟨fun p hp => q_fieldAddr hE ho hc hp, fun p st' h => ?_⟩
    unfold cFieldAddr at hc
    (repeat' split at hc) <;> first | (cases hc; done) | (injection hc with hc; subst hc; cases h)
  | field s x f =>
    rw [ho] at hc
    simp only [cOp] at hc
    refine ⟨fun p hp => q_field hE ho hc hp, fun p st' h => ?_⟩
    unfold cField at hc
    (repeat' split at hc) <;> first | (cases hc; done) | (injection hc with hc; subst hc; cases h)
  | indexAddr t x i =>
    rw [ho] at hc
    simp only [cOp] at hc
    refine ⟨fun p hp => q_indexAddr hI hE ho hc hp, fun p st' h => ?_⟩
    unfold cIndexAddr at hc
    (repeat' split at hc) <;> first | (cases hc; done) | (injection hc with hc; subst hc; cases h)
  | index t x i =>
    rw [ho] at hc
    simp only [cOp] at hc
    refine ⟨fun p hp => q_index hE ho hc hp, fun p st' h => ?_⟩
    unfold cIndex at hc
    (repeat' split at hc) <;> first | (cases hc; done) | (injection hc with hc; subst hc; cases h)
  | slice t x lo hi mx =>
    rw [ho] at hc
    simp only [cOp] at hc
    refine ⟨fun p hp => q_slice hI hE ho hc hp, fun p st' h => ?_⟩
    unfold cSlice at hc
    (repeat' split at hc) <;> first | (cases hc; done) | (injection hc with hc; subst hc; cases h)
  | convert s t x =>
    rw [ho] at hc
    exact step_conv hI hE ho hc
  | unOp op t x =>
    rw [ho] at hc
    simp only [cOp] at hc
    cases op with
    | neg =>
      obtain ⟨y, hy, rfl⟩ := Option.map_eq_some_iff.1 hc
      exact ⟨fun p hp => q_neg hE ho hy hp, fun p st' h => by cases h⟩
    | not =>
      obtain ⟨y, hy, rfl⟩ := Option.map_eq_some_iff.1 hc
      exact ⟨fun p hp => q_not hE ho hy hp, fun p st' h => by cases h⟩
    | _ => cases hc
  | binOp op t x y t' =>
    rw [ho] at hc
    exact step_bin hI hE ho hc
  | extract x i =>
    rw [ho] at hc
    obtain ⟨y, hy, rfl⟩ := Option.map_eq_some_iff.1 hc
    exact ⟨fun p hp => q_extract hE ho hy hp, fun p st' h => by cases h⟩
  | makeInterface t x =>
    rw [ho] at hc
    simp only [cOp] at hc
    split at hc
    · rename_i ht
      obtain ⟨y, hy, rfl⟩ := Option.map_eq_some_iff.1 hc
      exact ⟨fun p hp => by injection hp with hp; subst hp; exact q_mkIface hE ho ht hy, fun p st' h => by cases h⟩
    · cases hc
  | makeFunc fn first caps =>
    rw [ho] at hc
    simp only [cOp] at hc
    split at hc
    · rename_i f hf
      have : first = #[] := by cases first; simp_all
      subst this
      obtain ⟨ys, hy, rfl⟩ := Option.map_eq_some_iff.1 hc
      exact ⟨fun p hp => by injection hp with hp; subst hp; exact q_mkFunc hE ho hy, fun p st' h => by cases h⟩
    · cases hc
  | makeSlice t l c =>
    rw [ho] at hc
    simp only [cOp] at hc
    refine ⟨fun p hp => ?_, fun p st' h => l_makeSl hI hE ho hc h⟩
    unfold cMakeSl at hc
    (repeat' split at hc) <;> first | (cases hc; done) | (injection hc with hc; subst hc; cases hp)
  | nilCheck x =>
    rw [ho] at hc
    obtain ⟨y, hy, rfl⟩ := Option.map_eq_some_iff.1 hc
    exact ⟨fun p hp => q_nilCheck hE ho hy hp, fun p st' h => by cases h⟩
  | call c =>
    rw [ho] at hc
    simp only [cOp] at hc
    obtain ⟨callee, args, argTypes⟩ := c
    split at hc
    · rename_i b hb
      simp only at hb
      subst hb
      exact step_builtin hI hE ho hc
    · split at hc
      · injection hc with hc
        subst hc
        exact ⟨fun p hp => (by cases hp), fun p st' h => (by cases h)⟩
      · cases hc
    · cases hc
  | makeMap t r =>
    rw [ho] at hc
    cases r with
    | some r => cases hc
    | none =>
      injection hc with hc
      subst hc
      refine ⟨fun p hp => (by cases hp), fun p st' h => ?_⟩
      simp only [loud, Option.some.injEq, Prod.mk.injEq] at h
      obtain ⟨rfl, rfl⟩ := h
      exact l_makeMap hI ho
  | lookup t x k ok =>
    rw [ho] at hc
    simp only [cOp] at hc
    refine ⟨fun p hp => q_mapLook hI hE ho hc hp, fun p st' h => ?_⟩
    unfold cLook at hc
    (repeat' split at hc) <;> first | (cases hc; done) | (injection hc with hc; subst hc; cases h)
  | mapUpdate t m k x =>
    rw [ho] at hc
    simp only [cOp] at hc
    refine ⟨fun p hp => ?_, fun p st' h => l_mapPut hI hE (.inl ho) hc h⟩
    unfold cMapPut at hc
    (repeat' split at hc) <;> first | (cases hc; done) | (injection hc with hc; subst hc; cases hp)
  | insert t m k x =>
    rw [ho] at hc
    simp only [cOp] at hc
    refine ⟨fun p hp => ?_, fun p st' h => l_mapPut hI hE (.inr ho) hc h⟩
    unfold cMapPut at hc
    (repeat' split at hc) <;> first | (cases hc; done) | (injection hc with hc; subst hc; cases hp)
  | _ => rw [ho] at hc; cases hc
end
end Go.AM
set_option linter.unusedVariables false
set_option linter.unusedSimpArgs false
namespace Go.AM
open Go.RowKit
variable [Gl]
inductive View (live : Bool) (look : Nat → Option Tok) : PV → PV → Prop
  | junk (p) : View live look p .junk
  | bool (b) : View live look (.bool b) (.bool b)
  | int (k n) : View live look (.int k n) (.int k n)
  | str (s) : View live look (.str s) (.str s)
  | nilPtr : View live look .nilPtr .nilPtr
  | iptr (cs ds : List PV) (off) (hl : cs.length = ds.length) (h : ∀ (i : Nat) (c d : PV), cs[i]? = some c → ds[i]? = some d → View live look c d) : View live look (.iptr cs off) (.iptr ds off)
  | ptr (t off : Nat) (cs ds : List PV) (hg : look t = some (.var cs)) (hlv : live = true) (hl : cs.length = ds.length) (h : ∀ (i : Nat) (c d : PV), cs[i]? = some c → ds[i]? = some d → View live look c d) : View live look (.ptr t off) (.iptr ds off)
  | nilSl : View live look .nilSl .nilSl
  | sl (xs ys : List (List PV)) (full) (hl : xs.length = ys.length) (hj : ∀ (j : Nat) (cs ds : List PV), xs[j]? = some cs → ys[j]? = some ds → cs.length = ds.length)
      (h : ∀ (j : Nat) (cs ds : List PV) (i : Nat) (c d : PV), xs[j]? = some cs → ys[j]? = some ds → cs[i]? = some c → ds[i]? = some d → View live look c d) : View live look (.sl xs full) (.sl ys full)
  | osl (t g off len full sz es lv) (ys : List (List PV)) (hg : look t = some (.row g sz es lv)) (hlv : live = true ∨ lv = false) (hb : off + len ≤ es.length) (hl : ((es.drop off).take len).length = ys.length)
      (hj : ∀ (j : Nat) (cs ds : List PV), ((es.drop off).take len)[j]? = some cs → ys[j]? = some ds → cs.length = ds.length)
      (h : ∀ (j : Nat) (cs ds : List PV) (i : Nat) (c d : PV), ((es.drop off).take len)[j]? = some cs → ys[j]? = some ds → cs[i]? = some c → ds[i]? = some d → View live look c d) : View live look (.osl t g off len full) (.sl ys full)
  | func (f) (cs ds : List PV) (hl : cs.length = ds.length) (h : ∀ (i : Nat) (c d : PV), cs[i]? = some c → ds[i]? = some d → View live look c d) : View live look (.func f cs) (.func f ds)
  | nilFunc : View live look .nilFunc .nilFunc
  | iface (ty v v') (h : View live look v v') : View live look (.iface ty v) (.iface ty v')
  | nilIface : View live look .nilIface .nilIface
  | agg (cs ds : List PV) (hl : cs.length = ds.length) (h : ∀ (i : Nat) (c d : PV), cs[i]? = some c → ds[i]? = some d → View live look c d) : View live look (.agg cs) (.agg ds)
  | tuple (cs ds : List PV) (hl : cs.length = ds.length) (h : ∀ (i : Nat) (c d : PV), cs[i]? = some c → ds[i]? = some d → View live look c d) : View live look (.tuple cs) (.tuple ds)
def noG : Gh := fun _ _ => none
section
variable {P : Program} {X : Cx} {st : St} {G : Gh} {w : World} {n : Nat} {ρ : Env} {a : Act}
theorem get_some {α : Type} {cs : List α} {β : Type} {ds : List β} (hl : cs.length = ds.length) {i : Nat} {d : β} (h : ds[i]? = some d) : ∃ c, cs[i]? = some c := by
  have := (List.getElem?_eq_some_iff.1 h).1
  exact ⟨_, List.getElem?_eq_getElem (by omega)⟩
theorem view_rep (hI : Inv X st G w) {live : Bool} {own : Nat → Prop} (ho : ∀ b, own b → OwnF X st G b) (hlv : live = true → ∀ b, own b → X.F b) {p q : PV} (hv : View live st.get p q) : ∀ {v : Value}, Rep G (OwnF X st G) w v p → Rep noG own w v q := by
  induction hv with
  | junk p => intro v _; exact .junk v
  | bool b => intro v h; rw [rep_bool h]; exact .bool b
  | int k n => intro v h; rw [rep_int h]; exact .int k n
  | str s => intro v h; rw [rep_str h]; exact .str s
  | nilPtr => intro v h; cases h; exact .nilPtr
  | iptr cs ds off hl h ih =>
    intro v hr
    cases hr with
    | iptr _ _ b o u hc hr' =>
      exact .iptr ds off b o u (fun i d hd => by
        obtain ⟨c, hcc⟩ := get_some hl hd
        exact ⟨(hc i c hcc).1, fun hob => (hc i c hcc).2 (ho b hob)⟩) (fun i d hd => by
        obtain ⟨c, hcc⟩ := get_some hl hd
        exact ih i c d hcc hd (hr' i c hcc))
  | ptr t off cs ds hg hlive hl h ih =>
    intro v hr
    cases hr with
    | ptr _ _ L hG =>
      obtain ⟨L', k1, k2, k3⟩ := hI.toks t _ hg
      rw [k1] at hG
      injection hG with hG
      subst hG
      have hno : ¬ own L'.blk := fun hob => hI.f_own (hlv hlive _ hob) ⟨t, _, L', hg, rfl, k1, rfl⟩
      have hx : ∀ i, ∃ v, ∀ c, cs[i]? = some c → cellAt w L'.blk (L'.off + i) = some v ∧ Rep G (OwnF X st G) w v c := by
        intro i
        cases hci : cs[i]? with
        | none => exact ⟨undef, fun c h => by cases h⟩
        | some c =>
          obtain ⟨v, e1, e2⟩ := k3 i c hci
          exact ⟨v, fun c' h => by injection h with h; subst h; exact ⟨e1, e2⟩⟩
      obtain ⟨u, hu⟩ := Classical.axiomOfChoice hx
      exact .iptr ds off L'.blk L'.off u (fun i d hd => by
        obtain ⟨c, hcc⟩ := get_some hl hd
        exact ⟨(hu i c hcc).1, hno⟩) (fun i d hd => by
        obtain ⟨c, hcc⟩ := get_some hl hd
        exact ih i c d hcc hd (hu i c hcc).2)
  | nilSl => intro v h; cases h; exact .nilSl
  | sl xs ys full hl hj h ih =>
    intro v hr
    cases hr with
    | sl _ _ b o cap sz adr u hcap hfull hadr hsz hc hr' =>
      rw [hl]
      refine .sl ys full b o cap sz adr u (by omega) (fun hf => by rw [hfull hf, hl]) hadr (fun j ds hd => ?_) (fun j ds i d hd hdi => ?_) (fun j ds i d hd hdi => ?_)
      · obtain ⟨cs, hcs⟩ := get_some hl hd
        rw [← hj j cs ds hcs hd]
        exact hsz j cs hcs
      · obtain ⟨cs, hcs⟩ := get_some hl hd
        obtain ⟨c, hcc⟩ := get_some (hj j cs ds hcs hd) hdi
        have := hc j cs i c hcs hcc
        exact ⟨this.1, fun hob => this.2 (ho b hob)⟩
      · obtain ⟨cs, hcs⟩ := get_some hl hd
        obtain ⟨c, hcc⟩ := get_some (hj j cs ds hcs hd) hdi
        exact ih j cs ds i c d hcs hd hcc hdi (hr' j cs i c hcs hcc)
  | osl t g off len full sz es lv ys hg hlive hb hl hj h ih =>
    intro v hr
    cases hr with
    | osl _ _ _ _ _ L cap ad hG hcap hL hfull ha hspot =>
      obtain ⟨L', k1, k2, k3, k4, k5, k6⟩ := hI.toks t _ hg
      rw [k1] at hG
      injection hG with hG
      subst hG
      have hlen : len = ys.length := by rw [← hl]; simp; omega
      have had : ad = ⟨ad.block, ad.off, none⟩ := by cases ad; simp at hspot; subst hspot; rfl
      have hno : ¬ own L'.blk := by
        intro hob
        rcases hlive with hl1 | hl1
        · cases lv with
          | true => exact hI.f_own (hlv hl1 _ hob) ⟨t, _, L', hg, rfl, k1, rfl⟩
          | false => exact k6 rfl (ho _ hob)
        · exact k6 hl1 (ho _ hob)
      have hget : ∀ {j : Nat} {cs : List PV}, ((es.drop off).take len)[j]? = some cs → es[off + j]? = some cs := by
        intro j cs hjc
        rw [List.getElem?_take] at hjc
        split at hjc
        · rwa [List.getElem?_drop] at hjc
        · cases hjc
      have hu : ∀ (j : Nat), ∃ f : Nat → Value, ∀ (cs : List PV) (i : Nat) (c : PV), ((es.drop off).take len)[j]? = some cs → cs[i]? = some c → cellAt w L'.blk (L'.off + (off + j) * L'.sz + i) = some (f i) ∧ Rep G (OwnF X st G) w (f i) c := by
        intro j
        have hx : ∀ i, ∃ v, ∀ (cs : List PV) (c : PV), ((es.drop off).take len)[j]? = some cs → cs[i]? = some c → cellAt w L'.blk (L'.off + (off + j) * L'.sz + i) = some v ∧ Rep G (OwnF X st G) w v c := by
          intro i
          cases hcs : ((es.drop off).take len)[j]? with
          | none => exact ⟨undef, fun cs c h => by cases h⟩
          | some cs =>
            cases hci : cs[i]? with
            | none => exact ⟨undef, fun cs' c h h' => by injection h with h; subst h; rw [hci] at h'; cases h'⟩
            | some c =>
              obtain ⟨v, e1, e2⟩ := (k5 _ _ (hget hcs)).2 i c hci
              refine ⟨v, fun cs' c' h h' => ?_⟩
              injection h with h
              subst h
              rw [hci] at h'
              injection h' with h'
              subst h'
              rw [k2]
              exact ⟨e1, e2⟩
        obtain ⟨f, hf⟩ := Classical.axiomOfChoice hx
        exact ⟨f, fun cs i c h h' => hf i cs c h h'⟩
      obtain ⟨u, hu⟩ := Classical.axiomOfChoice hu
      rw [had, hlen]
      refine .sl ys full ad.block ad.off cap L'.sz ⟨ad.block, ad.off, none⟩ u (by omega) (fun hf => by rw [hfull hf, hlen]) (fun _ => rfl) (fun j ds hd => ?_) (fun j ds i d hd hdi => ?_) (fun j ds i d hd hdi => ?_)
      · obtain ⟨cs, hcs⟩ := get_some hl hd
        rw [← hj j cs ds hcs hd, k2]
        exact (k5 _ _ (hget hcs)).1
      · obtain ⟨cs, hcs⟩ := get_some hl hd
        obtain ⟨c, hcc⟩ := get_some (hj j cs ds hcs hd) hdi
        have hjl := (List.getElem?_eq_some_iff.1 hd).1
        have := ha (by omega)
        subst this
        have := (hu j cs i c hcs hcc).1
        rw [Nat.add_mul, ← Nat.add_assoc] at this
        exact ⟨this, hno⟩
      · obtain ⟨cs, hcs⟩ := get_some hl hd
        obtain ⟨c, hcc⟩ := get_some (hj j cs ds hcs hd) hdi
        exact ih j cs ds i c d hcs hd hcc hdi (hu j cs i c hcs hcc).2
  | func f cs ds hl h ih =>
    intro v hr
    cases hr with
    | func _ _ vs hs hr' => exact .func f ds vs (by omega) (fun i d hd => by
        obtain ⟨c, hcc⟩ := get_some hl hd
        exact ih i c d hcc hd (hr' i c hcc))
  | nilFunc => intro v h; cases h; exact .nilFunc
  | iface ty v0 v1 h ih =>
    intro v hr
    cases hr with
    | iface _ vv _ hr' => exact .iface ty vv v1 (ih hr')
  | nilIface => intro v h; cases h; exact .nilIface
  | agg cs ds hl h ih =>
    intro v hr
    cases hr with
    | agg _ vs hs hr' => exact .agg ds vs (by omega) (fun i d hd => by
        obtain ⟨c, hcc⟩ := get_some hl hd
        exact ih i c d hcc hd (hr' i c hcc))
  | tuple cs ds hl h ih =>
    intro v hr
    cases hr with
    | tuple _ vs hs hr' => exact .tuple ds vs (by omega) (fun i d hd => by
        obtain ⟨c, hcc⟩ := get_some hl hd
        exact ih i c d hcc hd (hr' i c hcc))
def emptySt : St := ⟨0, 0, []⟩
def callCx (w : World) (F : Nat → Prop) : Cx := ⟨w, noG, fun _ => False, F, fun _ => False⟩
theorem own_empty {G : Gh} {b : Nat} (h : Own emptySt G b) : False := by
  obtain ⟨t, k, L, h1, _⟩ := h
  cases h1
theorem inv_empty {F : Nat → Prop} (hF : ∀ b, F b → b < w.heap.size) (hg : Gl.ok w) : Inv (callCx w F) emptySt noG w :=
  ⟨fun t g L h => (by cases h), Nat.le_refl _, fun t g L h => (by cases h), fun t k h => (by cases h), fun t k g L h => (by cases h), fun t t' k k' L L' h => (by cases h), fun t g L h => (by cases h), fun t k h => (by cases h), Chg.refl _ _,
    fun b h => (own_empty h).elim, fun b h => ⟨hF b h, fun h => h⟩, fun w' h => Gl.stab (Chg.below h) hg⟩
theorem ownF_empty {F : Nat → Prop} : OwnF (callCx w F) emptySt noG = F := by
  funext b
  exact propext ⟨fun h => h.elim id (fun h => (own_empty h).elim), .inl⟩
def Parts (st : St) (q τ : List (Nat × Tok)) : Prop := ∀ t, getA t st.toks = (match getA t q with | some k => some k | none => getA t τ) ∧ (getA t q = none ∨ getA t τ = none)
def partSt (st : St) (τ : List (Nat × Tok)) : St := ⟨st.next, st.next, τ⟩
def partCx (X : Cx) (st : St) (G : Gh) (w : World) (q τ : List (Nat × Tok)) : Cx := ⟨w, G, Own (partSt st τ) G, fun b => X.F b ∨ Own (partSt st q) G b, fun t => ∃ k, getA t τ = some k⟩
def joinSt (st : St) (q : List (Nat × Tok)) (st1 : St) : St := ⟨st.base, st1.next, q ++ st1.toks⟩
theorem getA_append {α : Type} (t : Nat) : ∀ (q τ : List (Nat × α)), getA t (q ++ τ) = match getA t q with | some k => some k | none => getA t τ
  | [], τ => rfl
  | (k, v) :: q, τ => by
    simp only [List.cons_append, getA]
    split
    · rfl
    · exact getA_append t q τ
theorem parts_q {q τ : List (Nat × Tok)} (hp : Parts st q τ) {t : Nat} {k : Tok} (h : getA t q = some k) : st.get t = some k := by
  unfold St.get
  rw [(hp t).1, h]
theorem parts_τ {q τ : List (Nat × Tok)} (hp : Parts st q τ) {t : Nat} {k : Tok} (h : getA t τ = some k) : st.get t = some k := by
  unfold St.get
  rw [(hp t).1]
  rcases (hp t).2 with h1 | h1
  · rw [h1, h]
  · rw [h1] at h; cases h
theorem own_part {q τ : List (Nat × Tok)} (hp : Parts st q τ) {b : Nat} : Own st G b ↔ Own (partSt st q) G b ∨ Own (partSt st τ) G b := by
  constructor
  · rintro ⟨t, k, L, h1, h2, h3, h4⟩
    unfold St.get at h1
    rw [(hp t).1] at h1
    split at h1
    · rename_i k' hk
      injection h1 with h1
      subst h1
      exact .inl ⟨t, k', L, hk, h2, h3, h4⟩
    · exact .inr ⟨t, k, L, h1, h2, h3, h4⟩
  · rintro (⟨t, k, L, h1, h2, h3, h4⟩ | ⟨t, k, L, h1, h2, h3, h4⟩)
    · exact ⟨t, k, L, parts_q hp h1, h2, h3, h4⟩
    · exact ⟨t, k, L, parts_τ hp h1, h2, h3, h4⟩
theorem ownF_part {q τ : List (Nat × Tok)} (hp : Parts st q τ) : OwnF (partCx X st G w q τ) (partSt st τ) G = OwnF X st G := by
  funext b
  refine propext ⟨fun h => ?_, fun h => ?_⟩
  · rcases h with (h | h) | h
    · exact .inl h
    · exact .inr ((own_part hp).2 (.inl h))
    · exact .inr ((own_part hp).2 (.inr h))
  · rcases h with h | h
    · exact .inl (.inl h)
    · rcases (own_part hp).1 h with h | h
      · exact .inl (.inr h)
      · exact .inr h
theorem inv_part (hI : Inv X st G w) {q τ : List (Nat × Tok)} (hp : Parts st q τ) : Inv (partCx X st G w q τ) (partSt st τ) G w := by
  refine ⟨fun t g L h => hI.low t g L h, Nat.le_refl _, fun t g L h => ⟨(hI.low t g L h).1, h⟩, fun t k h => ?_, fun t k g L h h' => hI.gens t k g L (parts_τ hp h) h', ?_, fun t g L h => .inl h, fun t k h => .inl ⟨k, h⟩, Chg.refl _ _, fun b h => .inl h, fun b h => ?_, fun w' h => ?_⟩
  · rw [ownF_part hp]
    exact hI.toks t k (parts_τ hp h)
  · intro t t' k k' L L' h1 h2
    exact hI.inj t t' k k' L L' (parts_τ hp h1) (parts_τ hp h2)
  · have hlt : b < w.heap.size := by
      rcases h with h | h
      · exact own_lt_size hI (.inl h)
      · exact own_lt_size hI (.inr ((own_part hp).2 (.inl h)))
    refine ⟨hlt, fun hτ => ?_⟩
    rcases h with h | ⟨t, k, L, h1, h2, h3, h4⟩
    · exact hI.f_own h ((own_part hp).2 (.inr hτ))
    · obtain ⟨t', k', L', e1, e2, e3, e4⟩ := hτ
      have := hI.inj t t' k k' L L' (parts_q hp h1) (parts_τ hp e1) h2 e2 h3 e3 (by omega)
      subst this
      have h1' : getA t q = some k := h1
      have e1' : getA t τ = some k' := e1
      rcases (hp t).2 with hz | hz
      · rw [hz] at h1'; cases h1'
      · rw [hz] at e1'; cases e1'
  · refine hI.glob w' (hI.frame.trans (h : Chg (Own (partSt st τ) G) w w') fun i hi ho => ?_)
    rcases hI.ownb i ((own_part hp).2 (.inr ho)) with h1 | h1
    · exact h1
    · omega
theorem inv_join (hI : Inv X st G w) {q τ : List (Nat × Tok)} (hp : Parts st q τ) {st1 : St} {G1 : Gh} {w1 : World} (hb : st1.base = st.next) (hI1 : Inv (partCx X st G w q τ) st1 G1 w1) :
    Inv X (joinSt st q st1) G1 w1 ∧ Later X st G w (joinSt st q st1) G1 w1 := by
  have hgh : ∀ t g L, G t g = some L → G1 t g = some L := fun t g L h => (hI1.old t g L h).2
  have hchg : Chg (Own (partSt st τ) G) w w1 := hI1.frame
  have hget : ∀ {t : Nat} {k : Tok}, (joinSt st q st1).get t = some k → getA t q = some k ∨ (getA t q = none ∧ st1.get t = some k) := by
    intro t k h
    unfold St.get joinSt at h
    rw [getA_append] at h
    split at h
    · rename_i k' hk
      injection h with h
      subst h
      exact .inl hk
    · rename_i hk
      exact .inr ⟨hk, h⟩
  have hbase := hI.base
  have hbase1 := hI1.base
  have hqgen : ∀ {t : Nat} {k : Tok}, getA t q = some k → ∀ {g : Nat} {L : Loc}, G1 t g = some L → G t g = some L := by
    intro t k hk g L h
    rcases hI1.newg t g L h with h1 | ⟨k', h1⟩ | h1
    · exact h1
    · rcases (hp t).2 with h2 | h2
      · rw [hk] at h2; cases h2
      · rw [h1] at h2; cases h2
    · have := get_lt hI (parts_q hp hk)
      omega
  have hqown : ∀ {t : Nat} {k : Tok} {L : Loc}, getA t q = some k → k.live = true → G1 t k.gen = some L → Own (partSt st q) G L.blk := by
    intro t k L hk hlv h
    exact ⟨t, k, L, hk, hlv, hqgen hk h, rfl⟩
  have hown : ∀ b, Own (joinSt st q st1) G1 b → Own (partSt st q) G b ∨ Own st1 G1 b := by
    rintro b ⟨t, k, L, h1, h2, h3, h4⟩
    rcases hget h1 with h5 | ⟨h5, h6⟩
    · exact .inl (h4 ▸ hqown h5 h2 h3)
    · exact .inr ⟨t, k, L, h6, h2, h3, h4⟩
  have hla : Later X st G w (joinSt st q st1) G1 w1 := by
    refine ⟨hgh, hchg.mono (fun b _ h => (own_part hp).2 (.inr h)), fun b hbo => ?_⟩
    rcases hbo with h | h
    · exact .inl (.inl h)
    · rcases hown b h with h | h
      · exact .inl (.inr ((own_part hp).2 (.inl h)))
      · rcases hI1.ownb b h with h | h
        · exact .inl (.inr ((own_part hp).2 (.inr h)))
        · exact .inr h
  have hqS : ∀ {b : Nat}, Own (partSt st q) G b → ¬ Own (partSt st τ) G b := by
    intro b h1 h2
    exact ((inv_part hI hp).foreign b (.inr h1)).2 h2
  refine ⟨⟨fun t g L h => hI1.low t g L h, by simp only [joinSt]; omega, fun t g L h => ?_, fun t k h => ?_, fun t k g L h hg => ?_, ?_, fun t g L h => ?_, fun t k h => ?_, ?_, fun b h => ?_, hI.foreign, hI.glob⟩, hla⟩
  · have := hI.old t g L h
    exact ⟨this.1, hgh _ _ _ this.2⟩
  · rcases hget h with h1 | ⟨h1, h2⟩
    · refine (hI.toks t k (parts_q hp h1)).keep hgh hchg (fun b hb => .inr ((own_part hp).2 (.inr hb))) hla.own (fun L hL => ⟨fun hS => ?_, (hI.low _ _ _ hL).2⟩)
      cases hlv : k.live with
      | true => exact hqS ⟨t, k, L, h1, hlv, hL, rfl⟩ hS
      | false =>
        have := hI.toks t k (parts_q hp h1)
        cases k with
        | var cs => cases hlv
        | mp es => cases hlv
        | row g sz es lv =>
          obtain ⟨L3, e1, e2, e3, e4, e5, e6⟩ := this
          simp only [Tok.gen] at hL
          rw [hL] at e1
          injection e1 with e1
          subst e1
          exact e6 hlv (.inr ((own_part hp).2 (.inr hS)))
    · have := hI1.toks t k h2
      refine this.keep (fun _ _ _ h => h) (Chg.refl (fun _ => False) w1) (fun _ h => h.elim) (fun b hb => .inl ?_) (fun L hL => ⟨fun h => h, (hI1.low _ _ _ hL).2⟩)
      rcases hb with hb | hb
      · exact .inl (.inl hb)
      · rcases hown b hb with hb | hb
        · exact .inl (.inr hb)
        · exact .inr hb
  · rcases hget h with h1 | ⟨h1, h2⟩
    · exact hI.gens t k g L (parts_q hp h1) (hqgen h1 hg)
    · exact hI1.gens t k g L h2 hg
  · intro t t' k k' L L' h1 h2 l1 l2 g1 g2 he
    rcases hget h1 with a1 | ⟨a1, b1⟩ <;> rcases hget h2 with a2 | ⟨a2, b2⟩
    · exact hI.inj t t' k k' L L' (parts_q hp a1) (parts_q hp a2) l1 l2 (hqgen a1 g1) (hqgen a2 g2) he
    · exfalso
      have h3 := hqown a1 l1 g1
      have h4 : Own st1 G1 L.blk := ⟨t', k', L', b2, l2, g2, by omega⟩
      exact hI1.f_own (.inr h3) h4
    · exfalso
      have h3 := hqown a2 l2 g2
      have h4 : Own st1 G1 L'.blk := ⟨t, k, L, b1, l1, g1, by omega⟩
      exact hI1.f_own (.inr h3) h4
    · exact hI1.inj t t' k k' L L' b1 b2 l1 l2 g1 g2 he
  · rcases hI1.newg t g L h with h1 | ⟨k', h1⟩ | h1
    · exact hI.newg t g L h1
    · exact .inr (hI.dom t k' (parts_τ hp h1))
    · simp only [joinSt]
      exact .inr (.inr (by omega))
  · rcases hget h with h1 | ⟨h1, h2⟩
    · exact hI.dom t k (parts_q hp h1)
    · rcases hI1.dom t k h2 with ⟨k', h3⟩ | h3
      · exact hI.dom t k' (parts_τ hp h3)
      · simp only [joinSt]
        exact .inr (by omega)
  · exact hI.frame.trans hchg (fun b hb hS => by
      rcases hI.ownb b ((own_part hp).2 (.inr hS)) with h | h
      · exact h
      · omega)
  · rcases hown b h with h | h
    · exact hI.ownb b ((own_part hp).2 (.inl h))
    · rcases hI1.ownb b h with h | h
      · exact hI.ownb b ((own_part hp).2 (.inr h))
      · exact .inr (Nat.le_trans hI.frame.size h)
end
end Go.AM
