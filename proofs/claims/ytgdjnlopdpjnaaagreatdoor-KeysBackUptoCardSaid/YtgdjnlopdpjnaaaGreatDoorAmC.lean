/- The abstract machine: AM14: append, copy, texts turned to bytes of one's own: the steps. · AM15: copy; texts turned to bytes of one's own; the operations all together. · AM16: the instruction of an operation; that its step is the operation's. · AM17: values without what is one's own; states parted and joined; code made plain; what a run is. · AM18: code made plain; what a run is. -/
import Derived.Test.YtgdjnlopdpjnaaaGreatDoorAmB
import Derived.Lib.AppendZeros
set_option linter.unusedSectionVars false
set_option linter.unusedVariables false
set_option linter.unusedSimpArgs false
namespace Go.AM
open Go.RowKit
variable [Gl]
section
variable {P : Program} {X : Cx} {st : St} {G : Gh} {w : World} {n : Nat} {ρ : Env} {a : Act}
theorem Z7b {sz : Nat} {a b : List (List PV)} (h : Z0x sz a = true) (k : Z0x sz b = true) : Z0x sz (a ++ b) = true := by
  simp only [Z0x, List.all_append, Bool.and_eq_true] at *
  exact ⟨h, k⟩
theorem Z85 {sz : Nat} {es : List (List PV)} (h : Z0x sz es = true) (l m : Nat) : Z0x sz ((es.drop l).take m) = true :=
  List.all_eq_true.2 fun cs hcs => (List.all_eq_true.1 h) cs (List.mem_of_mem_drop (List.mem_of_mem_take hcs))
theorem Zjb (hI : Inv X st G w) {t t' e : TypeId} {d : TypeDesc} {i : TypeInfo} {z : Value} (hT : AppTy P t t' e d i z) {v : Value} {p : PV} (hr : Rep G (Z6 X st G) w v p) {xs : List (List PV)} (hxs : Z1b st.get p = some xs) (hax : Z0x i.size xs = true)
    {sLen sCap : Nat} {base : Option Addr} (hv : v = .slice base sLen sCap) {xv : Value} {x : PV} (hrx : Rep G (Z6 X st G) w xv x) {src : List (List PV)} (hsrc : Z6r st x = some src) (has : Z0x i.size src = true) (hroom : sCap < sLen + src.length) (hbig : (sLen + src.length) * i.bytes ≤ Z06) (ty : TypeId) :
    ∃ (cap : Nat) (w' : World) (c : Array Value), (Builtin.append_ #[t, t'] ty #[v, xv]).run P w = .ok (.slice (some ⟨w.heap.size, 0, none⟩) (xs.length + src.length) cap) w' ∧ Below w.heap.size w w' ∧ w.heap.size < w'.heap.size ∧ w'.heap[w.heap.size]? = some (.cells c e (0, 0)) ∧ (xs ++ src).length ≤ cap ∧ c.size = cap * i.size ∧
      ∀ (j k : Nat) (cs : List PV) (q : PV), (xs ++ src)[j]? = some cs → cs[k]? = some q → Rep G (Z6 X st G) w (c.getD (j * i.size + k) undef) q := by
  obtain ⟨ad, cap0, hv0, _⟩ := Zj0 hI hr hxs hax
  have hlen : sLen = xs.length ∧ base = ad ∧ sCap = cap0 := by
    rw [hv] at hv0
    injection hv0 with h1 h2 h3
    exact ⟨h2, h1, h3⟩
  obtain ⟨rfl, rfl, rfl⟩ := hlen
  subst hv
  obtain ⟨s1, s2⟩ := src_run (P := P) hI hrx hsrc has
  obtain ⟨us, u1, u2, u3⟩ := s2 src.length (Nat.le_refl _)
  obtain ⟨o1, o2⟩ := src_slice (P := P) hI hr hxs hax
  obtain ⟨old, v1, v2, v3⟩ := o2 xs.length (Nat.le_refl _)
  obtain ⟨cap, w', hcap, hrun, hb, hsz, hnew⟩ := Zjj hT s1 u1 v1 hroom hbig ty
  have hzc := size_zeroCells z.cells (cap - (xs.length + src.length))
  have hold : old.size = xs.length * i.size := v2
  have hall := Z7b hax has
  refine ⟨cap, w', _, hrun, hb, hsz, hnew, by simpa using hcap, ?_, ?_⟩
  · simp only [Array.size_append, hold, u2, hzc, hT.hzs]
    rw [← Nat.add_mul, ← Nat.add_mul]
    congr 1
    omega
  · intro j k cs c hj hk
    have hk2 : k < i.size := by rw [← Z0o hall hj]; exact (List.getElem?_eq_some_iff.1 hk).1
    rw [List.getElem?_append] at hj
    split at hj
    · rename_i hjl
      have hlt : j * i.size + k < old.size := by rw [hold]; exact Z1s hjl hk2
      have := v3 j cs k c hjl hj hk
      rw [Array.getD_eq_getD_getElem?, Array.getElem?_append_left (by rw [Array.size_append]; omega), Array.getElem?_append_left hlt]
      rwa [Array.getD_eq_getD_getElem?] at this
    · rename_i hjl
      have hjl2 := (List.getElem?_eq_some_iff.1 hj).1
      have hlt : (j - xs.length) * i.size + k < us.size := by rw [u2]; exact Z1s hjl2 hk2
      have := u3 (j - xs.length) cs k c hjl2 hj hk
      have hj3 : j * i.size = xs.length * i.size + (j - xs.length) * i.size := by rw [← Nat.add_mul]; congr 1; omega
      rw [Array.getD_eq_getD_getElem?, Array.getElem?_append_left (by rw [Array.size_append]; omega), Array.getElem?_append_right (by omega), show j * i.size + k - old.size = (j - xs.length) * i.size + k by omega]
      rwa [Array.getD_eq_getD_getElem?] at this
theorem Zfd (hI : Inv X st G w) {t t' e : TypeId} {d : TypeDesc} {i : TypeInfo} {z : Value} (hT : AppTy P t t' e d i z) {v : Value} {p : PV} (hr : Rep G (Z6 X st G) w v p) {xs : List (List PV)} (hxs : Z1b st.get p = some xs) (hax : Z0x i.size xs = true)
    {sLen sCap : Nat} {base : Option Addr} (hv : v = .slice base sLen sCap) {xv : Value} {x : PV} (hrx : Rep G (Z6 X st G) w xv x) {src : List (List PV)} (hsrc : Z6r st x = some src) (has : Z0x i.size src = true) (hroom : sCap < sLen + src.length) (hbig : (sLen + src.length) * i.bytes ≤ Z06) (ty : TypeId) :
    ∃ u w' G', (Builtin.append_ #[t, t'] ty #[v, xv]).run P w = .ok u w' ∧ Inv X (st.new (.row 0 i.size (xs ++ src) true)) G' w' ∧ Later X st G w (st.new (.row 0 i.size (xs ++ src) true)) G' w' ∧ Rep G' (Z6 X (st.new (.row 0 i.size (xs ++ src) true)) G') w' u (.osl st.next 0 0 (xs.length + src.length) false) := by
  obtain ⟨cap, w', c, hrun, hb, hsz, hnew, hcap, hcs, hcells⟩ := Zjb hI hT hr hxs hax hv hrx hsrc has hroom hbig ty
  obtain ⟨G', h1, h2, h3⟩ := Zi2 hI hb hsz hnew (Z7b hax has) hcap hcs (fun q _ => by simp) hcells (len := xs.length + src.length) (by simp)
  exact ⟨_, w', G', hrun, h1, h2, h3⟩
theorem regen_row (hI : Inv X st G w) {t : Nat} {k : Tok} {L : Loc} (hk : st.get t = some k) (hlv : k.live = true) (hG : G t k.gen = some L) {w' : World} {c : Array Value} {ty : TypeId} (hb : Below w.heap.size w w') (hsz : w.heap.size < w'.heap.size) (hnew : w'.heap[w.heap.size]? = some (.cells c ty (0, 0)))
    {es : List (List PV)} {sz cap : Nat} (hall : Z0x sz es = true) (hcap : es.length ≤ cap) (hc : c.size = cap * sz)
    (hcells : ∀ (j i : Nat) (cs : List PV) (p : PV), es[j]? = some cs → cs[i]? = some p → Rep G (Z6 X st G) w (c.getD (j * sz + i) undef) p) {len : Nat} (hlen : len = es.length) :
    ∃ G', Inv X (st.put t (.row (k.gen + 1) sz es true)) G' w' ∧ Later X st G w (st.put t (.row (k.gen + 1) sz es true)) G' w' ∧ Rep G' (Z6 X (st.put t (.row (k.gen + 1) sz es true)) G') w' (.slice (some ⟨w.heap.size, 0, none⟩) len cap) (.osl t (k.gen + 1) 0 len false) := by
  subst hlen
  let L' : Loc := ⟨w.heap.size, 0, cap, sz⟩
  have hch : Chg (fun b => b = L.blk) w w' := Z17 hb
  have hla := Zcp hI hk hlv hG (k' := .row (k.gen + 1) sz es true) (Nat.lt_succ_self _) hch (L' := L') (.inr rfl)
  refine ⟨Z1e G t (k.gen + 1) L', inv_regen hI hk hlv hG (k' := .row (k.gen + 1) sz es true) rfl (Nat.lt_succ_self _) hch (.inr rfl) hsz ?_, hla, ?_⟩
  · refine ⟨L', Z12 _ _ _ _, rfl, hcap, fun q h1 h2 => ?_, fun j cs hj => ⟨Z0o hall hj, fun i p hi => ?_⟩, by simp⟩
    · simp only [L', Nat.zero_add] at h2
      have hq : q < c.size := by omega
      refine ⟨⟨c[q], by rw [Z21 hnew]; exact Array.getElem?_eq_getElem hq⟩, ?_⟩
      simp only [L', World.frozen?, hnew]
      simp
    · have hcl := Z0o hall hj
      have hil : i < sz := by rw [← hcl]; exact (List.getElem?_eq_some_iff.1 hi).1
      have hjl : j < es.length := (List.getElem?_eq_some_iff.1 hj).1
      have hlt : j * sz + i < c.size := by
        have := Z1s hjl hil
        have : es.length * sz ≤ cap * sz := Nat.mul_le_mul_right _ hcap
        omega
      refine ⟨c[j * sz + i], ?_, ?_⟩
      · simp only [L', Nat.zero_add]
        rw [Z21 hnew]
        exact Array.getElem?_eq_getElem hlt
      · have := hcells j i cs p hj hi
        rw [Array.getD_eq_getD_getElem?, Array.getElem?_eq_getElem hlt] at this
        exact hla.rep this
  · exact .osl t (k.gen + 1) 0 es.length false L' cap _ (Z12 _ _ _ _) hcap (by simp [L']) (by simp) (fun _ => by simp [L']) rfl
def isIntT : TypeDesc → Bool
  | .int _ => true
  | _ => false
def Zah (P : Program) (ts : List TypeId) (xs : List Operand) : Option PI :=
  match ts, xs with
  | [t, t'], [s, x] => match P.underlying t, P.underlying t', Z2r s, Z2r x with
    | some (.slice e), some d', some s', some x' => match Zcz P e, Z8s P e with
      | some (_, i), some zs => if Z5u d' = true ∧ zs.length = i.size ∧ 0 < i.bytes then some (.append i.size i.bytes zs s' x') else if isIntT d' = true ∧ zs.length = i.size ∧ 0 < i.size ∧ 0 < i.bytes then some (.appendZ i.size i.bytes zs s' x') else none
      | _, _ => none
    | _, _, _, _ => none
  | _, _ => none
theorem zeroOf_at {own : Nat → Prop} {t : TypeId} {zs : List PV} {d : TypeDesc} {i : TypeInfo} (h : Z8s P t = some zs) (hT : Zcz P t = some (d, i)) : ∃ z, i.zero = some z ∧ CellsRep G own w z.cells zs := by
  unfold Z8s at h
  rw [hT] at h
  simp only [] at h
  split at h
  · rename_i z hz
    split at h
    · rename_i p hp
      split at h
      · rename_i hj
        injection h with h
        subst h
        exact ⟨z, hz, Z5w (cVal_rep hp) (Zf5 hj)⟩
      · cases h
    · cases h
  · cases h
theorem l_appendZ (hI : Inv X st G w) (hE : EnvRep G (Z6 X st G) w n ρ a) {o : Oper} {t t' e : TypeId} {s x : Operand} {d d' : TypeDesc} {i : TypeInfo} {zs : List PV} {s' x' : Opd} (ho : o.op = .call { callee := .builtin .append, args := #[s, x], argTypes := #[t, t'] }) (hU : P.underlying t = some (.slice e)) (hU' : P.underlying t' = some d') (hk : isIntT d' = true)
    (hs : Z2r s = some s') (hx : Z2r x = some x') (hT : Zcz P e = some (d, i)) (hz : Z8s P e = some zs) (hzl : zs.length = i.size) (hpos : 0 < i.size) (hby : 0 < i.bytes) {p : PV} {st' : St} (hq : Z4b st (Opd.ev ρ) (.appendZ i.size i.bytes zs s' x') = some (p, st')) : LOk P X st G w o a p st' := by
  simp only [Z4b] at hq
  split at hq
  · rename_i kk k hse hxe
    split at hq
    · rename_i hb
      obtain ⟨_, h0, h2⟩ := hb
      injection hq with hq
      simp only [Prod.mk.injEq] at hq
      obtain ⟨rfl, rfl⟩ := hq
      have rs := Z09 hE hs
      have rx := Z09 hE hx
      rw [hse] at rs
      rw [hxe] at rx
      have hvx := Z1z rx
      have hv : a.eval s = .slice none 0 0 := by
        generalize a.eval s = v at rs
        cases rs
        rfl
      obtain ⟨kn, rfl⟩ : ∃ kn, d' = .int kn := by
        cases d' <;> first | exact ⟨_, rfl⟩ | cases hk
      obtain ⟨N, rfl⟩ := Int.eq_ofNat_of_zero_le (Int.le_of_lt h0)
      obtain ⟨z, hz0, hzc⟩ := zeroOf_at (G := G) (own := Z6 X st G) (w := w) hz hT
      have hzs : z.cells.size = i.size := by rw [hzc.1, hzl]
      have h2' : N * i.bytes ≤ 140737488355328 := by
        have : ((N * i.bytes : Nat) : Int) ≤ ((Z06 : Nat) : Int) := by rw [Int.natCast_mul]; exact h2
        simp only [Z06] at this
        omega
      have hN : N ≤ 140737488355328 := by
        have : N * 1 ≤ N * i.bytes := Nat.mul_le_mul_left _ hby
        omega
      have hrun := Lib.run_append_nil_zeros (P := P) w t t' o.type e i z kk kn hU hU' (Z30 hT).2 hz0 N (by omega) hpos (by omega) (by omega)
      have hcap := grownCap_ge w N 0 e
      have hd : Below w.heap.size w w.drew := (Below.refl _ _).drew
      have hall : Z0x i.size (List.replicate N zs) = true := List.all_eq_true.2 fun cs hcs => by rw [List.eq_of_mem_replicate hcs]; simpa using hzl
      obtain ⟨G', e1, e2, e3⟩ := Zi2 hI (es := List.replicate N zs) (sz := i.size) (cap := grownCap w N 0 e) (hd.alloc (Nat.le_refl _) _) (by simp) (heap_alloc_new w.drew (.cells (Builtin.zeroCells z.cells N ++ Builtin.zeroCells z.cells (grownCap w N 0 e - N)) e)) hall (by simpa using hcap)
        (by rw [Array.size_append, size_zeroCells, size_zeroCells, hzs, ← Nat.add_mul]; congr 1; omega) (fun q hq => by simp)
        (fun j q cs p hj hk => by
          have hcs : cs = zs := List.eq_of_mem_replicate (List.mem_of_getElem? hj)
          subst hcs
          have hjl : j < N := by simpa using (List.getElem?_eq_some_iff.1 hj).1
          have hkl : q < i.size := by rw [← hzl]; exact (List.getElem?_eq_some_iff.1 hk).1
          have hlt : j * i.size + q < (Builtin.zeroCells z.cells N).size := by rw [size_zeroCells, hzs]; exact Z1s hjl hkl
          rw [Array.getD_eq_getD_getElem?, Array.getElem?_append_left hlt, ← Array.getD_eq_getD_getElem?]
          have hzz : Builtin.zeroCells z.cells N = Z42 z.cells (N * i.size) := by rw [← hzs]; rfl
          rw [hzz]
          exact Zbz hzc hzl hpos _ (Z1s hjl hkl) hk) (len := N) (by simp)
      refine ⟨.value (.slice (some ⟨w.heap.size, 0, none⟩) N (grownCap w N 0 e)), _, _, G', ?_, rfl, e1, e2, e3⟩
      simp only [execOp, ho, resolve]
      simp [invoke, builtin, hv, hvx, hrun]
    · cases hq
  · cases hq
theorem l_append (hI : Inv X st G w) (hE : EnvRep G (Z6 X st G) w n ρ a) {o : Oper} {ts : Array TypeId} {xs : Array Operand} (ho : o.op = .call { callee := .builtin .append, args := xs, argTypes := ts }) {pi : PI} (hc : Zah P ts.toList xs.toList = some pi) {p : PV} {st' : St} (hq : Z4b st (Opd.ev ρ) pi = some (p, st')) : LOk P X st G w o a p st' := by
  unfold Zah at hc
  split at hc
  · rename_i t t' s x hts hxs
    have ets : ts = #[t, t'] := by cases ts; simp_all
    have exs : xs = #[s, x] := by cases xs; simp_all
    subst ets exs
    split at hc
    · rename_i e d' s' x' hU hU' hs hx
      split at hc
      · rename_i d i zs hT hz
        split at hc
        · rename_i hcond
          obtain ⟨hk, hzl, hby⟩ := hcond
          injection hc with hc
          subst hc
          simp only [Z4b] at hq
          obtain ⟨src, hsrc, hq⟩ := Option.bind_eq_some_iff.1 hq
          split at hq
          · rename_i hok
            obtain ⟨hok, hpos, _⟩ := hok
            obtain ⟨has, hone⟩ := okEls_all hok
            obtain ⟨z, hzr, hzc⟩ := Z2f (G := G) (own := Z6 X st G) (w := w) hz
            have hA : AppTy P t t' e d i z := ⟨hU, ⟨d', hU', hk⟩, hT, hzr, by rw [hzc.1, hzl], hby⟩
            have hrs := Z09 hE hs
            have hrx := Z09 hE hx
            have done : ∀ {u : Value} {w' : World} {G' : Gh}, (Builtin.append_ #[t, t'] o.type #[a.eval s, a.eval x]).run P w = .ok u w' → Inv X st' G' w' → Later X st G w st' G' w' → Rep G' (Z6 X st' G') w' u p → LOk P X st G w o a p st' := by
              intro u w' G' hrun h1 h2 h3
              refine ⟨.value u, u, w', G', ?_, rfl, h1, h2, h3⟩
              simp only [execOp, ho, resolve]
              simp [invoke, builtin, hrun]
            generalize hes : s'.ev ρ = q at hrs hq
            generalize hvs : a.eval s = v at hrs done
            obtain ⟨s1, s2⟩ := src_run (P := P) hI hrx hsrc has
            unfold Z0d at hq
            split at hq
            ·
              rename_i hnil
              subst hnil
              obtain ⟨us, u1, u2, u3⟩ := s2 0 (Nat.le_refl _)
              have hus : us = #[] := by
                apply Array.eq_empty_of_size_eq_zero
                simpa using u2
              subst hus
              have go : ∀ (base : Option Addr) (sLen sCap : Nat), v = .slice base sLen sCap → sLen ≤ sCap → q = p → st = st' → LOk P X st G w o a p st' := by
                intro base sLen sCap hv hle hqp hst
                subst hv hqp hst
                have hrun := Zdg (w := w) (w' := w) hA (base := base) (sLen := sLen) (sCap := sCap) s1 (u1 w (Below.refl _ _)) (by simpa using hle) (by cases base <;> rfl) o.type
                exact done hrun hI (Later.refl _ _ _ _) hrs
              split at hq
              · injection hq with hq
                simp only [Prod.mk.injEq] at hq
                cases hrs
                exact go none 0 0 rfl (Nat.le_refl _) hq.1 hq.2
              · injection hq with hq
                simp only [Prod.mk.injEq] at hq
                cases hrs with
                | sl xs full b o' cap sz adr u hcap hfull hadr hsz hc hr => exact go _ _ _ rfl hcap hq.1 hq.2
              · injection hq with hq
                simp only [Prod.mk.injEq] at hq
                cases hrs with
                | osl t g off len full L cap ad h hcap hL hfull ha => exact go _ _ _ rfl hcap hq.1 hq.2
              · cases hq
            · rename_i hne
              have hpos2 : 0 < src.length := List.length_pos_iff.2 hne
              split at hq
              ·
                split at hq
                · rename_i hb
                  injection hq with hq
                  simp only [Prod.mk.injEq] at hq
                  obtain ⟨rfl, rfl⟩ := hq
                  have hv : v = .slice none 0 0 := by cases hrs; rfl
                  obtain ⟨u, w', G', h1, h2, h3, h4⟩ := Zfd hI hA hrs (xs := []) rfl rfl hv hrx hsrc has (by omega) (by simpa using hb) o.type
                  refine done h1 (by simpa using h2) (by simpa using h3) (by simpa using h4)
                · cases hq
              ·
                rename_i xs
                split at hq
                · rename_i hb
                  obtain ⟨hb, hax⟩ := hb
                  injection hq with hq
                  simp only [Prod.mk.injEq] at hq
                  obtain ⟨rfl, rfl⟩ := hq
                  have hv : ∃ ad, v = .slice ad xs.length xs.length := by
                    cases hrs with
                    | sl _ _ b o' cap sz adr u hcap hfull hadr hsz hc hr => rw [hfull rfl]; exact ⟨_, rfl⟩
                  obtain ⟨ad, hv⟩ := hv
                  obtain ⟨u, w', G', h1, h2, h3, h4⟩ := Zfd hI hA hrs (xs := xs) rfl hax hv hrx hsrc has (by omega) hb o.type
                  exact done h1 h2 h3 h4
                · cases hq
              · rename_i tk g off len
                split at hq
                · rename_i g' sz' es lv hg
                  split at hq
                  · rename_i hb
                    obtain ⟨rfl, rfl, hlen, hb⟩ := hb
                    injection hq with hq
                    simp only [Prod.mk.injEq] at hq
                    obtain ⟨rfl, rfl⟩ := hq
                    have hv : ∃ ad, v = .slice ad len len := by
                      cases hrs with
                      | osl _ _ _ _ _ L cap ad h hcap hL hfull ha => rw [hfull rfl]; exact ⟨_, rfl⟩
                    obtain ⟨ad, hv⟩ := hv
                    have hel : Z1b st.get (.osl tk g' off len true) = some ((es.drop off).take len) := by simp [Z1b, hg, hlen]
                    have hll : ((es.drop off).take len).length = len := by simp; omega
                    obtain ⟨L, k1, k2, k3, k4, k5, k6⟩ := hI.toks tk _ hg
                    have hax : Z0x i.size es = true := List.all_eq_true.2 fun cs hcs => by
                      obtain ⟨j, hj⟩ := List.getElem?_of_mem hcs
                      simpa using (k5 j cs hj).1
                    obtain ⟨u, w', G', h1, h2, h3, h4⟩ := Zfd hI hA hrs hel (Z85 hax _ _) hv hrx hsrc has (by omega) hb o.type
                    rw [hll] at h4
                    exact done h1 h2 h3 h4
                  · cases hq
                · cases hq
              · rename_i tk g off len
                split at hq
                · rename_i g' sz' es hg
                  split at hq
                  · rename_i hb
                    obtain ⟨rfl, rfl, hlen, hb⟩ := hb
                    injection hq with hq
                    simp only [Prod.mk.injEq] at hq
                    obtain ⟨rfl, rfl⟩ := hq
                    obtain ⟨L, k1, k2, k3, k4, k5, k6⟩ := hI.toks tk _ hg
                    have hax : Z0x i.size es = true := List.all_eq_true.2 fun cs hcs => by
                      obtain ⟨j, hj⟩ := List.getElem?_of_mem hcs
                      simpa using (k5 j cs hj).1
                    have hll : ((es.drop off).take len).length = len := by simp; omega
                    have hel : Z1b st.get (.osl tk g' off len false) = some ((es.drop off).take len) := by simp [Z1b, hg, hlen]
                    generalize hqq : PV.osl tk g' off len false = q0 at hrs
                    have hrs0 := hrs
                    rw [← hqq] at hrs
                    cases hrs with
                    | osl _ _ _ _ _ L0 cap ad h hcap hL hfull ha hspot =>
                      rw [k1] at h
                      injection h with h
                      subst h
                      by_cases hin : len + src.length ≤ cap
                      · have had := ha (by omega)
                        subst had
                        obtain ⟨us, u1, u2, u3⟩ := s2 src.length (Nat.le_refl _)
                        have hcr := flat_src has u2 u3
                        have hbase : L.off + off * L.sz + len * L.sz + src.length * L.sz ≤ L.off + L.cap * L.sz := by
                          have : (off + len + src.length) * L.sz ≤ L.cap * L.sz := Nat.mul_le_mul_right _ (by omega)
                          rw [Nat.add_mul, Nat.add_mul] at this
                          omega
                        have hul : us.toList.length = src.length * L.sz := by rw [Array.length_toList, u2, k2]
                        have hex : ∀ j, j < us.toList.length → ∃ v, Z0l w L.blk (L.off + off * L.sz + len * L.sz + j) = some v := fun j hj => (k4 _ (by omega) (by rw [k2] at hbase hul; rw [← k2] at *; omega)).1
                        have hst := run_storeCells_cells (P := P) L.blk (L.off + off * L.sz + len * L.sz) us.toList 0 w (fun j hj => by obtain ⟨u, hu⟩ := hex j hj; simp [Z0l] at hu; simp [hu])
                          (fun j hj => (k4 _ (by omega) (by rw [← k2]; omega)).2) (hcr.list.one hone)
                        have hrun := Zdg (w := w) hA (base := some ⟨L.blk, L.off + off * L.sz, none⟩) (sLen := len) (sCap := cap) s1 (u1 w (Below.refl _ _)) hin
                          (w' := w.setCells L.blk (L.off + off * L.sz + len * L.sz) us.toList) (by
                            show (storeCells ((⟨L.blk, L.off + off * L.sz, none⟩ : Addr).add (len * i.size)) us.toList).run P w = _
                            rw [Zby, ← k2]
                            exact hst) o.type
                        let L' : Loc := ⟨L.blk, L.off + off * L.sz, L.cap - off, L.sz⟩
                        have hch : Chg (fun b => b = L.blk) w (w.setCells L.blk (L.off + off * L.sz + len * L.sz) us.toList) := Z38 rfl
                        have hla := Zcp hI hg rfl k1 (k' := .row (g' + 1) i.size ((es.drop off).take len ++ src) true) (Nat.lt_succ_self _) hch (L' := L') (.inl rfl)
                        have hcapsz : L.off + off * L.sz + (L.cap - off) * L.sz = L.off + L.cap * L.sz := by
                          rw [Nat.add_assoc, ← Nat.add_mul]
                          congr 2
                          omega
                        refine done hrun (inv_regen hI hg rfl k1 (k' := .row (g' + 1) i.size ((es.drop off).take len ++ src) true) rfl (Nat.lt_succ_self _) hch (L' := L') (.inl rfl) (Nat.lt_of_lt_of_le (hI.low _ _ _ k1).2 hch.size) ?_) hla ?_
                        · refine ⟨L', Z12 _ _ _ _, k2, ?_, ?_, fun j cs hj => ?_, by simp⟩
                          · simp only [List.length_append, hll, L']
                            omega
                          · have hr2 : Room w L.blk (L.off + off * L.sz) (L.off + off * L.sz + (L.cap - off) * i.size) := fun q hq1 hq2 => k4 q (by omega) (by rw [← k2] at hq2 ⊢; omega)
                            exact Z5g hr2 hex
                          · have hcl : cs.length = i.size := Z0o (Z7b (Z85 hax off len) has) hj
                            refine ⟨hcl, fun k c hk => ?_⟩
                            have hk2 : k < L.sz := by rw [k2, ← hcl]; exact (List.getElem?_eq_some_iff.1 hk).1
                            rw [List.getElem?_append, hll] at hj
                            split at hj
                            · rename_i hjl
                              rw [List.getElem?_take, if_pos hjl, List.getElem?_drop] at hj
                              obtain ⟨v, e1, e2⟩ := (k5 _ _ hj).2 k c hk
                              have hjb : j * L.sz + k < len * L.sz := Z1s hjl hk2
                              refine ⟨v, ?_, hla.rep e2⟩
                              simp only [L']
                              rw [Z4i (by rw [← k2]; omega), ← e1]
                              congr 1
                              rw [Nat.add_mul, k2]
                              omega
                            · rename_i hjl
                              have hjl2 := (List.getElem?_eq_some_iff.1 hj).1
                              have hlt : (j - len) * i.size + k < us.size := by rw [u2]; exact Z1s hjl2 (by omega)
                              have hj3 : j * L.sz = len * L.sz + (j - len) * L.sz := by rw [← Nat.add_mul]; congr 1; omega
                              have hrep := u3 (j - len) cs k c hjl2 hj hk
                              rw [Array.getD_eq_getD_getElem?, Array.getElem?_eq_getElem hlt] at hrep
                              refine ⟨us[(j - len) * i.size + k], ?_, hla.rep hrep⟩
                              simp only [L']
                              refine Z89 hex (by rw [← k2]; omega) ?_
                              have hidx : L.off + off * L.sz + j * i.size + k - (L.off + off * L.sz + len * L.sz) = (j - len) * i.size + k := by rw [← k2]; omega
                              rw [hidx]
                              simp [hlt]
                        · exact .osl tk (g' + 1) 0 (len + src.length) false L' cap _ (Z12 _ _ _ _) hin (by simp only [L']; omega) (by simp) (fun _ => by simp [L']) rfl
                      · obtain ⟨cap', w', c, e1, e2, e3, e4, e5, e6, e7⟩ := Zjb hI hA (Rep.osl tk g' off len false L cap ad k1 hcap hL hfull ha hspot) hel (Z85 hax _ _) rfl hrx hsrc has (by omega) hb o.type
                        obtain ⟨G', f1, f2, f3⟩ := regen_row hI hg rfl k1 e2 e3 e4 (Z7b (Z85 hax off len) has) e5 e6 e7 (len := len + src.length) (by rw [List.length_append, hll])
                        rw [hll] at e1
                        exact done e1 f1 f2 f3
                  · cases hq
                · cases hq
              · cases hq
          · cases hq
        · split at hc
          · rename_i hcond
            obtain ⟨hk, hzl, hpos, hby⟩ := hcond
            injection hc with hc
            subst hc
            exact l_appendZ hI hE ho hU hU' hk hs hx hT hz hzl hpos hby hq
          · cases hc
      · cases hc
    · cases hc
  · cases hc
end
end Go.AM
namespace Go.AM
open Go.RowKit
variable [Gl]
section
variable {P : Program} {X : Cx} {st : St} {G : Gh} {w : World} {n : Nat} {ρ : Env} {a : Act}
theorem l_toBytes (hI : Inv X st G w) (hE : EnvRep G (Z6 X st G) w n ρ a) {o : Oper} {s t e : TypeId} {x : Operand} (ho : o.op = .convert s t x) {d : TypeDesc} (hs : P.underlying s = some d) (ht : P.underlying t = some (.slice e)) (he : P.underlying e = some (.int .u8)) {y : Opd} (hy : Z2r x = some y) {bs : List UInt8}
    (hb : y.ev ρ = .str bs) : LOk P X st G w o a (.osl st.next 0 0 bs.length false) (st.new (.row 0 1 (Z5 bs) true)) := by
  have hr := Z09 hE hy
  rw [hb] at hr
  have hv := Z2x hr
  have hsz : (⟨bs.toArray⟩ : ByteArray).size = bs.length := by simp [ByteArray.size]
  have hge := grownCap_ge w (⟨bs.toArray⟩ : ByteArray).size 0 e
  have hall : Z0x 1 (Z5 bs) = true := List.all_eq_true.2 fun cs hcs => by
    obtain ⟨q, _, rfl⟩ := List.mem_map.1 hcs
    rfl
  have hcs : (Lib.bytesCells w e ⟨bs.toArray⟩).size = grownCap w (⟨bs.toArray⟩ : ByteArray).size 0 e := by
    simp only [Lib.bytesCells, Array.size_append, Array.size_map, Array.size_replicate]
    have : bs.toArray.size = (⟨bs.toArray⟩ : ByteArray).size := rfl
    omega
  obtain ⟨G', h1, h2, h3⟩ := Zi2 hI (es := Z5 bs) (sz := 1) (cap := grownCap w (⟨bs.toArray⟩ : ByteArray).size 0 e) (Z91 w e ⟨bs.toArray⟩) (by rw [Lib.bytesWorld_size]; omega) (Lib.bytesWorld_at_new w e ⟨bs.toArray⟩) hall (by simp [Z5]; omega) (by rw [hcs]; omega) (fun q hq => by simp only [hcs]; omega)
    (fun j i cs p hj hi => by
      simp only [Z5, List.getElem?_map] at hj
      obtain ⟨q, hq, rfl⟩ := Option.map_eq_some_iff.1 hj
      have hi0 : i = 0 := by
        have := (List.getElem?_eq_some_iff.1 hi).1
        simp at this
        exact this
      subst hi0
      simp at hi
      subst hi
      have hlt := (List.getElem?_eq_some_iff.1 hq).1
      have : (Lib.bytesCells w e ⟨bs.toArray⟩).getD (j * 1 + 0) undef = .int .u8 q.toNat := by
        rw [Array.getD_eq_getD_getElem?]
        simp only [Lib.bytesCells, Nat.mul_one, Nat.add_zero]
        rw [Array.getElem?_append_left (by simpa using hlt)]
        simp [hq]
      rw [this]
      exact .int _ _) (len := (⟨bs.toArray⟩ : ByteArray).size) (by simp [Z5, hsz])
  refine ⟨.value (.slice (some ⟨w.heap.size, 0, none⟩) (⟨bs.toArray⟩ : ByteArray).size (grownCap w (⟨bs.toArray⟩ : ByteArray).size 0 e)), _, _, G', ?_, rfl, h1, h2, ?_⟩
  · simp only [execOp, ho, hv]
    rw [Sem.run_bind, Lib.run_convert_string_bytes w s t e _ hs ht he]
    rfl
  · rw [← hsz]
    exact h3
def cCopy (P : Program) (ts : List TypeId) (xs : List Operand) : Option PI :=
  match ts, xs with
  | t :: _, [s, x] => match P.underlying t, Z2r s, Z2r x with
    | some (.slice e), some s', some x' => match Zcz P e with
      | some (_, i) => some (.copy i.size s' x')
      | none => none
    | _, _, _ => none
  | _, _ => none
theorem run_copy {t e : TypeId} {ts : List TypeId} {d : TypeDesc} {i : TypeInfo} (ht : P.underlying t = some (.slice e)) (hT : Zcz P e = some (d, i)) {base : Option Addr} {dLen dCap : Nat} {xv : Value} {m : Nat} {us : Array Value} (hlen : (Builtin.lenOf xv).run P w = .ok m w) (hus : (Builtin.firstCells i.size (min m dLen) xv).run P w = .ok us w) {w' : World}
    (hst : (match base with | some a => storeCells a us.toList | none => pure ()).run P w = .ok () w') (ty : TypeId) :
    (Builtin.copy_ (t :: ts).toArray ty #[.slice base dLen dCap, xv]).run P w = .ok (.int .i64 ((min m dLen : Nat) : Int)) w' := by
  unfold Builtin.copy_
  simp only [List.getElem?_toArray, List.getElem?_cons_zero, List.getElem?_cons_succ, Sem.run_bind, run_underlying ht, Result.andThen_ok, Z10 hT, hlen]
  have hm : Nat.min m dLen = min m dLen := rfl
  cases base with
  | none =>
    simp only [Sem.run_pure, Result.ok.injEq, true_and] at hst
    subst hst
    simp only [hm, hus, Sem.run_bind, Result.andThen_ok, Sem.run_pure, Sem.run_pure']
    rfl
  | some ad =>
    simp only [hm, hus, Sem.run_bind, Result.andThen_ok, Sem.run_pure, hst]
    rfl
theorem l_copy (hI : Inv X st G w) (hE : EnvRep G (Z6 X st G) w n ρ a) {o : Oper} {ts : Array TypeId} {xs : Array Operand} (ho : o.op = .call { callee := .builtin .copy, args := xs, argTypes := ts }) {pi : PI} (hc : cCopy P ts.toList xs.toList = some pi) {p : PV} {st' : St} (hq : Z4b st (Opd.ev ρ) pi = some (p, st')) : LOk P X st G w o a p st' := by
  unfold cCopy at hc
  split at hc
  · rename_i t tr s x hts hxs
    have exs : xs = #[s, x] := by cases xs; simp_all
    have ets : ts = (t :: tr).toArray := by cases ts; simp_all
    subst exs ets
    split at hc
    · rename_i e s' x' hU hs hx
      split at hc
      · rename_i d i hT
        injection hc with hc
        subst hc
        simp only [Z4b] at hq
        obtain ⟨src, hsrc, hq⟩ := Option.bind_eq_some_iff.1 hq
        split at hq
        · rename_i hok
          obtain ⟨hok, hpos⟩ := hok
          obtain ⟨has, hone⟩ := okEls_all hok
          have hrs := Z09 hE hs
          have hrx := Z09 hE hx
          have done : ∀ {u : Value} {w' : World} {G' : Gh}, (Builtin.copy_ (t :: tr).toArray o.type #[a.eval s, a.eval x]).run P w = .ok u w' → Inv X st' G' w' → Later X st G w st' G' w' → Rep G' (Z6 X st' G') w' u p → LOk P X st G w o a p st' := by
            intro u w' G' hrun h1 h2 h3
            refine ⟨.value u, u, w', G', ?_, rfl, h1, h2, h3⟩
            simp only [execOp, ho, resolve]
            simp [invoke, builtin, hrun]
          generalize hes : s'.ev ρ = q at hrs hq
          generalize hvs : a.eval s = v at hrs done
          obtain ⟨s1, s2⟩ := src_run (P := P) hI hrx hsrc has
          unfold Zg3 at hq
          split at hq
          · injection hq with hq
            simp only [Prod.mk.injEq] at hq
            obtain ⟨rfl, rfl⟩ := hq
            have hv : v = .slice none 0 0 := by cases hrs; rfl
            subst hv
            obtain ⟨us, u1, u2, u3⟩ := s2 0 (Nat.zero_le _)
            have hrun := run_copy (w := w) (w' := w) (ts := tr) hU hT (base := none) (dLen := 0) (dCap := 0) s1 (by rw [Nat.min_zero]; exact u1 w (Below.refl _ _)) rfl o.type
            exact done hrun hI (Later.refl _ _ _ _) (by rw [Nat.min_zero]; exact .int _ _)
          · rename_i tk g off len full
            split at hq
            · rename_i g' sz' es hg
              split at hq
              · rename_i hb
                obtain ⟨rfl, rfl, hlen⟩ := hb
                injection hq with hq
                simp only [Prod.mk.injEq] at hq
                obtain ⟨rfl, rfl⟩ := hq
                obtain ⟨L, k1, k2, k3, k4, k5, k6⟩ := hI.toks tk _ hg
                cases hrs with
                | osl _ _ _ _ _ L0 cap ad h hcap hL hfull ha =>
                  rw [k1] at h
                  injection h with h
                  subst h
                  obtain ⟨us, u1, u2, u3⟩ := s2 (min src.length len) (Nat.min_le_left _ _)
                  by_cases hm0 : min src.length len = 0
                  · have hus : us = #[] := by
                      apply Array.eq_empty_of_size_eq_zero
                      rw [u2, hm0]; simp
                    subst hus
                    have hrun := run_copy (w := w) (w' := w) (ts := tr) hU hT (base := some ad) (dLen := len) (dCap := cap) s1 (u1 w (Below.refl _ _)) rfl o.type
                    have hes2 : es.take off ++ src.take (min src.length len) ++ es.drop (off + min src.length len) = es := by
                      rw [hm0]; simp
                    rw [hes2] at done ⊢
                    obtain ⟨h1, h2⟩ := inv_put hI hg rfl k1 (k' := .row g' i.size es true) rfl rfl (w' := w) (Chg.refl _ _) (hI.toks tk _ hg)
                    exact done hrun h1 h2 (.int _ _)
                  · have hlp : 0 < len := by
                      rcases Nat.eq_zero_or_pos len with h0 | h0
                      · subst h0; simp at hm0
                      · exact h0
                    have had := ha (by omega)
                    subst had
                    generalize hmm : min src.length len = m at *
                    have hmle : m ≤ src.length ∧ m ≤ len := by omega
                    have hul : us.toList.length = m * L.sz := by rw [Array.length_toList, u2, k2]
                    have hbd : L.off + off * L.sz + m * L.sz ≤ L.off + L.cap * L.sz := by
                      have : (off + m) * L.sz ≤ L.cap * L.sz := Nat.mul_le_mul_right _ (by omega)
                      rw [Nat.add_mul] at this
                      omega
                    have hat : Z0x i.size (src.take m) = true := by
                      have := Z85 has 0 m
                      simpa using this
                    have hcr : CellsRep G (Z6 X st G) w us (src.take m).flatten := flat_src hat (by rw [u2, List.length_take]; congr 1; omega) (fun j cs k c hj hjs hk => by
                      rw [List.getElem?_take] at hjs
                      split at hjs
                      · rename_i hjm; exact u3 j cs k c hjm hjs hk
                      · cases hjs)
                    have hone' : (src.take m).flatten.all PV.one = true := List.all_eq_true.2 fun q hq => by
                      obtain ⟨cs, h1, h2⟩ := List.mem_flatten.1 hq
                      exact (List.all_eq_true.1 hone) q (List.mem_flatten.2 ⟨cs, List.mem_of_mem_take h1, h2⟩)
                    have hex : ∀ j, j < us.toList.length → ∃ v, Z0l w L.blk (L.off + off * L.sz + j) = some v := fun j hj => (k4 _ (by omega) (by rw [← k2]; omega)).1
                    have hst := run_storeCells_cells (P := P) L.blk (L.off + off * L.sz) us.toList 0 w (fun j hj => by obtain ⟨u, hu⟩ := hex j hj; simp [Z0l] at hu; simp [hu])
                      (fun j hj => (k4 _ (by omega) (by rw [← k2]; omega)).2) (hcr.list.one hone')
                    have hrun := run_copy (w := w) (w' := w.setCells L.blk (L.off + off * L.sz) us.toList) (ts := tr) hU hT (base := some ⟨L.blk, L.off + off * L.sz, none⟩) (dLen := len) (dCap := cap) s1 (by rw [hmm]; exact u1 w (Below.refl _ _)) hst o.type
                    rw [hmm] at hrun
                    have hown : Z6 X st G L.blk := .inr ⟨tk, _, L, hg, rfl, k1, rfl⟩
                    have hch : Chg (fun b => b = L.blk) w (w.setCells L.blk (L.off + off * L.sz) us.toList) := Z38 rfl
                    have up : ∀ {v : Value} {p : PV}, Rep G (Z6 X st G) w v p → Rep G (Z6 X st G) (w.setCells L.blk (L.off + off * L.sz) us.toList) v p := fun h => h.mono (fun _ _ _ h => h) hch (fun i h => h ▸ hown) (fun _ h => .inl h)
                    have hlen2 : (es.take off ++ src.take m ++ es.drop (off + m)).length = es.length := by simp; omega
                    obtain ⟨h1, h2⟩ := inv_put hI hg rfl k1 (k' := .row g' i.size (es.take off ++ src.take m ++ es.drop (off + m)) true) rfl rfl (w' := w.setCells L.blk (L.off + off * L.sz) us.toList) hch
                      ⟨L, k1, k2, by rw [hlen2]; exact k3, Z5g k4 hex, fun j cs hj => by
                        rw [List.append_assoc, List.getElem?_append] at hj
                        have hto : (es.take off).length = off := by simp; omega
                        rw [hto] at hj
                        split at hj
                        · rename_i hjo
                          rw [List.getElem?_take, if_pos hjo] at hj
                          refine ⟨(k5 j cs hj).1, Zcv hown (k5 j cs hj).2 (.inl ?_)⟩
                          have hcl := (k5 j cs hj).1
                          have : (j + 1) * i.size ≤ off * i.size := Nat.mul_le_mul_right _ hjo
                          rw [Nat.add_mul] at this
                          rw [k2]
                          omega
                        · rename_i hjo
                          rw [List.getElem?_append] at hj
                          have htm : (src.take m).length = m := by simp; omega
                          rw [htm] at hj
                          split at hj
                          · rename_i hjm
                            have hcl : cs.length = i.size := Z0o hat hj
                            refine ⟨hcl, fun k c hk => ?_⟩
                            have hk2 : k < i.size := by rw [← hcl]; exact (List.getElem?_eq_some_iff.1 hk).1
                            rw [List.getElem?_take, if_pos hjm] at hj
                            have hlt : (j - off) * i.size + k < us.size := by rw [u2]; exact Z1s hjm hk2
                            have hrep := u3 (j - off) cs k c hjm hj hk
                            rw [Array.getD_eq_getD_getElem?, Array.getElem?_eq_getElem hlt] at hrep
                            have hj3 : j * i.size = off * i.size + (j - off) * i.size := by rw [← Nat.add_mul]; congr 1; omega
                            refine ⟨us[(j - off) * i.size + k], Z89 hex (by rw [k2]; omega) ?_, up hrep⟩
                            have hidx : L.off + j * i.size + k - (L.off + off * L.sz) = (j - off) * i.size + k := by rw [k2]; omega
                            rw [hidx]
                            simp [hlt]
                          · rename_i hjm
                            rw [List.getElem?_drop] at hj
                            rw [show off + m + (j - off - m) = j by omega] at hj
                            refine ⟨(k5 j cs hj).1, Zcv hown (k5 j cs hj).2 (.inr ?_)⟩
                            have : (off + m) * i.size ≤ j * i.size := Nat.mul_le_mul_right _ (by omega)
                            rw [Nat.add_mul] at this
                            rw [hul, k2]
                            omega, by simp⟩
                    exact done hrun h1 h2 (.int _ _)
              · cases hq
            · cases hq
          · cases hq
        · cases hq
      · cases hc
    · cases hc
  · cases hc
end
end Go.AM
namespace Go.AM
open Go.RowKit
variable [Gl]
def cConv (P : Program) (s t : TypeId) (x : Operand) : Option PI :=
  match P.underlying s, P.underlying t, Z2r x with
  | some _, some (.int k), some y => some (.conv k y)
  | some .string, some .string, some y => some (.textId y)
  | some .string, some (.slice e), some y => match P.underlying e with
    | some (.int .u8) => some (.toBytes y)
    | _ => none
  | some (.slice e), some .string, some y => match P.underlying e with
    | some (.int .u8) => some (.toStr y)
    | _ => none
  | _, _, _ => none
def cBin (P : Program) (op : BinOp) (t : TypeId) (x y : Operand) : Option PI :=
  match P.underlying t, Z2r x, Z2r y with
  | some .bool, some x', some y' => match op with
    | .eql => some (.eqBool false x' y')
    | .neq => some (.eqBool true x' y')
    | _ => none
  | some (.int _), some x', some y' => some (.bin op x' y')
  | some .string, some x', some y' => some (.bin op x' y')
  | some (.struct fs), some x', some y' => match P.stoodInHeld t, Z3d P 0 fs.toList with
    | false, some ks => (match op with
      | .eql => some (.eqAgg false ks x' y')
      | .neq => some (.eqAgg true ks x' y')
      | _ => none)
    | _, _ => none
  | some d, some x', some _ => match Zcg d with
    | some (k, _) => if Zap k y = true then (match op with
      | .eql => some (.eqNil false k x')
      | .neq => some (.eqNil true k x')
      | _ => none) else none
    | none => none
  | _, _, _ => none
def Z3q (P : Program) (b : Builtin) (ts : List TypeId) (xs : List Operand) : Option PI :=
  match b with
  | .len => match ts, xs with
    | [t], [x] => match P.underlying t, Z2r x with
      | some d, some y => (lenKind d).map fun txt => .len txt y
      | _, _ => none
    | _, _ => none
  | .cap => match ts, xs with
    | [t], [x] => match P.underlying t, Z2r x with
      | some (.slice _), some y => some (.cap y)
      | _, _ => none
    | _, _ => none
  | .append => Zah P ts xs
  | .copy => cCopy P ts xs
  | .max => (Zj7 xs).map (.minmax true)
  | .min => (Zj7 xs).map (.minmax false)
  | _ => none
def Zl (P : Program) : Op → Option PI
  | .move x => (Z2r x).map .move
  | .assign x => (Z2r x).map .move
  | .pick c x y => match Z2r c, Z2r x, Z2r y with
    | some c', some x', some y' => some (.pick c' x' y')
    | _, _, _ => none
  | .load t x => cLoad P t x
  | .store t x y => Zg7 P t x y
  | .alloc t => (Z8s P t).map .alloc
  | .box _ x => (Z2r x).map .box
  | .build t ps => Zgc P t ps.toList
  | .buildSlice t l ps => Z4d P t l ps.toList
  | .fieldAddr s x f => Z3f P s x f
  | .field s x f => Zgb P s x f
  | .indexAddr t x i => Z3e P t x i
  | .index t x i => Zga P t x i
  | .slice t x lo hi mx => Zg8 P t x lo hi mx
  | .convert s t x => cConv P s t x
  | .unOp op _ x => match op with
    | .neg => (Z2r x).map .neg
    | .not => (Z2r x).map .not
    | _ => none
  | .binOp op t x y _ => cBin P op t x y
  | .extract x i => (Z2r x).map fun y => .extract y i
  | .makeInterface t x => if P.concrete t = true then (Z2r x).map (.mkIface t) else none
  | .makeFunc fn first caps => match fn, first.toList with
    | .func f, [] => (Zj7 caps.toList).map (.mkFunc f)
    | _, _ => none
  | .makeSlice t l c => Zag P t l c
  | .nilCheck x => (Z2r x).map .nilCheck
  | .call c => match c.callee with
    | .builtin b => Z3q P b c.argTypes.toList c.args.toList
    | .value f => match Z2r f, Zj7 c.args.toList with
      | some f', some xs => some (.call f' xs)
      | _, _ => none
    | _ => none
  | _ => none
section
variable {P : Program} {X : Cx} {st : St} {G : Gh} {w : World} {n : Nat} {ρ : Env} {a : Act}
theorem arr1 {α : Type} {xs : Array α} {x : α} (h : xs.toList = [x]) : xs = #[x] := by cases xs; simp_all
theorem step_builtin (hI : Inv X st G w) (hE : EnvRep G (Z6 X st G) w n ρ a) {o : Oper} {b : Builtin} {ts : Array TypeId} {xs : Array Operand} (ho : o.op = .call { callee := .builtin b, args := xs, argTypes := ts }) {pi : PI} (hc : Z3q P b ts.toList xs.toList = some pi) :
    (∀ p, Zo st.get (Opd.ev ρ) pi = some p → QOk P X st G w o a p) ∧ ∀ p st', Z4b st (Opd.ev ρ) pi = some (p, st') → LOk P X st G w o a p st' := by
  unfold Z3q at hc
  split at hc
  · split at hc
    · rename_i t x hts hxs
      split at hc
      · rename_i d y hd hy
        obtain ⟨txt, hk, rfl⟩ := Option.map_eq_some_iff.1 hc
        rw [arr1 hts, arr1 hxs] at ho
        refine ⟨fun p hp => ?_, fun p st' h => by cases h⟩
        simp only [Zo] at hp
        split at hp
        · rename_i hkk
          obtain ⟨m, hm, rfl⟩ := Option.map_eq_some_iff.1 hp
          exact q_len hE ho hd hk hy hkk hm
        · cases hp
      · cases hc
    · cases hc
  · split at hc
    · rename_i t x hts hxs
      split at hc
      · rename_i e y hd hy
        injection hc with hc
        subst hc
        rw [arr1 hts, arr1 hxs] at ho
        refine ⟨fun p hp => ?_, fun p st' h => by cases h⟩
        simp only [Zo] at hp
        obtain ⟨m, hm, rfl⟩ := Option.map_eq_some_iff.1 hp
        exact q_cap hE ho hd hy hm
      · cases hc
    · cases hc
  · refine ⟨fun p hp => ?_, fun p st' h => l_append hI hE ho hc h⟩
    unfold Zah at hc
    (repeat' split at hc) <;> first | (cases hc; done) | (injection hc with hc; subst hc; cases hp)
  · refine ⟨fun p hp => ?_, fun p st' h => l_copy hI hE ho hc h⟩
    unfold cCopy at hc
    (repeat' split at hc) <;> first | (cases hc; done) | (injection hc with hc; subst hc; cases hp)
  · obtain ⟨ys, hy, rfl⟩ := Option.map_eq_some_iff.1 hc
    exact ⟨fun p hp => q_minmax (mx := true) hE ho hy hp, fun p st' h => by cases h⟩
  · obtain ⟨ys, hy, rfl⟩ := Option.map_eq_some_iff.1 hc
    exact ⟨fun p hp => q_minmax (mx := false) hE ho hy hp, fun p st' h => by cases h⟩
  · cases hc
theorem step_bin (hI : Inv X st G w) (hE : EnvRep G (Z6 X st G) w n ρ a) {o : Oper} {op : BinOp} {t t' : TypeId} {x y : Operand} (ho : o.op = .binOp op t x y t') {pi : PI} (hc : cBin P op t x y = some pi) :
    (∀ p, Zo st.get (Opd.ev ρ) pi = some p → QOk P X st G w o a p) ∧ ∀ p st', Z4b st (Opd.ev ρ) pi = some (p, st') → LOk P X st G w o a p st' := by
  unfold cBin at hc
  split at hc
  · rename_i x' y' hd hx hy
    split at hc
    · injection hc with hc
      subst hc
      refine ⟨fun p hp => ?_, fun p st' h => by cases h⟩
      simp only [Zo] at hp
      obtain ⟨b, hb, rfl⟩ := Option.map_eq_some_iff.1 hp
      exact q_eqBool (neq := false) hE ho hd hx hy hb
    · injection hc with hc
      subst hc
      refine ⟨fun p hp => ?_, fun p st' h => by cases h⟩
      simp only [Zo] at hp
      obtain ⟨b, hb, rfl⟩ := Option.map_eq_some_iff.1 hp
      exact q_eqBool (neq := true) hE ho hd hx hy hb
    · cases hc
  · rename_i k x' y' hd hx hy
    injection hc with hc
    subst hc
    exact ⟨fun p hp => q_bin hE ho hd rfl hx hy hp, fun p st' h => by cases h⟩
  · rename_i x' y' hd hx hy
    injection hc with hc
    subst hc
    exact ⟨fun p hp => q_bin hE ho hd rfl hx hy hp, fun p st' h => by cases h⟩
  · rename_i fs x' y' hd hx hy
    split at hc
    · rename_i ks hst hks
      split at hc
      · injection hc with hc
        subst hc
        refine ⟨fun p hp => ?_, fun p st' h => by cases h⟩
        simp only [Zo] at hp
        obtain ⟨b, hb, rfl⟩ := Option.map_eq_some_iff.1 hp
        exact q_eqAgg (neq := false) hE ho hd hst hks hx hy hb
      · injection hc with hc
        subst hc
        refine ⟨fun p hp => ?_, fun p st' h => by cases h⟩
        simp only [Zo] at hp
        obtain ⟨b, hb, rfl⟩ := Option.map_eq_some_iff.1 hp
        exact q_eqAgg (neq := true) hE ho hd hst hks hx hy hb
      · cases hc
    · cases hc
  · rename_i d x' y' h1 h2 h3 h4 hd hx hy
    split at hc
    · rename_i k z hk
      split at hc
      · rename_i hcn
        have hyz := Ziw hk hcn
        subst hyz
        split at hc
        · injection hc with hc
          subst hc
          refine ⟨fun p hp => ?_, fun p st' h => by cases h⟩
          simp only [Zo] at hp
          obtain ⟨b, hb, rfl⟩ := Option.map_eq_some_iff.1 hp
          exact q_eqNil (neq := false) hE hk ho hd hx hb
        · injection hc with hc
          subst hc
          refine ⟨fun p hp => ?_, fun p st' h => by cases h⟩
          simp only [Zo] at hp
          obtain ⟨b, hb, rfl⟩ := Option.map_eq_some_iff.1 hp
          exact q_eqNil (neq := true) hE hk ho hd hx hb
        · cases hc
      · cases hc
    · cases hc
  · cases hc
theorem step_conv (hI : Inv X st G w) (hE : EnvRep G (Z6 X st G) w n ρ a) {o : Oper} {s t : TypeId} {x : Operand} (ho : o.op = .convert s t x) {pi : PI} (hc : cConv P s t x = some pi) :
    (∀ p, Zo st.get (Opd.ev ρ) pi = some p → QOk P X st G w o a p) ∧ ∀ p st', Z4b st (Opd.ev ρ) pi = some (p, st') → LOk P X st G w o a p st' := by
  unfold cConv at hc
  split at hc
  · rename_i d k y hs ht hy
    injection hc with hc
    subst hc
    exact ⟨fun p hp => q_conv hE ho hs ht hy hp, fun p st' h => by cases h⟩
  · rename_i y hs ht hy
    injection hc with hc
    subst hc
    refine ⟨fun p hp => ?_, fun p st' h => by cases h⟩
    simp only [Zo] at hp
    split at hp
    · rename_i u hu
      injection hp with hp
      subst hp
      exact q_convStr hE ho hs ht hy hu
    · cases hp
  · rename_i e y hs ht hy
    split at hc
    · rename_i he
      injection hc with hc
      subst hc
      refine ⟨fun p hp => ?_, fun p st' h => ?_⟩
      · simp only [Zo] at hp
        split at hp
        · rename_i u hu
          injection hp with hp
          subst hp
          exact q_toBytes hI hE ho hs ht he hy hu
        · cases hp
      · simp only [Z4b] at h
        split at h
        · rename_i u hu
          injection h with h
          simp only [Prod.mk.injEq] at h
          obtain ⟨rfl, rfl⟩ := h
          exact l_toBytes hI hE ho hs ht he hy hu
        · cases h
    · cases hc
  · rename_i e y hs ht hy
    split at hc
    · rename_i he
      injection hc with hc
      subst hc
      refine ⟨fun p hp => ?_, fun p st' h => by cases h⟩
      simp only [Zo] at hp
      obtain ⟨es, h1, h2⟩ := Option.bind_eq_some_iff.1 hp
      obtain ⟨bs, h3, rfl⟩ := Option.map_eq_some_iff.1 h2
      exact q_toStr hI hE ho hs he ht hy h1 h3
    · cases hc
  · cases hc
theorem Z7q (hI : Inv X st G w) (hE : EnvRep G (Z6 X st G) w n ρ a) {o : Oper} {pi : PI} (hc : Zl P o.op = some pi) :
    (∀ p, Zo st.get (Opd.ev ρ) pi = some p → QOk P X st G w o a p) ∧ ∀ p st', Z4b st (Opd.ev ρ) pi = some (p, st') → LOk P X st G w o a p st' := by
  cases ho : o.op with
  | move x =>
    rw [ho] at hc
    obtain ⟨y, hy, rfl⟩ := Option.map_eq_some_iff.1 hc
    exact ⟨fun p hp => by injection hp with hp; subst hp; exact q_move hE (.inl ho) hy, fun p st' h => by cases h⟩
  | assign x =>
    rw [ho] at hc
    obtain ⟨y, hy, rfl⟩ := Option.map_eq_some_iff.1 hc
    exact ⟨fun p hp => by injection hp with hp; subst hp; exact q_move hE (.inr ho) hy, fun p st' h => by cases h⟩
  | pick c x y =>
    rw [ho] at hc
    simp only [Zl] at hc
    split at hc
    · rename_i c' x' y' h1 h2 h3
      injection hc with hc
      subst hc
      exact ⟨fun p hp => q_pick hE ho h1 h2 h3 hp, fun p st' h => by cases h⟩
    · cases hc
  | load t x =>
    rw [ho] at hc
    simp only [Zl] at hc
    refine ⟨fun p hp => q_load hI hE ho hc hp, fun p st' h => ?_⟩
    unfold cLoad at hc
    (repeat' split at hc) <;> first | (cases hc; done) | (injection hc with hc; subst hc; cases h)
  | store t x y =>
    rw [ho] at hc
    simp only [Zl] at hc
    refine ⟨fun p hp => ?_, fun p st' h => l_store hI hE ho hc h⟩
    unfold Zg7 at hc
    split at hc
    · injection hc with hc; subst hc; cases hp
    · cases hc
  | alloc t =>
    rw [ho] at hc
    obtain ⟨zs, hz, rfl⟩ := Option.map_eq_some_iff.1 hc
    refine ⟨fun p hp => (by cases hp), fun p st' h => ?_⟩
    simp only [Z4b, Option.some.injEq, Prod.mk.injEq] at h
    obtain ⟨rfl, rfl⟩ := h
    exact l_alloc hI ho hz
  | box t x =>
    rw [ho] at hc
    obtain ⟨y, hy, rfl⟩ := Option.map_eq_some_iff.1 hc
    refine ⟨fun p hp => (by cases hp), fun p st' h => ?_⟩
    simp only [Z4b] at h
    split at h
    · rename_i hj
      simp only [Option.some.injEq, Prod.mk.injEq] at h
      obtain ⟨rfl, rfl⟩ := h
      exact l_box hI hE ho hy hj
    · cases h
  | build t ps =>
    rw [ho] at hc
    simp only [Zl] at hc
    refine ⟨fun p hp => q_build hE ho hc hp, fun p st' h => ?_⟩
    unfold Zgc at hc
    (repeat' split at hc) <;> first | (cases hc; done) | (obtain ⟨qs, _, rfl⟩ := Option.map_eq_some_iff.1 hc; cases h)
  | buildSlice t l ps =>
    rw [ho] at hc
    simp only [Zl] at hc
    have hform : ∃ sz zero qs, pi = .buildSl sz zero qs := by
      unfold Z4d at hc
      (repeat' split at hc) <;> first | (cases hc; done) | (obtain ⟨qs, _, rfl⟩ := Option.map_eq_some_iff.1 hc; exact ⟨_, _, _, rfl⟩)
    obtain ⟨sz, zero, qs, rfl⟩ := hform
    refine ⟨fun p hp => ?_, fun p st' h => ?_⟩
    · simp only [Zo] at hp
      split at hp
      · obtain ⟨es, he, rfl⟩ := Option.map_eq_some_iff.1 hp
        exact q_buildSl hI hE ho hc he
      · cases hp
    · simp only [Z4b] at h
      split at h
      · obtain ⟨es, he, h⟩ := Option.map_eq_some_iff.1 h
        simp only [Prod.mk.injEq] at h
        obtain ⟨rfl, rfl⟩ := h
        exact l_buildSl hI hE ho hc he
      · cases h
  | fieldAddr s x f =>
    rw [ho] at hc
    simp only [Zl] at hc
    refine ⟨fun p hp => q_fieldAddr hE ho hc hp, fun p st' h => ?_⟩
    unfold Z3f at hc
    (repeat' split at hc) <;> first | (cases hc; done) | (injection hc with hc; subst hc; cases h)
  | field s x f =>
    rw [ho] at hc
    simp only [Zl] at hc
    refine ⟨fun p hp => q_field hE ho hc hp, fun p st' h => ?_⟩
    unfold Zgb at hc
    (repeat' split at hc) <;> first | (cases hc; done) | (injection hc with hc; subst hc; cases h)
  | indexAddr t x i =>
    rw [ho] at hc
    simp only [Zl] at hc
    refine ⟨fun p hp => q_indexAddr hI hE ho hc hp, fun p st' h => ?_⟩
    unfold Z3e at hc
    (repeat' split at hc) <;> first | (cases hc; done) | (injection hc with hc; subst hc; cases h)
  | index t x i =>
    rw [ho] at hc
    simp only [Zl] at hc
    refine ⟨fun p hp => q_index hE ho hc hp, fun p st' h => ?_⟩
    unfold Zga at hc
    (repeat' split at hc) <;> first | (cases hc; done) | (injection hc with hc; subst hc; cases h)
  | slice t x lo hi mx =>
    rw [ho] at hc
    simp only [Zl] at hc
    refine ⟨fun p hp => q_slice hI hE ho hc hp, fun p st' h => ?_⟩
    unfold Zg8 at hc
    (repeat' split at hc) <;> first | (cases hc; done) | (injection hc with hc; subst hc; cases h)
  | convert s t x =>
    rw [ho] at hc
    exact step_conv hI hE ho hc
  | unOp op t x =>
    rw [ho] at hc
    simp only [Zl] at hc
    cases op with
    | neg =>
      obtain ⟨y, hy, rfl⟩ := Option.map_eq_some_iff.1 hc
      exact ⟨fun p hp => q_neg hE ho hy hp, fun p st' h => by cases h⟩
    | not =>
      obtain ⟨y, hy, rfl⟩ := Option.map_eq_some_iff.1 hc
      exact ⟨fun p hp => q_not hE ho hy hp, fun p st' h => by cases h⟩
    | _ => cases hc
  | binOp op t x y t' =>
    rw [ho] at hc
    exact step_bin hI hE ho hc
  | extract x i =>
    rw [ho] at hc
    obtain ⟨y, hy, rfl⟩ := Option.map_eq_some_iff.1 hc
    exact ⟨fun p hp => q_extract hE ho hy hp, fun p st' h => by cases h⟩
  | makeInterface t x =>
    rw [ho] at hc
    simp only [Zl] at hc
    split at hc
    · rename_i ht
      obtain ⟨y, hy, rfl⟩ := Option.map_eq_some_iff.1 hc
      exact ⟨fun p hp => by injection hp with hp; subst hp; exact q_mkIface hE ho ht hy, fun p st' h => by cases h⟩
    · cases hc
  | makeFunc fn first caps =>
    rw [ho] at hc
    simp only [Zl] at hc
    split at hc
    · rename_i f hf
      have : first = #[] := by cases first; simp_all
      subst this
      obtain ⟨ys, hy, rfl⟩ := Option.map_eq_some_iff.1 hc
      exact ⟨fun p hp => by injection hp with hp; subst hp; exact q_mkFunc hE ho hy, fun p st' h => by cases h⟩
    · cases hc
  | makeSlice t l c =>
    rw [ho] at hc
    simp only [Zl] at hc
    refine ⟨fun p hp => ?_, fun p st' h => l_makeSl hI hE ho hc h⟩
    unfold Zag at hc
    (repeat' split at hc) <;> first | (cases hc; done) | (injection hc with hc; subst hc; cases hp)
  | nilCheck x =>
    rw [ho] at hc
    obtain ⟨y, hy, rfl⟩ := Option.map_eq_some_iff.1 hc
    exact ⟨fun p hp => q_nilCheck hE ho hy hp, fun p st' h => by cases h⟩
  | call c =>
    rw [ho] at hc
    simp only [Zl] at hc
    obtain ⟨callee, args, argTypes⟩ := c
    split at hc
    · rename_i b hb
      simp only at hb
      subst hb
      exact step_builtin hI hE ho hc
    · split at hc
      · injection hc with hc
        subst hc
        exact ⟨fun p hp => (by cases hp), fun p st' h => (by cases h)⟩
      · cases hc
    · cases hc
  | _ => rw [ho] at hc; cases hc
end
end Go.AM
namespace Go.AM
open Go.RowKit
variable [Gl]
inductive View (live : Bool) (look : Nat → Option Tok) : PV → PV → Prop
  | junk (p) : View live look p .junk
  | bool (b) : View live look (.bool b) (.bool b)
  | int (k n) : View live look (.int k n) (.int k n)
  | str (s) : View live look (.str s) (.str s)
  | nilPtr : View live look .nilPtr .nilPtr
  | iptr (cs ds : List PV) (off) (hl : cs.length = ds.length) (h : ∀ (i : Nat) (c d : PV), cs[i]? = some c → ds[i]? = some d → View live look c d) : View live look (.iptr cs off) (.iptr ds off)
  | ptr (t off : Nat) (cs ds : List PV) (hg : look t = some (.var cs)) (hlv : live = true) (hl : cs.length = ds.length) (h : ∀ (i : Nat) (c d : PV), cs[i]? = some c → ds[i]? = some d → View live look c d) : View live look (.ptr t off) (.iptr ds off)
  | nilSl : View live look .nilSl .nilSl
  | sl (xs ys : List (List PV)) (full) (hl : xs.length = ys.length) (hj : ∀ (j : Nat) (cs ds : List PV), xs[j]? = some cs → ys[j]? = some ds → cs.length = ds.length)
      (h : ∀ (j : Nat) (cs ds : List PV) (i : Nat) (c d : PV), xs[j]? = some cs → ys[j]? = some ds → cs[i]? = some c → ds[i]? = some d → View live look c d) : View live look (.sl xs full) (.sl ys full)
  | osl (t g off len full sz es lv) (ys : List (List PV)) (hg : look t = some (.row g sz es lv)) (hlv : live = true ∨ lv = false) (hb : off + len ≤ es.length) (hl : ((es.drop off).take len).length = ys.length)
      (hj : ∀ (j : Nat) (cs ds : List PV), ((es.drop off).take len)[j]? = some cs → ys[j]? = some ds → cs.length = ds.length)
      (h : ∀ (j : Nat) (cs ds : List PV) (i : Nat) (c d : PV), ((es.drop off).take len)[j]? = some cs → ys[j]? = some ds → cs[i]? = some c → ds[i]? = some d → View live look c d) : View live look (.osl t g off len full) (.sl ys full)
  | func (f) (cs ds : List PV) (hl : cs.length = ds.length) (h : ∀ (i : Nat) (c d : PV), cs[i]? = some c → ds[i]? = some d → View live look c d) : View live look (.func f cs) (.func f ds)
  | nilFunc : View live look .nilFunc .nilFunc
  | iface (ty v v') (h : View live look v v') : View live look (.iface ty v) (.iface ty v')
  | nilIface : View live look .nilIface .nilIface
  | agg (cs ds : List PV) (hl : cs.length = ds.length) (h : ∀ (i : Nat) (c d : PV), cs[i]? = some c → ds[i]? = some d → View live look c d) : View live look (.agg cs) (.agg ds)
  | tuple (cs ds : List PV) (hl : cs.length = ds.length) (h : ∀ (i : Nat) (c d : PV), cs[i]? = some c → ds[i]? = some d → View live look c d) : View live look (.tuple cs) (.tuple ds)
def noG : Gh := fun _ _ => none
section
variable {P : Program} {X : Cx} {st : St} {G : Gh} {w : World} {n : Nat} {ρ : Env} {a : Act}
theorem Z1d {α : Type} {cs : List α} {β : Type} {ds : List β} (hl : cs.length = ds.length) {i : Nat} {d : β} (h : ds[i]? = some d) : ∃ c, cs[i]? = some c := by
  have := (List.getElem?_eq_some_iff.1 h).1
  exact ⟨_, List.getElem?_eq_getElem (by omega)⟩
theorem view_rep (hI : Inv X st G w) {live : Bool} {own : Nat → Prop} (ho : ∀ b, own b → Z6 X st G b) (hlv : live = true → ∀ b, own b → X.F b) {p q : PV} (hv : View live st.get p q) : ∀ {v : Value}, Rep G (Z6 X st G) w v p → Rep noG own w v q := by
  induction hv with
  | junk p => intro v _; exact .junk v
  | bool b => intro v h; rw [Z5h h]; exact .bool b
  | int k n => intro v h; rw [Z1z h]; exact .int k n
  | str s => intro v h; rw [Z2x h]; exact .str s
  | nilPtr => intro v h; cases h; exact .nilPtr
  | iptr cs ds off hl h ih =>
    intro v hr
    cases hr with
    | iptr _ _ b o u hc hr' =>
      exact .iptr ds off b o u (fun i d hd => by
        obtain ⟨c, hcc⟩ := Z1d hl hd
        exact ⟨(hc i c hcc).1, fun hob => (hc i c hcc).2 (ho b hob)⟩) (fun i d hd => by
        obtain ⟨c, hcc⟩ := Z1d hl hd
        exact ih i c d hcc hd (hr' i c hcc))
  | ptr t off cs ds hg hlive hl h ih =>
    intro v hr
    cases hr with
    | ptr _ _ L hG =>
      obtain ⟨L', k1, k2, k3⟩ := hI.toks t _ hg
      rw [k1] at hG
      injection hG with hG
      subst hG
      have hno : ¬ own L'.blk := fun hob => hI.f_own (hlv hlive _ hob) ⟨t, _, L', hg, rfl, k1, rfl⟩
      have hx : ∀ i, ∃ v, ∀ c, cs[i]? = some c → Z0l w L'.blk (L'.off + i) = some v ∧ Rep G (Z6 X st G) w v c := by
        intro i
        cases hci : cs[i]? with
        | none => exact ⟨undef, fun c h => by cases h⟩
        | some c =>
          obtain ⟨v, e1, e2⟩ := k3 i c hci
          exact ⟨v, fun c' h => by injection h with h; subst h; exact ⟨e1, e2⟩⟩
      obtain ⟨u, hu⟩ := Classical.axiomOfChoice hx
      exact .iptr ds off L'.blk L'.off u (fun i d hd => by
        obtain ⟨c, hcc⟩ := Z1d hl hd
        exact ⟨(hu i c hcc).1, hno⟩) (fun i d hd => by
        obtain ⟨c, hcc⟩ := Z1d hl hd
        exact ih i c d hcc hd (hu i c hcc).2)
  | nilSl => intro v h; cases h; exact .nilSl
  | sl xs ys full hl hj h ih =>
    intro v hr
    cases hr with
    | sl _ _ b o cap sz adr u hcap hfull hadr hsz hc hr' =>
      rw [hl]
      refine .sl ys full b o cap sz adr u (by omega) (fun hf => by rw [hfull hf, hl]) hadr (fun j ds hd => ?_) (fun j ds i d hd hdi => ?_) (fun j ds i d hd hdi => ?_)
      · obtain ⟨cs, hcs⟩ := Z1d hl hd
        rw [← hj j cs ds hcs hd]
        exact hsz j cs hcs
      · obtain ⟨cs, hcs⟩ := Z1d hl hd
        obtain ⟨c, hcc⟩ := Z1d (hj j cs ds hcs hd) hdi
        have := hc j cs i c hcs hcc
        exact ⟨this.1, fun hob => this.2 (ho b hob)⟩
      · obtain ⟨cs, hcs⟩ := Z1d hl hd
        obtain ⟨c, hcc⟩ := Z1d (hj j cs ds hcs hd) hdi
        exact ih j cs ds i c d hcs hd hcc hdi (hr' j cs i c hcs hcc)
  | osl t g off len full sz es lv ys hg hlive hb hl hj h ih =>
    intro v hr
    cases hr with
    | osl _ _ _ _ _ L cap ad hG hcap hL hfull ha hspot =>
      obtain ⟨L', k1, k2, k3, k4, k5, k6⟩ := hI.toks t _ hg
      rw [k1] at hG
      injection hG with hG
      subst hG
      have hlen : len = ys.length := by rw [← hl]; simp; omega
      have had : ad = ⟨ad.block, ad.off, none⟩ := by cases ad; simp at hspot; subst hspot; rfl
      have hno : ¬ own L'.blk := by
        intro hob
        rcases hlive with hl1 | hl1
        · cases lv with
          | true => exact hI.f_own (hlv hl1 _ hob) ⟨t, _, L', hg, rfl, k1, rfl⟩
          | false => exact k6 rfl (ho _ hob)
        · exact k6 hl1 (ho _ hob)
      have hget : ∀ {j : Nat} {cs : List PV}, ((es.drop off).take len)[j]? = some cs → es[off + j]? = some cs := by
        intro j cs hjc
        rw [List.getElem?_take] at hjc
        split at hjc
        · rwa [List.getElem?_drop] at hjc
        · cases hjc
      have hu : ∀ (j : Nat), ∃ f : Nat → Value, ∀ (cs : List PV) (i : Nat) (c : PV), ((es.drop off).take len)[j]? = some cs → cs[i]? = some c → Z0l w L'.blk (L'.off + (off + j) * L'.sz + i) = some (f i) ∧ Rep G (Z6 X st G) w (f i) c := by
        intro j
        have hx : ∀ i, ∃ v, ∀ (cs : List PV) (c : PV), ((es.drop off).take len)[j]? = some cs → cs[i]? = some c → Z0l w L'.blk (L'.off + (off + j) * L'.sz + i) = some v ∧ Rep G (Z6 X st G) w v c := by
          intro i
          cases hcs : ((es.drop off).take len)[j]? with
          | none => exact ⟨undef, fun cs c h => by cases h⟩
          | some cs =>
            cases hci : cs[i]? with
            | none => exact ⟨undef, fun cs' c h h' => by injection h with h; subst h; rw [hci] at h'; cases h'⟩
            | some c =>
              obtain ⟨v, e1, e2⟩ := (k5 _ _ (hget hcs)).2 i c hci
              refine ⟨v, fun cs' c' h h' => ?_⟩
              injection h with h
              subst h
              rw [hci] at h'
              injection h' with h'
              subst h'
              rw [k2]
              exact ⟨e1, e2⟩
        obtain ⟨f, hf⟩ := Classical.axiomOfChoice hx
        exact ⟨f, fun cs i c h h' => hf i cs c h h'⟩
      obtain ⟨u, hu⟩ := Classical.axiomOfChoice hu
      rw [had, hlen]
      refine .sl ys full ad.block ad.off cap L'.sz ⟨ad.block, ad.off, none⟩ u (by omega) (fun hf => by rw [hfull hf, hlen]) (fun _ => rfl) (fun j ds hd => ?_) (fun j ds i d hd hdi => ?_) (fun j ds i d hd hdi => ?_)
      · obtain ⟨cs, hcs⟩ := Z1d hl hd
        rw [← hj j cs ds hcs hd, k2]
        exact (k5 _ _ (hget hcs)).1
      · obtain ⟨cs, hcs⟩ := Z1d hl hd
        obtain ⟨c, hcc⟩ := Z1d (hj j cs ds hcs hd) hdi
        have hjl := (List.getElem?_eq_some_iff.1 hd).1
        have := ha (by omega)
        subst this
        have := (hu j cs i c hcs hcc).1
        rw [Nat.add_mul, ← Nat.add_assoc] at this
        exact ⟨this, hno⟩
      · obtain ⟨cs, hcs⟩ := Z1d hl hd
        obtain ⟨c, hcc⟩ := Z1d (hj j cs ds hcs hd) hdi
        exact ih j cs ds i c d hcs hd hcc hdi (hu j cs i c hcs hcc).2
  | func f cs ds hl h ih =>
    intro v hr
    cases hr with
    | func _ _ vs hs hr' => exact .func f ds vs (by omega) (fun i d hd => by
        obtain ⟨c, hcc⟩ := Z1d hl hd
        exact ih i c d hcc hd (hr' i c hcc))
  | nilFunc => intro v h; cases h; exact .nilFunc
  | iface ty v0 v1 h ih =>
    intro v hr
    cases hr with
    | iface _ vv _ hr' => exact .iface ty vv v1 (ih hr')
  | nilIface => intro v h; cases h; exact .nilIface
  | agg cs ds hl h ih =>
    intro v hr
    cases hr with
    | agg _ vs hs hr' => exact .agg ds vs (by omega) (fun i d hd => by
        obtain ⟨c, hcc⟩ := Z1d hl hd
        exact ih i c d hcc hd (hr' i c hcc))
  | tuple cs ds hl h ih =>
    intro v hr
    cases hr with
    | tuple _ vs hs hr' => exact .tuple ds vs (by omega) (fun i d hd => by
        obtain ⟨c, hcc⟩ := Z1d hl hd
        exact ih i c d hcc hd (hr' i c hcc))
def emptySt : St := ⟨0, 0, []⟩
def callCx (w : World) (F : Nat → Prop) : Cx := ⟨w, noG, fun _ => False, F, fun _ => False⟩
theorem own_empty {G : Gh} {b : Nat} (h : Own emptySt G b) : False := by
  obtain ⟨t, k, L, h1, _⟩ := h
  cases h1
theorem inv_empty {F : Nat → Prop} (hF : ∀ b, F b → b < w.heap.size) (hg : Gl.ok w) : Inv (callCx w F) emptySt noG w :=
  ⟨fun t g L h => (by cases h), Nat.le_refl _, fun t g L h => (by cases h), fun t k h => (by cases h), fun t k g L h => (by cases h), fun t t' k k' L L' h => (by cases h), fun t g L h => (by cases h), fun t k h => (by cases h), Chg.refl _ _,
    fun b h => (own_empty h).elim, fun b h => ⟨hF b h, fun h => h⟩, fun w' h => Gl.stab (Chg.below h) hg⟩
theorem ownF_empty {F : Nat → Prop} : Z6 (callCx w F) emptySt noG = F := by
  funext b
  exact propext ⟨fun h => h.elim id (fun h => (own_empty h).elim), .inl⟩
def Z87 (st : St) (q τ : List (Nat × Tok)) : Prop := ∀ t, Z9 t st.toks = (match Z9 t q with | some k => some k | none => Z9 t τ) ∧ (Z9 t q = none ∨ Z9 t τ = none)
def Z24 (st : St) (τ : List (Nat × Tok)) : St := ⟨st.next, st.next, τ⟩
def Zkp (X : Cx) (st : St) (G : Gh) (w : World) (q τ : List (Nat × Tok)) : Cx := ⟨w, G, Own (Z24 st τ) G, fun b => X.F b ∨ Own (Z24 st q) G b, fun t => ∃ k, Z9 t τ = some k⟩
def Z1g (st : St) (q : List (Nat × Tok)) (st1 : St) : St := ⟨st.base, st1.next, q ++ st1.toks⟩
theorem Zcr {α : Type} (t : Nat) : ∀ (q τ : List (Nat × α)), Z9 t (q ++ τ) = match Z9 t q with | some k => some k | none => Z9 t τ
  | [], τ => rfl
  | (k, v) :: q, τ => by
    simp only [List.cons_append, Z9]
    split
    · rfl
    · exact Zcr t q τ
theorem Z68 {q τ : List (Nat × Tok)} (hp : Z87 st q τ) {t : Nat} {k : Tok} (h : Z9 t q = some k) : st.get t = some k := by
  unfold St.get
  rw [(hp t).1, h]
theorem Zfrτ {q τ : List (Nat × Tok)} (hp : Z87 st q τ) {t : Nat} {k : Tok} (h : Z9 t τ = some k) : st.get t = some k := by
  unfold St.get
  rw [(hp t).1]
  rcases (hp t).2 with h1 | h1
  · rw [h1, h]
  · rw [h1] at h; cases h
theorem Z2c {q τ : List (Nat × Tok)} (hp : Z87 st q τ) {b : Nat} : Own st G b ↔ Own (Z24 st q) G b ∨ Own (Z24 st τ) G b := by
  constructor
  · rintro ⟨t, k, L, h1, h2, h3, h4⟩
    unfold St.get at h1
    rw [(hp t).1] at h1
    split at h1
    · rename_i k' hk
      injection h1 with h1
      subst h1
      exact .inl ⟨t, k', L, hk, h2, h3, h4⟩
    · exact .inr ⟨t, k, L, h1, h2, h3, h4⟩
  · rintro (⟨t, k, L, h1, h2, h3, h4⟩ | ⟨t, k, L, h1, h2, h3, h4⟩)
    · exact ⟨t, k, L, Z68 hp h1, h2, h3, h4⟩
    · exact ⟨t, k, L, Zfrτ hp h1, h2, h3, h4⟩
theorem ownF_part {q τ : List (Nat × Tok)} (hp : Z87 st q τ) : Z6 (Zkp X st G w q τ) (Z24 st τ) G = Z6 X st G := by
  funext b
  refine propext ⟨fun h => ?_, fun h => ?_⟩
  · rcases h with (h | h) | h
    · exact .inl h
    · exact .inr ((Z2c hp).2 (.inl h))
    · exact .inr ((Z2c hp).2 (.inr h))
  · rcases h with h | h
    · exact .inl (.inl h)
    · rcases (Z2c hp).1 h with h | h
      · exact .inl (.inr h)
      · exact .inr h
theorem inv_part (hI : Inv X st G w) {q τ : List (Nat × Tok)} (hp : Z87 st q τ) : Inv (Zkp X st G w q τ) (Z24 st τ) G w := by
  refine ⟨fun t g L h => hI.low t g L h, Nat.le_refl _, fun t g L h => ⟨(hI.low t g L h).1, h⟩, fun t k h => ?_, fun t k g L h h' => hI.gens t k g L (Zfrτ hp h) h', ?_, fun t g L h => .inl h, fun t k h => .inl ⟨k, h⟩, Chg.refl _ _, fun b h => .inl h, fun b h => ?_, fun w' h => ?_⟩
  · rw [ownF_part hp]
    exact hI.toks t k (Zfrτ hp h)
  · intro t t' k k' L L' h1 h2
    exact hI.inj t t' k k' L L' (Zfrτ hp h1) (Zfrτ hp h2)
  · have hlt : b < w.heap.size := by
      rcases h with h | h
      · exact Z43 hI (.inl h)
      · exact Z43 hI (.inr ((Z2c hp).2 (.inl h)))
    refine ⟨hlt, fun hτ => ?_⟩
    rcases h with h | ⟨t, k, L, h1, h2, h3, h4⟩
    · exact hI.f_own h ((Z2c hp).2 (.inr hτ))
    · obtain ⟨t', k', L', e1, e2, e3, e4⟩ := hτ
      have := hI.inj t t' k k' L L' (Z68 hp h1) (Zfrτ hp e1) h2 e2 h3 e3 (by omega)
      subst this
      have h1' : Z9 t q = some k := h1
      have e1' : Z9 t τ = some k' := e1
      rcases (hp t).2 with hz | hz
      · rw [hz] at h1'; cases h1'
      · rw [hz] at e1'; cases e1'
  · refine hI.glob w' (hI.frame.trans (h : Chg (Own (Z24 st τ) G) w w') fun i hi ho => ?_)
    rcases hI.ownb i ((Z2c hp).2 (.inr ho)) with h1 | h1
    · exact h1
    · omega
theorem inv_join (hI : Inv X st G w) {q τ : List (Nat × Tok)} (hp : Z87 st q τ) {st1 : St} {G1 : Gh} {w1 : World} (hb : st1.base = st.next) (hI1 : Inv (Zkp X st G w q τ) st1 G1 w1) :
    Inv X (Z1g st q st1) G1 w1 ∧ Later X st G w (Z1g st q st1) G1 w1 := by
  have hgh : ∀ t g L, G t g = some L → G1 t g = some L := fun t g L h => (hI1.old t g L h).2
  have hchg : Chg (Own (Z24 st τ) G) w w1 := hI1.frame
  have hget : ∀ {t : Nat} {k : Tok}, (Z1g st q st1).get t = some k → Z9 t q = some k ∨ (Z9 t q = none ∧ st1.get t = some k) := by
    intro t k h
    unfold St.get Z1g at h
    rw [Zcr] at h
    split at h
    · rename_i k' hk
      injection h with h
      subst h
      exact .inl hk
    · rename_i hk
      exact .inr ⟨hk, h⟩
  have hbase := hI.base
  have hbase1 := hI1.base
  have hqgen : ∀ {t : Nat} {k : Tok}, Z9 t q = some k → ∀ {g : Nat} {L : Loc}, G1 t g = some L → G t g = some L := by
    intro t k hk g L h
    rcases hI1.newg t g L h with h1 | ⟨k', h1⟩ | h1
    · exact h1
    · rcases (hp t).2 with h2 | h2
      · rw [hk] at h2; cases h2
      · rw [h1] at h2; cases h2
    · have := get_lt hI (Z68 hp hk)
      omega
  have hqown : ∀ {t : Nat} {k : Tok} {L : Loc}, Z9 t q = some k → k.live = true → G1 t k.gen = some L → Own (Z24 st q) G L.blk := by
    intro t k L hk hlv h
    exact ⟨t, k, L, hk, hlv, hqgen hk h, rfl⟩
  have hown : ∀ b, Own (Z1g st q st1) G1 b → Own (Z24 st q) G b ∨ Own st1 G1 b := by
    rintro b ⟨t, k, L, h1, h2, h3, h4⟩
    rcases hget h1 with h5 | ⟨h5, h6⟩
    · exact .inl (h4 ▸ hqown h5 h2 h3)
    · exact .inr ⟨t, k, L, h6, h2, h3, h4⟩
  have hla : Later X st G w (Z1g st q st1) G1 w1 := by
    refine ⟨hgh, hchg.mono (fun b _ h => (Z2c hp).2 (.inr h)), fun b hbo => ?_⟩
    rcases hbo with h | h
    · exact .inl (.inl h)
    · rcases hown b h with h | h
      · exact .inl (.inr ((Z2c hp).2 (.inl h)))
      · rcases hI1.ownb b h with h | h
        · exact .inl (.inr ((Z2c hp).2 (.inr h)))
        · exact .inr h
  have hqS : ∀ {b : Nat}, Own (Z24 st q) G b → ¬ Own (Z24 st τ) G b := by
    intro b h1 h2
    exact ((inv_part hI hp).foreign b (.inr h1)).2 h2
  refine ⟨⟨fun t g L h => hI1.low t g L h, by simp only [Z1g]; omega, fun t g L h => ?_, fun t k h => ?_, fun t k g L h hg => ?_, ?_, fun t g L h => ?_, fun t k h => ?_, ?_, fun b h => ?_, hI.foreign, hI.glob⟩, hla⟩
  · have := hI.old t g L h
    exact ⟨this.1, hgh _ _ _ this.2⟩
  · rcases hget h with h1 | ⟨h1, h2⟩
    · refine (hI.toks t k (Z68 hp h1)).keep hgh hchg (fun b hb => .inr ((Z2c hp).2 (.inr hb))) hla.own (fun L hL => ⟨fun hS => ?_, (hI.low _ _ _ hL).2⟩)
      cases hlv : k.live with
      | true => exact hqS ⟨t, k, L, h1, hlv, hL, rfl⟩ hS
      | false =>
        have := hI.toks t k (Z68 hp h1)
        cases k with
        | var cs => cases hlv
        | row g sz es lv =>
          obtain ⟨L3, e1, e2, e3, e4, e5, e6⟩ := this
          simp only [Tok.gen] at hL
          rw [hL] at e1
          injection e1 with e1
          subst e1
          exact e6 hlv (.inr ((Z2c hp).2 (.inr hS)))
    · have := hI1.toks t k h2
      refine this.keep (fun _ _ _ h => h) (Chg.refl (fun _ => False) w1) (fun _ h => h.elim) (fun b hb => .inl ?_) (fun L hL => ⟨fun h => h, (hI1.low _ _ _ hL).2⟩)
      rcases hb with hb | hb
      · exact .inl (.inl hb)
      · rcases hown b hb with hb | hb
        · exact .inl (.inr hb)
        · exact .inr hb
  · rcases hget h with h1 | ⟨h1, h2⟩
    · exact hI.gens t k g L (Z68 hp h1) (hqgen h1 hg)
    · exact hI1.gens t k g L h2 hg
  · intro t t' k k' L L' h1 h2 l1 l2 g1 g2 he
    rcases hget h1 with a1 | ⟨a1, b1⟩ <;> rcases hget h2 with a2 | ⟨a2, b2⟩
    · exact hI.inj t t' k k' L L' (Z68 hp a1) (Z68 hp a2) l1 l2 (hqgen a1 g1) (hqgen a2 g2) he
    · exfalso
      have h3 := hqown a1 l1 g1
      have h4 : Own st1 G1 L.blk := ⟨t', k', L', b2, l2, g2, by omega⟩
      exact hI1.f_own (.inr h3) h4
    · exfalso
      have h3 := hqown a2 l2 g2
      have h4 : Own st1 G1 L'.blk := ⟨t, k, L, b1, l1, g1, by omega⟩
      exact hI1.f_own (.inr h3) h4
    · exact hI1.inj t t' k k' L L' b1 b2 l1 l2 g1 g2 he
  · rcases hI1.newg t g L h with h1 | ⟨k', h1⟩ | h1
    · exact hI.newg t g L h1
    · exact .inr (hI.dom t k' (Zfrτ hp h1))
    · simp only [Z1g]
      exact .inr (.inr (by omega))
  · rcases hget h with h1 | ⟨h1, h2⟩
    · exact hI.dom t k (Z68 hp h1)
    · rcases hI1.dom t k h2 with ⟨k', h3⟩ | h3
      · exact hI.dom t k' (Zfrτ hp h3)
      · simp only [Z1g]
        exact .inr (by omega)
  · exact hI.frame.trans hchg (fun b hb hS => by
      rcases hI.ownb b ((Z2c hp).2 (.inr hS)) with h | h
      · exact h
      · omega)
  · rcases hown b h with h | h
    · exact hI.ownb b ((Z2c hp).2 (.inl h))
    · rcases hI1.ownb b h with h | h
      · exact hI.ownb b ((Z2c hp).2 (.inr h))
      · exact .inr (Nat.le_trans hI.frame.size h)
end
end Go.AM
namespace Go.AM
open Go.RowKit
variable [Gl]
def cGuard (ops : Array Oper) : Option (Nat × Bool) → Option (Option (Nat × Bool))
  | none => some none
  | some (j, want) => match (ops[j]?).bind (·.dst) with
    | some t => some (some (t, want))
    | none => none
def dstOk (n : Nat) : Option Nat → Bool
  | none => true
  | some d => decide (d < n)
def cPOp (P : Program) (ops : Array Oper) (n : Nat) (o : Oper) : Option POp :=
  match cGuard ops o.guard, Zl P o.op with
  | some g, some pi => if dstOk n o.dst = true then some ⟨o.dst, g, pi⟩ else none
  | _, _ => none
def Zje (P : Program) (ops : Array Oper) (n : Nat) : List Oper → Option (List POp)
  | [] => some []
  | o :: r => match cPOp P ops n o, Zje P ops n r with
    | some p, some ps => some (p :: ps)
    | _, _ => none
def Opd.tmps : Opd → List Nat
  | .t n => [n]
  | .c _ => []
def Z8d : Option Opd → List Nat
  | none => []
  | some x => x.tmps
def PI.tmps : PI → List Nat
  | .move x | .box x | .fieldAddr x _ | .field x _ _ _ | .conv _ x | .toBytes x | .toStr x | .textId x | .neg x | .not x | .eqNil _ _ x | .extract x _ | .mkIface _ x | .nilCheck x | .len _ x | .cap x | .load _ _ x => x.tmps
  | .pick c a b => c.tmps ++ (a.tmps ++ b.tmps)
  | .store _ x y | .indexA x y _ _ | .indexS x y _ | .indexStr x y | .bin _ x y | .eqBool _ x y | .eqAgg _ _ x y | .makeSl _ _ _ x y | .append _ _ _ x y | .appendZ _ _ _ x y | .copy _ x y => x.tmps ++ y.tmps
  | .alloc _ => []
  | .build _ ps => ps.flatMap fun p => p.2.2.tmps
  | .buildSl _ _ ps => ps.flatMap fun p => p.2.tmps
  | .sliceStr x lo hi => x.tmps ++ (Z8d lo ++ Z8d hi)
  | .sliceSl x _ lo hi mx => x.tmps ++ (Z8d lo ++ (Z8d hi ++ Z8d mx))
  | .sliceArr x _ _ lo hi mx => x.tmps ++ (Z8d lo ++ (Z8d hi ++ Z8d mx))
  | .mkFunc _ caps => caps.flatMap Opd.tmps
  | .minmax _ xs => xs.flatMap Opd.tmps
  | .call f xs => f.tmps ++ xs.flatMap Opd.tmps
def POp.tmps (o : POp) : List Nat := o.op.tmps ++ (match o.guard with | some (t, _) => [t] | none => [])
def Z2g (ops : Array Oper) : List Oper → List POp → Bool
  | o :: r, p :: ps => p.tmps.all (fun t => (o.looksAt ops).contains t) && decide (p.dst = o.dst) && Z2g ops r ps
  | [], [] => true
  | _, _ => false
def badPC : PC := .cond (.c .junk) .skip .skip
def Z8o (P : Program) (n : Nat) (kill : Nat → List Nat) : Code → Option PC
  | .skip => some .skip
  | .region id ops draw => match Zje P ops n ops.toList with
    | some l => if draw = true then (if P.follows .mixedOrders = true ∧ Region.lexB .any ops = true ∧ Z2g ops ops.toList l = true then some (.drawn l (kill id)) else some badPC) else some (.ops l (kill id))
    | none => some badPC
  | .seq a b => match Z8o P n kill a, Z8o P n kill b with
    | some x, some y => some (.seq x y)
    | _, _ => none
  | .cond c a b => match Z2r c, Z8o P n kill a, Z8o P n kill b with
    | some z, some x, some y => some (.cond z x y)
    | _, _, _ => some badPC
  | .block id c => (Z8o P n kill c).map (.block id)
  | .loop c => (Z8o P n kill c).map .loop
  | .exit id => some (.exit id)
  | .ret => some .ret
  | _ => some badPC
def cRes (P : Program) : ResultVar → Option PRes
  | .tmp t => some (.tmp t)
  | .cell a t => match Zcz P t with
    | some (d, i) => if aggD d = true ∨ i.size = 1 then some (.cell a i.size (aggD d)) else none
    | none => none
def cRess (P : Program) : List ResultVar → Option (List PRes)
  | [] => some []
  | r :: rs => match cRes P r, cRess P rs with
    | some x, some xs => some (x :: xs)
    | _, _ => none
structure FnOK (P : Program) (f : Nat) (pf : PF) : Prop where
  ok : ∃ fn c kill, P.funcs[f]? = some fn ∧ fn.body = some c ∧ Z8o P fn.ntmps kill c = some pf.body ∧ pf.ntmps = fn.ntmps ∧ cRess P fn.results.toList = some pf.results ∧ (fn.name == "runtime.NumGoroutine") = false
inductive EX where
  | normal
  | exit (id : Nat)
  | ret
  deriving DecidableEq
def gd (e : Nat → Option PV) : Option (Nat × Bool) → Option Bool
  | none => some true
  | some (t, want) => match e t with
    | some (.bool b) => some (b == want)
    | some (.tuple []) => some false
    | _ => none
def Z2a (live : Bool) (look : Nat → Option Tok) (xs ys : List PV) : Prop := xs.length = ys.length ∧ ∀ (i : Nat) (x y : PV), xs[i]? = some x → ys[i]? = some y → View live look x y
def Z4v : PV → Bool
  | .tuple vs => vs.all scalar?
  | v => scalar? v
def Z50 (k : Nat) : List PV → Env
  | [] => []
  | p :: r => (k, p) :: Z50 (k + 1) r
def mapO {α β : Type} (f : α → Option β) : List α → Option (List β)
  | [] => some []
  | x :: r => match f x, mapO f r with
    | some y, some ys => some (y :: ys)
    | _, _ => none
def res1 (ρ : Env) (look : Nat → Option Tok) : PRes → Option PV
  | .tmp t => some (ρ.at t)
  | .cell a n agg => loadAt look n agg (ρ.at a)
def resOf (ρ : Env) (look : Nat → Option Tok) (rs : List PRes) : Option PV :=
  match mapO (res1 ρ look) rs with
  | some [v] => some v
  | some vs => some (.tuple vs)
  | none => none
inductive Bel (m : Nat) : PV → Prop
  | junk : Bel m .junk
  | bool (b) : Bel m (.bool b)
  | int (k n) : Bel m (.int k n)
  | str (s) : Bel m (.str s)
  | nilPtr : Bel m .nilPtr
  | ptr (t off) (h : t < m) : Bel m (.ptr t off)
  | rptr (t g i off) (h : t < m) : Bel m (.rptr t g i off)
  | iptr (cs off) (h : ∀ c ∈ cs, Bel m c) : Bel m (.iptr cs off)
  | nilSl : Bel m .nilSl
  | sl (xs full) (h : ∀ cs ∈ xs, ∀ c ∈ cs, Bel m c) : Bel m (.sl xs full)
  | osl (t g off len full) (h : t < m) : Bel m (.osl t g off len full)
  | vsl (t off sz len) (h : t < m) : Bel m (.vsl t off sz len)
  | func (f cs) (h : ∀ c ∈ cs, Bel m c) : Bel m (.func f cs)
  | nilFunc : Bel m .nilFunc
  | iface (ty v) (h : Bel m v) : Bel m (.iface ty v)
  | nilIface : Bel m .nilIface
  | agg (cs) (h : ∀ c ∈ cs, Bel m c) : Bel m (.agg cs)
  | tuple (cs) (h : ∀ c ∈ cs, Bel m c) : Bel m (.tuple cs)
def BelTok (m : Nat) : Tok → Prop
  | .var cs => ∀ c ∈ cs, Bel m c
  | .row _ _ es _ => ∀ cs ∈ es, ∀ c ∈ cs, Bel m c
structure Weak (ρ : Env) (st : St) (ρ' : Env) (st' : St) : Prop where
  base : st'.base = st.base
  next : st'.base ≤ st'.next ∧ st'.next ≤ st.next
  env : ∀ t p, Z9 t ρ' = some p → p = .junk ∨ (Z9 t ρ = some p ∧ Bel st'.next p)
  toks : ∀ t k, st'.get t = some k → t < st'.next ∧ BelTok st'.next k ∧ (st.get t = some k ∨ ∃ g sz es, k = .row g sz es false ∧ st.get t = some (.row g sz es true))
structure Chn where
  idx : Nat → Option Nat
  d : Nat → Option Nat
  S : Nat → St
  al : Option (Nat × Nat × Nat × List PV)
def Chn.away (C : Chn) (k : Nat) (o : POp) : Bool := match C.al with
  | none => true
  | some (ka, d, _, _) => !(Nat.beq k ka) && (!(o.tmps.contains d) && decide (o.dst ≠ some d))
def Chn.link (C : Chn) (i : Nat) (o : POp) : Bool := match i with
  | 0 => true
  | j + 1 => match C.d j with
    | some d => o.tmps.contains d
    | none => false
def Chn.stores (C : Chn) (i : Nat) : Bool := match C.al with
  | none => false
  | some (_, _, m, _) => Nat.beq m i
def Chn.float (C : Chn) (b : Bool) (i : Nat) : Bool := match C.al with
  | none => false
  | some (_, _, m, _) => b && Nat.ble i m
structure Bx where
  m : Nat
  d : Nat
  N : Nat
  D : List Nat
  cs : List PV
  A : St
  B : St
def Bx.away (C : Bx) (o : POp) : Bool := o.tmps.all (fun t => !(C.D.contains t)) && C.D.all (fun e => decide (o.dst ≠ some e))
inductive J where
  | code (c : PC) (ρ : Env) (st : St) (x : EX) (ρ' : Env) (st' : St)
  | ops (l : List POp) (ρ : Env) (st : St) (ρ' : Env) (st' : St)
  | drawn (l : List POp) (ρ : Env) (st : St) (ρ' : Env)
  | call (f : Nat) (args : List PV) (r : PV)
  | raw (f : Nat) (args : List PV) (st : St) (r : PV) (st' : St)
  | dl (m : Nat) (A B : St) (k : Nat) (l : List POp) (ρ : Env) (st : St) (ρ' : Env) (st' : St)
  | dl2 (m1 m2 d : Nat) (A B C : St) (k : Nat) (l : List POp) (ρ : Env) (st : St) (ρ' : Env) (st' : St)
  | dli (m1 m2 : Nat) (S : Bool → Bool → St) (k : Nat) (l : List POp) (ρ : Env) (b c : Bool) (ρ' : Env) (b' c' : Bool)
  | dlc (C : Chn) (k : Nat) (l : List POp) (ρ : Env) (b : Bool) (i : Nat) (ρ' : Env) (b' : Bool) (i' : Nat)
  | dlb (C : Bx) (k : Nat) (l : List POp) (ρ : Env) (st : St) (b : Bool) (ρ' : Env) (st' : St) (b' : Bool)
inductive Run (tbl : Nat → Option PF) (prim ext : Nat → List PV → PV → Prop) : J → Prop
  | skip (ρ st) : Run tbl prim ext (.code .skip ρ st .normal ρ st)
  | ops (l kill ρ st ρ' st') (h : Run tbl prim ext (.ops l ρ st ρ' st')) : Run tbl prim ext (.code (.ops l kill) ρ st .normal (Z2l kill ρ') st')
  | drawn (l kill ρ st ρ') (h : Run tbl prim ext (.drawn l ρ st ρ')) : Run tbl prim ext (.code (.drawn l kill) ρ st .normal (Z2l kill ρ') st)
  | seqN (a b ρ st ρ1 st1 x ρ' st') (h : Run tbl prim ext (.code a ρ st .normal ρ1 st1)) (k : Run tbl prim ext (.code b ρ1 st1 x ρ' st')) : Run tbl prim ext (.code (.seq a b) ρ st x ρ' st')
  | seqX (a b ρ st x ρ' st') (hx : x ≠ .normal) (h : Run tbl prim ext (.code a ρ st x ρ' st')) : Run tbl prim ext (.code (.seq a b) ρ st x ρ' st')
  | cond (c a b ρ st t x ρ' st') (hc : c.ev ρ = .bool t) (h : Run tbl prim ext (.code (if t then a else b) ρ st x ρ' st')) : Run tbl prim ext (.code (.cond c a b) ρ st x ρ' st')
  | block (id c ρ st x ρ' st') (h : Run tbl prim ext (.code c ρ st x ρ' st')) : Run tbl prim ext (.code (.block id c) ρ st (if x = .exit id then .normal else x) ρ' st')
  | loopN (c ρ st ρ1 st1 x ρ' st') (h : Run tbl prim ext (.code c ρ st .normal ρ1 st1)) (k : Run tbl prim ext (.code (.loop c) ρ1 st1 x ρ' st')) : Run tbl prim ext (.code (.loop c) ρ st x ρ' st')
  | loopX (c ρ st x ρ' st') (hx : x ≠ .normal) (h : Run tbl prim ext (.code c ρ st x ρ' st')) : Run tbl prim ext (.code (.loop c) ρ st x ρ' st')
  | exit (id ρ st) : Run tbl prim ext (.code (.exit id) ρ st (.exit id) ρ st)
  | ret (ρ st) : Run tbl prim ext (.code .ret ρ st .ret ρ st)
  | weak (c ρ st ρ1 st1 x ρ' st') (hw : Weak ρ st ρ1 st1) (h : Run tbl prim ext (.code c ρ1 st1 x ρ' st')) : Run tbl prim ext (.code c ρ st x ρ' st')
  | opsNil (ρ st) : Run tbl prim ext (.ops [] ρ st ρ st)
  | opsSkip (o l ρ st ρ' st') (hg : gd (Z9 · ρ) o.guard = some false) (h : Run tbl prim ext (.ops l (Env.put ρ o.dst (.tuple [])) st ρ' st')) : Run tbl prim ext (.ops (o :: l) ρ st ρ' st')
  | opsQuiet (o l ρ st p ρ' st') (hg : gd (Z9 · ρ) o.guard = some true) (hq : Zo st.get (Opd.ev ρ) o.op = some p) (h : Run tbl prim ext (.ops l (Env.put ρ o.dst p) st ρ' st')) : Run tbl prim ext (.ops (o :: l) ρ st ρ' st')
  | opsLoud (o l ρ st p st1 ρ' st') (hg : gd (Z9 · ρ) o.guard = some true) (hq : Z4b st (Opd.ev ρ) o.op = some (p, st1)) (h : Run tbl prim ext (.ops l (Env.put ρ o.dst p) st1 ρ' st')) : Run tbl prim ext (.ops (o :: l) ρ st ρ' st')
  | opsCall (o l ρ st f xs g caps args r ρ' st') (hg : gd (Z9 · ρ) o.guard = some true) (ho : o.op = .call f xs) (hf : f.ev ρ = .func g caps) (hv : Z2a false st.get (xs.map (Opd.ev ρ) ++ caps) args) (hc : Run tbl prim ext (.call g args r))
      (h : Run tbl prim ext (.ops l (Env.put ρ o.dst r) st ρ' st')) : Run tbl prim ext (.ops (o :: l) ρ st ρ' st')
  | opsCallS (o l ρ st f xs g caps args r ρ' st') (hg : gd (Z9 · ρ) o.guard = some true) (ho : o.op = .call f xs) (hf : f.ev ρ = .func g caps) (hv : Z2a true st.get (xs.map (Opd.ev ρ) ++ caps) args) (hr : Z4v r = true) (hc : Run tbl prim ext (.call g args r))
      (h : Run tbl prim ext (.ops l (Env.put ρ o.dst r) st ρ' st')) : Run tbl prim ext (.ops (o :: l) ρ st ρ' st')
  | opsCallW (o l ρ st ρ0 st0 f xs g caps args r ρ' st') (hg : gd (Z9 · ρ) o.guard = some true) (ho : o.op = .call f xs) (hw : Weak ρ st ρ0 st0) (hf : f.ev ρ0 = .func g caps) (hv : Z2a false st0.get (xs.map (Opd.ev ρ0) ++ caps) args) (hc : Run tbl prim ext (.call g args r))
      (h : Run tbl prim ext (.ops l (Env.put ρ0 o.dst r) st0 ρ' st')) : Run tbl prim ext (.ops (o :: l) ρ st ρ' st')
  | opsExt (o l ρ st f xs g caps args r ρ' st') (hg : gd (Z9 · ρ) o.guard = some true) (ho : o.op = .call f xs) (hf : f.ev ρ = .func g caps) (hv : Z2a true st.get (xs.map (Opd.ev ρ) ++ caps) args) (hr : Z4v r = true) (hc : ext g args r)
      (h : Run tbl prim ext (.ops l (Env.put ρ o.dst r) st ρ' st')) : Run tbl prim ext (.ops (o :: l) ρ st ρ' st')
  | opsRaw (o l ρ st f xs g caps q τ r st1 ρ' st') (hg : gd (Z9 · ρ) o.guard = some true) (ho : o.op = .call f xs) (hf : f.ev ρ = .func g caps) (hp : Z87 st q τ) (hb : st1.base = st.next) (hc : Run tbl prim ext (.raw g (xs.map (Opd.ev ρ) ++ caps) (Z24 st τ) r st1))
      (h : Run tbl prim ext (.ops l (Env.put ρ o.dst r) (Z1g st q st1) ρ' st')) : Run tbl prim ext (.ops (o :: l) ρ st ρ' st')
  | drawnNil (ρ st) : Run tbl prim ext (.drawn [] ρ st ρ)
  | drawnSkip (o l ρ st ρ') (hg : gd (Z9 · ρ) o.guard = some false) (h : Run tbl prim ext (.drawn l (Env.put ρ o.dst (.tuple [])) st ρ')) : Run tbl prim ext (.drawn (o :: l) ρ st ρ')
  | drawnQuiet (o l ρ st p ρ') (hg : gd (Z9 · ρ) o.guard = some true) (hq : Zo st.get (Opd.ev ρ) o.op = some p) (h : Run tbl prim ext (.drawn l (Env.put ρ o.dst p) st ρ')) : Run tbl prim ext (.drawn (o :: l) ρ st ρ')
  | drawnCall (o l ρ st f xs g caps args r ρ') (hg : gd (Z9 · ρ) o.guard = some true) (ho : o.op = .call f xs) (hf : f.ev ρ = .func g caps) (hv : Z2a false st.get (xs.map (Opd.ev ρ) ++ caps) args) (hc : Run tbl prim ext (.call g args r))
      (h : Run tbl prim ext (.drawn l (Env.put ρ o.dst r) st ρ')) : Run tbl prim ext (.drawn (o :: l) ρ st ρ')
  | drawnCallS (o l ρ st f xs g caps args r ρ') (hg : gd (Z9 · ρ) o.guard = some true) (ho : o.op = .call f xs) (hf : f.ev ρ = .func g caps) (hv : Z2a true st.get (xs.map (Opd.ev ρ) ++ caps) args) (hr : Z4v r = true) (hc : Run tbl prim ext (.call g args r))
      (h : Run tbl prim ext (.drawn l (Env.put ρ o.dst r) st ρ')) : Run tbl prim ext (.drawn (o :: l) ρ st ρ')
  | drawnL (m B l kill ρ st ρ' st') (h : Run tbl prim ext (.dl m st B 0 l ρ st ρ' st')) : Run tbl prim ext (.code (.drawn l kill) ρ st .normal (Z2l kill ρ') st')
  | dlNil (m A B k ρ st) : Run tbl prim ext (.dl m A B k [] ρ st ρ st)
  | dlSkip (m A B k o l ρ st ρ' st') (hk : k ≠ m) (hs : st = A ∨ st = B) (hg : gd (Z9 · ρ) o.guard = some false) (h : Run tbl prim ext (.dl m A B (k + 1) l (Env.put ρ o.dst (.tuple [])) st ρ' st')) : Run tbl prim ext (.dl m A B k (o :: l) ρ st ρ' st')
  | dlQuiet (m A B k o l ρ st p ρ' st') (hk : k ≠ m) (hs : st = A ∨ st = B) (hg : gd (Z9 · ρ) o.guard = some true) (hq : ∀ s, s = A ∨ s = B → Zo s.get (Opd.ev ρ) o.op = some p) (h : Run tbl prim ext (.dl m A B (k + 1) l (Env.put ρ o.dst p) st ρ' st')) : Run tbl prim ext (.dl m A B k (o :: l) ρ st ρ' st')
  | dlCall (m A B k o l ρ st f xs g caps args r ρ' st') (hk : k ≠ m) (hs : st = A ∨ st = B) (hg : gd (Z9 · ρ) o.guard = some true) (ho : o.op = .call f xs) (hf : f.ev ρ = .func g caps) (hv : ∀ s, s = A ∨ s = B → Z2a false s.get (xs.map (Opd.ev ρ) ++ caps) args) (hc : Run tbl prim ext (.call g args r))
      (h : Run tbl prim ext (.dl m A B (k + 1) l (Env.put ρ o.dst r) st ρ' st')) : Run tbl prim ext (.dl m A B k (o :: l) ρ st ρ' st')
  | dlLoud (m B o l ρ st p ρ' st') (hg : gd (Z9 · ρ) o.guard = some true) (hq : Z4b st (Opd.ev ρ) o.op = some (p, B)) (h : Run tbl prim ext (.dl m st B (m + 1) l (Env.put ρ o.dst p) B ρ' st')) : Run tbl prim ext (.dl m st B m (o :: l) ρ st ρ' st')
  | dlRaw (m o l ρ st f xs g caps q τ r st1 ρ' st') (hg : gd (Z9 · ρ) o.guard = some true) (ho : o.op = .call f xs) (hf : f.ev ρ = .func g caps) (hp : Z87 st q τ) (hb : st1.base = st.next) (hc : Run tbl prim ext (.raw g (xs.map (Opd.ev ρ) ++ caps) (Z24 st τ) r st1))
      (h : Run tbl prim ext (.dl m st (Z1g st q st1) (m + 1) l (Env.put ρ o.dst r) (Z1g st q st1) ρ' st')) : Run tbl prim ext (.dl m st (Z1g st q st1) m (o :: l) ρ st ρ' st')
  | drawnL2 (m1 m2 d B C l kill ρ st ρ' st') (hm : m1 < m2) (h : Run tbl prim ext (.dl2 m1 m2 d st B C 0 l ρ st ρ' st')) : Run tbl prim ext (.code (.drawn l kill) ρ st .normal (Z2l kill ρ') st')
  | dl2Nil (m1 m2 d A B C k ρ st) : Run tbl prim ext (.dl2 m1 m2 d A B C k [] ρ st ρ st)
  | dl2Skip (m1 m2 d A B C k o l ρ st ρ' st') (hk1 : k ≠ m1) (hk2 : k ≠ m2) (hs : st = A ∨ st = B ∨ st = C) (hg : gd (Z9 · ρ) o.guard = some false) (h : Run tbl prim ext (.dl2 m1 m2 d A B C (k + 1) l (Env.put ρ o.dst (.tuple [])) st ρ' st')) : Run tbl prim ext (.dl2 m1 m2 d A B C k (o :: l) ρ st ρ' st')
  | dl2Quiet (m1 m2 d A B C k o l ρ st p ρ' st') (hk1 : k ≠ m1) (hk2 : k ≠ m2) (hs : st = A ∨ st = B ∨ st = C) (hg : gd (Z9 · ρ) o.guard = some true) (hq : ∀ s, s = A ∨ s = B ∨ s = C → Zo s.get (Opd.ev ρ) o.op = some p) (h : Run tbl prim ext (.dl2 m1 m2 d A B C (k + 1) l (Env.put ρ o.dst p) st ρ' st')) : Run tbl prim ext (.dl2 m1 m2 d A B C k (o :: l) ρ st ρ' st')
  | dl2Call (m1 m2 d A B C k o l ρ st f xs g caps args r ρ' st') (hk1 : k ≠ m1) (hk2 : k ≠ m2) (hs : st = A ∨ st = B ∨ st = C) (hg : gd (Z9 · ρ) o.guard = some true) (ho : o.op = .call f xs) (hf : f.ev ρ = .func g caps) (hv : ∀ s, s = A ∨ s = B ∨ s = C → Z2a false s.get (xs.map (Opd.ev ρ) ++ caps) args) (hc : Run tbl prim ext (.call g args r))
      (h : Run tbl prim ext (.dl2 m1 m2 d A B C (k + 1) l (Env.put ρ o.dst r) st ρ' st')) : Run tbl prim ext (.dl2 m1 m2 d A B C k (o :: l) ρ st ρ' st')
  | dl2Loud1 (m1 m2 d B C o l ρ st p ρ' st') (hd : o.dst = some d) (hg : gd (Z9 · ρ) o.guard = some true) (hq : Z4b st (Opd.ev ρ) o.op = some (p, B)) (h : Run tbl prim ext (.dl2 m1 m2 d st B C (m1 + 1) l (Env.put ρ o.dst p) B ρ' st')) : Run tbl prim ext (.dl2 m1 m2 d st B C m1 (o :: l) ρ st ρ' st')
  | dl2Raw1 (m1 m2 d C o l ρ st f xs g caps q τ r st1 ρ' st') (hd : o.dst = some d) (hg : gd (Z9 · ρ) o.guard = some true) (ho : o.op = .call f xs) (hf : f.ev ρ = .func g caps) (hp : Z87 st q τ) (hb : st1.base = st.next) (hc : Run tbl prim ext (.raw g (xs.map (Opd.ev ρ) ++ caps) (Z24 st τ) r st1))
      (h : Run tbl prim ext (.dl2 m1 m2 d st (Z1g st q st1) C (m1 + 1) l (Env.put ρ o.dst r) (Z1g st q st1) ρ' st')) : Run tbl prim ext (.dl2 m1 m2 d st (Z1g st q st1) C m1 (o :: l) ρ st ρ' st')
  | dl2Loud2 (m1 m2 d A C o l ρ st p ρ' st') (hd : d ∈ o.tmps) (hg : gd (Z9 · ρ) o.guard = some true) (hq : Z4b st (Opd.ev ρ) o.op = some (p, C)) (h : Run tbl prim ext (.dl2 m1 m2 d A st C (m2 + 1) l (Env.put ρ o.dst p) C ρ' st')) : Run tbl prim ext (.dl2 m1 m2 d A st C m2 (o :: l) ρ st ρ' st')
  | dl2Raw2 (m1 m2 d A o l ρ st f xs g caps q τ r st1 ρ' st') (hd : d ∈ o.tmps) (hg : gd (Z9 · ρ) o.guard = some true) (ho : o.op = .call f xs) (hf : f.ev ρ = .func g caps) (hp : Z87 st q τ) (hb : st1.base = st.next) (hc : Run tbl prim ext (.raw g (xs.map (Opd.ev ρ) ++ caps) (Z24 st τ) r st1))
      (h : Run tbl prim ext (.dl2 m1 m2 d A st (Z1g st q st1) (m2 + 1) l (Env.put ρ o.dst r) (Z1g st q st1) ρ' st')) : Run tbl prim ext (.dl2 m1 m2 d A st (Z1g st q st1) m2 (o :: l) ρ st ρ' st')
  | drawnLi (m1 m2 S l kill ρ ρ' b c) (h : Run tbl prim ext (.dli m1 m2 S 0 l ρ false false ρ' b c)) : Run tbl prim ext (.code (.drawn l kill) ρ (S false false) .normal (Z2l kill ρ') (S b c))
  | dliNil (m1 m2 S k ρ b c) : Run tbl prim ext (.dli m1 m2 S k [] ρ b c ρ b c)
  | dliSkip (m1 m2 S k o l ρ b c ρ' b' c') (hk1 : k ≠ m1) (hk2 : k ≠ m2) (hg : gd (Z9 · ρ) o.guard = some false) (h : Run tbl prim ext (.dli m1 m2 S (k + 1) l (Env.put ρ o.dst (.tuple [])) b c ρ' b' c')) : Run tbl prim ext (.dli m1 m2 S k (o :: l) ρ b c ρ' b' c')
  | dliQuiet (m1 m2 S k o l ρ b c p ρ' b' c') (hk1 : k ≠ m1) (hk2 : k ≠ m2) (hg : gd (Z9 · ρ) o.guard = some true) (hq : ∀ x y, Zo (S x y).get (Opd.ev ρ) o.op = some p) (h : Run tbl prim ext (.dli m1 m2 S (k + 1) l (Env.put ρ o.dst p) b c ρ' b' c')) : Run tbl prim ext (.dli m1 m2 S k (o :: l) ρ b c ρ' b' c')
  | dliLoud1 (m2 S k o l ρ c p ρ' b' c') (hg : gd (Z9 · ρ) o.guard = some true) (hq : ∀ y, Z4b (S false y) (Opd.ev ρ) o.op = some (p, S true y)) (h : Run tbl prim ext (.dli k m2 S (k + 1) l (Env.put ρ o.dst p) true c ρ' b' c')) : Run tbl prim ext (.dli k m2 S k (o :: l) ρ false c ρ' b' c')
  | dliLoud2 (m1 S k o l ρ b p ρ' b' c') (hg : gd (Z9 · ρ) o.guard = some true) (hq : ∀ x, Z4b (S x false) (Opd.ev ρ) o.op = some (p, S x true)) (h : Run tbl prim ext (.dli m1 k S (k + 1) l (Env.put ρ o.dst p) b true ρ' b' c')) : Run tbl prim ext (.dli m1 k S k (o :: l) ρ b false ρ' b' c')
  | drawnLc (C l kill ρ ρ' b i) (hf : C.float b i = false) (h : Run tbl prim ext (.dlc C 0 l ρ false 0 ρ' b i)) : Run tbl prim ext (.code (.drawn l kill) ρ (C.S 0) .normal (Z2l kill ρ') (C.S i))
  | dlcNil (C k ρ b i) : Run tbl prim ext (.dlc C k [] ρ b i ρ b i)
  | dlcSkip (C k o l ρ b i ρ' b' i') (hx : C.idx k = none) (hw : C.away k o = true) (hg : gd (Z9 · ρ) o.guard = some false) (h : Run tbl prim ext (.dlc C (k + 1) l (Env.put ρ o.dst (.tuple [])) b i ρ' b' i')) : Run tbl prim ext (.dlc C k (o :: l) ρ b i ρ' b' i')
  | dlcQuiet (C k o l ρ b i p ρ' b' i') (hx : C.idx k = none) (hw : C.away k o = true) (hg : gd (Z9 · ρ) o.guard = some true) (hq : ∀ j, Zo (C.S j).get (Opd.ev ρ) o.op = some p) (h : Run tbl prim ext (.dlc C (k + 1) l (Env.put ρ o.dst p) b i ρ' b' i')) : Run tbl prim ext (.dlc C k (o :: l) ρ b i ρ' b' i')
  | dlcCall (C k o l ρ b i f xs g caps args r ρ' b' i') (hx : C.idx k = none) (hw : C.away k o = true) (hg : gd (Z9 · ρ) o.guard = some true) (ho : o.op = .call f xs) (hf : f.ev ρ = .func g caps) (hv : ∀ j, Z2a false (C.S j).get (xs.map (Opd.ev ρ) ++ caps) args) (hc : Run tbl prim ext (.call g args r))
      (h : Run tbl prim ext (.dlc C (k + 1) l (Env.put ρ o.dst r) b i ρ' b' i')) : Run tbl prim ext (.dlc C k (o :: l) ρ b i ρ' b' i')
  | dlcLoud (C k o l ρ b i p ρ' b' i') (hx : C.idx k = some i) (hw : C.away k o = true) (hl : C.link i o = true) (hd : o.dst = C.d i) (hs : C.stores i = false) (hg : gd (Z9 · ρ) o.guard = some true) (hq : Z4b (C.S i) (Opd.ev ρ) o.op = some (p, C.S (i + 1))) (h : Run tbl prim ext (.dlc C (k + 1) l (Env.put ρ o.dst p) b (i + 1) ρ' b' i')) : Run tbl prim ext (.dlc C k (o :: l) ρ b i ρ' b' i')
  | dlcMove (C k o l ρ b i p ρ' b' i') (hx : C.idx k = some i) (hw : C.away k o = true) (hl : C.link i o = true) (hd : o.dst = C.d i) (hs : C.stores i = false) (hg : gd (Z9 · ρ) o.guard = some true) (hS : C.S (i + 1) = C.S i) (hq : Zo (C.S i).get (Opd.ev ρ) o.op = some p) (h : Run tbl prim ext (.dlc C (k + 1) l (Env.put ρ o.dst p) b (i + 1) ρ' b' i')) : Run tbl prim ext (.dlc C k (o :: l) ρ b i ρ' b' i')
  | dlcRaw (C k o l ρ b i f xs g caps q τ r st1 ρ' b' i') (hx : C.idx k = some i) (hw : C.away k o = true) (hl : C.link i o = true) (hd : o.dst = C.d i) (hs : C.stores i = false) (hg : gd (Z9 · ρ) o.guard = some true) (ho : o.op = .call f xs) (hf : f.ev ρ = .func g caps) (hp : Z87 (C.S i) q τ) (hb : st1.base = (C.S i).next) (hS : C.S (i + 1) = Z1g (C.S i) q st1) (hc : Run tbl prim ext (.raw g (xs.map (Opd.ev ρ) ++ caps) (Z24 (C.S i) τ) r st1))
      (h : Run tbl prim ext (.dlc C (k + 1) l (Env.put ρ o.dst r) b (i + 1) ρ' b' i')) : Run tbl prim ext (.dlc C k (o :: l) ρ b i ρ' b' i')
  | dlcAlloc (C k o l ρ i d m cs ρ' b' i') (ha : C.al = some (k, d, m, cs)) (hx : C.idx k = none) (hd : o.dst = some d) (hg : o.guard = none) (ho : o.op = .alloc cs) (hm : i ≤ m) (h : Run tbl prim ext (.dlc C (k + 1) l (Env.put ρ o.dst (.ptr (C.S m).next 0)) true i ρ' b' i')) : Run tbl prim ext (.dlc C k (o :: l) ρ false i ρ' b' i')
  | dlcStore (C k o l ρ i ka d cs p ρ' b' i') (ha : C.al = some (ka, d, i, cs)) (hx : C.idx k = some i) (hl : C.link i o = true) (hdt : d ∈ o.tmps) (hd : o.dst ≠ some d) (hdd : o.dst = C.d i) (hg : gd (Z9 · ρ) o.guard = some true) (hq : Z4b ((C.S i).new (.var cs)) (Opd.ev ρ) o.op = some (p, C.S (i + 1))) (h : Run tbl prim ext (.dlc C (k + 1) l (Env.put ρ o.dst p) true (i + 1) ρ' b' i')) : Run tbl prim ext (.dlc C k (o :: l) ρ true i ρ' b' i')
  | drawnB (C l kill ρ ρ' st') (hA : C.A.next ≤ C.N) (hB : C.B.next ≤ C.N) (hN : st'.next = C.N) (hD : ∀ e ∈ C.D, Z9 e ρ' = some (.ptr C.N 0)) (h : Run tbl prim ext (.dlb C 0 l ρ C.A false ρ' st' true)) : Run tbl prim ext (.code (.drawn l kill) ρ C.A .normal (Z2l kill ρ') (st'.new (.var C.cs)))
  | dlbNil (C k ρ st b) : Run tbl prim ext (.dlb C k [] ρ st b ρ st b)
  | dlbSkip (C k o l ρ st b ρ' st' b') (hk : k ≠ C.m) (hw : C.away o = true) (hs : st = C.A ∨ st = C.B) (hg : gd (Z9 · ρ) o.guard = some false) (h : Run tbl prim ext (.dlb C (k + 1) l (Env.put ρ o.dst (.tuple [])) st b ρ' st' b')) : Run tbl prim ext (.dlb C k (o :: l) ρ st b ρ' st' b')
  | dlbQuiet (C k o l ρ st b p ρ' st' b') (hk : k ≠ C.m) (hw : C.away o = true) (hs : st = C.A ∨ st = C.B) (hg : gd (Z9 · ρ) o.guard = some true) (hq : ∀ s, s = C.A ∨ s = C.B → Zo s.get (Opd.ev ρ) o.op = some p) (h : Run tbl prim ext (.dlb C (k + 1) l (Env.put ρ o.dst p) st b ρ' st' b')) : Run tbl prim ext (.dlb C k (o :: l) ρ st b ρ' st' b')
  | dlbCall (C k o l ρ st b f xs g caps args r ρ' st' b') (hk : k ≠ C.m) (hw : C.away o = true) (hs : st = C.A ∨ st = C.B) (hg : gd (Z9 · ρ) o.guard = some true) (ho : o.op = .call f xs) (hf : f.ev ρ = .func g caps) (hv : ∀ s, s = C.A ∨ s = C.B → Z2a false s.get (xs.map (Opd.ev ρ) ++ caps) args) (hc : Run tbl prim ext (.call g args r))
      (h : Run tbl prim ext (.dlb C (k + 1) l (Env.put ρ o.dst r) st b ρ' st' b')) : Run tbl prim ext (.dlb C k (o :: l) ρ st b ρ' st' b')
  | dlbLoud (C o l ρ b p ρ' st' b') (hw : C.away o = true) (hg : gd (Z9 · ρ) o.guard = some true) (hq : Z4b C.A (Opd.ev ρ) o.op = some (p, C.B)) (h : Run tbl prim ext (.dlb C (C.m + 1) l (Env.put ρ o.dst p) C.B b ρ' st' b')) : Run tbl prim ext (.dlb C C.m (o :: l) ρ C.A b ρ' st' b')
  | dlbRaw (C o l ρ b f xs g caps q τ r st1 ρ' st' b') (hw : C.away o = true) (hg : gd (Z9 · ρ) o.guard = some true) (ho : o.op = .call f xs) (hf : f.ev ρ = .func g caps) (hp : Z87 C.A q τ) (hb : st1.base = C.A.next) (hS : C.B = Z1g C.A q st1) (hc : Run tbl prim ext (.raw g (xs.map (Opd.ev ρ) ++ caps) (Z24 C.A τ) r st1))
      (h : Run tbl prim ext (.dlb C (C.m + 1) l (Env.put ρ o.dst r) C.B b ρ' st' b')) : Run tbl prim ext (.dlb C C.m (o :: l) ρ C.A b ρ' st' b')
  | dlbBox (C k o l ρ st x ρ' st' b') (hs : st = C.A ∨ st = C.B) (hg : o.guard = none) (hd : o.dst = some C.d) (hdD : C.d ∈ C.D) (ho : o.op = .box x) (hx : ∀ t ∈ x.tmps, t ∉ C.D) (hj : (x.ev ρ).isJunk = false) (hcs : (x.ev ρ).cells = C.cs) (hv : ∀ look, ∀ c ∈ C.cs, View false look c c)
      (h : Run tbl prim ext (.dlb C (k + 1) l (Env.put ρ o.dst (.ptr C.N 0)) st true ρ' st' b')) : Run tbl prim ext (.dlb C k (o :: l) ρ st false ρ' st' b')
  | dlbMove (C k o l ρ st e ρ' st' b') (hs : st = C.A ∨ st = C.B) (hg : o.guard = none) (hd : o.dst = some e) (heD : e ∈ C.D) (hne : e ≠ C.d) (hdD : C.d ∈ C.D) (ho : o.op = .move (.t C.d)) (hy : Z9 C.d ρ = some (.ptr C.N 0))
      (h : Run tbl prim ext (.dlb C (k + 1) l (Env.put ρ o.dst (.ptr C.N 0)) st true ρ' st' b')) : Run tbl prim ext (.dlb C k (o :: l) ρ st true ρ' st' b')
  | call (f pf args x ρ' st' r0 r) (hf : tbl f = some pf) (hn : args.length ≤ pf.ntmps) (h : Run tbl prim ext (.code pf.body (Z50 0 args) emptySt x ρ' st')) (hx : x = .normal ∨ x = .ret) (hr : resOf ρ' st'.get pf.results = some r0) (hv : View true st'.get r0 r) : Run tbl prim ext (.call f args r)
  | prim (f args r) (h : prim f args r) : Run tbl prim ext (.call f args r)
  | raw (f pf args st x ρ' st' r) (hf : tbl f = some pf) (hn : args.length ≤ pf.ntmps) (h : Run tbl prim ext (.code pf.body (Z50 0 args) st x ρ' st')) (hx : x = .normal ∨ x = .ret) (hr : resOf ρ' st'.get pf.results = some r) : Run tbl prim ext (.raw f args st r st')
end Go.AM
