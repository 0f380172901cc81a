/- AM14: append, copy, texts turned to bytes of one's own: the steps. -/
import Derived.Test.YthoknkogdldgcaaAm13
set_option linter.unusedVariables false
set_option linter.unusedSimpArgs false
namespace Go.AM
open Go.RowKit

section
variable {P : Program} {X : Cx} {st : St} {G : Gh} {w : World} {n : Nat} {ρ : Env} {a : Act}

theorem allOf_append {sz : Nat} {a b : List (List PV)} (h : allOf sz a = true) (k : allOf sz b = true) : allOf sz (a ++ b) = true := by
  simp only [allOf, List.all_append, Bool.and_eq_true] at *
  exact ⟨h, k⟩
theorem allOf_part {sz : Nat} {es : List (List PV)} (h : allOf sz es = true) (l m : Nat) : allOf sz ((es.drop l).take m) = true :=
  List.all_eq_true.2 fun cs hcs => (List.all_eq_true.1 h) cs (List.mem_of_mem_drop (List.mem_of_mem_take hcs))

/-- The new row's cells behind an append that finds no room. -/
theorem append_grow (hI : Inv X st G w) {t t' e : TypeId} {d : TypeDesc} {i : TypeInfo} {z : Value} (hT : AppTy P t t' e d i z) {v : Value} {p : PV} (hr : Rep G (OwnF X st G) w v p) {xs : List (List PV)} (hxs : elemsOf st.get p = some xs) (hax : allOf i.size xs = true)
    {sLen sCap : Nat} {base : Option Addr} (hv : v = .slice base sLen sCap) {xv : Value} {x : PV} (hrx : Rep G (OwnF X st G) w xv x) {src : List (List PV)} (hsrc : srcOf st x = some src) (has : allOf i.size src = true) (hroom : sCap < sLen + src.length) (hbig : (sLen + src.length) * i.bytes ≤ roomLen) (ty : TypeId) :
    ∃ (cap : Nat) (w' : World) (c : Array Value), (Builtin.append_ #[t, t'] ty #[v, xv]).run P w = .ok (.slice (some ⟨w.heap.size, 0, none⟩) (xs.length + src.length) cap) w' ∧ Below w.heap.size w w' ∧ w.heap.size < w'.heap.size ∧ w'.heap[w.heap.size]? = some (.cells c e (0, 0)) ∧ (xs ++ src).length ≤ cap ∧ c.size = cap * i.size ∧
      ∀ (j k : Nat) (cs : List PV) (q : PV), (xs ++ src)[j]? = some cs → cs[k]? = some q → Rep G (OwnF X st G) w (c.getD (j * i.size + k) undef) q := by
  obtain ⟨ad, cap0, hv0, _⟩ := elems_rep hI hr hxs hax
  have hlen : sLen = xs.length ∧ base = ad ∧ sCap = cap0 := by
    rw [hv] at hv0
    injection hv0 with h1 h2 h3
    exact ⟨h2, h1, h3⟩
  obtain ⟨rfl, rfl, rfl⟩ := hlen
  subst hv
  obtain ⟨s1, s2⟩ := src_run (P := P) hI hrx hsrc has
  obtain ⟨us, u1, u2, u3⟩ := s2 src.length (Nat.le_refl _)
  obtain ⟨o1, o2⟩ := src_slice (P := P) hI hr hxs hax
  obtain ⟨old, v1, v2, v3⟩ := o2 xs.length (Nat.le_refl _)
  obtain ⟨cap, w', hcap, hrun, hb, hsz, hnew⟩ := run_append_new hT s1 u1 v1 hroom hbig ty
  have hzc := size_zeroCells z.cells (cap - (xs.length + src.length))
  have hold : old.size = xs.length * i.size := v2
  have hall := allOf_append hax has
  refine ⟨cap, w', _, hrun, hb, hsz, hnew, by simpa using hcap, ?_, ?_⟩
  · simp only [Array.size_append, hold, u2, hzc, hT.hzs]
    rw [← Nat.add_mul, ← Nat.add_mul]
    congr 1
    omega
  · intro j k cs c hj hk
    have hk2 : k < i.size := by rw [← allOf_spec hall hj]; exact (List.getElem?_eq_some_iff.1 hk).1
    rw [List.getElem?_append] at hj
    split at hj
    · rename_i hjl
      have hlt : j * i.size + k < old.size := by rw [hold]; exact mul_lt_of hjl hk2
      have := v3 j cs k c hjl hj hk
      rw [Array.getD_eq_getD_getElem?, Array.getElem?_append_left (by rw [Array.size_append]; omega), Array.getElem?_append_left hlt]
      rwa [Array.getD_eq_getD_getElem?] at this
    · rename_i hjl
      have hjl2 := (List.getElem?_eq_some_iff.1 hj).1
      have hlt : (j - xs.length) * i.size + k < us.size := by rw [u2]; exact mul_lt_of hjl2 hk2
      have := u3 (j - xs.length) cs k c hjl2 hj hk
      have hj3 : j * i.size = xs.length * i.size + (j - xs.length) * i.size := by rw [← Nat.add_mul]; congr 1; omega
      rw [Array.getD_eq_getD_getElem?, Array.getElem?_append_left (by rw [Array.size_append]; omega), Array.getElem?_append_right (by omega), show j * i.size + k - old.size = (j - xs.length) * i.size + k by omega]
      rwa [Array.getD_eq_getD_getElem?] at this
theorem append_new (hI : Inv X st G w) {t t' e : TypeId} {d : TypeDesc} {i : TypeInfo} {z : Value} (hT : AppTy P t t' e d i z) {v : Value} {p : PV} (hr : Rep G (OwnF X st G) w v p) {xs : List (List PV)} (hxs : elemsOf st.get p = some xs) (hax : allOf i.size xs = true)
    {sLen sCap : Nat} {base : Option Addr} (hv : v = .slice base sLen sCap) {xv : Value} {x : PV} (hrx : Rep G (OwnF X st G) w xv x) {src : List (List PV)} (hsrc : srcOf st x = some src) (has : allOf i.size src = true) (hroom : sCap < sLen + src.length) (hbig : (sLen + src.length) * i.bytes ≤ roomLen) (ty : TypeId) :
    ∃ u w' G', (Builtin.append_ #[t, t'] ty #[v, xv]).run P w = .ok u w' ∧ Inv X (st.new (.row 0 i.size (xs ++ src) true)) G' w' ∧ Later X st G w (st.new (.row 0 i.size (xs ++ src) true)) G' w' ∧ Rep G' (OwnF X (st.new (.row 0 i.size (xs ++ src) true)) G') w' u (.osl st.next 0 0 (xs.length + src.length) false) := by
  obtain ⟨cap, w', c, hrun, hb, hsz, hnew, hcap, hcs, hcells⟩ := append_grow hI hT hr hxs hax hv hrx hsrc has hroom hbig ty
  obtain ⟨G', h1, h2, h3⟩ := new_row hI hb hsz hnew (allOf_append hax has) hcap hcs (fun q _ => by simp) hcells (len := xs.length + src.length) (by simp)
  exact ⟨_, w', G', hrun, h1, h2, h3⟩

/-- The same row, in a new block. -/
theorem regen_row (hI : Inv X st G w) {t : Nat} {k : Tok} {L : Loc} (hk : st.get t = some k) (hlv : k.live = true) (hG : G t k.gen = some L) {w' : World} {c : Array Value} {ty : TypeId} (hb : Below w.heap.size w w') (hsz : w.heap.size < w'.heap.size) (hnew : w'.heap[w.heap.size]? = some (.cells c ty (0, 0)))
    {es : List (List PV)} {sz cap : Nat} (hall : allOf sz es = true) (hcap : es.length ≤ cap) (hc : c.size = cap * sz)
    (hcells : ∀ (j i : Nat) (cs : List PV) (p : PV), es[j]? = some cs → cs[i]? = some p → Rep G (OwnF X st G) w (c.getD (j * sz + i) undef) p) {len : Nat} (hlen : len = es.length) :
    ∃ G', Inv X (st.put t (.row (k.gen + 1) sz es true)) G' w' ∧ Later X st G w (st.put t (.row (k.gen + 1) sz es true)) G' w' ∧ Rep G' (OwnF X (st.put t (.row (k.gen + 1) sz es true)) G') w' (.slice (some ⟨w.heap.size, 0, none⟩) len cap) (.osl t (k.gen + 1) 0 len false) := by
  subst hlen
  let L' : Loc := ⟨w.heap.size, 0, cap, sz⟩
  have hch : Chg (fun b => b = L.blk) w w' := chg_of_below hb
  have hla := later_regen hI hk hlv hG (k' := .row (k.gen + 1) sz es true) (Nat.lt_succ_self _) hch (L' := L') (.inr rfl)
  refine ⟨ghNew G t (k.gen + 1) L', inv_regen hI hk hlv hG (k' := .row (k.gen + 1) sz es true) rfl (Nat.lt_succ_self _) hch (.inr rfl) hsz ?_, hla, ?_⟩
  · refine ⟨L', ghNew_same _ _ _ _, rfl, hcap, fun q h1 h2 => ?_, fun j cs hj => ⟨allOf_spec hall hj, fun i p hi => ?_⟩, by simp⟩
    · simp only [L', Nat.zero_add] at h2
      have hq : q < c.size := by omega
      refine ⟨⟨c[q], by rw [cellAt_push hnew]; exact Array.getElem?_eq_getElem hq⟩, ?_⟩
      simp only [L', World.frozen?, hnew]
      simp
    · have hcl := allOf_spec hall hj
      have hil : i < sz := by rw [← hcl]; exact (List.getElem?_eq_some_iff.1 hi).1
      have hjl : j < es.length := (List.getElem?_eq_some_iff.1 hj).1
      have hlt : j * sz + i < c.size := by
        have := mul_lt_of hjl hil
        have : es.length * sz ≤ cap * sz := Nat.mul_le_mul_right _ hcap
        omega
      refine ⟨c[j * sz + i], ?_, ?_⟩
      · simp only [L', Nat.zero_add]
        rw [cellAt_push hnew]
        exact Array.getElem?_eq_getElem hlt
      · have := hcells j i cs p hj hi
        rw [Array.getD_eq_getD_getElem?, Array.getElem?_eq_getElem hlt] at this
        exact hla.rep this
  · exact .osl t (k.gen + 1) 0 es.length false L' cap _ (ghNew_same _ _ _ _) hcap (by simp [L']) (by simp) (fun _ => by simp [L']) rfl

def cAppend (P : Program) (ts : List TypeId) (xs : List Operand) : Option PI :=
  match ts, xs with
  | [t, t'], [s, x] => match P.underlying t, P.underlying t', cOpd s, cOpd x with
    | some (.slice e), some d', some s', some x' => match tyOf P e, zeroOf P e with
      | some (_, i), some zs => if sliceOrText d' = true ∧ zs.length = i.size ∧ 0 < i.bytes then some (.append i.size i.bytes zs s' x') else none
      | _, _ => none
    | _, _, _, _ => none
  | _, _ => none

theorem l_append (hI : Inv X st G w) (hE : EnvRep G (OwnF X st G) w n ρ a) {o : Oper} {ts : Array TypeId} {xs : Array Operand} (ho : o.op = .call { callee := .builtin .append, args := xs, argTypes := ts }) {pi : PI} (hc : cAppend P ts.toList xs.toList = some pi) {p : PV} {st' : St} (hq : loud st (Opd.ev ρ) pi = some (p, st')) : LOk P X st G w o a p st' := by
  unfold cAppend at hc
  split at hc
  · rename_i t t' s x hts hxs
    have ets : ts = #[t, t'] := by cases ts; simp_all
    have exs : xs = #[s, x] := by cases xs; simp_all
    subst ets exs
    split at hc
    · rename_i e d' s' x' hU hU' hs hx
      split at hc
      · rename_i d i zs hT hz
        split at hc
        · rename_i hcond
          obtain ⟨hk, hzl, hby⟩ := hcond
          injection hc with hc
          subst hc
          simp only [loud] at hq
          obtain ⟨src, hsrc, hq⟩ := Option.bind_eq_some_iff.1 hq
          split at hq
          · rename_i hok
            obtain ⟨hok, hpos, _⟩ := hok
            obtain ⟨has, hone⟩ := okEls_all hok
            obtain ⟨z, hzr, hzc⟩ := zeroOf_spec (G := G) (own := OwnF X st G) (w := w) hz
            have hA : AppTy P t t' e d i z := ⟨hU, ⟨d', hU', hk⟩, hT, hzr, by rw [hzc.1, hzl], hby⟩
            have hrs := opd_rep hE hs
            have hrx := opd_rep hE hx
            have done : ∀ {u : Value} {w' : World} {G' : Gh}, (Builtin.append_ #[t, t'] o.type #[a.eval s, a.eval x]).run P w = .ok u w' → Inv X st' G' w' → Later X st G w st' G' w' → Rep G' (OwnF X st' G') w' u p → LOk P X st G w o a p st' := by
              intro u w' G' hrun h1 h2 h3
              refine ⟨.value u, u, w', G', ?_, rfl, h1, h2, h3⟩
              simp only [execOp, ho, resolve]
              simp [invoke, builtin, hrun]
            generalize hes : s'.ev ρ = q at hrs hq
            generalize hvs : a.eval s = v at hrs done
            obtain ⟨s1, s2⟩ := src_run (P := P) hI hrx hsrc has
            unfold appendTo at hq
            split at hq
            · -- nothing is appended
              rename_i hnil
              subst hnil
              obtain ⟨us, u1, u2, u3⟩ := s2 0 (Nat.le_refl _)
              have hus : us = #[] := by
                apply Array.eq_empty_of_size_eq_zero
                simpa using u2
              subst hus
              have go : ∀ (base : Option Addr) (sLen sCap : Nat), v = .slice base sLen sCap → sLen ≤ sCap → q = p → st = st' → LOk P X st G w o a p st' := by
                intro base sLen sCap hv hle hqp hst
                subst hv hqp hst
                have hrun := run_append_in (w := w) (w' := w) hA (base := base) (sLen := sLen) (sCap := sCap) s1 (u1 w (Below.refl _ _)) (by simpa using hle) (by cases base <;> rfl) o.type
                exact done hrun hI (Later.refl _ _ _ _) hrs
              split at hq
              · injection hq with hq
                simp only [Prod.mk.injEq] at hq
                cases hrs
                exact go none 0 0 rfl (Nat.le_refl _) hq.1 hq.2
              · injection hq with hq
                simp only [Prod.mk.injEq] at hq
                cases hrs with
                | sl xs full b o' cap sz adr u hcap hfull hadr hsz hc hr => exact go _ _ _ rfl hcap hq.1 hq.2
              · injection hq with hq
                simp only [Prod.mk.injEq] at hq
                cases hrs with
                | osl t g off len full L cap ad h hcap hL hfull ha => exact go _ _ _ rfl hcap hq.1 hq.2
              · cases hq
            · rename_i hne
              have hpos2 : 0 < src.length := List.length_pos_iff.2 hne
              split at hq
              · -- nil
                split at hq
                · rename_i hb
                  injection hq with hq
                  simp only [Prod.mk.injEq] at hq
                  obtain ⟨rfl, rfl⟩ := hq
                  have hv : v = .slice none 0 0 := by cases hrs; rfl
                  obtain ⟨u, w', G', h1, h2, h3, h4⟩ := append_new hI hA hrs (xs := []) rfl rfl hv hrx hsrc has (by omega) (by simpa using hb) o.type
                  refine done h1 (by simpa using h2) (by simpa using h3) (by simpa using h4)
                · cases hq
              · -- a row whose room is used up
                rename_i xs
                split at hq
                · rename_i hb
                  obtain ⟨hb, hax⟩ := hb
                  injection hq with hq
                  simp only [Prod.mk.injEq] at hq
                  obtain ⟨rfl, rfl⟩ := hq
                  have hv : ∃ ad, v = .slice ad xs.length xs.length := by
                    cases hrs with
                    | sl _ _ b o' cap sz adr u hcap hfull hadr hsz hc hr => rw [hfull rfl]; exact ⟨_, rfl⟩
                  obtain ⟨ad, hv⟩ := hv
                  obtain ⟨u, w', G', h1, h2, h3, h4⟩ := append_new hI hA hrs (xs := xs) rfl hax hv hrx hsrc has (by omega) hb o.type
                  exact done h1 h2 h3 h4
                · cases hq
              · rename_i tk g off len
                split at hq
                · rename_i g' sz' es lv hg
                  split at hq
                  · rename_i hb
                    obtain ⟨rfl, rfl, hlen, hb⟩ := hb
                    injection hq with hq
                    simp only [Prod.mk.injEq] at hq
                    obtain ⟨rfl, rfl⟩ := hq
                    have hv : ∃ ad, v = .slice ad len len := by
                      cases hrs with
                      | osl _ _ _ _ _ L cap ad h hcap hL hfull ha => rw [hfull rfl]; exact ⟨_, rfl⟩
                    obtain ⟨ad, hv⟩ := hv
                    have hel : elemsOf st.get (.osl tk g' off len true) = some ((es.drop off).take len) := by simp [elemsOf, hg, hlen]
                    have hll : ((es.drop off).take len).length = len := by simp; omega
                    obtain ⟨L, k1, k2, k3, k4, k5, k6⟩ := hI.toks tk _ hg
                    have hax : allOf i.size es = true := List.all_eq_true.2 fun cs hcs => by
                      obtain ⟨j, hj⟩ := List.getElem?_of_mem hcs
                      simpa using (k5 j cs hj).1
                    obtain ⟨u, w', G', h1, h2, h3, h4⟩ := append_new hI hA hrs hel (allOf_part hax _ _) hv hrx hsrc has (by omega) hb o.type
                    rw [hll] at h4
                    exact done h1 h2 h3 h4
                  · cases hq
                · cases hq
              · rename_i tk g off len
                split at hq
                · rename_i g' sz' es hg
                  split at hq
                  · rename_i hb
                    obtain ⟨rfl, rfl, hlen, hb⟩ := hb
                    injection hq with hq
                    simp only [Prod.mk.injEq] at hq
                    obtain ⟨rfl, rfl⟩ := hq
                    obtain ⟨L, k1, k2, k3, k4, k5, k6⟩ := hI.toks tk _ hg
                    have hax : allOf i.size es = true := List.all_eq_true.2 fun cs hcs => by
                      obtain ⟨j, hj⟩ := List.getElem?_of_mem hcs
                      simpa using (k5 j cs hj).1
                    have hll : ((es.drop off).take len).length = len := by simp; omega
                    have hel : elemsOf st.get (.osl tk g' off len false) = some ((es.drop off).take len) := by simp [elemsOf, hg, hlen]
                    generalize hqq : PV.osl tk g' off len false = q0 at hrs
                    have hrs0 := hrs
                    rw [← hqq] at hrs
                    cases hrs with
                    | osl _ _ _ _ _ L0 cap ad h hcap hL hfull ha hspot =>
                      rw [k1] at h
                      injection h with h
                      subst h
                      by_cases hin : len + src.length ≤ cap
                      · have had := ha (by omega)
                        subst had
                        obtain ⟨us, u1, u2, u3⟩ := s2 src.length (Nat.le_refl _)
                        have hcr := flat_src has u2 u3
                        have hbase : L.off + off * L.sz + len * L.sz + src.length * L.sz ≤ L.off + L.cap * L.sz := by
                          have : (off + len + src.length) * L.sz ≤ L.cap * L.sz := Nat.mul_le_mul_right _ (by omega)
                          rw [Nat.add_mul, Nat.add_mul] at this
                          omega
                        have hul : us.toList.length = src.length * L.sz := by rw [Array.length_toList, u2, k2]
                        have hex : ∀ j, j < us.toList.length → ∃ v, cellAt w L.blk (L.off + off * L.sz + len * L.sz + j) = some v := fun j hj => (k4 _ (by omega) (by rw [k2] at hbase hul; rw [← k2] at *; omega)).1
                        have hst := run_storeCells_cells (P := P) L.blk (L.off + off * L.sz + len * L.sz) us.toList 0 w (fun j hj => by obtain ⟨u, hu⟩ := hex j hj; simp [cellAt] at hu; simp [hu])
                          (fun j hj => (k4 _ (by omega) (by rw [← k2]; omega)).2) (hcr.list.one hone)
                        have hrun := run_append_in (w := w) hA (base := some ⟨L.blk, L.off + off * L.sz, none⟩) (sLen := len) (sCap := cap) s1 (u1 w (Below.refl _ _)) hin
                          (w' := w.setCells L.blk (L.off + off * L.sz + len * L.sz) us.toList) (by
                            show (storeCells ((⟨L.blk, L.off + off * L.sz, none⟩ : Addr).add (len * i.size)) us.toList).run P w = _
                            rw [add_at, ← k2]
                            exact hst) o.type
                        let L' : Loc := ⟨L.blk, L.off + off * L.sz, L.cap - off, L.sz⟩
                        have hch : Chg (fun b => b = L.blk) w (w.setCells L.blk (L.off + off * L.sz + len * L.sz) us.toList) := setCells_chg rfl
                        have hla := later_regen hI hg rfl k1 (k' := .row (g' + 1) i.size ((es.drop off).take len ++ src) true) (Nat.lt_succ_self _) hch (L' := L') (.inl rfl)
                        have hcapsz : L.off + off * L.sz + (L.cap - off) * L.sz = L.off + L.cap * L.sz := by
                          rw [Nat.add_assoc, ← Nat.add_mul]
                          congr 2
                          omega
                        refine done hrun (inv_regen hI hg rfl k1 (k' := .row (g' + 1) i.size ((es.drop off).take len ++ src) true) rfl (Nat.lt_succ_self _) hch (L' := L') (.inl rfl) (Nat.lt_of_lt_of_le (hI.low _ _ _ k1).2 hch.size) ?_) hla ?_
                        · refine ⟨L', ghNew_same _ _ _ _, k2, ?_, ?_, fun j cs hj => ?_, by simp⟩
                          · simp only [List.length_append, hll, L']
                            omega
                          · have hr2 : Room w L.blk (L.off + off * L.sz) (L.off + off * L.sz + (L.cap - off) * i.size) := fun q hq1 hq2 => k4 q (by omega) (by rw [← k2] at hq2 ⊢; omega)
                            exact room_setCells hr2 hex
                          · have hcl : cs.length = i.size := allOf_spec (allOf_append (allOf_part hax off len) has) hj
                            refine ⟨hcl, fun k c hk => ?_⟩
                            have hk2 : k < L.sz := by rw [k2, ← hcl]; exact (List.getElem?_eq_some_iff.1 hk).1
                            rw [List.getElem?_append, hll] at hj
                            split at hj
                            · rename_i hjl
                              rw [List.getElem?_take, if_pos hjl, List.getElem?_drop] at hj
                              obtain ⟨v, e1, e2⟩ := (k5 _ _ hj).2 k c hk
                              have hjb : j * L.sz + k < len * L.sz := mul_lt_of hjl hk2
                              refine ⟨v, ?_, hla.rep e2⟩
                              simp only [L']
                              rw [setCells_out (by rw [← k2]; omega), ← e1]
                              congr 1
                              rw [Nat.add_mul, k2]
                              omega
                            · rename_i hjl
                              have hjl2 := (List.getElem?_eq_some_iff.1 hj).1
                              have hlt : (j - len) * i.size + k < us.size := by rw [u2]; exact mul_lt_of hjl2 (by omega)
                              have hj3 : j * L.sz = len * L.sz + (j - len) * L.sz := by rw [← Nat.add_mul]; congr 1; omega
                              have hrep := u3 (j - len) cs k c hjl2 hj hk
                              rw [Array.getD_eq_getD_getElem?, Array.getElem?_eq_getElem hlt] at hrep
                              refine ⟨us[(j - len) * i.size + k], ?_, hla.rep hrep⟩
                              simp only [L']
                              refine setCells_in hex (by rw [← k2]; omega) ?_
                              have hidx : L.off + off * L.sz + j * i.size + k - (L.off + off * L.sz + len * L.sz) = (j - len) * i.size + k := by rw [← k2]; omega
                              rw [hidx]
                              simp [hlt]
                        · exact .osl tk (g' + 1) 0 (len + src.length) false L' cap _ (ghNew_same _ _ _ _) hin (by simp only [L']; omega) (by simp) (fun _ => by simp [L']) rfl
                      · obtain ⟨cap', w', c, e1, e2, e3, e4, e5, e6, e7⟩ := append_grow hI hA (Rep.osl tk g' off len false L cap ad k1 hcap hL hfull ha hspot) hel (allOf_part hax _ _) rfl hrx hsrc has (by omega) hb o.type
                        obtain ⟨G', f1, f2, f3⟩ := regen_row hI hg rfl k1 e2 e3 e4 (allOf_append (allOf_part hax off len) has) e5 e6 e7 (len := len + src.length) (by rw [List.length_append, hll])
                        rw [hll] at e1
                        exact done e1 f1 f2 f3
                  · cases hq
                · cases hq
              · cases hq
          · cases hq
        · cases hc
      · cases hc
    · cases hc
  · cases hc
end
end Go.AM
