/- codec.read, over plain values; num.Zag; codec.made of any value. · codec.rest: the loop over the values that stand within. · codec.rest. · codec.read, codec.Read, codec.Parse. · codec.Key: the key of any values. · codec.Key; codec.Put behind nothing; begun. · Keys stand as their values do: the plain law. · rambleref03.form, rambleref03.Key. · rambleref03.Key. · Values are read as they were put; what is read has those bytes; over plain values. · The values of a key are as they were; what values are told of has that key; over plain values. · codec.Parse; codec.Put of any value that may be; CodecBack, over plain values. · Vertices, edges, entries: what they are over plain cells; their entries. -/
import Derived.Test.YtgdjnlopdpjnaaaGreatDoorCodJToCodO
import Derived.Test.YtgdjnlopdpjnaaaGreatDoorOrdToNTake
import Derived.Test.YtgdjnlopdpjnaaaGreatDoorValGToCodI
import Derived.Test.YtgdjnlopdpjnaaaGreatDoorBytesToNameB
import Derived.Test.YtgdjnlopdpjnaaaGreatDoorAmZ
set_option linter.unusedVariables false
set_option linter.unusedSimpArgs false
namespace Go.Proofs.YtgdjnlopdpjnaaaGreatDoor
open Go Go.AM Go.RowKit
theorem decN_le : ∀ (m i : Nat) (b : List UInt8) (u n : Nat), decN m i b = .ok u n → n ≤ b.length
  | 0, i, b, u, n, h => by cases h
  | m + 1, i, [], u, n, h => by cases h
  | m + 1, i, c :: r, u, n, h => by
    simp only [decN] at h
    split at h
    · cases hd : decN m (i + 1) r with
      | ends => rw [hd] at h; cases h
      | form => rw [hd] at h; cases h
      | ok u' n' =>
        rw [hd] at h
        injection h with h1 h2
        have := decN_le m (i + 1) r u' n' hd
        simp only [List.length_cons]
        omega
    · split at h
      · cases h
      · injection h with h1 h2
        simp only [List.length_cons]
        omega
theorem decN_lt : ∀ (m i : Nat) (b : List UInt8) (u n : Nat), m + i = 10 → decN m i b = .ok u n → u < 2 * 128 ^ (9 - i)
  | 0, i, b, u, n, _, h => by cases h
  | m + 1, i, [], u, n, _, h => by cases h
  | m + 1, i, c :: r, u, n, hm, h => by
    have hc := c.toNat_lt
    simp only [decN] at h
    split at h
    · cases hd : decN m (i + 1) r with
      | ends => rw [hd] at h; cases h
      | form => rw [hd] at h; cases h
      | ok u' n' =>
        rw [hd] at h
        injection h with h1 h2
        have := decN_lt m (i + 1) r u' n' (by omega) hd
        by_cases h9 : i = 9
        · subst h9
          have : m = 0 := by omega
          subst this
          cases hd
        · have h3 : 9 - i = (9 - (i + 1)) + 1 := by omega
          rw [h3, Nat.pow_succ]
          omega
    · split at h
      · cases h
      · rename_i hn
        injection h with h1 h2
        by_cases h9 : i = 9
        · subst h9
          simp at hn ⊢
          omega
        · have h3 : 128 ^ 1 ≤ 128 ^ (9 - i) := Nat.pow_le_pow_right (by omega) (by omega)
          omega
theorem decN_u64 {b : List UInt8} {u n : Nat} (h : decN 10 0 b = .ok u n) : u < 18446744073709551616 := by
  have := decN_lt 10 0 b u n rfl h
  have h9 : (128 : Nat) ^ 9 = 9223372036854775808 := by decide
  rw [show 9 - 0 = 9 from rfl, h9] at this
  omega
theorem resG_cG {e : EC} {look : Nat → Option Tok} {t a b c n : Nat} {cs : List PV} {x y : PV} (ha : e.get a = some (.ptr t 0)) (hg : look t = some (.var cs)) (hl : cs.length = n) (hb : e.get b = some x) (hc : e.get c = some y) : resG e look [.cell a n true, .tmp b, .tmp c] = some (.tuple [.agg cs, x, y]) := by
  have hld : loadAt look n true (.ptr t 0) = some (.agg cs) := by
    simp only [loadAt, behind, hg, Option.bind_some]
    rw [← hl]
    simp [slice?]
  simp [resG, resGs, resG1, ha, hb, hc, hld]
end Go.Proofs.YtgdjnlopdpjnaaaGreatDoor
set_option linter.unusedVariables false
set_option linter.unusedSimpArgs false
namespace Go.Proofs.YtgdjnlopdpjnaaaGreatDoor
open Go Go.AM Go.RowKit
def RowOf (l : List Val) (xs : List (List PV)) : Prop := xs.length = l.length ∧ ∀ (j : Nat) (v : Val) (cs : List PV), l[j]? = some v → xs[j]? = some cs → VC v cs
theorem RowOf.snoc {l : List Val} {xs : List (List PV)} {v : Val} {cs : List PV} (h : RowOf l xs) (hv : VC v cs) : RowOf (l ++ [v]) (xs ++ [cs]) := by
  refine ⟨by simp [h.1], fun j w ds hj hd => ?_⟩
  by_cases hjl : j < l.length
  · rw [List.getElem?_append_left hjl] at hj
    rw [List.getElem?_append_left (by rw [h.1]; exact hjl)] at hd
    exact h.2 j w ds hj hd
  · rw [List.getElem?_append_right (by omega)] at hj
    rw [List.getElem?_append_right (by rw [h.1]; omega), h.1] at hd
    have h0 : j - l.length = 0 := by
      have := (List.getElem?_eq_some_iff.1 hj).1
      simp at this
      omega
    rw [h0] at hj hd
    injection hj with hj
    injection hd with hd
    subst hj hd
    exact hv
theorem AccT.cells {sz : Nat} {st : St} {v : PV} {es : List (List PV)} (h : AccT sz st v es) : v.cells = [v] ∧ PV.one v = true := by
  rcases h with ⟨rfl, _⟩ | ⟨t, g, rfl, _⟩ <;> exact ⟨rfl, rfl⟩
theorem AccT.put {sz : Nat} {st : St} {v : PV} {es : List (List PV)} (h : AccT sz st v es) {t : Nat} (ht : tokOf v ≠ some t) (k : Tok) : AccT sz (st.put t k) v es := by
  rcases h with h | ⟨u, g, rfl, hg, hlt⟩
  · exact .inl h
  · refine .inr ⟨u, g, rfl, ?_, hlt⟩
    rw [St.get_put_old (fun e => ht (by rw [e]; rfl))]
    exact hg
def LS (k : Int) (st : St) (v : PV) (xs : List (List PV)) : Prop := AccT 4 st v xs ∧ 2 ≤ st.next ∧ st.get 0 = some (.var [.int .i64 k, .int .i64 0, .str [], v]) ∧ (∃ a b c d, st.get 1 = some (.var [a, b, c, d])) ∧ tokOf v ≠ some 0 ∧ tokOf v ≠ some 1
theorem LS.var {k : Int} {st : St} {v : PV} {xs : List (List PV)} (h : LS k st v xs) (z cs : List PV) : LS k ((st.new (.var z)).put st.next (.var cs)) v xs := by
  obtain ⟨h1, h2, h3, ⟨a, b, c, d, h4⟩, h5, h6⟩ := h
  have hlt : ∀ u, u < st.next → ((st.new (.var z)).put st.next (.var cs)).get u = st.get u := fun u hu => by rw [St.get_put_old (by omega), St.get_new_old hu]
  refine ⟨?_, by simp [St.new, St.put]; omega, by rw [hlt 0 (by omega)]; exact h3, ⟨a, b, c, d, by rw [hlt 1 (by omega)]; exact h4⟩, h5, h6⟩
  rcases h1 with h | ⟨t, g, rfl, hg, hl⟩
  · exact .inl h
  · exact .inr ⟨t, g, rfl, by rw [hlt t hl]; exact hg, by simp [St.new, St.put]; omega⟩
theorem LS.grow {k : Int} {st : St} {v : PV} {xs : List (List PV)} (h : LS k st v xs) (cs : List PV) (hr : (xs.length + 1) * 56 ≤ roomLen) : ∃ v' st', appendTo st 4 56 v [cs] = some (v', st') ∧ st'.get 0 = some (.var [.int .i64 k, .int .i64 0, .str [], v]) ∧ v'.cells = [v'] ∧ PV.one v' = true ∧ LS k (st'.put 0 (.var [.int .i64 k, .int .i64 0, .str [], v'])) v' (xs ++ [cs]) := by
  obtain ⟨h1, h2, h3, ⟨a, b, c, d, h4⟩, h5, h6⟩ := h
  obtain ⟨v', st', k1, k2, k3⟩ := h1.grow (bytes := 56) (src := [cs]) (by simp) (by simpa using hr)
  have hn := k3.2.1
  have t0 : ∀ u, u < 2 → tokOf v ≠ some u → tokOf v' ≠ some u := fun u hu hv => by
    rcases k3.2.2.1 with h | ⟨m, h, hm⟩
    · rw [h]; exact hv
    · rw [h]; intro e; injection e; omega
  refine ⟨v', st', k1, by rw [k3.2.2.2 0 (by omega) h5]; exact h3, (AccT.cells k2).1, (AccT.cells k2).2, AccT.put k2 (t0 0 (by omega) h5) _, by simp [St.put]; omega, St.get_put, ⟨a, b, c, d, by rw [St.get_put_old (by omega), k3.2.2.2 1 (by omega) h6]; exact h4⟩, t0 0 (by omega) h5, t0 1 (by omega) h6⟩
end Go.Proofs.YtgdjnlopdpjnaaaGreatDoor
set_option linter.unusedVariables false
set_option linter.unusedSimpArgs false
namespace Go.Proofs.YtgdjnlopdpjnaaaGreatDoor
open Go Go.AM Go.RowKit
theorem LS.res {k : Int} {st : St} {v : PV} {l : List Val} {xs : List (List PV)} (h : LS k st v xs) (hR : RowOf l xs) (hx : xs.length ≤ 512) : ∃ q, LC l q ∧ View true st.get v q ∧ Pl q := by
  rcases h.1 with ⟨rfl, h0⟩ | ⟨t, g, rfl, hg, _⟩
  · have hl : l = [] := by
      have := hR.1
      rw [h0] at this
      exact List.length_eq_zero_iff.1 this.symm
    exact ⟨.nilSl, .inl ⟨rfl, hl⟩, .nilSl, .nilSl⟩
  · have hLC : LC l (.sl xs false) := .inr ⟨xs, false, rfl, by rw [← hR.1]; omega, hR.1, hR.2⟩
    refine ⟨.sl xs false, hLC, view_osl0 hg (.inl rfl) rfl (fun cs hcs c hc => ?_), hLC.pl⟩
    obtain ⟨j, hj⟩ := List.getElem?_of_mem hcs
    have hlt : j < l.length := by have := (List.getElem?_eq_some_iff.1 hj).1; rw [hR.1] at this; exact this
    exact (hR.2 j l[j] cs (List.getElem?_eq_getElem hlt) hj).pl c hc
end Go.Proofs.YtgdjnlopdpjnaaaGreatDoor
set_option linter.unusedVariables false
set_option linter.unusedSimpArgs false
namespace Go.Proofs.YtgdjnlopdpjnaaaGreatDoor
open Go Go.AM Go.RowKit
end Go.Proofs.YtgdjnlopdpjnaaaGreatDoor
set_option linter.unusedVariables false
set_option linter.unusedSimpArgs false
namespace Go.Proofs.YtgdjnlopdpjnaaaGreatDoor
open Go Go.AM Go.RowKit
def formV : Val → List UInt8
  | .mk k n s l => UInt8.ofNat (k % 256).toNat :: (if k = 1 ∨ k = 6 ∨ k = 7 then be 8 (ord64 n) else if k = 3 then [UInt8.ofNat (n % 256).toNat] else esc s ++ [0, 1])
def keyR : List Val → Except Int (List UInt8)
  | [] => .ok []
  | v :: l => if mayV 8 v then (if v.kind = 4 ∨ v.kind = 5 then .error 21 else (keyR l).map (formV v ++ ·)) else .error 20
theorem keyR_ok {v : Val} {l : List Val} (b bb : List UInt8) (hbb : bb = b ++ formV v) (hm : mayV 8 v = true) (h4 : v.kind ≠ 4) (h5 : v.kind ≠ 5) : (keyR (v :: l)).map (b ++ ·) = (keyR l).map (bb ++ ·) := by
  subst hbb
  simp only [keyR, hm, if_true, h4, h5, or_self, if_false]
  cases keyR l <;> simp [Except.map]
theorem may_kind {f : Nat} {v : Val} (h : mayV f v = true) : v.kind = 1 ∨ v.kind = 3 ∨ v.kind = 6 ∨ v.kind = 7 ∨ v.kind = 2 ∨ v.kind = 4 ∨ v.kind = 5 := by
  obtain ⟨k, n, s, l⟩ := v
  cases f with
  | zero => simp [mayV] at h
  | succ f =>
    simp only [mayV] at h
    simp only [Val.kind]
    repeat' (split at h; · simp [*])
    cases h
theorem may_str {f : Nat} {k n : Int} {s : List UInt8} {l : List Val} (h : mayV f (.mk k n s l) = true) (hk : k ≠ 2) : s = [] := by
  cases f with
  | zero => simp [mayV] at h
  | succ f =>
    simp only [mayV] at h
    repeat' (split at h; · first | (exact absurd ‹_› hk) | (simp at h; simp [h]))
    cases h
theorem may_len {f : Nat} {k n : Int} {s : List UInt8} {l : List Val} (h : mayV f (.mk k n s l) = true) : s.length ≤ 128 := by
  by_cases hk : k = 2
  · subst hk
    cases f with
    | zero => simp [mayV] at h
    | succ f => simp [mayV] at h; omega
  · rw [may_str h hk]; simp
theorem esc_le (s : List UInt8) : (esc s).length ≤ 2 * s.length := by
  rw [esc_length]
  have : s.count 0 ≤ s.length := List.count_le_length
  omega
theorem form_len {v : Val} (h : mayV 8 v = true) : (formV v).length ≤ 259 := by
  obtain ⟨k, n, s, l⟩ := v
  have h1 := may_len h
  have h2 := esc_le s
  simp only [formV]
  split
  · simp [be_len]
  · split
    · simp
    · simp; omega
theorem wrap8 (n : Int) : [[PV.int .u8 (IntKind.u8.wrap n)]] = byteCells [UInt8.ofNat (n % 256).toNat] := by
  rw [wrap_u8]
  have h1 : n % 256 = (((n % 256).toNat : Nat) : Int) := by omega
  have h2 : (n % 256).toNat < 256 := by omega
  simp [byteCells]
  omega
def KS (g : Nat) (b : List UInt8) : St := ⟨0, 2, [(1, .row g 1 (byteCells b) true)]⟩
def AccK (st : St) (v : PV) (b : List UInt8) : Prop := (v = .nilSl ∧ b = [] ∧ st = emptySt) ∨ ∃ g, v = .osl 1 g 0 (byteCells b).length false ∧ st = KS g b
def keyP (l : List Val) : EX → EC → St → Prop := fun x e' st' => (x = .exit 0 ∧ ∃ v' b', keyR l = .ok b' ∧ e' = .put 4 v' .nil ∧ AccK st' v' b') ∨ (∃ err, x = .ret ∧ keyR l = .error err ∧ e' = .put 2 .nilSl (.put 3 (.int .i64 err) .nil))
set_option maxHeartbeats 4000000 in
theorem key_loop (l : List Val) (p : PV) (hp : LC l p) (hln : l.length ≤ 1073741824) : ∀ (rest pre : List Val) (b : List UInt8) (e : EC) (st : St) (v : PV), l = pre ++ rest → keyR l = (keyR rest).map (b ++ ·) → b.length ≤ 259 * pre.length → AccK st v b → e.get 4 = some v → e.get 9 = some p → e.get 10 = some (.int .i64 l.length) → e.get 11 = some (.int .i64 pre.length) →
    V T (PE (keyP l)) [.code (.loop lp_codec_Key_0)] .normal e st := by
  obtain ⟨lp1, lp2, lp3⟩ := hp.len
  intro rest
  induction rest with
  | nil =>
    intro pre b e st v hl hk hb hA h4 h9 h10 h11
    have hlt : decide ((pre.length : Int) < l.length) = false := decide_eq_false (by subst hl; simp)
    have out : ∀ (fr : List Fr) (x : EX) (e' : EC), adv 200 fr x = ([], .exit 0) → e'.get 4 = some v → V T (PE (keyP l)) fr x e' st := fun fr x e' hadv g4 =>
      V_less (.put 4 v .nil) (less_put g4 less_nil) (V_endP hadv (.inl ⟨rfl, v, b, by rw [hk]; simp [keyR, Except.map], rfl, hA⟩))
    refine V_less (.put 4 _ (.put 9 p (.put 10 _ (.put 11 _ .nil)))) (less_put h4 (less_put h9 (less_put h10 (less_put h11 less_nil)))) (V_unroll ?_)
    repeat' first | ((with_reducible show Go.AM.V _ _ _ _ _ _); first | refine V_cH hlt rfl rfl ?_ | refine V_O rfl ?_) | ((with_reducible show Go.AM.VO _ _ _ _ _ _ _); first | refine O_step rfl ?_ | refine O_nil' ?_) | refine out _ _ _ rfl rfl
  | cons v0 rest ih =>
    intro pre b e st v hl hk hb hA h4 h9 h10 h11
    have hlt : decide ((pre.length : Int) < l.length) = true := decide_eq_true (by subst hl; simp; omega)
    have hpl : pre.length + 1 ≤ l.length := by subst hl; simp
    have hbl : b.length + 600 ≤ 140737488355328 := by omega
    have hv0 : l[pre.length]? = some v0 := by subst hl; simp
    obtain ⟨cs, hat, vc⟩ := hp.at hv0
    have hchk := run_Check vc
    obtain ⟨k, n, s, ll⟩ := v0
    obtain ⟨hki, hni, hsi, q, rfl, hq⟩ := vc.open
    have plq := hq.pl
    have ret : ∀ (fr : List Fr) (x : EX) (e' : EC) (st' : St) (err : Int), keyR l = .error err → adv 200 fr x = ([], .ret) → e'.get 2 = some .nilSl → e'.get 3 = some (.int .i64 err) → V T (PE (keyP l)) fr x e' st' := fun fr x e' st' err hke hadv g2 g3 =>
      V_less (.put 2 _ (.put 3 _ .nil)) (less_put g2 (less_put g3 less_nil)) (V_endP hadv (.inr ⟨err, rfl, hke, rfl⟩))
    by_cases hm : mayV 8 (.mk k n s ll) = true
    · have hc0 : chk (.mk k n s ll) = 0 := by simp [chk, hm]
      rw [hc0] at hchk
      have hsl := may_len hm
      have hwi : IntKind.i64.wrap ((pre.length : Int) + 1) = ((pre ++ [Val.mk k n s ll]).length : Int) := by rw [wrap_i64]; simp; omega
      have hfl := form_len hm
      have fin0 : k ≠ 4 → k ≠ 5 → ∀ (fr : List Fr) (x : EX) (e' : EC) (st' : St) (g' : Nat) (bb : List UInt8), bb = b ++ formV (.mk k n s ll) → adv 200 fr x = ([.code (.loop lp_codec_Key_0)], .normal) → e'.get 4 = some (.osl 1 g' 0 (byteCells bb).length false) → e'.get 9 = some p → e'.get 10 = some (.int .i64 l.length) → e'.get 11 = some (.int .i64 (IntKind.i64.wrap ((pre.length : Int) + 1))) → st'.base = 0 → Nat.ble 2 st'.next = true → st'.get 1 = some (.row g' 1 (byteCells bb) true) → V T (PE (keyP l)) fr x e' st' := fun hk4 hk5 fr x e' st' g' bb hbb hadv g4 g9 g10 g11 hb0 hn2 hg1 => V_adv hadv (by
        rw [hwi] at g11
        refine V_forget [(4, .osl 1 g' 0 (byteCells bb).length false), (9, p), (10, .int .i64 l.length), (11, .int .i64 ((pre ++ [Val.mk k n s ll]).length : Int))] (KS g' bb)
          (fg_cons g4 (.osl _ _ _ _ _ (by show 1 < 2; omega)) (fg_cons g9 hp.pl.bel (fg_cons g10 (.int _ _) (fg_cons g11 (.int _ _) fg_nil)))) (by rw [hb0]; rfl) ⟨Nat.zero_le _, Nat.le_of_ble_eq_true hn2⟩ (fun x hx => by
            simp only [KS, List.mem_cons, List.not_mem_nil, or_false] at hx
            subst hx
            exact ⟨by show 1 < 2; omega, fun cs hcs c hc => (pl_bytes bb cs hcs c hc).bel, hg1⟩) ?_
        refine ih (pre ++ [Val.mk k n s ll]) bb _ _ _ (by rw [hl]; simp) ?_ ?_ (.inr ⟨g', rfl, rfl⟩) rfl rfl rfl rfl
        · rw [hk]
          exact keyR_ok b bb hbb hm hk4 hk5
        · rw [hbb]; simp; omega)
      clear ih
      have h8 := run_eight hni
      have hone8 : ((be 8 (ord64 n)).map byPV).all PV.one = true := by simp [byPV, PV.one]
      have hlen8 : ((be 8 (ord64 n)).map byPV).length = 8 := by simp [be_len]
      have hz8 : [PV.int .u8 0, PV.int .u8 0, PV.int .u8 0, PV.int .u8 0, PV.int .u8 0, PV.int .u8 0, PV.int .u8 0, PV.int .u8 0].length = ((be 8 (ord64 n)).map byPV).length := by rw [hlen8]; rfl
      have hne8 : be 8 (ord64 n) ≠ [] := by simp [be]
      have hvsl : ∀ (st : St) (t : Nat), st.get t = some (.var ((be 8 (ord64 n)).map byPV)) → srcOf st (.vsl t 0 1 8) = some (byteCells (be 8 (ord64 n))) := fun st t hg => by
        have := elems_vslB (look := st.get) (t := t) (s := be 8 (ord64 n)) hg
        rw [be_len] at this
        exact this
      have hpl8 : ∀ c ∈ (be 8 (ord64 n)).map byPV, Pl c := fun c hc => by
        obtain ⟨b, _, rfl⟩ := List.mem_map.1 hc
        exact .int _ _
      obtain ⟨kb, hkd⟩ : ∃ kb, UInt8.ofNat (k % 256).toNat = kb := ⟨_, rfl⟩
      have hkb := wrap8 k
      rw [hkd] at hkb
      rcases hA with ⟨rfl, rfl, rfl⟩ | ⟨g, rfl, rfl⟩
      ·
        have hroom1 : ([] : List UInt8).length + ([kb] : List UInt8).length ≤ roomLen := by simp [roomLen] at hbl ⊢; try omega
        have hroom3 : ∀ c : List UInt8, c.length ≤ 258 → ([kb] : List UInt8).length + c.length ≤ roomLen := fun c hc => by simp [roomLen]; omega
        have hroom4 : ∀ c : List UInt8, c.length ≤ 256 → (([kb] : List UInt8) ++ c).length + ([0, 1] : List UInt8).length ≤ roomLen := fun c hc => by simp [roomLen] at hbl ⊢; try omega
        rcases may_kind hm with hk1 | hk3 | hk6 | hk7 | hk2 | hk4 | hk5
        · replace hk1 : k = 1 := hk1
          subst hk1
          have fin := fin0 (by decide) (by decide)
          have hform : [kb] ++ be 8 (ord64 n) = [] ++ formV (.mk 1 n s ll) := by simp only [formV, hkd]; simp
          refine V_less (.put 4 _ (.put 9 p (.put 10 _ (.put 11 _ .nil)))) (less_put h4 (less_put h9 (less_put h10 (less_put h11 less_nil)))) (V_unroll ?_)
          repeat' first | ((with_reducible show Go.AM.V _ _ _ _ _ _); first | refine V_cHT hlt rfl rfl ?_ | refine V_O rfl ?_ | refine V_cT rfl rfl ?_ | refine V_cF rfl rfl ?_) | ((with_reducible show Go.AM.VO _ _ _ _ _ _ _); first | refine O_storeV rfl rfl vc.one rfl rfl rfl ?_ | refine O_at rfl rfl hat ?_ | refine O_cA rfl rfl hchk ?_ | refine O_append (src := byteCells [kb]) rfl rfl (by rw [← hkb]; rfl) (okEls_bytes _) (by decide) (by decide) (appN (by simp) (by simp [roomLen])) ?_ | refine O_cA rfl rfl h8 ?_ | refine O_storeV rfl rfl hone8 hlen8 rfl (storeAt_whole rfl hz8) ?_ | refine O_append (src := byteCells (be 8 (ord64 n))) rfl rfl (hvsl _ _ rfl) (okEls_bytes _) (by decide) (by decide) (appB rfl hne8 (hroom3 _ (by simp [be_len]))) ?_ | refine O_step rfl ?_ | refine O_stepL rfl ?_ | refine O_nil' ?_) | refine fin _ _ _ _ _ _ hform rfl rfl rfl rfl rfl rfl rfl rfl
        · replace hk3 : k = 3 := hk3
          subst hk3
          have fin := fin0 (by decide) (by decide)
          have hform : [kb] ++ [UInt8.ofNat (n % 256).toNat] = [] ++ formV (.mk 3 n s ll) := by simp only [formV, hkd]; simp
          refine V_less (.put 4 _ (.put 9 p (.put 10 _ (.put 11 _ .nil)))) (less_put h4 (less_put h9 (less_put h10 (less_put h11 less_nil)))) (V_unroll ?_)
          repeat' first | ((with_reducible show Go.AM.V _ _ _ _ _ _); first | refine V_cHT hlt rfl rfl ?_ | refine V_O rfl ?_ | refine V_cT rfl rfl ?_ | refine V_cF rfl rfl ?_) | ((with_reducible show Go.AM.VO _ _ _ _ _ _ _); first | refine O_storeV rfl rfl vc.one rfl rfl rfl ?_ | refine O_at rfl rfl hat ?_ | refine O_cA rfl rfl hchk ?_ | refine O_append (src := byteCells [kb]) rfl rfl (by rw [← hkb]; rfl) (okEls_bytes _) (by decide) (by decide) (appN (by simp) (by simp [roomLen])) ?_ | refine O_append (src := byteCells [UInt8.ofNat (n % 256).toNat]) rfl rfl (by rw [← wrap8 n]; rfl) (okEls_bytes _) (by decide) (by decide) (appB rfl (by simp) (hroom3 _ (by simp))) ?_ | refine O_step rfl ?_ | refine O_stepL rfl ?_ | refine O_nil' ?_) | refine fin _ _ _ _ _ _ hform rfl rfl rfl rfl rfl rfl rfl rfl
        · replace hk6 : k = 6 := hk6
          subst hk6
          have fin := fin0 (by decide) (by decide)
          have hform : [kb] ++ be 8 (ord64 n) = [] ++ formV (.mk 6 n s ll) := by simp only [formV, hkd]; simp
          refine V_less (.put 4 _ (.put 9 p (.put 10 _ (.put 11 _ .nil)))) (less_put h4 (less_put h9 (less_put h10 (less_put h11 less_nil)))) (V_unroll ?_)
          repeat' first | ((with_reducible show Go.AM.V _ _ _ _ _ _); first | refine V_cHT hlt rfl rfl ?_ | refine V_O rfl ?_ | refine V_cT rfl rfl ?_ | refine V_cF rfl rfl ?_) | ((with_reducible show Go.AM.VO _ _ _ _ _ _ _); first | refine O_storeV rfl rfl vc.one rfl rfl rfl ?_ | refine O_at rfl rfl hat ?_ | refine O_cA rfl rfl hchk ?_ | refine O_append (src := byteCells [kb]) rfl rfl (by rw [← hkb]; rfl) (okEls_bytes _) (by decide) (by decide) (appN (by simp) (by simp [roomLen])) ?_ | refine O_cA rfl rfl h8 ?_ | refine O_storeV rfl rfl hone8 hlen8 rfl (storeAt_whole rfl hz8) ?_ | refine O_append (src := byteCells (be 8 (ord64 n))) rfl rfl (hvsl _ _ rfl) (okEls_bytes _) (by decide) (by decide) (appB rfl hne8 (hroom3 _ (by simp [be_len]))) ?_ | refine O_step rfl ?_ | refine O_stepL rfl ?_ | refine O_nil' ?_) | refine fin _ _ _ _ _ _ hform rfl rfl rfl rfl rfl rfl rfl rfl
        · replace hk7 : k = 7 := hk7
          subst hk7
          have fin := fin0 (by decide) (by decide)
          have hform : [kb] ++ be 8 (ord64 n) = [] ++ formV (.mk 7 n s ll) := by simp only [formV, hkd]; simp
          refine V_less (.put 4 _ (.put 9 p (.put 10 _ (.put 11 _ .nil)))) (less_put h4 (less_put h9 (less_put h10 (less_put h11 less_nil)))) (V_unroll ?_)
          repeat' first | ((with_reducible show Go.AM.V _ _ _ _ _ _); first | refine V_cHT hlt rfl rfl ?_ | refine V_O rfl ?_ | refine V_cT rfl rfl ?_ | refine V_cF rfl rfl ?_) | ((with_reducible show Go.AM.VO _ _ _ _ _ _ _); first | refine O_storeV rfl rfl vc.one rfl rfl rfl ?_ | refine O_at rfl rfl hat ?_ | refine O_cA rfl rfl hchk ?_ | refine O_append (src := byteCells [kb]) rfl rfl (by rw [← hkb]; rfl) (okEls_bytes _) (by decide) (by decide) (appN (by simp) (by simp [roomLen])) ?_ | refine O_cA rfl rfl h8 ?_ | refine O_storeV rfl rfl hone8 hlen8 rfl (storeAt_whole rfl hz8) ?_ | refine O_append (src := byteCells (be 8 (ord64 n))) rfl rfl (hvsl _ _ rfl) (okEls_bytes _) (by decide) (by decide) (appB rfl hne8 (hroom3 _ (by simp [be_len]))) ?_ | refine O_step rfl ?_ | refine O_stepL rfl ?_ | refine O_nil' ?_) | refine fin _ _ _ _ _ _ hform rfl rfl rfl rfl rfl rfl rfl rfl
        · replace hk2 : k = 2 := hk2
          subst hk2
          have fin := fin0 (by decide) (by decide)
          obtain ⟨qe, he1, he2⟩ := run_Replace s (by omega) false true true
          have ple := he2.pl
          have hel := esc_le s
          have hform : ([kb] ++ esc s) ++ [0, 1] = [] ++ formV (.mk 2 n s ll) := by simp only [formV, hkd]; simp
          have hpls := (BV.sl s false).pl
          by_cases hes : esc s = []
          · rw [hes] at he2 hform
            refine V_less (.put 4 _ (.put 9 p (.put 10 _ (.put 11 _ .nil)))) (less_put h4 (less_put h9 (less_put h10 (less_put h11 less_nil)))) (V_unroll ?_)
            repeat' first | ((with_reducible show Go.AM.V _ _ _ _ _ _); first | refine V_cHT hlt rfl rfl ?_ | refine V_O rfl ?_ | refine V_cT rfl rfl ?_ | refine V_cF rfl rfl ?_) | ((with_reducible show Go.AM.VO _ _ _ _ _ _ _); first | refine O_storeV rfl rfl vc.one rfl rfl rfl ?_ | refine O_at rfl rfl hat ?_ | refine O_cA rfl rfl hchk ?_ | refine O_append (src := byteCells [kb]) rfl rfl (by rw [← hkb]; rfl) (okEls_bytes _) (by decide) (by decide) (appN (by simp) (by simp [roomLen])) ?_ | refine O_cA rfl rfl he1 ?_ | refine O_append rfl rfl (srcOf_bytes he2) (okEls_bytes _) (by decide) (by decide) appE ?_ | refine O_append (src := byteCells [0, 1]) rfl rfl rfl (okEls_bytes _) (by decide) (by decide) (appB rfl (by simp) (hroom3 _ (by simp))) ?_ | refine O_step rfl ?_ | refine O_stepL rfl ?_ | refine O_nil' ?_) | refine fin _ _ _ _ _ _ (by rw [← hform, List.append_nil]) rfl rfl rfl rfl rfl rfl rfl rfl
          · refine V_less (.put 4 _ (.put 9 p (.put 10 _ (.put 11 _ .nil)))) (less_put h4 (less_put h9 (less_put h10 (less_put h11 less_nil)))) (V_unroll ?_)
            repeat' first | ((with_reducible show Go.AM.V _ _ _ _ _ _); first | refine V_cHT hlt rfl rfl ?_ | refine V_O rfl ?_ | refine V_cT rfl rfl ?_ | refine V_cF rfl rfl ?_) | ((with_reducible show Go.AM.VO _ _ _ _ _ _ _); first | refine O_storeV rfl rfl vc.one rfl rfl rfl ?_ | refine O_at rfl rfl hat ?_ | refine O_cA rfl rfl hchk ?_ | refine O_append (src := byteCells [kb]) rfl rfl (by rw [← hkb]; rfl) (okEls_bytes _) (by decide) (by decide) (appN (by simp) (by simp [roomLen])) ?_ | refine O_cA rfl rfl he1 ?_ | refine O_append rfl rfl (srcOf_bytes he2) (okEls_bytes _) (by decide) (by decide) (appB rfl hes (hroom3 _ (by omega))) ?_ | refine O_append (src := byteCells [0, 1]) rfl rfl rfl (okEls_bytes _) (by decide) (by decide) (appB rfl (by simp) (hroom4 _ (by omega))) ?_ | refine O_step rfl ?_ | refine O_stepL rfl ?_ | refine O_nil' ?_) | refine fin _ _ _ _ _ _ hform rfl rfl rfl rfl rfl rfl rfl rfl
        · replace hk4 : k = 4 := hk4
          subst hk4
          have hke : keyR l = .error 21 := by rw [hk]; simp [keyR, hm, Val.kind, Except.map]
          refine V_less (.put 4 _ (.put 9 p (.put 10 _ (.put 11 _ .nil)))) (less_put h4 (less_put h9 (less_put h10 (less_put h11 less_nil)))) (V_unroll ?_)
          repeat' first | ((with_reducible show Go.AM.V _ _ _ _ _ _); first | refine V_cHT hlt rfl rfl ?_ | refine V_O rfl ?_ | refine V_cF rfl rfl ?_) | ((with_reducible show Go.AM.VO _ _ _ _ _ _ _); first | refine O_storeV rfl rfl vc.one rfl rfl rfl ?_ | refine O_at rfl rfl hat ?_ | refine O_cA rfl rfl hchk ?_ | refine O_append (src := byteCells [kb]) rfl rfl (by rw [← hkb]; rfl) (okEls_bytes _) (by decide) (by decide) (appN (by simp) (by simp [roomLen])) ?_ | refine O_step rfl ?_ | refine O_stepL rfl ?_ | refine O_nil' ?_) | refine ret _ _ _ _ _ hke rfl rfl rfl
        · replace hk5 : k = 5 := hk5
          subst hk5
          have hke : keyR l = .error 21 := by rw [hk]; simp [keyR, hm, Val.kind, Except.map]
          refine V_less (.put 4 _ (.put 9 p (.put 10 _ (.put 11 _ .nil)))) (less_put h4 (less_put h9 (less_put h10 (less_put h11 less_nil)))) (V_unroll ?_)
          repeat' first | ((with_reducible show Go.AM.V _ _ _ _ _ _); first | refine V_cHT hlt rfl rfl ?_ | refine V_O rfl ?_ | refine V_cF rfl rfl ?_) | ((with_reducible show Go.AM.VO _ _ _ _ _ _ _); first | refine O_storeV rfl rfl vc.one rfl rfl rfl ?_ | refine O_at rfl rfl hat ?_ | refine O_cA rfl rfl hchk ?_ | refine O_append (src := byteCells [kb]) rfl rfl (by rw [← hkb]; rfl) (okEls_bytes _) (by decide) (by decide) (appN (by simp) (by simp [roomLen])) ?_ | refine O_step rfl ?_ | refine O_stepL rfl ?_ | refine O_nil' ?_) | refine ret _ _ _ _ _ hke rfl rfl rfl
      ·
        have hroom1 : (b : List UInt8).length + ([kb] : List UInt8).length ≤ roomLen := by simp [roomLen] at hbl ⊢; try omega
        have hroom3 : ∀ c : List UInt8, c.length ≤ 258 → ((b ++ [kb]) : List UInt8).length + c.length ≤ roomLen := fun c hc => by simp [roomLen] at hbl ⊢; try omega
        have hroom4 : ∀ c : List UInt8, c.length ≤ 256 → (((b ++ [kb]) : List UInt8) ++ c).length + ([0, 1] : List UInt8).length ≤ roomLen := fun c hc => by simp [roomLen] at hbl ⊢; try omega
        rcases may_kind hm with hk1 | hk3 | hk6 | hk7 | hk2 | hk4 | hk5
        · replace hk1 : k = 1 := hk1
          subst hk1
          have fin := fin0 (by decide) (by decide)
          have hform : (b ++ [kb]) ++ be 8 (ord64 n) = b ++ formV (.mk 1 n s ll) := by simp only [formV, hkd]; simp
          refine V_less (.put 4 _ (.put 9 p (.put 10 _ (.put 11 _ .nil)))) (less_put h4 (less_put h9 (less_put h10 (less_put h11 less_nil)))) (V_unroll ?_)
          repeat' first | ((with_reducible show Go.AM.V _ _ _ _ _ _); first | refine V_cHT hlt rfl rfl ?_ | refine V_O rfl ?_ | refine V_cT rfl rfl ?_ | refine V_cF rfl rfl ?_) | ((with_reducible show Go.AM.VO _ _ _ _ _ _ _); first | refine O_storeV rfl rfl vc.one rfl rfl rfl ?_ | refine O_at rfl rfl hat ?_ | refine O_cA rfl rfl hchk ?_ | refine O_append (src := byteCells [kb]) rfl rfl (by rw [← hkb]; rfl) (okEls_bytes _) (by decide) (by decide) (appB rfl (by simp) hroom1) ?_ | refine O_cA rfl rfl h8 ?_ | refine O_storeV rfl rfl hone8 hlen8 rfl (storeAt_whole rfl hz8) ?_ | refine O_append (src := byteCells (be 8 (ord64 n))) rfl rfl (hvsl _ _ rfl) (okEls_bytes _) (by decide) (by decide) (appB rfl hne8 (hroom3 _ (by simp [be_len]))) ?_ | refine O_step rfl ?_ | refine O_stepL rfl ?_ | refine O_nil' ?_) | refine fin _ _ _ _ _ _ hform rfl rfl rfl rfl rfl rfl rfl rfl
        · replace hk3 : k = 3 := hk3
          subst hk3
          have fin := fin0 (by decide) (by decide)
          have hform : (b ++ [kb]) ++ [UInt8.ofNat (n % 256).toNat] = b ++ formV (.mk 3 n s ll) := by simp only [formV, hkd]; simp
          refine V_less (.put 4 _ (.put 9 p (.put 10 _ (.put 11 _ .nil)))) (less_put h4 (less_put h9 (less_put h10 (less_put h11 less_nil)))) (V_unroll ?_)
          repeat' first | ((with_reducible show Go.AM.V _ _ _ _ _ _); first | refine V_cHT hlt rfl rfl ?_ | refine V_O rfl ?_ | refine V_cT rfl rfl ?_ | refine V_cF rfl rfl ?_) | ((with_reducible show Go.AM.VO _ _ _ _ _ _ _); first | refine O_storeV rfl rfl vc.one rfl rfl rfl ?_ | refine O_at rfl rfl hat ?_ | refine O_cA rfl rfl hchk ?_ | refine O_append (src := byteCells [kb]) rfl rfl (by rw [← hkb]; rfl) (okEls_bytes _) (by decide) (by decide) (appB rfl (by simp) hroom1) ?_ | refine O_append (src := byteCells [UInt8.ofNat (n % 256).toNat]) rfl rfl (by rw [← wrap8 n]; rfl) (okEls_bytes _) (by decide) (by decide) (appB rfl (by simp) (hroom3 _ (by simp))) ?_ | refine O_step rfl ?_ | refine O_stepL rfl ?_ | refine O_nil' ?_) | refine fin _ _ _ _ _ _ hform rfl rfl rfl rfl rfl rfl rfl rfl
        · replace hk6 : k = 6 := hk6
          subst hk6
          have fin := fin0 (by decide) (by decide)
          have hform : (b ++ [kb]) ++ be 8 (ord64 n) = b ++ formV (.mk 6 n s ll) := by simp only [formV, hkd]; simp
          refine V_less (.put 4 _ (.put 9 p (.put 10 _ (.put 11 _ .nil)))) (less_put h4 (less_put h9 (less_put h10 (less_put h11 less_nil)))) (V_unroll ?_)
          repeat' first | ((with_reducible show Go.AM.V _ _ _ _ _ _); first | refine V_cHT hlt rfl rfl ?_ | refine V_O rfl ?_ | refine V_cT rfl rfl ?_ | refine V_cF rfl rfl ?_) | ((with_reducible show Go.AM.VO _ _ _ _ _ _ _); first | refine O_storeV rfl rfl vc.one rfl rfl rfl ?_ | refine O_at rfl rfl hat ?_ | refine O_cA rfl rfl hchk ?_ | refine O_append (src := byteCells [kb]) rfl rfl (by rw [← hkb]; rfl) (okEls_bytes _) (by decide) (by decide) (appB rfl (by simp) hroom1) ?_ | refine O_cA rfl rfl h8 ?_ | refine O_storeV rfl rfl hone8 hlen8 rfl (storeAt_whole rfl hz8) ?_ | refine O_append (src := byteCells (be 8 (ord64 n))) rfl rfl (hvsl _ _ rfl) (okEls_bytes _) (by decide) (by decide) (appB rfl hne8 (hroom3 _ (by simp [be_len]))) ?_ | refine O_step rfl ?_ | refine O_stepL rfl ?_ | refine O_nil' ?_) | refine fin _ _ _ _ _ _ hform rfl rfl rfl rfl rfl rfl rfl rfl
        · replace hk7 : k = 7 := hk7
          subst hk7
          have fin := fin0 (by decide) (by decide)
          have hform : (b ++ [kb]) ++ be 8 (ord64 n) = b ++ formV (.mk 7 n s ll) := by simp only [formV, hkd]; simp
          refine V_less (.put 4 _ (.put 9 p (.put 10 _ (.put 11 _ .nil)))) (less_put h4 (less_put h9 (less_put h10 (less_put h11 less_nil)))) (V_unroll ?_)
          repeat' first | ((with_reducible show Go.AM.V _ _ _ _ _ _); first | refine V_cHT hlt rfl rfl ?_ | refine V_O rfl ?_ | refine V_cT rfl rfl ?_ | refine V_cF rfl rfl ?_) | ((with_reducible show Go.AM.VO _ _ _ _ _ _ _); first | refine O_storeV rfl rfl vc.one rfl rfl rfl ?_ | refine O_at rfl rfl hat ?_ | refine O_cA rfl rfl hchk ?_ | refine O_append (src := byteCells [kb]) rfl rfl (by rw [← hkb]; rfl) (okEls_bytes _) (by decide) (by decide) (appB rfl (by simp) hroom1) ?_ | refine O_cA rfl rfl h8 ?_ | refine O_storeV rfl rfl hone8 hlen8 rfl (storeAt_whole rfl hz8) ?_ | refine O_append (src := byteCells (be 8 (ord64 n))) rfl rfl (hvsl _ _ rfl) (okEls_bytes _) (by decide) (by decide) (appB rfl hne8 (hroom3 _ (by simp [be_len]))) ?_ | refine O_step rfl ?_ | refine O_stepL rfl ?_ | refine O_nil' ?_) | refine fin _ _ _ _ _ _ hform rfl rfl rfl rfl rfl rfl rfl rfl
        · replace hk2 : k = 2 := hk2
          subst hk2
          have fin := fin0 (by decide) (by decide)
          obtain ⟨qe, he1, he2⟩ := run_Replace s (by omega) false true true
          have ple := he2.pl
          have hel := esc_le s
          have hform : ((b ++ [kb]) ++ esc s) ++ [0, 1] = b ++ formV (.mk 2 n s ll) := by simp only [formV, hkd]; simp
          have hpls := (BV.sl s false).pl
          by_cases hes : esc s = []
          · rw [hes] at he2 hform
            refine V_less (.put 4 _ (.put 9 p (.put 10 _ (.put 11 _ .nil)))) (less_put h4 (less_put h9 (less_put h10 (less_put h11 less_nil)))) (V_unroll ?_)
            repeat' first | ((with_reducible show Go.AM.V _ _ _ _ _ _); first | refine V_cHT hlt rfl rfl ?_ | refine V_O rfl ?_ | refine V_cT rfl rfl ?_ | refine V_cF rfl rfl ?_) | ((with_reducible show Go.AM.VO _ _ _ _ _ _ _); first | refine O_storeV rfl rfl vc.one rfl rfl rfl ?_ | refine O_at rfl rfl hat ?_ | refine O_cA rfl rfl hchk ?_ | refine O_append (src := byteCells [kb]) rfl rfl (by rw [← hkb]; rfl) (okEls_bytes _) (by decide) (by decide) (appB rfl (by simp) hroom1) ?_ | refine O_cA rfl rfl he1 ?_ | refine O_append rfl rfl (srcOf_bytes he2) (okEls_bytes _) (by decide) (by decide) appE ?_ | refine O_append (src := byteCells [0, 1]) rfl rfl rfl (okEls_bytes _) (by decide) (by decide) (appB rfl (by simp) (hroom3 _ (by simp))) ?_ | refine O_step rfl ?_ | refine O_stepL rfl ?_ | refine O_nil' ?_) | refine fin _ _ _ _ _ _ (by rw [← hform, List.append_nil]) rfl rfl rfl rfl rfl rfl rfl rfl
          · refine V_less (.put 4 _ (.put 9 p (.put 10 _ (.put 11 _ .nil)))) (less_put h4 (less_put h9 (less_put h10 (less_put h11 less_nil)))) (V_unroll ?_)
            repeat' first | ((with_reducible show Go.AM.V _ _ _ _ _ _); first | refine V_cHT hlt rfl rfl ?_ | refine V_O rfl ?_ | refine V_cT rfl rfl ?_ | refine V_cF rfl rfl ?_) | ((with_reducible show Go.AM.VO _ _ _ _ _ _ _); first | refine O_storeV rfl rfl vc.one rfl rfl rfl ?_ | refine O_at rfl rfl hat ?_ | refine O_cA rfl rfl hchk ?_ | refine O_append (src := byteCells [kb]) rfl rfl (by rw [← hkb]; rfl) (okEls_bytes _) (by decide) (by decide) (appB rfl (by simp) hroom1) ?_ | refine O_cA rfl rfl he1 ?_ | refine O_append rfl rfl (srcOf_bytes he2) (okEls_bytes _) (by decide) (by decide) (appB rfl hes (hroom3 _ (by omega))) ?_ | refine O_append (src := byteCells [0, 1]) rfl rfl rfl (okEls_bytes _) (by decide) (by decide) (appB rfl (by simp) (hroom4 _ (by omega))) ?_ | refine O_step rfl ?_ | refine O_stepL rfl ?_ | refine O_nil' ?_) | refine fin _ _ _ _ _ _ hform rfl rfl rfl rfl rfl rfl rfl rfl
        · replace hk4 : k = 4 := hk4
          subst hk4
          have hke : keyR l = .error 21 := by rw [hk]; simp [keyR, hm, Val.kind, Except.map]
          refine V_less (.put 4 _ (.put 9 p (.put 10 _ (.put 11 _ .nil)))) (less_put h4 (less_put h9 (less_put h10 (less_put h11 less_nil)))) (V_unroll ?_)
          repeat' first | ((with_reducible show Go.AM.V _ _ _ _ _ _); first | refine V_cHT hlt rfl rfl ?_ | refine V_O rfl ?_ | refine V_cF rfl rfl ?_) | ((with_reducible show Go.AM.VO _ _ _ _ _ _ _); first | refine O_storeV rfl rfl vc.one rfl rfl rfl ?_ | refine O_at rfl rfl hat ?_ | refine O_cA rfl rfl hchk ?_ | refine O_append (src := byteCells [kb]) rfl rfl (by rw [← hkb]; rfl) (okEls_bytes _) (by decide) (by decide) (appB rfl (by simp) hroom1) ?_ | refine O_step rfl ?_ | refine O_stepL rfl ?_ | refine O_nil' ?_) | refine ret _ _ _ _ _ hke rfl rfl rfl
        · replace hk5 : k = 5 := hk5
          subst hk5
          have hke : keyR l = .error 21 := by rw [hk]; simp [keyR, hm, Val.kind, Except.map]
          refine V_less (.put 4 _ (.put 9 p (.put 10 _ (.put 11 _ .nil)))) (less_put h4 (less_put h9 (less_put h10 (less_put h11 less_nil)))) (V_unroll ?_)
          repeat' first | ((with_reducible show Go.AM.V _ _ _ _ _ _); first | refine V_cHT hlt rfl rfl ?_ | refine V_O rfl ?_ | refine V_cF rfl rfl ?_) | ((with_reducible show Go.AM.VO _ _ _ _ _ _ _); first | refine O_storeV rfl rfl vc.one rfl rfl rfl ?_ | refine O_at rfl rfl hat ?_ | refine O_cA rfl rfl hchk ?_ | refine O_append (src := byteCells [kb]) rfl rfl (by rw [← hkb]; rfl) (okEls_bytes _) (by decide) (by decide) (appB rfl (by simp) hroom1) ?_ | refine O_step rfl ?_ | refine O_stepL rfl ?_ | refine O_nil' ?_) | refine ret _ _ _ _ _ hke rfl rfl rfl
    · have hm' : mayV 8 (.mk k n s ll) = false := by simpa using hm
      have hc0 : chk (.mk k n s ll) = 20 := by simp [chk, hm']
      rw [hc0] at hchk
      have hke : keyR l = .error 20 := by rw [hk]; simp [keyR, hm', Except.map]
      clear ih
      rcases hA with ⟨rfl, rfl, rfl⟩ | ⟨g, rfl, rfl⟩
      · refine V_less (.put 4 _ (.put 9 p (.put 10 _ (.put 11 _ .nil)))) (less_put h4 (less_put h9 (less_put h10 (less_put h11 less_nil)))) (V_unroll ?_)
        repeat' first | ((with_reducible show Go.AM.V _ _ _ _ _ _); first | refine V_cHT hlt rfl rfl ?_ | refine V_O rfl ?_ | refine V_cT rfl rfl ?_) | ((with_reducible show Go.AM.VO _ _ _ _ _ _ _); first | refine O_stepL rfl ?_ | refine O_storeV rfl rfl vc.one rfl rfl rfl ?_ | refine O_at rfl rfl hat ?_ | refine O_cA rfl rfl hchk ?_ | refine O_step rfl ?_ | refine O_nil' ?_) | refine ret _ _ _ _ _ hke rfl rfl rfl
      · refine V_less (.put 4 _ (.put 9 p (.put 10 _ (.put 11 _ .nil)))) (less_put h4 (less_put h9 (less_put h10 (less_put h11 less_nil)))) (V_unroll ?_)
        repeat' first | ((with_reducible show Go.AM.V _ _ _ _ _ _); first | refine V_cHT hlt rfl rfl ?_ | refine V_O rfl ?_ | refine V_cT rfl rfl ?_) | ((with_reducible show Go.AM.VO _ _ _ _ _ _ _); first | refine O_stepL rfl ?_ | refine O_storeV rfl rfl vc.one rfl rfl rfl ?_ | refine O_at rfl rfl hat ?_ | refine O_cA rfl rfl hchk ?_ | refine O_step rfl ?_ | refine O_nil' ?_) | refine ret _ _ _ _ _ hke rfl rfl rfl
end Go.Proofs.YtgdjnlopdpjnaaaGreatDoor
set_option linter.unusedVariables false
set_option linter.unusedSimpArgs false
namespace Go.Proofs.YtgdjnlopdpjnaaaGreatDoor
open Go Go.AM Go.RowKit
def keyB (l : List Val) : List UInt8 := match keyR l with
  | .ok b => b
  | .error _ => []
def keyE (l : List Val) : Int := match keyR l with
  | .ok _ => 0
  | .error e => e
theorem run_Key (l : List Val) (p : PV) (hp : LC l p) (hln : l.length ≤ 1073741824) : ∃ q, BV q (keyB l) ∧ T.R (.call n_codec_Key [p] (.tuple [q, .int .i64 (keyE l)])) := by
  obtain ⟨lp1, lp2, lp3⟩ := hp.len
  have hl := fun e h4 h9 h10 h11 => key_loop l p hp hln l [] [] e emptySt .nilSl rfl (by cases keyR l <;> rfl) (by simp) (.inl ⟨rfl, rfl, rfl⟩) h4 h9 h10 h11
  have key : ∃ r, T.R (.call n_codec_Key [p] r) ∧ ∃ q, BV q (keyB l) ∧ r = .tuple [q, .int .i64 (keyE l)] := by
    refine call_VQ rfl rfl ?_
    repeat' first | ((with_reducible show Go.AM.V _ _ _ _ _ _); first | refine V_cutA rfl (hl _ rfl rfl rfl rfl) ?_ | refine V_O rfl ?_) | ((with_reducible show Go.AM.VO _ _ _ _ _ _ _); first | refine O_lenO rfl lp1 lp2 ?_ | refine O_step rfl ?_ | refine O_nil' ?_)
    rintro x e' st' (⟨rfl, v', b', hk, rfl, hA⟩ | ⟨err, rfl, hk, rfl⟩)
    · have hb : keyB l = b' := by simp [keyB, hk]
      have he : keyE l = 0 := by simp [keyE, hk]
      rw [hb, he]
      rcases hA with ⟨rfl, rfl, rfl⟩ | ⟨g, rfl, rfl⟩
      · repeat' first | ((with_reducible show Go.AM.V _ _ _ _ _ _); first | refine V_O rfl ?_ | refine V_fA rfl rfl ?_) | ((with_reducible show Go.AM.VO _ _ _ _ _ _ _); first | refine O_step rfl ?_ | refine O_nil' ?_)
        exact ⟨_, .nil, rfl⟩
      · repeat' first | ((with_reducible show Go.AM.V _ _ _ _ _ _); first | refine V_fin (r := .tuple [.sl (byteCells b') false, .int .i64 0]) rfl rfl (view_tuple (viewL_cons (view_osl0 (g := g) (sz := 1) (lv := true) (es := byteCells b') rfl (.inl rfl) rfl (pl_bytes _)) (viewL_cons (.int _ _) viewL_nil))) ?_ | refine V_O rfl ?_) | ((with_reducible show Go.AM.VO _ _ _ _ _ _ _); first | refine O_step rfl ?_ | refine O_nil' ?_)
        exact ⟨_, .sl _ _, rfl⟩
    · have hb : keyB l = [] := by simp [keyB, hk]
      have he : keyE l = err := by simp [keyE, hk]
      rw [hb, he]
      exact V_fin (r := .tuple [.nilSl, .int .i64 err]) rfl rfl (Pl.view (by (repeat' (first | exact Pl.int _ _ | exact Pl.bool _ | exact Pl.str _ | exact Pl.nilSl | exact pl_nil | refine pl_cons ?_ ?_ | refine Pl.tuple _ ?_ | refine Pl.agg _ ?_ | refine Pl.func _ _ ?_ | assumption | refine Pl.iptr _ _ ?_ | exact pll_nil | refine pll_cons ?_ ?_ | refine Pl.sl _ _ ?_)); first | done | fail)) ⟨_, .nil, rfl⟩
  obtain ⟨r, h1, q, h2, rfl⟩ := key
  exact ⟨q, h2, h1⟩
theorem run_CloneNil : T.R (.call n_slices_Clone_byte_byte [.nilSl] .nilSl) := by
  refine call_V rfl rfl ?_
  repeat' first | ((with_reducible show Go.AM.V _ _ _ _ _ _); first | refine V_O rfl ?_ | refine V_cT rfl rfl ?_ | refine V_fA rfl rfl ?_) | ((with_reducible show Go.AM.VO _ _ _ _ _ _ _); first | refine O_step rfl ?_ | refine O_nil' ?_)
  rfl
end Go.Proofs.YtgdjnlopdpjnaaaGreatDoor
set_option linter.unusedVariables false
set_option linter.unusedSimpArgs false
namespace Go.Proofs.YtgdjnlopdpjnaaaGreatDoor
open Go Go.AM Go.RowKit
def Good (v : Val) : Prop := mayV 8 v = true ∧ v.kind ≠ 4 ∧ v.kind ≠ 5
theorem esc_cons (a : UInt8) (s : List UInt8) : esc (a :: s) = (if a = 0 then [0, 255] else [a]) ++ esc s := rfl
theorem good_cases {k n : Int} {s : List UInt8} {l : List Val} (h : Good (.mk k n s l)) :
    (k = 1 ∧ s = [] ∧ l = []) ∨ (k = 3 ∧ s = [] ∧ l = [] ∧ (n = 0 ∨ n = 1)) ∨ (k = 6 ∧ s = [] ∧ l = []) ∨ (k = 7 ∧ s = [] ∧ l = []) ∨ (k = 2 ∧ n = 0 ∧ l = []) := by
  obtain ⟨hm, h4, h5⟩ := h
  simp only [Val.kind] at h4 h5
  simp only [mayV] at hm
  split at hm
  · simp at hm; simp [*]
  · split at hm
    · simp at hm; simp [*]
    · split at hm
      · simp at hm; simp [*]
      · split at hm
        · simp at hm; simp [*]
        · split at hm
          · simp at hm; simp [*]
          · exfalso
            first | (cases hm; done) | (simp [h4, h5] at hm)
end Go.Proofs.YtgdjnlopdpjnaaaGreatDoor
set_option linter.unusedVariables false
set_option linter.unusedSimpArgs false
namespace Go.Proofs.YtgdjnlopdpjnaaaGreatDoor
open Go Go.AM Go.RowKit
end Go.Proofs.YtgdjnlopdpjnaaaGreatDoor
set_option linter.unusedVariables false
set_option linter.unusedSimpArgs false
namespace Go.Proofs.YtgdjnlopdpjnaaaGreatDoor
open Go Go.AM Go.RowKit
end Go.Proofs.YtgdjnlopdpjnaaaGreatDoor
set_option linter.unusedVariables false
set_option linter.unusedSimpArgs false
namespace Go.Proofs.YtgdjnlopdpjnaaaGreatDoor
open Go Go.AM Go.RowKit
end Go.Proofs.YtgdjnlopdpjnaaaGreatDoor
set_option linter.unusedVariables false
set_option linter.unusedSimpArgs false
namespace Go.Proofs.YtgdjnlopdpjnaaaGreatDoor
open Go Go.AM Go.RowKit
theorem foldl8 : ∀ (l : List UInt8) (u : Nat), l.foldl (fun u c => u * 256 + c.toNat) u = u * 256 ^ l.length + un8 l
  | [], u => by simp [un8]
  | c :: l, u => by
    have h1 := foldl8 l (u * 256 + c.toNat)
    have h2 := foldl8 l (0 * 256 + c.toNat)
    unfold un8
    simp only [List.foldl_cons, List.length_cons, Nat.pow_succ]
    rw [h1, h2, Nat.add_mul, Nat.add_mul, Nat.mul_assoc, Nat.mul_comm 256]
    omega
theorem un8_cons (c : UInt8) (l : List UInt8) : un8 (c :: l) = c.toNat * 256 ^ l.length + un8 l := by
  have := foldl8 l (0 * 256 + c.toNat)
  rw [Nat.zero_mul, Nat.zero_add] at this
  rw [← this]
  simp [un8]
theorem un8_be : ∀ j m, un8 (be j m) = m % 256 ^ j
  | 0, m => by simp [be, un8, Nat.mod_one]
  | j + 1, m => by
    rw [be, un8_cons, be_len, un8_be j m, Nat.mod_pow_succ, UInt8.toNat_ofNat']
    rw [Nat.mul_comm, Nat.add_comm]
theorem strR_esc : ∀ (s acc : List UInt8) (n : Nat) (x : List UInt8), strR (esc s ++ 0 :: 1 :: x) acc n = made (.mk 2 0 (acc ++ s) []) (n + (esc s).length + 2)
  | [], acc, n, x => by simp [esc, strR]
  | b :: s, acc, n, x => by
    rw [esc_cons]
    by_cases h : b = 0
    · subst h
      have := strR_esc s (acc ++ [0]) (n + 2) x
      simp only [if_true, List.cons_append, List.nil_append, strR]
      rw [if_neg (by decide), this]
      simp
      congr 1
      omega
    · have := strR_esc s (acc ++ [b]) (n + 1) x
      simp only [if_neg h, List.cons_append, List.nil_append, List.append_assoc]
      obtain ⟨c, r, hcr⟩ : ∃ c r, esc s ++ 0 :: 1 :: x = c :: r := by
        cases he : esc s with
        | nil => exact ⟨_, _, rfl⟩
        | cons a l => exact ⟨_, _, rfl⟩
      rw [hcr] at this ⊢
      simp only [strR]
      rw [if_neg h, this]
      simp
      congr 1
      omega
theorem made_good {v : Val} (h : Good v) (n : Nat) : made v n = .ok v n := by simp [made, h.1]
theorem take_key {v : Val} (h : Good v) (hi : I64 v.n) (x : List UInt8) : takeR (formV v ++ x) = .ok v (formV v).length := by
  obtain ⟨k, n, s, l⟩ := v
  simp only [Val.n] at hi
  unfold I64 at hi
  have p256 : (256 : Nat) ^ 8 = 18446744073709551616 := by decide
  rcases good_cases h with ⟨rfl, rfl, rfl⟩ | ⟨rfl, rfl, rfl, hn⟩ | ⟨rfl, rfl, rfl⟩ | ⟨rfl, rfl, rfl⟩ | ⟨rfl, rfl, rfl⟩
  · have e : formV (.mk 1 n [] []) = 1 :: be 8 (ord64 n) := by simp [formV]
    have ht : ((be 8 (ord64 n) ++ x).take 8) = be 8 (ord64 n) := by rw [List.take_append_of_le_length (by rw [be_len]; omega), List.take_of_length_le (by rw [be_len]; omega)]
    have hu : unord (un8 (be 8 (ord64 n))) = n := by rw [un8_be, p256]; unfold unord ord64; omega
    rw [e]
    simp only [List.cons_append, takeR]
    rw [if_pos (by decide), if_neg (by simp [be_len]), ht, hu]
    simp only [List.length_cons, be_len]
    exact made_good h 9
  · have e : formV (.mk 3 n [] []) = [3, UInt8.ofNat (n % 256).toNat] := by simp [formV]
    rw [e]
    rcases hn with rfl | rfl <;> rfl
  · have e : formV (.mk 6 n [] []) = 6 :: be 8 (ord64 n) := by simp [formV]
    have ht : ((be 8 (ord64 n) ++ x).take 8) = be 8 (ord64 n) := by rw [List.take_append_of_le_length (by rw [be_len]; omega), List.take_of_length_le (by rw [be_len]; omega)]
    have hu : unord (un8 (be 8 (ord64 n))) = n := by rw [un8_be, p256]; unfold unord ord64; omega
    rw [e]
    simp only [List.cons_append, takeR]
    rw [if_pos (by decide), if_neg (by simp [be_len]), ht, hu]
    simp only [List.length_cons, be_len]
    exact made_good h 9
  · have e : formV (.mk 7 n [] []) = 7 :: be 8 (ord64 n) := by simp [formV]
    have ht : ((be 8 (ord64 n) ++ x).take 8) = be 8 (ord64 n) := by rw [List.take_append_of_le_length (by rw [be_len]; omega), List.take_of_length_le (by rw [be_len]; omega)]
    have hu : unord (un8 (be 8 (ord64 n))) = n := by rw [un8_be, p256]; unfold unord ord64; omega
    rw [e]
    simp only [List.cons_append, takeR]
    rw [if_pos (by decide), if_neg (by simp [be_len]), ht, hu]
    simp only [List.length_cons, be_len]
    exact made_good h 9
  · have e : formV (.mk 2 0 s []) = 2 :: (esc s ++ [0, 1]) := by simp [formV]
    rw [e]
    simp only [List.cons_append, List.append_assoc, List.nil_append, takeR]
    rw [if_neg (by decide), if_neg (by decide), if_pos trivial, strR_esc, List.nil_append]
    simp only [List.length_cons, List.length_append, List.length_nil]
    rw [made_good h]
    congr 1
    omega
end Go.Proofs.YtgdjnlopdpjnaaaGreatDoor
set_option linter.unusedVariables false
set_option linter.unusedSimpArgs false
namespace Go.Proofs.YtgdjnlopdpjnaaaGreatDoor
open Go Go.AM Go.RowKit
theorem run_PutMay {v : Val} {cs : List PV} (hv : VC v cs) (hm : mayV 8 v = true) (hlen : (putV v).length ≤ 100000000000000) : T.R (.call n_codec_Put [.nilSl, .agg cs] (.sl (byteCells (putV v)) false)) := by
  have hchk := run_Check hv
  have hc0 : chk v = 0 := by simp [chk, hm]
  rw [hc0] at hchk
  have plc := hv.pl
  have hA0 : (emptySt.new (.var cs)).get 0 = some (.var cs) := rfl
  have hnxt : (emptySt.new (.var cs)).next = 1 := rfl
  obtain ⟨b', st', h1, h2, h3⟩ := put_all hv ⟨1, 1, (emptySt.new (.var cs)).toks⟩ .nilSl [] rfl (.inl ⟨rfl, rfl⟩) (by simpa using hlen)
  have hB0 : (⟨0, st'.next, st'.toks⟩ : St).get 0 = some (.var cs) := (h3.2.2.2 0 (by show 0 < 1; omega) (by simp [tokOf])).trans rfl
  rw [List.nil_append] at h2
  refine call_V rfl rfl ?_
  repeat' first | ((with_reducible show Go.AM.V _ _ _ _ _ _); first | refine V_M 3 ⟨0, st'.next, st'.toks⟩ rfl ?_ | refine V_O rfl ?_ | refine V_cF rfl rfl ?_) | ((with_reducible show Go.AM.VO _ _ _ _ _ _ _); first | refine O_loadP rfl hA0 hv.len4 ?_ | refine O_cA rfl rfl hchk ?_ | refine O_step rfl ?_ | refine O_stepL rfl ?_ | refine O_nil' ?_) | ((with_reducible show Go.AM.VM _ _ _ _ _ _ _ _ _ _ _); first | refine M_call rfl (.inl rfl) rfl rfl (viewL_pl (by (repeat' (first | exact Pl.int _ _ | exact Pl.bool _ | exact Pl.str _ | exact Pl.nilSl | exact pl_nil | refine pl_cons ?_ ?_ | refine Pl.tuple _ ?_ | refine Pl.agg _ ?_ | refine Pl.func _ _ ?_ | assumption | refine Pl.iptr _ _ ?_ | exact pll_nil | refine pll_cons ?_ ?_ | refine Pl.sl _ _ ?_)); first | done | fail)) (viewL_pl (by (repeat' (first | exact Pl.int _ _ | exact Pl.bool _ | exact Pl.str _ | exact Pl.nilSl | exact pl_nil | refine pl_cons ?_ ?_ | refine Pl.tuple _ ?_ | refine Pl.agg _ ?_ | refine Pl.func _ _ ?_ | assumption | refine Pl.iptr _ _ ?_ | exact pll_nil | refine pll_cons ?_ ?_ | refine Pl.sl _ _ ?_)); first | done | fail)) run_CloneNil ?_ | refine M_loadP rfl (.inl rfl) rfl hA0 hB0 hv.len4 ?_ | refine M_rawAll h1 h3.1 rfl rfl rfl rfl ?_ | refine M_step rfl (.inl rfl) rfl rfl ?_ | refine M_step rfl (.inr rfl) rfl rfl ?_ | refine M_nil ?_)
  rcases h2 with ⟨_, h⟩ | ⟨t, g, rfl, hg, hlt⟩
  · exact absurd h (by simp [byteCells, putV_pos])
  · exact V_fin rfl rfl (view_osl0 (lv := true) (es := byteCells (putV v)) hg (.inl rfl) rfl (pl_bytes _)) rfl
mutual
def sizeV : Val → Nat
  | .mk _ _ s l => 1 + s.length + sizeVs l
def sizeVs : List Val → Nat
  | [] => 0
  | v :: l => sizeV v + sizeVs l
end
theorem putL_len : ∀ n u, (putL n u).length ≤ n + 1
  | 0, u => by simp [putL]
  | n + 1, u => by
    have := putL_len n (u / 128)
    simp only [putL]
    split
    · simp
    · simp; omega
mutual
theorem putV_size : ∀ v : Val, (putV v).length ≤ 11 * sizeV v
  | .mk k n s l => by
    have h1 := putL_len 9 (zigN n)
    have h2 := putL_len 9 (n % 18446744073709551616).toNat
    have h3 := putL_len 9 s.length
    have h4 := putL_len 9 l.length
    have h5 := putVs_size l
    simp only [putV, sizeV]
    split
    · simp only [List.length_cons]; omega
    · split
      · simp only [List.length_cons]; omega
      · split
        · simp; omega
        · split
          · simp only [List.length_cons, List.length_append]; omega
          · simp only [List.length_cons, List.length_append]; omega
theorem putVs_size : ∀ l : List Val, (putVs l).length ≤ 11 * sizeVs l
  | [] => by simp [putVs]
  | v :: l => by
    have h1 := putV_size v
    have h2 := putVs_size l
    simp only [putVs, sizeVs, List.length_append]
    omega
end
end Go.Proofs.YtgdjnlopdpjnaaaGreatDoor
set_option linter.unusedVariables false
set_option linter.unusedSimpArgs false
namespace Go.Proofs.YtgdjnlopdpjnaaaGreatDoor
open Go Go.AM Go.RowKit
structure Prp where
  name : List UInt8
  val : Val
structure Vtx where
  id : Int
  label : List UInt8
  props : List Prp
structure Lnk where
  id : Int
  label : List UInt8
  out : Int
  into : Int
  props : List Prp
def PpC (x : Prp) (cs : List PV) : Prop := x.name.length ≤ 140737488355328 ∧ ∃ vc, cs = .str x.name :: vc ∧ VC x.val vc
def VtC (x : Vtx) (cs : List PV) : Prop := I64 x.id ∧ x.label.length ≤ 140737488355328 ∧ ∃ p, cs = [.int .i64 x.id, .str x.label, p] ∧ LR PpC p x.props
def LkC (x : Lnk) (cs : List PV) : Prop := I64 x.id ∧ x.label.length ≤ 140737488355328 ∧ I64 x.out ∧ I64 x.into ∧ ∃ p, cs = [.int .i64 x.id, .str x.label, .int .i64 x.out, .int .i64 x.into, p] ∧ LR PpC p x.props
def EnC (x : List UInt8 × List UInt8) (cs : List PV) : Prop := ∃ p q, cs = [p, q] ∧ BV p x.1 ∧ BV q x.2
theorem PpC.pl {x : Prp} {cs : List PV} (h : PpC x cs) : ∀ c ∈ cs, Pl c := by
  obtain ⟨_, vc, rfl, hv⟩ := h
  exact pl_cons (.str _) hv.pl
theorem PpC.len5 {x : Prp} {cs : List PV} (h : PpC x cs) : cs.length = 5 := by
  obtain ⟨_, vc, rfl, hv⟩ := h
  simp [hv.len4]
theorem EnC.pl {x : List UInt8 × List UInt8} {cs : List PV} (h : EnC x cs) : ∀ c ∈ cs, Pl c := by
  obtain ⟨p, q, rfl, h1, h2⟩ := h
  exact pl_cons h1.pl (pl_cons h2.pl pl_nil)
theorem EnC.len2 {x : List UInt8 × List UInt8} {cs : List PV} (h : EnC x cs) : cs.length = 2 := by
  obtain ⟨p, q, rfl, _⟩ := h
  rfl
def vStr (s : List UInt8) : Val := .mk 2 0 s []
def vVtx (n : Int) : Val := .mk 6 n [] []
def vEdg (n : Int) : Val := .mk 7 n [] []
def kB (v : Val) : List UInt8 := if keyE [v] = 0 then keyB [v] else []
def putM (v : Val) : List UInt8 := if mayV 8 v = true then putV v else []
def numK (n : Int) : List UInt8 := putL 9 (if 0 < n then n.toNat else 0)
def textK (s : List UInt8) : List UInt8 := numK s.length ++ s
def propK (x : Prp) : List UInt8 := textK x.name ++ putM x.val
def propsK (l : List Prp) : List UInt8 := numK l.length ++ l.flatMap propK
def signB (v : Val) : List UInt8 :=
  let b := if v.kind = 4 ∨ v.kind = 5 then putM v else kB v
  UInt8.ofNat (b.take 40).length :: b.take 40
def labelK (kind : Int) (s : List UInt8) : List UInt8 := [5, UInt8.ofNat (kind % 256).toNat] ++ kB (vStr s)
def propKey (kind : Int) (x : Prp) : List UInt8 := [6, UInt8.ofNat (kind % 256).toNat] ++ kB (vStr x.name) ++ signB x.val
def idxK (elem : Val) (s : List UInt8) (l : List Prp) : List (List UInt8 × List UInt8) :=
  (labelK elem.kind s ++ kB elem, []) :: l.map fun x => (propKey elem.kind x ++ kB elem, [])
def idB (n : Int) : Bool := decide (1 ≤ n) && decide (n ≤ 281474976710656)
def elemK (v : Val) : List UInt8 := if mayV 8 v = true then (if v.kind = 6 then 1 :: kB v else if v.kind = 7 then 2 :: kB v else []) else []
def besideK (k : UInt8) (v : Int) (s : List UInt8) : List UInt8 := k :: kB (vVtx v) ++ kB (vStr s)
def lnkK (x : Lnk) : List (List UInt8 × List UInt8) :=
  if idB x.id = true ∧ idB x.out = true ∧ idB x.into = true then
    (elemK (vEdg x.id), numK x.out ++ numK x.into ++ textK x.label ++ propsK x.props) :: (besideK 3 x.out x.label ++ kB (vEdg x.id), numK x.into) :: (besideK 4 x.into x.label ++ kB (vEdg x.id), numK x.out) :: idxK (vEdg x.id) x.label x.props
  else []
end Go.Proofs.YtgdjnlopdpjnaaaGreatDoor
