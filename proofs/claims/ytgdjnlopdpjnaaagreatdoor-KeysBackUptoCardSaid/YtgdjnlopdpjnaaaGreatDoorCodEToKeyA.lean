/- codec.Key: the key of any values. · codec.Key; codec.Put behind nothing; begun. · Keys stand as their values do: the plain law. · rambleref03.form, rambleref03.Key. · rambleref03.Key. · Values are read as they were put; what is read has those bytes; over plain values. · The values of a key are as they were; what values are told of has that key; over plain values. · codec.Parse; codec.Put of any value that may be; CodecBack, over plain values. · Vertices, edges, entries: what they are over plain cells; their entries. -/
import Derived.Test.YtgdjnlopdpjnaaaGreatDoorValHToCodK
import Derived.Test.YtgdjnlopdpjnaaaGreatDoorCodBToValG
import Derived.Test.YtgdjnlopdpjnaaaGreatDoorBytesToOrd
import Derived.Test.YtgdjnlopdpjnaaaGreatDoorAmZ
import Derived.Test.YtgdjnlopdpjnaaaGreatDoorPutVToCodO
import Derived.Test.YtgdjnlopdpjnaaaGreatDoorReadDToReadC
set_option linter.unusedVariables false
set_option linter.unusedSimpArgs false
namespace Go.Proofs.YtgdjnlopdpjnaaaGreatDoor
open Go Go.AM Go.RowKit
def Z1m : Val → List UInt8
  | .mk k n s l => UInt8.ofNat (k % 256).toNat :: (if k = 1 ∨ k = 6 ∨ k = 7 then be 8 (Z1y n) else if k = 3 then [UInt8.ofNat (n % 256).toNat] else Zk s ++ [0, 1])
def Zel : List Val → Except Int (List UInt8)
  | [] => .ok []
  | v :: l => if Zg 8 v then (if v.kind = 4 ∨ v.kind = 5 then .error 21 else (Zel l).map (Z1m v ++ ·)) else .error 20
theorem keyR_ok {v : Val} {l : List Val} (b bb : List UInt8) (hbb : bb = b ++ Z1m v) (hm : Zg 8 v = true) (h4 : v.kind ≠ 4) (h5 : v.kind ≠ 5) : (Zel (v :: l)).map (b ++ ·) = (Zel l).map (bb ++ ·) := by
  subst hbb
  simp only [Zel, hm, if_true, h4, h5, or_self, if_false]
  cases Zel l <;> simp [Except.map]
theorem may_kind {f : Nat} {v : Val} (h : Zg f v = true) : v.kind = 1 ∨ v.kind = 3 ∨ v.kind = 6 ∨ v.kind = 7 ∨ v.kind = 2 ∨ v.kind = 4 ∨ v.kind = 5 := by
  obtain ⟨k, n, s, l⟩ := v
  cases f with
  | zero => simp [Zg] at h
  | succ f =>
    simp only [Zg] at h
    simp only [Val.kind]
    repeat' (split at h; · simp [*])
    cases h
theorem may_str {f : Nat} {k n : Int} {s : List UInt8} {l : List Val} (h : Zg f (.mk k n s l) = true) (hk : k ≠ 2) : s = [] := by
  cases f with
  | zero => simp [Zg] at h
  | succ f =>
    simp only [Zg] at h
    repeat' (split at h; · first | (exact absurd ‹_› hk) | (simp at h; simp [h]))
    cases h
theorem may_len {f : Nat} {k n : Int} {s : List UInt8} {l : List Val} (h : Zg f (.mk k n s l) = true) : s.length ≤ 128 := by
  by_cases hk : k = 2
  · subst hk
    cases f with
    | zero => simp [Zg] at h
    | succ f => simp [Zg] at h; omega
  · rw [may_str h hk]; simp
theorem esc_le (s : List UInt8) : (Zk s).length ≤ 2 * s.length := by
  rw [Zar]
  have : s.count 0 ≤ s.length := List.count_le_length
  omega
theorem form_len {v : Val} (h : Zg 8 v = true) : (Z1m v).length ≤ 259 := by
  obtain ⟨k, n, s, l⟩ := v
  have h1 := may_len h
  have h2 := esc_le s
  simp only [Z1m]
  split
  · simp [Z26]
  · split
    · simp
    · simp; omega
theorem wrap8 (n : Int) : [[PV.int .u8 (IntKind.u8.wrap n)]] = Z5 [UInt8.ofNat (n % 256).toNat] := by
  rw [Zc0]
  have h1 : n % 256 = (((n % 256).toNat : Nat) : Int) := by omega
  have h2 : (n % 256).toNat < 256 := by omega
  simp [Z5]
  omega
def KS (g : Nat) (b : List UInt8) : St := ⟨0, 2, [(1, .row g 1 (Z5 b) true)]⟩
def AccK (st : St) (v : PV) (b : List UInt8) : Prop := (v = .nilSl ∧ b = [] ∧ st = emptySt) ∨ ∃ g, v = .osl 1 g 0 (Z5 b).length false ∧ st = KS g b
def keyP (l : List Val) : EX → EC → St → Prop := fun x e' st' => (x = .exit 0 ∧ ∃ v' b', Zel l = .ok b' ∧ e' = .put 4 v' .nil ∧ AccK st' v' b') ∨ (∃ err, x = .ret ∧ Zel l = .error err ∧ e' = .put 2 .nilSl (.put 3 (.int .i64 err) .nil))
set_option maxHeartbeats 4000000 in
theorem key_loop (l : List Val) (p : PV) (hp : LC l p) (hln : l.length ≤ 1073741824) : ∀ (rest pre : List Val) (b : List UInt8) (e : EC) (st : St) (v : PV), l = pre ++ rest → Zel l = (Zel rest).map (b ++ ·) → b.length ≤ 259 * pre.length → AccK st v b → e.get 4 = some v → e.get 9 = some p → e.get 10 = some (.int .i64 l.length) → e.get 11 = some (.int .i64 pre.length) →
    V T (PE (keyP l)) [.code (.loop Z7k)] .normal e st := by
  obtain ⟨lp1, lp2, lp3⟩ := hp.len
  intro rest
  induction rest with
  | nil =>
    intro pre b e st v hl hk hb hA h4 h9 h10 h11
    have hlt : decide ((pre.length : Int) < l.length) = false := decide_eq_false (by subst hl; simp)
    have out : ∀ (fr : List Fr) (x : EX) (e' : EC), Zm 200 fr x = ([], .exit 0) → e'.get 4 = some v → V T (PE (keyP l)) fr x e' st := fun fr x e' hadv g4 =>
      Zn (.put 4 v .nil) (Z3 g4 Zp) (Z18 hadv (.inl ⟨rfl, v, b, by rw [hk]; simp [Zel, Except.map], rfl, hA⟩))
    refine Zn (.put 4 _ (.put 9 p (.put 10 _ (.put 11 _ .nil)))) (Z3 h4 (Z3 h9 (Z3 h10 (Z3 h11 Zp)))) (Zi ?_)
    repeat' first | refine Z2t hlt rfl rfl ?_ | refine Z1 rfl ?_ | refine Z0 rfl ?_ | refine Z2 ?_ | refine out _ _ _ rfl rfl
  | cons v0 rest ih =>
    intro pre b e st v hl hk hb hA h4 h9 h10 h11
    have hlt : decide ((pre.length : Int) < l.length) = true := decide_eq_true (by subst hl; simp; omega)
    have hpl : pre.length + 1 ≤ l.length := by subst hl; simp
    have hbl : b.length + 600 ≤ 140737488355328 := by omega
    have hv0 : l[pre.length]? = some v0 := by subst hl; simp
    obtain ⟨cs, hat, vc⟩ := hp.at hv0
    have hchk := Z7t vc
    obtain ⟨k, n, s, ll⟩ := v0
    obtain ⟨hki, hni, hsi, q, rfl, hq⟩ := vc.open
    have plq := hq.pl
    have ret : ∀ (fr : List Fr) (x : EX) (e' : EC) (st' : St) (err : Int), Zel l = .error err → Zm 200 fr x = ([], .ret) → e'.get 2 = some .nilSl → e'.get 3 = some (.int .i64 err) → V T (PE (keyP l)) fr x e' st' := fun fr x e' st' err hke hadv g2 g3 =>
      Zn (.put 2 _ (.put 3 _ .nil)) (Z3 g2 (Z3 g3 Zp)) (Z18 hadv (.inr ⟨err, rfl, hke, rfl⟩))
    by_cases hm : Zg 8 (.mk k n s ll) = true
    · have hc0 : chk (.mk k n s ll) = 0 := by simp [chk, hm]
      rw [hc0] at hchk
      have hsl := may_len hm
      have hwi : IntKind.i64.wrap ((pre.length : Int) + 1) = ((pre ++ [Val.mk k n s ll]).length : Int) := by rw [Z03]; simp; omega
      have hfl := form_len hm
      have fin0 : k ≠ 4 → k ≠ 5 → ∀ (fr : List Fr) (x : EX) (e' : EC) (st' : St) (g' : Nat) (bb : List UInt8), bb = b ++ Z1m (.mk k n s ll) → Zm 200 fr x = ([.code (.loop Z7k)], .normal) → e'.get 4 = some (.osl 1 g' 0 (Z5 bb).length false) → e'.get 9 = some p → e'.get 10 = some (.int .i64 l.length) → e'.get 11 = some (.int .i64 (IntKind.i64.wrap ((pre.length : Int) + 1))) → st'.base = 0 → Nat.ble 2 st'.next = true → st'.get 1 = some (.row g' 1 (Z5 bb) true) → V T (PE (keyP l)) fr x e' st' := fun hk4 hk5 fr x e' st' g' bb hbb hadv g4 g9 g10 g11 hb0 hn2 hg1 => Z34 hadv (by
        rw [hwi] at g11
        refine V_forget [(4, .osl 1 g' 0 (Z5 bb).length false), (9, p), (10, .int .i64 l.length), (11, .int .i64 ((pre ++ [Val.mk k n s ll]).length : Int))] (KS g' bb)
          (Z7n g4 (.osl _ _ _ _ _ (by show 1 < 2; omega)) (Z7n g9 hp.pl.bel (Z7n g10 (.int _ _) (Z7n g11 (.int _ _) fg_nil)))) (by rw [hb0]; rfl) ⟨Nat.zero_le _, Nat.le_of_ble_eq_true hn2⟩ (fun x hx => by
            simp only [KS, List.mem_cons, List.not_mem_nil, or_false] at hx
            subst hx
            exact ⟨by show 1 < 2; omega, fun cs hcs c hc => (Z6w bb cs hcs c hc).bel, hg1⟩) ?_
        refine ih (pre ++ [Val.mk k n s ll]) bb _ _ _ (by rw [hl]; simp) ?_ ?_ (.inr ⟨g', rfl, rfl⟩) rfl rfl rfl rfl
        · rw [hk]
          exact keyR_ok b bb hbb hm hk4 hk5
        · rw [hbb]; simp; omega)
      clear ih
      have h8 := run_eight hni
      have hone8 : ((be 8 (Z1y n)).map Zhe).all PV.one = true := by simp [Zhe, PV.one]
      have hlen8 : ((be 8 (Z1y n)).map Zhe).length = 8 := by simp [Z26]
      have hz8 : [PV.int .u8 0, PV.int .u8 0, PV.int .u8 0, PV.int .u8 0, PV.int .u8 0, PV.int .u8 0, PV.int .u8 0, PV.int .u8 0].length = ((be 8 (Z1y n)).map Zhe).length := by rw [hlen8]; rfl
      have hne8 : be 8 (Z1y n) ≠ [] := by simp [be]
      have hvsl : ∀ (st : St) (t : Nat), st.get t = some (.var ((be 8 (Z1y n)).map Zhe)) → Z6r st (.vsl t 0 1 8) = some (Z5 (be 8 (Z1y n))) := fun st t hg => by
        have := elems_vslB (look := st.get) (t := t) (s := be 8 (Z1y n)) hg
        rw [Z26] at this
        exact this
      have hpl8 : ∀ c ∈ (be 8 (Z1y n)).map Zhe, Pl c := fun c hc => by
        obtain ⟨b, _, rfl⟩ := List.mem_map.1 hc
        exact .int _ _
      obtain ⟨kb, hkd⟩ : ∃ kb, UInt8.ofNat (k % 256).toNat = kb := ⟨_, rfl⟩
      have hkb := wrap8 k
      rw [hkd] at hkb
      rcases hA with ⟨rfl, rfl, rfl⟩ | ⟨g, rfl, rfl⟩
      ·
        have hroom1 : ([] : List UInt8).length + ([kb] : List UInt8).length ≤ Z06 := by simp [Z06] at hbl ⊢; try omega
        have hroom3 : ∀ c : List UInt8, c.length ≤ 258 → ([kb] : List UInt8).length + c.length ≤ Z06 := fun c hc => by simp [Z06]; omega
        have hroom4 : ∀ c : List UInt8, c.length ≤ 256 → (([kb] : List UInt8) ++ c).length + ([0, 1] : List UInt8).length ≤ Z06 := fun c hc => by simp [Z06] at hbl ⊢; try omega
        rcases may_kind hm with hk1 | hk3 | hk6 | hk7 | hk2 | hk4 | hk5
        · replace hk1 : k = 1 := hk1
          subst hk1
          have fin := fin0 (by decide) (by decide)
          have hform : [kb] ++ be 8 (Z1y n) = [] ++ Z1m (.mk 1 n s ll) := by simp only [Z1m, hkd]; simp
          refine Zn (.put 4 _ (.put 9 p (.put 10 _ (.put 11 _ .nil)))) (Z3 h4 (Z3 h9 (Z3 h10 (Z3 h11 Zp)))) (Zi ?_)
          repeat' first | ((with_reducible show V _ _ _ _ _ _); first | refine Z22 hlt rfl rfl ?_ | refine Z1 rfl ?_ | refine Za rfl rfl ?_ | refine Zb rfl rfl ?_) | ((with_reducible show VO _ _ _ _ _ _ _); first | refine Ze rfl rfl vc.one rfl rfl rfl ?_ | refine Zq rfl rfl hat ?_ | refine Z7 rfl rfl hchk ?_ | refine Z04 (src := Z5 [kb]) rfl rfl (by rw [← hkb]; rfl) (Z00 _) (by decide) (by decide) (appN (by simp) (by simp [Z06])) ?_ | refine Z7 rfl rfl h8 ?_ | refine Ze rfl rfl hone8 hlen8 rfl (Z01 rfl hz8) ?_ | refine Z04 (src := Z5 (be 8 (Z1y n))) rfl rfl (hvsl _ _ rfl) (Z00 _) (by decide) (by decide) (Zjf rfl hne8 (hroom3 _ (by simp [Z26]))) ?_ | refine Z0 rfl ?_ | refine Z8 rfl ?_ | refine Z2 ?_) | refine fin _ _ _ _ _ _ hform rfl rfl rfl rfl rfl rfl rfl rfl
        · replace hk3 : k = 3 := hk3
          subst hk3
          have fin := fin0 (by decide) (by decide)
          have hform : [kb] ++ [UInt8.ofNat (n % 256).toNat] = [] ++ Z1m (.mk 3 n s ll) := by simp only [Z1m, hkd]; simp
          refine Zn (.put 4 _ (.put 9 p (.put 10 _ (.put 11 _ .nil)))) (Z3 h4 (Z3 h9 (Z3 h10 (Z3 h11 Zp)))) (Zi ?_)
          repeat' first | ((with_reducible show V _ _ _ _ _ _); first | refine Z22 hlt rfl rfl ?_ | refine Z1 rfl ?_ | refine Za rfl rfl ?_ | refine Zb rfl rfl ?_) | ((with_reducible show VO _ _ _ _ _ _ _); first | refine Ze rfl rfl vc.one rfl rfl rfl ?_ | refine Zq rfl rfl hat ?_ | refine Z7 rfl rfl hchk ?_ | refine Z04 (src := Z5 [kb]) rfl rfl (by rw [← hkb]; rfl) (Z00 _) (by decide) (by decide) (appN (by simp) (by simp [Z06])) ?_ | refine Z04 (src := Z5 [UInt8.ofNat (n % 256).toNat]) rfl rfl (by rw [← wrap8 n]; rfl) (Z00 _) (by decide) (by decide) (Zjf rfl (by simp) (hroom3 _ (by simp))) ?_ | refine Z0 rfl ?_ | refine Z8 rfl ?_ | refine Z2 ?_) | refine fin _ _ _ _ _ _ hform rfl rfl rfl rfl rfl rfl rfl rfl
        · replace hk6 : k = 6 := hk6
          subst hk6
          have fin := fin0 (by decide) (by decide)
          have hform : [kb] ++ be 8 (Z1y n) = [] ++ Z1m (.mk 6 n s ll) := by simp only [Z1m, hkd]; simp
          refine Zn (.put 4 _ (.put 9 p (.put 10 _ (.put 11 _ .nil)))) (Z3 h4 (Z3 h9 (Z3 h10 (Z3 h11 Zp)))) (Zi ?_)
          repeat' first | ((with_reducible show V _ _ _ _ _ _); first | refine Z22 hlt rfl rfl ?_ | refine Z1 rfl ?_ | refine Za rfl rfl ?_ | refine Zb rfl rfl ?_) | ((with_reducible show VO _ _ _ _ _ _ _); first | refine Ze rfl rfl vc.one rfl rfl rfl ?_ | refine Zq rfl rfl hat ?_ | refine Z7 rfl rfl hchk ?_ | refine Z04 (src := Z5 [kb]) rfl rfl (by rw [← hkb]; rfl) (Z00 _) (by decide) (by decide) (appN (by simp) (by simp [Z06])) ?_ | refine Z7 rfl rfl h8 ?_ | refine Ze rfl rfl hone8 hlen8 rfl (Z01 rfl hz8) ?_ | refine Z04 (src := Z5 (be 8 (Z1y n))) rfl rfl (hvsl _ _ rfl) (Z00 _) (by decide) (by decide) (Zjf rfl hne8 (hroom3 _ (by simp [Z26]))) ?_ | refine Z0 rfl ?_ | refine Z8 rfl ?_ | refine Z2 ?_) | refine fin _ _ _ _ _ _ hform rfl rfl rfl rfl rfl rfl rfl rfl
        · replace hk7 : k = 7 := hk7
          subst hk7
          have fin := fin0 (by decide) (by decide)
          have hform : [kb] ++ be 8 (Z1y n) = [] ++ Z1m (.mk 7 n s ll) := by simp only [Z1m, hkd]; simp
          refine Zn (.put 4 _ (.put 9 p (.put 10 _ (.put 11 _ .nil)))) (Z3 h4 (Z3 h9 (Z3 h10 (Z3 h11 Zp)))) (Zi ?_)
          repeat' first | ((with_reducible show V _ _ _ _ _ _); first | refine Z22 hlt rfl rfl ?_ | refine Z1 rfl ?_ | refine Za rfl rfl ?_ | refine Zb rfl rfl ?_) | ((with_reducible show VO _ _ _ _ _ _ _); first | refine Ze rfl rfl vc.one rfl rfl rfl ?_ | refine Zq rfl rfl hat ?_ | refine Z7 rfl rfl hchk ?_ | refine Z04 (src := Z5 [kb]) rfl rfl (by rw [← hkb]; rfl) (Z00 _) (by decide) (by decide) (appN (by simp) (by simp [Z06])) ?_ | refine Z7 rfl rfl h8 ?_ | refine Ze rfl rfl hone8 hlen8 rfl (Z01 rfl hz8) ?_ | refine Z04 (src := Z5 (be 8 (Z1y n))) rfl rfl (hvsl _ _ rfl) (Z00 _) (by decide) (by decide) (Zjf rfl hne8 (hroom3 _ (by simp [Z26]))) ?_ | refine Z0 rfl ?_ | refine Z8 rfl ?_ | refine Z2 ?_) | refine fin _ _ _ _ _ _ hform rfl rfl rfl rfl rfl rfl rfl rfl
        · replace hk2 : k = 2 := hk2
          subst hk2
          have fin := fin0 (by decide) (by decide)
          obtain ⟨qe, he1, he2⟩ := Zho s (by omega) false true true
          have ple := he2.pl
          have hel := esc_le s
          have hform : ([kb] ++ Zk s) ++ [0, 1] = [] ++ Z1m (.mk 2 n s ll) := by simp only [Z1m, hkd]; simp
          have hpls := (BV.sl s false).pl
          by_cases hes : Zk s = []
          · rw [hes] at he2 hform
            refine Zn (.put 4 _ (.put 9 p (.put 10 _ (.put 11 _ .nil)))) (Z3 h4 (Z3 h9 (Z3 h10 (Z3 h11 Zp)))) (Zi ?_)
            repeat' first | ((with_reducible show V _ _ _ _ _ _); first | refine Z22 hlt rfl rfl ?_ | refine Z1 rfl ?_ | refine Za rfl rfl ?_ | refine Zb rfl rfl ?_) | ((with_reducible show VO _ _ _ _ _ _ _); first | refine Ze rfl rfl vc.one rfl rfl rfl ?_ | refine Zq rfl rfl hat ?_ | refine Z7 rfl rfl hchk ?_ | refine Z04 (src := Z5 [kb]) rfl rfl (by rw [← hkb]; rfl) (Z00 _) (by decide) (by decide) (appN (by simp) (by simp [Z06])) ?_ | refine Z7 rfl rfl he1 ?_ | refine Z04 rfl rfl (Z0n he2) (Z00 _) (by decide) (by decide) appE ?_ | refine Z04 (src := Z5 [0, 1]) rfl rfl rfl (Z00 _) (by decide) (by decide) (Zjf rfl (by simp) (hroom3 _ (by simp))) ?_ | refine Z0 rfl ?_ | refine Z8 rfl ?_ | refine Z2 ?_) | refine fin _ _ _ _ _ _ (by rw [← hform, List.append_nil]) rfl rfl rfl rfl rfl rfl rfl rfl
          · refine Zn (.put 4 _ (.put 9 p (.put 10 _ (.put 11 _ .nil)))) (Z3 h4 (Z3 h9 (Z3 h10 (Z3 h11 Zp)))) (Zi ?_)
            repeat' first | ((with_reducible show V _ _ _ _ _ _); first | refine Z22 hlt rfl rfl ?_ | refine Z1 rfl ?_ | refine Za rfl rfl ?_ | refine Zb rfl rfl ?_) | ((with_reducible show VO _ _ _ _ _ _ _); first | refine Ze rfl rfl vc.one rfl rfl rfl ?_ | refine Zq rfl rfl hat ?_ | refine Z7 rfl rfl hchk ?_ | refine Z04 (src := Z5 [kb]) rfl rfl (by rw [← hkb]; rfl) (Z00 _) (by decide) (by decide) (appN (by simp) (by simp [Z06])) ?_ | refine Z7 rfl rfl he1 ?_ | refine Z04 rfl rfl (Z0n he2) (Z00 _) (by decide) (by decide) (Zjf rfl hes (hroom3 _ (by omega))) ?_ | refine Z04 (src := Z5 [0, 1]) rfl rfl rfl (Z00 _) (by decide) (by decide) (Zjf rfl (by simp) (hroom4 _ (by omega))) ?_ | refine Z0 rfl ?_ | refine Z8 rfl ?_ | refine Z2 ?_) | refine fin _ _ _ _ _ _ hform rfl rfl rfl rfl rfl rfl rfl rfl
        · replace hk4 : k = 4 := hk4
          subst hk4
          have hke : Zel l = .error 21 := by rw [hk]; simp [Zel, hm, Val.kind, Except.map]
          refine Zn (.put 4 _ (.put 9 p (.put 10 _ (.put 11 _ .nil)))) (Z3 h4 (Z3 h9 (Z3 h10 (Z3 h11 Zp)))) (Zi ?_)
          repeat' first | ((with_reducible show V _ _ _ _ _ _); first | refine Z22 hlt rfl rfl ?_ | refine Z1 rfl ?_ | refine Zb rfl rfl ?_) | ((with_reducible show VO _ _ _ _ _ _ _); first | refine Ze rfl rfl vc.one rfl rfl rfl ?_ | refine Zq rfl rfl hat ?_ | refine Z7 rfl rfl hchk ?_ | refine Z04 (src := Z5 [kb]) rfl rfl (by rw [← hkb]; rfl) (Z00 _) (by decide) (by decide) (appN (by simp) (by simp [Z06])) ?_ | refine Z0 rfl ?_ | refine Z8 rfl ?_ | refine Z2 ?_) | refine ret _ _ _ _ _ hke rfl rfl rfl
        · replace hk5 : k = 5 := hk5
          subst hk5
          have hke : Zel l = .error 21 := by rw [hk]; simp [Zel, hm, Val.kind, Except.map]
          refine Zn (.put 4 _ (.put 9 p (.put 10 _ (.put 11 _ .nil)))) (Z3 h4 (Z3 h9 (Z3 h10 (Z3 h11 Zp)))) (Zi ?_)
          repeat' first | ((with_reducible show V _ _ _ _ _ _); first | refine Z22 hlt rfl rfl ?_ | refine Z1 rfl ?_ | refine Zb rfl rfl ?_) | ((with_reducible show VO _ _ _ _ _ _ _); first | refine Ze rfl rfl vc.one rfl rfl rfl ?_ | refine Zq rfl rfl hat ?_ | refine Z7 rfl rfl hchk ?_ | refine Z04 (src := Z5 [kb]) rfl rfl (by rw [← hkb]; rfl) (Z00 _) (by decide) (by decide) (appN (by simp) (by simp [Z06])) ?_ | refine Z0 rfl ?_ | refine Z8 rfl ?_ | refine Z2 ?_) | refine ret _ _ _ _ _ hke rfl rfl rfl
      ·
        have hroom1 : (b : List UInt8).length + ([kb] : List UInt8).length ≤ Z06 := by simp [Z06] at hbl ⊢; try omega
        have hroom3 : ∀ c : List UInt8, c.length ≤ 258 → ((b ++ [kb]) : List UInt8).length + c.length ≤ Z06 := fun c hc => by simp [Z06] at hbl ⊢; try omega
        have hroom4 : ∀ c : List UInt8, c.length ≤ 256 → (((b ++ [kb]) : List UInt8) ++ c).length + ([0, 1] : List UInt8).length ≤ Z06 := fun c hc => by simp [Z06] at hbl ⊢; try omega
        rcases may_kind hm with hk1 | hk3 | hk6 | hk7 | hk2 | hk4 | hk5
        · replace hk1 : k = 1 := hk1
          subst hk1
          have fin := fin0 (by decide) (by decide)
          have hform : (b ++ [kb]) ++ be 8 (Z1y n) = b ++ Z1m (.mk 1 n s ll) := by simp only [Z1m, hkd]; simp
          refine Zn (.put 4 _ (.put 9 p (.put 10 _ (.put 11 _ .nil)))) (Z3 h4 (Z3 h9 (Z3 h10 (Z3 h11 Zp)))) (Zi ?_)
          repeat' first | ((with_reducible show V _ _ _ _ _ _); first | refine Z22 hlt rfl rfl ?_ | refine Z1 rfl ?_ | refine Za rfl rfl ?_ | refine Zb rfl rfl ?_) | ((with_reducible show VO _ _ _ _ _ _ _); first | refine Ze rfl rfl vc.one rfl rfl rfl ?_ | refine Zq rfl rfl hat ?_ | refine Z7 rfl rfl hchk ?_ | refine Z04 (src := Z5 [kb]) rfl rfl (by rw [← hkb]; rfl) (Z00 _) (by decide) (by decide) (Zjf rfl (by simp) hroom1) ?_ | refine Z7 rfl rfl h8 ?_ | refine Ze rfl rfl hone8 hlen8 rfl (Z01 rfl hz8) ?_ | refine Z04 (src := Z5 (be 8 (Z1y n))) rfl rfl (hvsl _ _ rfl) (Z00 _) (by decide) (by decide) (Zjf rfl hne8 (hroom3 _ (by simp [Z26]))) ?_ | refine Z0 rfl ?_ | refine Z8 rfl ?_ | refine Z2 ?_) | refine fin _ _ _ _ _ _ hform rfl rfl rfl rfl rfl rfl rfl rfl
        · replace hk3 : k = 3 := hk3
          subst hk3
          have fin := fin0 (by decide) (by decide)
          have hform : (b ++ [kb]) ++ [UInt8.ofNat (n % 256).toNat] = b ++ Z1m (.mk 3 n s ll) := by simp only [Z1m, hkd]; simp
          refine Zn (.put 4 _ (.put 9 p (.put 10 _ (.put 11 _ .nil)))) (Z3 h4 (Z3 h9 (Z3 h10 (Z3 h11 Zp)))) (Zi ?_)
          repeat' first | ((with_reducible show V _ _ _ _ _ _); first | refine Z22 hlt rfl rfl ?_ | refine Z1 rfl ?_ | refine Za rfl rfl ?_ | refine Zb rfl rfl ?_) | ((with_reducible show VO _ _ _ _ _ _ _); first | refine Ze rfl rfl vc.one rfl rfl rfl ?_ | refine Zq rfl rfl hat ?_ | refine Z7 rfl rfl hchk ?_ | refine Z04 (src := Z5 [kb]) rfl rfl (by rw [← hkb]; rfl) (Z00 _) (by decide) (by decide) (Zjf rfl (by simp) hroom1) ?_ | refine Z04 (src := Z5 [UInt8.ofNat (n % 256).toNat]) rfl rfl (by rw [← wrap8 n]; rfl) (Z00 _) (by decide) (by decide) (Zjf rfl (by simp) (hroom3 _ (by simp))) ?_ | refine Z0 rfl ?_ | refine Z8 rfl ?_ | refine Z2 ?_) | refine fin _ _ _ _ _ _ hform rfl rfl rfl rfl rfl rfl rfl rfl
        · replace hk6 : k = 6 := hk6
          subst hk6
          have fin := fin0 (by decide) (by decide)
          have hform : (b ++ [kb]) ++ be 8 (Z1y n) = b ++ Z1m (.mk 6 n s ll) := by simp only [Z1m, hkd]; simp
          refine Zn (.put 4 _ (.put 9 p (.put 10 _ (.put 11 _ .nil)))) (Z3 h4 (Z3 h9 (Z3 h10 (Z3 h11 Zp)))) (Zi ?_)
          repeat' first | ((with_reducible show V _ _ _ _ _ _); first | refine Z22 hlt rfl rfl ?_ | refine Z1 rfl ?_ | refine Za rfl rfl ?_ | refine Zb rfl rfl ?_) | ((with_reducible show VO _ _ _ _ _ _ _); first | refine Ze rfl rfl vc.one rfl rfl rfl ?_ | refine Zq rfl rfl hat ?_ | refine Z7 rfl rfl hchk ?_ | refine Z04 (src := Z5 [kb]) rfl rfl (by rw [← hkb]; rfl) (Z00 _) (by decide) (by decide) (Zjf rfl (by simp) hroom1) ?_ | refine Z7 rfl rfl h8 ?_ | refine Ze rfl rfl hone8 hlen8 rfl (Z01 rfl hz8) ?_ | refine Z04 (src := Z5 (be 8 (Z1y n))) rfl rfl (hvsl _ _ rfl) (Z00 _) (by decide) (by decide) (Zjf rfl hne8 (hroom3 _ (by simp [Z26]))) ?_ | refine Z0 rfl ?_ | refine Z8 rfl ?_ | refine Z2 ?_) | refine fin _ _ _ _ _ _ hform rfl rfl rfl rfl rfl rfl rfl rfl
        · replace hk7 : k = 7 := hk7
          subst hk7
          have fin := fin0 (by decide) (by decide)
          have hform : (b ++ [kb]) ++ be 8 (Z1y n) = b ++ Z1m (.mk 7 n s ll) := by simp only [Z1m, hkd]; simp
          refine Zn (.put 4 _ (.put 9 p (.put 10 _ (.put 11 _ .nil)))) (Z3 h4 (Z3 h9 (Z3 h10 (Z3 h11 Zp)))) (Zi ?_)
          repeat' first | ((with_reducible show V _ _ _ _ _ _); first | refine Z22 hlt rfl rfl ?_ | refine Z1 rfl ?_ | refine Za rfl rfl ?_ | refine Zb rfl rfl ?_) | ((with_reducible show VO _ _ _ _ _ _ _); first | refine Ze rfl rfl vc.one rfl rfl rfl ?_ | refine Zq rfl rfl hat ?_ | refine Z7 rfl rfl hchk ?_ | refine Z04 (src := Z5 [kb]) rfl rfl (by rw [← hkb]; rfl) (Z00 _) (by decide) (by decide) (Zjf rfl (by simp) hroom1) ?_ | refine Z7 rfl rfl h8 ?_ | refine Ze rfl rfl hone8 hlen8 rfl (Z01 rfl hz8) ?_ | refine Z04 (src := Z5 (be 8 (Z1y n))) rfl rfl (hvsl _ _ rfl) (Z00 _) (by decide) (by decide) (Zjf rfl hne8 (hroom3 _ (by simp [Z26]))) ?_ | refine Z0 rfl ?_ | refine Z8 rfl ?_ | refine Z2 ?_) | refine fin _ _ _ _ _ _ hform rfl rfl rfl rfl rfl rfl rfl rfl
        · replace hk2 : k = 2 := hk2
          subst hk2
          have fin := fin0 (by decide) (by decide)
          obtain ⟨qe, he1, he2⟩ := Zho s (by omega) false true true
          have ple := he2.pl
          have hel := esc_le s
          have hform : ((b ++ [kb]) ++ Zk s) ++ [0, 1] = b ++ Z1m (.mk 2 n s ll) := by simp only [Z1m, hkd]; simp
          have hpls := (BV.sl s false).pl
          by_cases hes : Zk s = []
          · rw [hes] at he2 hform
            refine Zn (.put 4 _ (.put 9 p (.put 10 _ (.put 11 _ .nil)))) (Z3 h4 (Z3 h9 (Z3 h10 (Z3 h11 Zp)))) (Zi ?_)
            repeat' first | ((with_reducible show V _ _ _ _ _ _); first | refine Z22 hlt rfl rfl ?_ | refine Z1 rfl ?_ | refine Za rfl rfl ?_ | refine Zb rfl rfl ?_) | ((with_reducible show VO _ _ _ _ _ _ _); first | refine Ze rfl rfl vc.one rfl rfl rfl ?_ | refine Zq rfl rfl hat ?_ | refine Z7 rfl rfl hchk ?_ | refine Z04 (src := Z5 [kb]) rfl rfl (by rw [← hkb]; rfl) (Z00 _) (by decide) (by decide) (Zjf rfl (by simp) hroom1) ?_ | refine Z7 rfl rfl he1 ?_ | refine Z04 rfl rfl (Z0n he2) (Z00 _) (by decide) (by decide) appE ?_ | refine Z04 (src := Z5 [0, 1]) rfl rfl rfl (Z00 _) (by decide) (by decide) (Zjf rfl (by simp) (hroom3 _ (by simp))) ?_ | refine Z0 rfl ?_ | refine Z8 rfl ?_ | refine Z2 ?_) | refine fin _ _ _ _ _ _ (by rw [← hform, List.append_nil]) rfl rfl rfl rfl rfl rfl rfl rfl
          · refine Zn (.put 4 _ (.put 9 p (.put 10 _ (.put 11 _ .nil)))) (Z3 h4 (Z3 h9 (Z3 h10 (Z3 h11 Zp)))) (Zi ?_)
            repeat' first | ((with_reducible show V _ _ _ _ _ _); first | refine Z22 hlt rfl rfl ?_ | refine Z1 rfl ?_ | refine Za rfl rfl ?_ | refine Zb rfl rfl ?_) | ((with_reducible show VO _ _ _ _ _ _ _); first | refine Ze rfl rfl vc.one rfl rfl rfl ?_ | refine Zq rfl rfl hat ?_ | refine Z7 rfl rfl hchk ?_ | refine Z04 (src := Z5 [kb]) rfl rfl (by rw [← hkb]; rfl) (Z00 _) (by decide) (by decide) (Zjf rfl (by simp) hroom1) ?_ | refine Z7 rfl rfl he1 ?_ | refine Z04 rfl rfl (Z0n he2) (Z00 _) (by decide) (by decide) (Zjf rfl hes (hroom3 _ (by omega))) ?_ | refine Z04 (src := Z5 [0, 1]) rfl rfl rfl (Z00 _) (by decide) (by decide) (Zjf rfl (by simp) (hroom4 _ (by omega))) ?_ | refine Z0 rfl ?_ | refine Z8 rfl ?_ | refine Z2 ?_) | refine fin _ _ _ _ _ _ hform rfl rfl rfl rfl rfl rfl rfl rfl
        · replace hk4 : k = 4 := hk4
          subst hk4
          have hke : Zel l = .error 21 := by rw [hk]; simp [Zel, hm, Val.kind, Except.map]
          refine Zn (.put 4 _ (.put 9 p (.put 10 _ (.put 11 _ .nil)))) (Z3 h4 (Z3 h9 (Z3 h10 (Z3 h11 Zp)))) (Zi ?_)
          repeat' first | ((with_reducible show V _ _ _ _ _ _); first | refine Z22 hlt rfl rfl ?_ | refine Z1 rfl ?_ | refine Zb rfl rfl ?_) | ((with_reducible show VO _ _ _ _ _ _ _); first | refine Ze rfl rfl vc.one rfl rfl rfl ?_ | refine Zq rfl rfl hat ?_ | refine Z7 rfl rfl hchk ?_ | refine Z04 (src := Z5 [kb]) rfl rfl (by rw [← hkb]; rfl) (Z00 _) (by decide) (by decide) (Zjf rfl (by simp) hroom1) ?_ | refine Z0 rfl ?_ | refine Z8 rfl ?_ | refine Z2 ?_) | refine ret _ _ _ _ _ hke rfl rfl rfl
        · replace hk5 : k = 5 := hk5
          subst hk5
          have hke : Zel l = .error 21 := by rw [hk]; simp [Zel, hm, Val.kind, Except.map]
          refine Zn (.put 4 _ (.put 9 p (.put 10 _ (.put 11 _ .nil)))) (Z3 h4 (Z3 h9 (Z3 h10 (Z3 h11 Zp)))) (Zi ?_)
          repeat' first | ((with_reducible show V _ _ _ _ _ _); first | refine Z22 hlt rfl rfl ?_ | refine Z1 rfl ?_ | refine Zb rfl rfl ?_) | ((with_reducible show VO _ _ _ _ _ _ _); first | refine Ze rfl rfl vc.one rfl rfl rfl ?_ | refine Zq rfl rfl hat ?_ | refine Z7 rfl rfl hchk ?_ | refine Z04 (src := Z5 [kb]) rfl rfl (by rw [← hkb]; rfl) (Z00 _) (by decide) (by decide) (Zjf rfl (by simp) hroom1) ?_ | refine Z0 rfl ?_ | refine Z8 rfl ?_ | refine Z2 ?_) | refine ret _ _ _ _ _ hke rfl rfl rfl
    · have hm' : Zg 8 (.mk k n s ll) = false := by simpa using hm
      have hc0 : chk (.mk k n s ll) = 20 := by simp [chk, hm']
      rw [hc0] at hchk
      have hke : Zel l = .error 20 := by rw [hk]; simp [Zel, hm', Except.map]
      clear ih
      rcases hA with ⟨rfl, rfl, rfl⟩ | ⟨g, rfl, rfl⟩
      · refine Zn (.put 4 _ (.put 9 p (.put 10 _ (.put 11 _ .nil)))) (Z3 h4 (Z3 h9 (Z3 h10 (Z3 h11 Zp)))) (Zi ?_)
        repeat' first | ((with_reducible show V _ _ _ _ _ _); first | refine Z22 hlt rfl rfl ?_ | refine Z1 rfl ?_ | refine Za rfl rfl ?_) | ((with_reducible show VO _ _ _ _ _ _ _); first | refine Z8 rfl ?_ | refine Ze rfl rfl vc.one rfl rfl rfl ?_ | refine Zq rfl rfl hat ?_ | refine Z7 rfl rfl hchk ?_ | refine Z0 rfl ?_ | refine Z2 ?_) | refine ret _ _ _ _ _ hke rfl rfl rfl
      · refine Zn (.put 4 _ (.put 9 p (.put 10 _ (.put 11 _ .nil)))) (Z3 h4 (Z3 h9 (Z3 h10 (Z3 h11 Zp)))) (Zi ?_)
        repeat' first | ((with_reducible show V _ _ _ _ _ _); first | refine Z22 hlt rfl rfl ?_ | refine Z1 rfl ?_ | refine Za rfl rfl ?_) | ((with_reducible show VO _ _ _ _ _ _ _); first | refine Z8 rfl ?_ | refine Ze rfl rfl vc.one rfl rfl rfl ?_ | refine Zq rfl rfl hat ?_ | refine Z7 rfl rfl hchk ?_ | refine Z0 rfl ?_ | refine Z2 ?_) | refine ret _ _ _ _ _ hke rfl rfl rfl
def keyB (l : List Val) : List UInt8 := match Zel l with
  | .ok b => b
  | .error _ => []
def keyE (l : List Val) : Int := match Zel l with
  | .ok _ => 0
  | .error e => e
theorem run_Key (l : List Val) (p : PV) (hp : LC l p) (hln : l.length ≤ 1073741824) : ∃ q, BV q (keyB l) ∧ T.R (.call Zcn [p] (.tuple [q, .int .i64 (keyE l)])) := by
  obtain ⟨lp1, lp2, lp3⟩ := hp.len
  have hl := fun e h4 h9 h10 h11 => key_loop l p hp hln l [] [] e emptySt .nilSl rfl (by cases Zel l <;> rfl) (by simp) (.inl ⟨rfl, rfl, rfl⟩) h4 h9 h10 h11
  have key : ∃ r, T.R (.call Zcn [p] r) ∧ ∃ q, BV q (keyB l) ∧ r = .tuple [q, .int .i64 (keyE l)] := by
    refine Z6o rfl rfl ?_
    repeat' first | refine Z3r rfl (hl _ rfl rfl rfl rfl) ?_ | refine Z1 rfl ?_ | ((with_reducible show VO _ _ _ _ _ _ _); first | refine Z07 rfl lp1 lp2 ?_ | refine Z0 rfl ?_ | refine Z2 ?_)
    rintro x e' st' (⟨rfl, v', b', hk, rfl, hA⟩ | ⟨err, rfl, hk, rfl⟩)
    · have hb : keyB l = b' := by simp [keyB, hk]
      have he : keyE l = 0 := by simp [keyE, hk]
      rw [hb, he]
      rcases hA with ⟨rfl, rfl, rfl⟩ | ⟨g, rfl, rfl⟩
      · repeat' first | refine Z1 rfl ?_ | refine Zc rfl rfl ?_ | refine Z0 rfl ?_ | refine Z2 ?_
        exact ⟨_, .nil, rfl⟩
      · repeat' first | refine Z3t (r := .tuple [.sl (Z5 b') false, .int .i64 0]) rfl rfl (Zes (Z0m (Z5p (g := g) (sz := 1) (lv := true) (es := Z5 b') rfl (.inl rfl) rfl (Z6w _)) (Z0m (.int _ _) Z5q))) ?_ | refine Z1 rfl ?_ | refine Z0 rfl ?_ | refine Z2 ?_
        exact ⟨_, .sl _ _, rfl⟩
    · have hb : keyB l = [] := by simp [keyB, hk]
      have he : keyE l = err := by simp [keyE, hk]
      rw [hb, he]
      exact Z3t (r := .tuple [.nilSl, .int .i64 err]) rfl rfl (Pl.view (by (repeat' (first | exact Pl.int _ _ | exact Pl.bool _ | exact Pl.str _ | exact Pl.nilSl | exact Z2u | refine Z0b ?_ ?_ | refine Pl.tuple _ ?_ | refine Pl.agg _ ?_ | refine Pl.func _ _ ?_ | assumption | refine Pl.iptr _ _ ?_ | exact Z5y | refine Z3i ?_ ?_ | refine Pl.sl _ _ ?_)); first | done | fail)) ⟨_, .nil, rfl⟩
  obtain ⟨r, h1, q, h2, rfl⟩ := key
  exact ⟨q, h2, h1⟩
theorem run_CloneNil : T.R (.call Z3b [.nilSl] .nilSl) := by
  refine Zd rfl rfl ?_
  repeat' first | ((with_reducible show V _ _ _ _ _ _); first | refine Z1 rfl ?_ | refine Za rfl rfl ?_ | refine Zc rfl rfl ?_) | refine Z0 rfl ?_ | refine Z2 ?_
  rfl
def Good (v : Val) : Prop := Zg 8 v = true ∧ v.kind ≠ 4 ∧ v.kind ≠ 5
theorem esc_cons (a : UInt8) (s : List UInt8) : Zk (a :: s) = (if a = 0 then [0, 255] else [a]) ++ Zk s := rfl
theorem good_cases {k n : Int} {s : List UInt8} {l : List Val} (h : Good (.mk k n s l)) :
    (k = 1 ∧ s = [] ∧ l = []) ∨ (k = 3 ∧ s = [] ∧ l = [] ∧ (n = 0 ∨ n = 1)) ∨ (k = 6 ∧ s = [] ∧ l = []) ∨ (k = 7 ∧ s = [] ∧ l = []) ∨ (k = 2 ∧ n = 0 ∧ l = []) := by
  obtain ⟨hm, h4, h5⟩ := h
  simp only [Val.kind] at h4 h5
  simp only [Zg] at hm
  split at hm
  · simp at hm; simp [*]
  · split at hm
    · simp at hm; simp [*]
    · split at hm
      · simp at hm; simp [*]
      · split at hm
        · simp at hm; simp [*]
        · split at hm
          · simp at hm; simp [*]
          · exfalso
            first | (cases hm; done) | (simp [h4, h5] at hm)
end Go.Proofs.YtgdjnlopdpjnaaaGreatDoor
namespace Go.Proofs.YtgdjnlopdpjnaaaGreatDoor
open Go Go.AM Go.RowKit
theorem u8_nat {u : Nat} (h : u < 256) : (UInt8.ofNat u).toNat = u := by simp; omega
theorem dec_put : ∀ (n i u : Nat) (b : List UInt8), n + i = 9 → (0 < i → u ≠ 0) → u < 2 * 128 ^ n → Zcu (n + 1) i (Z8b n u ++ b) = .ok u (Z8b n u).length
  | 0, i, u, b, hi, h0, hu => by
    have hi9 : i = 9 := by omega
    subst hi9
    simp only [Nat.pow_zero, Nat.mul_one] at hu
    have hc := u8_nat (u := u) (by omega)
    have h0' := h0 (by omega)
    simp only [Z8b, List.cons_append, List.nil_append, Zcu, hc]
    rw [if_neg (by omega), if_neg (by omega)]
    rfl
  | n + 1, i, u, b, hi, h0, hu => by
    simp only [Z8b]
    by_cases h : u < 128
    · have hc := u8_nat (u := u) (by omega)
      rw [if_pos h]
      simp only [List.cons_append, List.nil_append, Zcu, hc]
      rw [if_neg (by omega), if_neg (by omega)]
      rfl
    · have hc := u8_nat (u := u % 128 + 128) (by omega)
      rw [if_neg h]
      simp only [List.cons_append, Zcu, hc]
      rw [if_pos (by omega), dec_put n (i + 1) (u / 128) b (by omega) (fun _ => by omega) (by rw [Nat.pow_succ] at hu; omega)]
      simp only [NT.up, List.length_cons, NT.ok.injEq, and_true]
      omega
theorem Zeo {u : Nat} (hu : u < 18446744073709551616) (b : List UInt8) : Zcu 10 0 (Z8b 9 u ++ b) = .ok u (Z8b 9 u).length :=
  dec_put 9 0 u b rfl (fun h => by omega) (by
    have h9 : (128 : Nat) ^ 9 = 9223372036854775808 := by decide
    rw [h9]; omega)
theorem zag_zig {n : Int} (h : I64 n) : zagN (zigN n) = n := by
  unfold I64 at h
  unfold zagN zigN
  split <;> split <;> omega
theorem zig_u64 {n : Int} (h : I64 n) : zigN n < 18446744073709551616 := by
  unfold I64 at h
  unfold zigN
  split <;> omega
theorem sgn_put {n : Int} (h1 : 1 ≤ n) (h2 : n ≤ 281474976710656) : sgnN (n % 18446744073709551616).toNat = n := by
  unfold sgnN
  split <;> omega
theorem may_cases {f : Nat} {k n : Int} {s : List UInt8} {l : List Val} (h : Zg (f + 1) (.mk k n s l) = true) :
    (k = 1 ∧ s = [] ∧ l = []) ∨ (k = 3 ∧ s = [] ∧ l = [] ∧ (n = 0 ∨ n = 1)) ∨ ((k = 6 ∨ k = 7) ∧ s = [] ∧ l = [] ∧ 1 ≤ n ∧ n ≤ 281474976710656) ∨ (k = 2 ∧ n = 0 ∧ l = [] ∧ s.length ≤ 128) ∨ ((k = 4 ∧ l.length ≤ 256 ∨ k = 5 ∧ l.length ≤ 512) ∧ n = 0 ∧ s = [] ∧ ∀ v ∈ l, Zg f v = true) := by
  simp only [Zg] at h
  split at h
  · simp at h; simp [*]
  · split at h
    · simp at h; simp [*]
    · split at h
      · simp at h; simp [*]
      · split at h
        · simp at h; simp [*]
        · split at h
          · simp at h; rename_i h2; refine .inr (.inr (.inr (.inl ⟨h2, h.1.1, h.1.2, by omega⟩)))
          · split at h
            · simp at h; rename_i h4; exact .inr (.inr (.inr (.inr ⟨.inl ⟨h4, by omega⟩, h.1.1.1, h.1.1.2, h.2⟩)))
            · split at h
              · simp at h; rename_i h5; exact .inr (.inr (.inr (.inr ⟨.inr ⟨h5, by omega⟩, h.1.1.1.1.1, h.1.1.1.1.2, h.1.2⟩)))
              · cases h
theorem Zkh {rd : List UInt8 → TR} : ∀ (l : List Val) (b : List UInt8) (n : Nat), (∀ v ∈ l, ∀ b, rd (Z6s v ++ b) = .ok v (Z6s v).length) → Z3u rd l.length (Z8a l ++ b) n = .ok (l, n + (Z8a l).length)
  | [], b, n, h => rfl
  | v :: l, b, n, h => by
    simp only [List.length_cons, Z3u, Z8a, List.append_assoc]
    rw [h v (by simp)]
    simp only [List.drop_left]
    rw [Zkh l b _ (fun w hw => h w (by simp [hw]))]
    simp [Except.map, Nat.add_assoc]
theorem read_putV : ∀ (f : Nat) (v : Val), (∃ cs, VC v cs) → Zg f v = true → ∀ b, Zdj f (Z6s v ++ b) = .ok v (Z6s v).length
  | 0, v, _, h, b => by cases h
  | f + 1, .mk k n s l, ⟨cs, hv⟩, h, b => by
    obtain ⟨hk, hn, hs, p, rfl, hp⟩ := hv.open
    have hz := zig_u64 hn
    rcases may_cases h with ⟨rfl, rfl, rfl⟩ | ⟨rfl, rfl, rfl, hn'⟩ | ⟨hk', rfl, rfl, h1, h2⟩ | ⟨rfl, rfl, rfl, h1⟩ | ⟨hk', rfl, rfl, hl⟩
    · have e : Z6s (.mk 1 n [] []) = 1 :: Z8b 9 (zigN n) := by simp [Z6s]
      rw [e]
      simp only [List.cons_append, Zdj]
      rw [if_neg (by decide), if_neg (by decide), Zeo hz]
      simp only [Z5v]
      rw [if_pos (by decide), zag_zig hn]
      rfl
    · have e : Z6s (.mk 3 n [] []) = [3, UInt8.ofNat (n % 256).toNat] := by simp [Z6s]
      rw [e]
      simp only [List.cons_append, List.nil_append, Zdj]
      rw [if_neg (by decide), if_pos (by decide)]
      rcases hn' with rfl | rfl <;> rfl
    · have e : Z6s (.mk k n [] []) = UInt8.ofNat (k % 256).toNat :: Z8b 9 (n % 18446744073709551616).toNat := by
        simp only [Z6s]
        rw [if_neg (by omega), if_pos (by omega)]
      rw [e]
      simp only [List.cons_append, Zdj]
      have hkt : (UInt8.ofNat (k % 256).toNat).toNat = k.toNat := by rcases hk' with rfl | rfl <;> rfl
      rw [hkt, if_neg (by omega), if_neg (by omega), Zeo (by omega)]
      simp only [Z5v]
      rw [if_neg (by omega), if_pos (by omega), sgn_put h1 h2]
      have e3 : ((k.toNat : Nat) : Int) = k := by omega
      rw [e3]
      rfl
    · have e : Z6s (.mk 2 0 s []) = 2 :: (Z8b 9 s.length ++ s) := by simp [Z6s]
      rw [e]
      simp only [List.cons_append, List.append_assoc, Zdj]
      rw [if_neg (by decide), if_neg (by decide), Zeo (by omega)]
      simp only [Z5v, List.drop_left]
      rw [if_neg (by decide), if_neg (by decide), if_pos (by decide), if_neg (by omega), if_neg (by simp)]
      simp
      omega
    · have e : Z6s (.mk k 0 [] l) = UInt8.ofNat (k % 256).toNat :: (Z8b 9 l.length ++ Z8a l) := by
        simp only [Z6s]
        rw [if_neg (by omega), if_neg (by omega), if_neg (by omega), if_neg (by omega)]
      rw [e]
      simp only [List.cons_append, List.append_assoc, Zdj]
      have hkt : (UInt8.ofNat (k % 256).toNat).toNat = k.toNat := by rcases hk' with ⟨rfl, _⟩ | ⟨rfl, _⟩ <;> rfl
      have hl5 : l.length ≤ 512 := by omega
      rw [hkt, if_neg (by omega), if_neg (by omega), Zeo (by omega)]
      simp only [Z5v, List.drop_left]
      rw [if_neg (by omega), if_neg (by omega), if_neg (by omega), if_neg (by omega)]
      rw [Zkh l b _ (fun v hv b => read_putV f v (by
        obtain ⟨j, hj⟩ := List.getElem?_of_mem hv
        obtain ⟨cs, _, h⟩ := hp.at hj
        exact ⟨cs, h⟩) (hl v hv) b)]
      have e3 : ((k.toNat : Nat) : Int) = k := by omega
      simp only [e3, List.length_cons, List.length_append]
      congr 1
      omega
theorem read_put {v : Val} {cs : List PV} (hv : VC v cs) (h : Zg 8 v = true) (b : List UInt8) : readT (Z6s v ++ b) = .ok v (Z6s v).length := by
  unfold readT
  rw [read_putV 8 v ⟨cs, hv⟩ h b]
  simp [made, h]
theorem foldl8 : ∀ (l : List UInt8) (u : Nat), l.foldl (fun u c => u * 256 + c.toNat) u = u * 256 ^ l.length + un8 l
  | [], u => by simp [un8]
  | c :: l, u => by
    have h1 := foldl8 l (u * 256 + c.toNat)
    have h2 := foldl8 l (0 * 256 + c.toNat)
    unfold un8
    simp only [List.foldl_cons, List.length_cons, Nat.pow_succ]
    rw [h1, h2, Nat.add_mul, Nat.add_mul, Nat.mul_assoc, Nat.mul_comm 256]
    omega
theorem un8_cons (c : UInt8) (l : List UInt8) : un8 (c :: l) = c.toNat * 256 ^ l.length + un8 l := by
  have := foldl8 l (0 * 256 + c.toNat)
  rw [Nat.zero_mul, Nat.zero_add] at this
  rw [← this]
  simp [un8]
theorem un8_be : ∀ j m, un8 (be j m) = m % 256 ^ j
  | 0, m => by simp [be, un8, Nat.mod_one]
  | j + 1, m => by
    rw [be, un8_cons, Z26, un8_be j m, Nat.mod_pow_succ, UInt8.toNat_ofNat']
    rw [Nat.mul_comm, Nat.add_comm]
theorem strR_esc : ∀ (s acc : List UInt8) (n : Nat) (x : List UInt8), Z9q (Zk s ++ 0 :: 1 :: x) acc n = made (.mk 2 0 (acc ++ s) []) (n + (Zk s).length + 2)
  | [], acc, n, x => by simp [Zk, Z9q]
  | b :: s, acc, n, x => by
    rw [esc_cons]
    by_cases h : b = 0
    · subst h
      have := strR_esc s (acc ++ [0]) (n + 2) x
      simp only [if_true, List.cons_append, List.nil_append, Z9q]
      rw [if_neg (by decide), this]
      simp
      congr 1
      omega
    · have := strR_esc s (acc ++ [b]) (n + 1) x
      simp only [if_neg h, List.cons_append, List.nil_append, List.append_assoc]
      obtain ⟨c, r, hcr⟩ : ∃ c r, Zk s ++ 0 :: 1 :: x = c :: r := by
        cases he : Zk s with
        | nil => exact ⟨_, _, rfl⟩
        | cons a l => exact ⟨_, _, rfl⟩
      rw [hcr] at this ⊢
      simp only [Z9q]
      rw [if_neg h, this]
      simp
      congr 1
      omega
theorem Zea {v : Val} (h : Good v) (n : Nat) : made v n = .ok v n := by simp [made, h.1]
theorem take_key {v : Val} (h : Good v) (hi : I64 v.n) (x : List UInt8) : Z7p (Z1m v ++ x) = .ok v (Z1m v).length := by
  obtain ⟨k, n, s, l⟩ := v
  simp only [Val.n] at hi
  unfold I64 at hi
  have p256 : (256 : Nat) ^ 8 = 18446744073709551616 := by decide
  rcases good_cases h with ⟨rfl, rfl, rfl⟩ | ⟨rfl, rfl, rfl, hn⟩ | ⟨rfl, rfl, rfl⟩ | ⟨rfl, rfl, rfl⟩ | ⟨rfl, rfl, rfl⟩
  · have e : Z1m (.mk 1 n [] []) = 1 :: be 8 (Z1y n) := by simp [Z1m]
    have ht : ((be 8 (Z1y n) ++ x).take 8) = be 8 (Z1y n) := by rw [List.take_append_of_le_length (by rw [Z26]; omega), List.take_of_length_le (by rw [Z26]; omega)]
    have hu : Z9p (un8 (be 8 (Z1y n))) = n := by rw [un8_be, p256]; unfold Z9p Z1y; omega
    rw [e]
    simp only [List.cons_append, Z7p]
    rw [if_pos (by decide), if_neg (by simp [Z26]), ht, hu]
    simp only [List.length_cons, Z26]
    exact Zea h 9
  · have e : Z1m (.mk 3 n [] []) = [3, UInt8.ofNat (n % 256).toNat] := by simp [Z1m]
    rw [e]
    rcases hn with rfl | rfl <;> rfl
  · have e : Z1m (.mk 6 n [] []) = 6 :: be 8 (Z1y n) := by simp [Z1m]
    have ht : ((be 8 (Z1y n) ++ x).take 8) = be 8 (Z1y n) := by rw [List.take_append_of_le_length (by rw [Z26]; omega), List.take_of_length_le (by rw [Z26]; omega)]
    have hu : Z9p (un8 (be 8 (Z1y n))) = n := by rw [un8_be, p256]; unfold Z9p Z1y; omega
    rw [e]
    simp only [List.cons_append, Z7p]
    rw [if_pos (by decide), if_neg (by simp [Z26]), ht, hu]
    simp only [List.length_cons, Z26]
    exact Zea h 9
  · have e : Z1m (.mk 7 n [] []) = 7 :: be 8 (Z1y n) := by simp [Z1m]
    have ht : ((be 8 (Z1y n) ++ x).take 8) = be 8 (Z1y n) := by rw [List.take_append_of_le_length (by rw [Z26]; omega), List.take_of_length_le (by rw [Z26]; omega)]
    have hu : Z9p (un8 (be 8 (Z1y n))) = n := by rw [un8_be, p256]; unfold Z9p Z1y; omega
    rw [e]
    simp only [List.cons_append, Z7p]
    rw [if_pos (by decide), if_neg (by simp [Z26]), ht, hu]
    simp only [List.length_cons, Z26]
    exact Zea h 9
  · have e : Z1m (.mk 2 0 s []) = 2 :: (Zk s ++ [0, 1]) := by simp [Z1m]
    rw [e]
    simp only [List.cons_append, List.append_assoc, List.nil_append, Z7p]
    rw [if_neg (by decide), if_neg (by decide), if_pos trivial, strR_esc, List.nil_append]
    simp only [List.length_cons, List.length_append, List.length_nil]
    rw [Zea h]
    congr 1
    omega
theorem run_PutMay {v : Val} {cs : List PV} (hv : VC v cs) (hm : Zg 8 v = true) (hlen : (Z6s v).length ≤ 100000000000000) : T.R (.call Zi8 [.nilSl, .agg cs] (.sl (Z5 (Z6s v)) false)) := by
  have hchk := Z7t hv
  have hc0 : chk v = 0 := by simp [chk, hm]
  rw [hc0] at hchk
  have plc := hv.pl
  have hA0 : (emptySt.new (.var cs)).get 0 = some (.var cs) := rfl
  have hnxt : (emptySt.new (.var cs)).next = 1 := rfl
  obtain ⟨b', st', h1, h2, h3⟩ := put_all hv ⟨1, 1, (emptySt.new (.var cs)).toks⟩ .nilSl [] rfl (.inl ⟨rfl, rfl⟩) (by simpa using hlen)
  have hB0 : (⟨0, st'.next, st'.toks⟩ : St).get 0 = some (.var cs) := (h3.2.2.2 0 (by show 0 < 1; omega) (by simp [Z0q])).trans rfl
  rw [List.nil_append] at h2
  refine Zd rfl rfl ?_
  repeat' first | ((with_reducible show V _ _ _ _ _ _); first | refine V_M 3 ⟨0, st'.next, st'.toks⟩ rfl ?_ | refine Z1 rfl ?_ | refine Zb rfl rfl ?_) | ((with_reducible show VO _ _ _ _ _ _ _); first | refine Z0e rfl hA0 hv.len4 ?_ | refine Z7 rfl rfl hchk ?_ | refine Z0 rfl ?_ | refine Z8 rfl ?_ | refine Z2 ?_) | ((with_reducible show VM _ _ _ _ _ _ _ _ _ _ _); first | refine M_call rfl (.inl rfl) rfl rfl (Z1h) (Z1h) run_CloneNil ?_ | refine M_loadP rfl (.inl rfl) rfl hA0 hB0 hv.len4 ?_ | refine M_rawAll h1 h3.1 rfl rfl rfl rfl ?_ | refine Zge rfl (.inl rfl) rfl rfl ?_ | refine Zge rfl (.inr rfl) rfl rfl ?_ | refine M_nil ?_)
  rcases h2 with ⟨_, h⟩ | ⟨t, g, rfl, hg, hlt⟩
  · exact absurd h (by simp [Z5, putV_pos])
  · exact Z3t rfl rfl (Z5p (lv := true) (es := Z5 (Z6s v)) hg (.inl rfl) rfl (Z6w _)) rfl
mutual
def Zjg : Val → Nat
  | .mk _ _ s l => 1 + s.length + Zda l
def Zda : List Val → Nat
  | [] => 0
  | v :: l => Zjg v + Zda l
end
theorem Z1o : ∀ n u, (Z8b n u).length ≤ n + 1
  | 0, u => by simp [Z8b]
  | n + 1, u => by
    have := Z1o n (u / 128)
    simp only [Z8b]
    split
    · simp
    · simp; omega
mutual
theorem Zhs : ∀ v : Val, (Z6s v).length ≤ 11 * Zjg v
  | .mk k n s l => by
    have h1 := Z1o 9 (zigN n)
    have h2 := Z1o 9 (n % 18446744073709551616).toNat
    have h3 := Z1o 9 s.length
    have h4 := Z1o 9 l.length
    have h5 := Zkj l
    simp only [Z6s, Zjg]
    split
    · simp only [List.length_cons]; omega
    · split
      · simp only [List.length_cons]; omega
      · split
        · simp; omega
        · split
          · simp only [List.length_cons, List.length_append]; omega
          · simp only [List.length_cons, List.length_append]; omega
theorem Zkj : ∀ l : List Val, (Z8a l).length ≤ 11 * Zda l
  | [] => by simp [Z8a]
  | v :: l => by
    have h1 := Zhs v
    have h2 := Zkj l
    simp only [Z8a, Zda, List.length_append]
    omega
end
structure Prp where
  name : List UInt8
  val : Val
structure Vtx where
  id : Int
  label : List UInt8
  props : List Prp
structure Lnk where
  id : Int
  label : List UInt8
  out : Int
  into : Int
  props : List Prp
def PpC (x : Prp) (cs : List PV) : Prop := x.name.length ≤ 140737488355328 ∧ ∃ vc, cs = .str x.name :: vc ∧ VC x.val vc
def VtC (x : Vtx) (cs : List PV) : Prop := I64 x.id ∧ x.label.length ≤ 140737488355328 ∧ ∃ p, cs = [.int .i64 x.id, .str x.label, p] ∧ LR PpC p x.props
def LkC (x : Lnk) (cs : List PV) : Prop := I64 x.id ∧ x.label.length ≤ 140737488355328 ∧ I64 x.out ∧ I64 x.into ∧ ∃ p, cs = [.int .i64 x.id, .str x.label, .int .i64 x.out, .int .i64 x.into, p] ∧ LR PpC p x.props
def EnC (x : List UInt8 × List UInt8) (cs : List PV) : Prop := ∃ p q, cs = [p, q] ∧ BV p x.1 ∧ BV q x.2
theorem PpC.pl {x : Prp} {cs : List PV} (h : PpC x cs) : ∀ c ∈ cs, Pl c := by
  obtain ⟨_, vc, rfl, hv⟩ := h
  exact Z0b (.str _) hv.pl
theorem PpC.len5 {x : Prp} {cs : List PV} (h : PpC x cs) : cs.length = 5 := by
  obtain ⟨_, vc, rfl, hv⟩ := h
  simp [hv.len4]
theorem EnC.pl {x : List UInt8 × List UInt8} {cs : List PV} (h : EnC x cs) : ∀ c ∈ cs, Pl c := by
  obtain ⟨p, q, rfl, h1, h2⟩ := h
  exact Z0b h1.pl (Z0b h2.pl Z2u)
theorem EnC.len2 {x : List UInt8 × List UInt8} {cs : List PV} (h : EnC x cs) : cs.length = 2 := by
  obtain ⟨p, q, rfl, _⟩ := h
  rfl
def Zbh (s : List UInt8) : Val := .mk 2 0 s []
def Z4u (n : Int) : Val := .mk 6 n [] []
def Z2z (n : Int) : Val := .mk 7 n [] []
def kB (v : Val) : List UInt8 := if keyE [v] = 0 then keyB [v] else []
def Z8t (v : Val) : List UInt8 := if Zg 8 v = true then Z6s v else []
def Zt (n : Int) : List UInt8 := Z8b 9 (if 0 < n then n.toNat else 0)
def Z1l (s : List UInt8) : List UInt8 := Zt s.length ++ s
def Z4x (x : Prp) : List UInt8 := Z1l x.name ++ Z8t x.val
def Z0y (l : List Prp) : List UInt8 := Zt l.length ++ l.flatMap Z4x
def Zet (v : Val) : List UInt8 :=
  let b := if v.kind = 4 ∨ v.kind = 5 then Z8t v else kB v
  UInt8.ofNat (b.take 40).length :: b.take 40
def Zfx (kind : Int) (s : List UInt8) : List UInt8 := [5, UInt8.ofNat (kind % 256).toNat] ++ kB (Zbh s)
def Z8c (kind : Int) (x : Prp) : List UInt8 := [6, UInt8.ofNat (kind % 256).toNat] ++ kB (Zbh x.name) ++ Zet x.val
def Zku (elem : Val) (s : List UInt8) (l : List Prp) : List (List UInt8 × List UInt8) :=
  (Zfx elem.kind s ++ kB elem, []) :: l.map fun x => (Z8c elem.kind x ++ kB elem, [])
def idB (n : Int) : Bool := decide (1 ≤ n) && decide (n ≤ 281474976710656)
def Z25 (v : Val) : List UInt8 := if Zg 8 v = true then (if v.kind = 6 then 1 :: kB v else if v.kind = 7 then 2 :: kB v else []) else []
def vtxK (x : Vtx) : List (List UInt8 × List UInt8) := if idB x.id = true then (Z25 (Z4u x.id), Z1l x.label ++ Z0y x.props) :: Zku (Z4u x.id) x.label x.props else []
def Z1x (k : UInt8) (v : Int) (s : List UInt8) : List UInt8 := k :: kB (Z4u v) ++ kB (Zbh s)
def lnkK (x : Lnk) : List (List UInt8 × List UInt8) :=
  if idB x.id = true ∧ idB x.out = true ∧ idB x.into = true then
    (Z25 (Z2z x.id), Zt x.out ++ Zt x.into ++ Z1l x.label ++ Z0y x.props) :: (Z1x 3 x.out x.label ++ kB (Z2z x.id), Zt x.into) :: (Z1x 4 x.into x.label ++ kB (Z2z x.id), Zt x.out) :: Zku (Z2z x.id) x.label x.props
  else []
end Go.Proofs.YtgdjnlopdpjnaaaGreatDoor
