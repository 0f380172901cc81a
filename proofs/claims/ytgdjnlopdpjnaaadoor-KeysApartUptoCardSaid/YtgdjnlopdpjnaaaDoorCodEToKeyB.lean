/- codec.Key: the key of any values. · codec.Key; codec.Put behind nothing; begun. · Keys stand as their values do: the plain law. · rambleref03.form, rambleref03.Key. · rambleref03.Key. · Values are read as they were put; what is read has those bytes; over plain values. · The values of a key are as they were; what values are told of has that key; over plain values. · codec.Parse; codec.Put of any value that may be; CodecBack, over plain values. · Vertices, edges, entries: what they are over plain cells; their entries. · keys: values made, numbers laid, elements laid behind bytes. -/
import Derived.Test.YtgdjnlopdpjnaaaDoorValIToPutW
import Derived.Test.YtgdjnlopdpjnaaaDoorBytesToCodC
import Derived.Test.YtgdjnlopdpjnaaaDoorAmZ
import Derived.Test.YtgdjnlopdpjnaaaDoorCodLToReadC
set_option linter.unusedVariables false
set_option linter.unusedSimpArgs false
namespace Go.Proofs.YtgdjnlopdpjnaaaDoor
open Go Go.AM Go.RowKit
def Z1a : Val → List UInt8
  | .mk k n s l => UInt8.ofNat (k % 256).toNat :: (if k = 1 ∨ k = 6 ∨ k = 7 then be 8 (Z1k n) else if k = 3 then [UInt8.ofNat (n % 256).toNat] else Zc s ++ [0, 1])
def Zbg : List Val → Except Int (List UInt8)
  | [] => .ok []
  | v :: l => if Zr 8 v then (if v.kind = 4 ∨ v.kind = 5 then .error 21 else (Zbg l).map (Z1a v ++ ·)) else .error 20
theorem keyR_ok {v : Val} {l : List Val} (b bb : List UInt8) (hbb : bb = b ++ Z1a v) (hm : Zr 8 v = true) (h4 : v.kind ≠ 4) (h5 : v.kind ≠ 5) : (Zbg (v :: l)).map (b ++ ·) = (Zbg l).map (bb ++ ·) := by
  subst hbb
  simp only [Zbg, hm, if_true, h4, h5, or_self, if_false]
  cases Zbg l <;> simp [Except.map]
theorem may_kind {f : Nat} {v : Val} (h : Zr f v = true) : v.kind = 1 ∨ v.kind = 3 ∨ v.kind = 6 ∨ v.kind = 7 ∨ v.kind = 2 ∨ v.kind = 4 ∨ v.kind = 5 := by
  obtain ⟨k, n, s, l⟩ := v
  cases f with
  | zero => simp [Zr] at h
  | succ f =>
    simp only [Zr] at h
    simp only [Val.kind]
    repeat' (split at h; · simp [*])
    cases h
theorem may_str {f : Nat} {k n : Int} {s : List UInt8} {l : List Val} (h : Zr f (.mk k n s l) = true) (hk : k ≠ 2) : s = [] := by
  cases f with
  | zero => simp [Zr] at h
  | succ f =>
    simp only [Zr] at h
    repeat' (split at h; · first | (exact absurd ‹_› hk) | (simp at h; simp [h]))
    cases h
theorem may_len {f : Nat} {k n : Int} {s : List UInt8} {l : List Val} (h : Zr f (.mk k n s l) = true) : s.length ≤ 128 := by
  by_cases hk : k = 2
  · subst hk
    cases f with
    | zero => simp [Zr] at h
    | succ f => simp [Zr] at h; omega
  · rw [may_str h hk]; simp
theorem esc_le (s : List UInt8) : (Zc s).length ≤ 2 * s.length := by
  rw [Z8c]
  have : s.count 0 ≤ s.length := List.count_le_length
  omega
theorem form_len {v : Val} (h : Zr 8 v = true) : (Z1a v).length ≤ 259 := by
  obtain ⟨k, n, s, l⟩ := v
  have h1 := may_len h
  have h2 := esc_le s
  simp only [Z1a]
  split
  · simp [Z1r]
  · split
    · simp
    · simp; omega
theorem wrap8 (n : Int) : [[PV.int .u8 (IntKind.u8.wrap n)]] = Z1 [UInt8.ofNat (n % 256).toNat] := by
  rw [Z9b]
  have h1 : n % 256 = (((n % 256).toNat : Nat) : Int) := by omega
  have h2 : (n % 256).toNat < 256 := by omega
  simp [Z1]
  omega
def KS (g : Nat) (b : List UInt8) : St := ⟨0, 2, [(1, .row g 1 (Z1 b) true)]⟩
def AccK (st : St) (v : PV) (b : List UInt8) : Prop := (v = .nilSl ∧ b = [] ∧ st = emptySt) ∨ ∃ g, v = .osl 1 g 0 (Z1 b).length false ∧ st = KS g b
def keyP (l : List Val) : EX → EC → St → Prop := fun x e' st' => (x = .exit 0 ∧ ∃ v' b', Zbg l = .ok b' ∧ e' = .put 4 v' .nil ∧ AccK st' v' b') ∨ (∃ err, x = .ret ∧ Zbg l = .error err ∧ e' = .put 2 .nilSl (.put 3 (.int .i64 err) .nil))
set_option maxHeartbeats 4000000 in
theorem key_loop (l : List Val) (p : PV) (hp : LC l p) (hln : l.length ≤ 1073741824) : ∀ (rest pre : List Val) (b : List UInt8) (e : EC) (st : St) (v : PV), l = pre ++ rest → Zbg l = (Zbg rest).map (b ++ ·) → b.length ≤ 259 * pre.length → AccK st v b → e.get 4 = some v → e.get 9 = some p → e.get 10 = some (.int .i64 l.length) → e.get 11 = some (.int .i64 pre.length) →
    V T (PE (keyP l)) [.code (.loop Z5t)] .normal e st := by
  obtain ⟨lp1, lp2, lp3⟩ := hp.len
  intro rest
  induction rest with
  | nil =>
    intro pre b e st v hl hk hb hA h4 h9 h10 h11
    have hlt : decide ((pre.length : Int) < l.length) = false := decide_eq_false (by subst hl; simp)
    have out : ∀ (fr : List Fr) (x : EX) (e' : EC), Zi 200 fr x = ([], .exit 0) → e'.get 4 = some v → V T (PE (keyP l)) fr x e' st := fun fr x e' hadv g4 =>
      Zj (.put 4 v .nil) (Z2 g4 Zk) (Z1y hadv (.inl ⟨rfl, v, b, by rw [hk]; simp [Zbg, Except.map], rfl, hA⟩))
    refine Zj (.put 4 _ (.put 9 p (.put 10 _ (.put 11 _ .nil)))) (Z2 h4 (Z2 h9 (Z2 h10 (Z2 h11 Zk)))) (Zn ?_)
    repeat' first | refine Z3v hlt rfl rfl ?_ | refine Z3 rfl ?_ | refine Z0 rfl ?_ | refine Z4 ?_ | refine out _ _ _ rfl rfl
  | cons v0 rest ih =>
    intro pre b e st v hl hk hb hA h4 h9 h10 h11
    have hlt : decide ((pre.length : Int) < l.length) = true := decide_eq_true (by subst hl; simp; omega)
    have hpl : pre.length + 1 ≤ l.length := by subst hl; simp
    have hbl : b.length + 600 ≤ 140737488355328 := by omega
    have hv0 : l[pre.length]? = some v0 := by subst hl; simp
    obtain ⟨cs, hat, vc⟩ := hp.at hv0
    have hchk := Z7j vc
    obtain ⟨k, n, s, ll⟩ := v0
    obtain ⟨hki, hni, hsi, q, rfl, hq⟩ := vc.open
    have plq := hq.pl
    have ret : ∀ (fr : List Fr) (x : EX) (e' : EC) (st' : St) (err : Int), Zbg l = .error err → Zi 200 fr x = ([], .ret) → e'.get 2 = some .nilSl → e'.get 3 = some (.int .i64 err) → V T (PE (keyP l)) fr x e' st' := fun fr x e' st' err hke hadv g2 g3 =>
      Zj (.put 2 _ (.put 3 _ .nil)) (Z2 g2 (Z2 g3 Zk)) (Z1y hadv (.inr ⟨err, rfl, hke, rfl⟩))
    by_cases hm : Zr 8 (.mk k n s ll) = true
    · have hc0 : chk (.mk k n s ll) = 0 := by simp [chk, hm]
      rw [hc0] at hchk
      have hsl := may_len hm
      have hwi : IntKind.i64.wrap ((pre.length : Int) + 1) = ((pre ++ [Val.mk k n s ll]).length : Int) := by rw [Z06]; simp; omega
      have hfl := form_len hm
      have fin0 : k ≠ 4 → k ≠ 5 → ∀ (fr : List Fr) (x : EX) (e' : EC) (st' : St) (g' : Nat) (bb : List UInt8), bb = b ++ Z1a (.mk k n s ll) → Zi 200 fr x = ([.code (.loop Z5t)], .normal) → e'.get 4 = some (.osl 1 g' 0 (Z1 bb).length false) → e'.get 9 = some p → e'.get 10 = some (.int .i64 l.length) → e'.get 11 = some (.int .i64 (IntKind.i64.wrap ((pre.length : Int) + 1))) → st'.base = 0 → Nat.ble 2 st'.next = true → st'.get 1 = some (.row g' 1 (Z1 bb) true) → V T (PE (keyP l)) fr x e' st' := fun hk4 hk5 fr x e' st' g' bb hbb hadv g4 g9 g10 g11 hb0 hn2 hg1 => Z38 hadv (by
        rw [hwi] at g11
        refine V_forget [(4, .osl 1 g' 0 (Z1 bb).length false), (9, p), (10, .int .i64 l.length), (11, .int .i64 ((pre ++ [Val.mk k n s ll]).length : Int))] (KS g' bb)
          (Z5v g4 (.osl _ _ _ _ _ (by show 1 < 2; omega)) (Z5v g9 hp.pl.bel (Z5v g10 (.int _ _) (Z5v g11 (.int _ _) fg_nil)))) (by rw [hb0]; rfl) ⟨Nat.zero_le _, Nat.le_of_ble_eq_true hn2⟩ (fun x hx => by
            simp only [KS, List.mem_cons, List.not_mem_nil, or_false] at hx
            subst hx
            exact ⟨by show 1 < 2; omega, fun cs hcs c hc => (Z5b bb cs hcs c hc).bel, hg1⟩) ?_
        refine ih (pre ++ [Val.mk k n s ll]) bb _ _ _ (by rw [hl]; simp) ?_ ?_ (.inr ⟨g', rfl, rfl⟩) rfl rfl rfl rfl
        · rw [hk]
          exact keyR_ok b bb hbb hm hk4 hk5
        · rw [hbb]; simp; omega)
      clear ih
      have h8 := run_eight hni
      have hone8 : ((be 8 (Z1k n)).map Ze2).all PV.one = true := by simp [Ze2, PV.one]
      have hlen8 : ((be 8 (Z1k n)).map Ze2).length = 8 := by simp [Z1r]
      have hz8 : [PV.int .u8 0, PV.int .u8 0, PV.int .u8 0, PV.int .u8 0, PV.int .u8 0, PV.int .u8 0, PV.int .u8 0, PV.int .u8 0].length = ((be 8 (Z1k n)).map Ze2).length := by rw [hlen8]; rfl
      have hne8 : be 8 (Z1k n) ≠ [] := by simp [be]
      have hvsl : ∀ (st : St) (t : Nat), st.get t = some (.var ((be 8 (Z1k n)).map Ze2)) → Z56 st (.vsl t 0 1 8) = some (Z1 (be 8 (Z1k n))) := fun st t hg => by
        have := elems_vslB (look := st.get) (t := t) (s := be 8 (Z1k n)) hg
        rw [Z1r] at this
        exact this
      have hpl8 : ∀ c ∈ (be 8 (Z1k n)).map Ze2, Pl c := fun c hc => by
        obtain ⟨b, _, rfl⟩ := List.mem_map.1 hc
        exact .int _ _
      obtain ⟨kb, hkd⟩ : ∃ kb, UInt8.ofNat (k % 256).toNat = kb := ⟨_, rfl⟩
      have hkb := wrap8 k
      rw [hkd] at hkb
      rcases hA with ⟨rfl, rfl, rfl⟩ | ⟨g, rfl, rfl⟩
      ·
        have hroom1 : ([] : List UInt8).length + ([kb] : List UInt8).length ≤ Zs := by simp [Zs] at hbl ⊢; try omega
        have hroom3 : ∀ c : List UInt8, c.length ≤ 258 → ([kb] : List UInt8).length + c.length ≤ Zs := fun c hc => by simp [Zs]; omega
        have hroom4 : ∀ c : List UInt8, c.length ≤ 256 → (([kb] : List UInt8) ++ c).length + ([0, 1] : List UInt8).length ≤ Zs := fun c hc => by simp [Zs] at hbl ⊢; try omega
        rcases may_kind hm with hk1 | hk3 | hk6 | hk7 | hk2 | hk4 | hk5
        · replace hk1 : k = 1 := hk1
          subst hk1
          have fin := fin0 (by decide) (by decide)
          have hform : [kb] ++ be 8 (Z1k n) = [] ++ Z1a (.mk 1 n s ll) := by simp only [Z1a, hkd]; simp
          refine Zj (.put 4 _ (.put 9 p (.put 10 _ (.put 11 _ .nil)))) (Z2 h4 (Z2 h9 (Z2 h10 (Z2 h11 Zk)))) (Zn ?_)
          repeat' first | ((with_reducible show V _ _ _ _ _ _); first | refine Z27 hlt rfl rfl ?_ | refine Z3 rfl ?_ | refine Zb rfl rfl ?_ | refine Ze rfl rfl ?_) | ((with_reducible show VO _ _ _ _ _ _ _); first | refine Zp rfl rfl vc.one rfl rfl rfl ?_ | refine Zh rfl rfl hat ?_ | refine Z8 rfl rfl hchk ?_ | refine Z02 (src := Z1 [kb]) rfl rfl (by rw [← hkb]; rfl) (Z00 _) (by decide) (by decide) (appN (by simp) (by simp [Zs])) ?_ | refine Z8 rfl rfl h8 ?_ | refine Zp rfl rfl hone8 hlen8 rfl (Z03 rfl hz8) ?_ | refine Z02 (src := Z1 (be 8 (Z1k n))) rfl rfl (hvsl _ _ rfl) (Z00 _) (by decide) (by decide) (Zfx rfl hne8 (hroom3 _ (by simp [Z1r]))) ?_ | refine Z0 rfl ?_ | refine Z9 rfl ?_ | refine Z4 ?_) | refine fin _ _ _ _ _ _ hform rfl rfl rfl rfl rfl rfl rfl rfl
        · replace hk3 : k = 3 := hk3
          subst hk3
          have fin := fin0 (by decide) (by decide)
          have hform : [kb] ++ [UInt8.ofNat (n % 256).toNat] = [] ++ Z1a (.mk 3 n s ll) := by simp only [Z1a, hkd]; simp
          refine Zj (.put 4 _ (.put 9 p (.put 10 _ (.put 11 _ .nil)))) (Z2 h4 (Z2 h9 (Z2 h10 (Z2 h11 Zk)))) (Zn ?_)
          repeat' first | ((with_reducible show V _ _ _ _ _ _); first | refine Z27 hlt rfl rfl ?_ | refine Z3 rfl ?_ | refine Zb rfl rfl ?_ | refine Ze rfl rfl ?_) | ((with_reducible show VO _ _ _ _ _ _ _); first | refine Zp rfl rfl vc.one rfl rfl rfl ?_ | refine Zh rfl rfl hat ?_ | refine Z8 rfl rfl hchk ?_ | refine Z02 (src := Z1 [kb]) rfl rfl (by rw [← hkb]; rfl) (Z00 _) (by decide) (by decide) (appN (by simp) (by simp [Zs])) ?_ | refine Z02 (src := Z1 [UInt8.ofNat (n % 256).toNat]) rfl rfl (by rw [← wrap8 n]; rfl) (Z00 _) (by decide) (by decide) (Zfx rfl (by simp) (hroom3 _ (by simp))) ?_ | refine Z0 rfl ?_ | refine Z9 rfl ?_ | refine Z4 ?_) | refine fin _ _ _ _ _ _ hform rfl rfl rfl rfl rfl rfl rfl rfl
        · replace hk6 : k = 6 := hk6
          subst hk6
          have fin := fin0 (by decide) (by decide)
          have hform : [kb] ++ be 8 (Z1k n) = [] ++ Z1a (.mk 6 n s ll) := by simp only [Z1a, hkd]; simp
          refine Zj (.put 4 _ (.put 9 p (.put 10 _ (.put 11 _ .nil)))) (Z2 h4 (Z2 h9 (Z2 h10 (Z2 h11 Zk)))) (Zn ?_)
          repeat' first | ((with_reducible show V _ _ _ _ _ _); first | refine Z27 hlt rfl rfl ?_ | refine Z3 rfl ?_ | refine Zb rfl rfl ?_ | refine Ze rfl rfl ?_) | ((with_reducible show VO _ _ _ _ _ _ _); first | refine Zp rfl rfl vc.one rfl rfl rfl ?_ | refine Zh rfl rfl hat ?_ | refine Z8 rfl rfl hchk ?_ | refine Z02 (src := Z1 [kb]) rfl rfl (by rw [← hkb]; rfl) (Z00 _) (by decide) (by decide) (appN (by simp) (by simp [Zs])) ?_ | refine Z8 rfl rfl h8 ?_ | refine Zp rfl rfl hone8 hlen8 rfl (Z03 rfl hz8) ?_ | refine Z02 (src := Z1 (be 8 (Z1k n))) rfl rfl (hvsl _ _ rfl) (Z00 _) (by decide) (by decide) (Zfx rfl hne8 (hroom3 _ (by simp [Z1r]))) ?_ | refine Z0 rfl ?_ | refine Z9 rfl ?_ | refine Z4 ?_) | refine fin _ _ _ _ _ _ hform rfl rfl rfl rfl rfl rfl rfl rfl
        · replace hk7 : k = 7 := hk7
          subst hk7
          have fin := fin0 (by decide) (by decide)
          have hform : [kb] ++ be 8 (Z1k n) = [] ++ Z1a (.mk 7 n s ll) := by simp only [Z1a, hkd]; simp
          refine Zj (.put 4 _ (.put 9 p (.put 10 _ (.put 11 _ .nil)))) (Z2 h4 (Z2 h9 (Z2 h10 (Z2 h11 Zk)))) (Zn ?_)
          repeat' first | ((with_reducible show V _ _ _ _ _ _); first | refine Z27 hlt rfl rfl ?_ | refine Z3 rfl ?_ | refine Zb rfl rfl ?_ | refine Ze rfl rfl ?_) | ((with_reducible show VO _ _ _ _ _ _ _); first | refine Zp rfl rfl vc.one rfl rfl rfl ?_ | refine Zh rfl rfl hat ?_ | refine Z8 rfl rfl hchk ?_ | refine Z02 (src := Z1 [kb]) rfl rfl (by rw [← hkb]; rfl) (Z00 _) (by decide) (by decide) (appN (by simp) (by simp [Zs])) ?_ | refine Z8 rfl rfl h8 ?_ | refine Zp rfl rfl hone8 hlen8 rfl (Z03 rfl hz8) ?_ | refine Z02 (src := Z1 (be 8 (Z1k n))) rfl rfl (hvsl _ _ rfl) (Z00 _) (by decide) (by decide) (Zfx rfl hne8 (hroom3 _ (by simp [Z1r]))) ?_ | refine Z0 rfl ?_ | refine Z9 rfl ?_ | refine Z4 ?_) | refine fin _ _ _ _ _ _ hform rfl rfl rfl rfl rfl rfl rfl rfl
        · replace hk2 : k = 2 := hk2
          subst hk2
          have fin := fin0 (by decide) (by decide)
          obtain ⟨qe, he1, he2⟩ := Zec s (by omega) false true true
          have ple := he2.pl
          have hel := esc_le s
          have hform : ([kb] ++ Zc s) ++ [0, 1] = [] ++ Z1a (.mk 2 n s ll) := by simp only [Z1a, hkd]; simp
          have hpls := (BV.sl s false).pl
          by_cases hes : Zc s = []
          · rw [hes] at he2 hform
            refine Zj (.put 4 _ (.put 9 p (.put 10 _ (.put 11 _ .nil)))) (Z2 h4 (Z2 h9 (Z2 h10 (Z2 h11 Zk)))) (Zn ?_)
            repeat' first | ((with_reducible show V _ _ _ _ _ _); first | refine Z27 hlt rfl rfl ?_ | refine Z3 rfl ?_ | refine Zb rfl rfl ?_ | refine Ze rfl rfl ?_) | ((with_reducible show VO _ _ _ _ _ _ _); first | refine Zp rfl rfl vc.one rfl rfl rfl ?_ | refine Zh rfl rfl hat ?_ | refine Z8 rfl rfl hchk ?_ | refine Z02 (src := Z1 [kb]) rfl rfl (by rw [← hkb]; rfl) (Z00 _) (by decide) (by decide) (appN (by simp) (by simp [Zs])) ?_ | refine Z8 rfl rfl he1 ?_ | refine Z02 rfl rfl (Z0f he2) (Z00 _) (by decide) (by decide) appE ?_ | refine Z02 (src := Z1 [0, 1]) rfl rfl rfl (Z00 _) (by decide) (by decide) (Zfx rfl (by simp) (hroom3 _ (by simp))) ?_ | refine Z0 rfl ?_ | refine Z9 rfl ?_ | refine Z4 ?_) | refine fin _ _ _ _ _ _ (by rw [← hform, List.append_nil]) rfl rfl rfl rfl rfl rfl rfl rfl
          · refine Zj (.put 4 _ (.put 9 p (.put 10 _ (.put 11 _ .nil)))) (Z2 h4 (Z2 h9 (Z2 h10 (Z2 h11 Zk)))) (Zn ?_)
            repeat' first | ((with_reducible show V _ _ _ _ _ _); first | refine Z27 hlt rfl rfl ?_ | refine Z3 rfl ?_ | refine Zb rfl rfl ?_ | refine Ze rfl rfl ?_) | ((with_reducible show VO _ _ _ _ _ _ _); first | refine Zp rfl rfl vc.one rfl rfl rfl ?_ | refine Zh rfl rfl hat ?_ | refine Z8 rfl rfl hchk ?_ | refine Z02 (src := Z1 [kb]) rfl rfl (by rw [← hkb]; rfl) (Z00 _) (by decide) (by decide) (appN (by simp) (by simp [Zs])) ?_ | refine Z8 rfl rfl he1 ?_ | refine Z02 rfl rfl (Z0f he2) (Z00 _) (by decide) (by decide) (Zfx rfl hes (hroom3 _ (by omega))) ?_ | refine Z02 (src := Z1 [0, 1]) rfl rfl rfl (Z00 _) (by decide) (by decide) (Zfx rfl (by simp) (hroom4 _ (by omega))) ?_ | refine Z0 rfl ?_ | refine Z9 rfl ?_ | refine Z4 ?_) | refine fin _ _ _ _ _ _ hform rfl rfl rfl rfl rfl rfl rfl rfl
        · replace hk4 : k = 4 := hk4
          subst hk4
          have hke : Zbg l = .error 21 := by rw [hk]; simp [Zbg, hm, Val.kind, Except.map]
          refine Zj (.put 4 _ (.put 9 p (.put 10 _ (.put 11 _ .nil)))) (Z2 h4 (Z2 h9 (Z2 h10 (Z2 h11 Zk)))) (Zn ?_)
          repeat' first | ((with_reducible show V _ _ _ _ _ _); first | refine Z27 hlt rfl rfl ?_ | refine Z3 rfl ?_ | refine Ze rfl rfl ?_) | ((with_reducible show VO _ _ _ _ _ _ _); first | refine Zp rfl rfl vc.one rfl rfl rfl ?_ | refine Zh rfl rfl hat ?_ | refine Z8 rfl rfl hchk ?_ | refine Z02 (src := Z1 [kb]) rfl rfl (by rw [← hkb]; rfl) (Z00 _) (by decide) (by decide) (appN (by simp) (by simp [Zs])) ?_ | refine Z0 rfl ?_ | refine Z9 rfl ?_ | refine Z4 ?_) | refine ret _ _ _ _ _ hke rfl rfl rfl
        · replace hk5 : k = 5 := hk5
          subst hk5
          have hke : Zbg l = .error 21 := by rw [hk]; simp [Zbg, hm, Val.kind, Except.map]
          refine Zj (.put 4 _ (.put 9 p (.put 10 _ (.put 11 _ .nil)))) (Z2 h4 (Z2 h9 (Z2 h10 (Z2 h11 Zk)))) (Zn ?_)
          repeat' first | ((with_reducible show V _ _ _ _ _ _); first | refine Z27 hlt rfl rfl ?_ | refine Z3 rfl ?_ | refine Ze rfl rfl ?_) | ((with_reducible show VO _ _ _ _ _ _ _); first | refine Zp rfl rfl vc.one rfl rfl rfl ?_ | refine Zh rfl rfl hat ?_ | refine Z8 rfl rfl hchk ?_ | refine Z02 (src := Z1 [kb]) rfl rfl (by rw [← hkb]; rfl) (Z00 _) (by decide) (by decide) (appN (by simp) (by simp [Zs])) ?_ | refine Z0 rfl ?_ | refine Z9 rfl ?_ | refine Z4 ?_) | refine ret _ _ _ _ _ hke rfl rfl rfl
      ·
        have hroom1 : (b : List UInt8).length + ([kb] : List UInt8).length ≤ Zs := by simp [Zs] at hbl ⊢; try omega
        have hroom3 : ∀ c : List UInt8, c.length ≤ 258 → ((b ++ [kb]) : List UInt8).length + c.length ≤ Zs := fun c hc => by simp [Zs] at hbl ⊢; try omega
        have hroom4 : ∀ c : List UInt8, c.length ≤ 256 → (((b ++ [kb]) : List UInt8) ++ c).length + ([0, 1] : List UInt8).length ≤ Zs := fun c hc => by simp [Zs] at hbl ⊢; try omega
        rcases may_kind hm with hk1 | hk3 | hk6 | hk7 | hk2 | hk4 | hk5
        · replace hk1 : k = 1 := hk1
          subst hk1
          have fin := fin0 (by decide) (by decide)
          have hform : (b ++ [kb]) ++ be 8 (Z1k n) = b ++ Z1a (.mk 1 n s ll) := by simp only [Z1a, hkd]; simp
          refine Zj (.put 4 _ (.put 9 p (.put 10 _ (.put 11 _ .nil)))) (Z2 h4 (Z2 h9 (Z2 h10 (Z2 h11 Zk)))) (Zn ?_)
          repeat' first | ((with_reducible show V _ _ _ _ _ _); first | refine Z27 hlt rfl rfl ?_ | refine Z3 rfl ?_ | refine Zb rfl rfl ?_ | refine Ze rfl rfl ?_) | ((with_reducible show VO _ _ _ _ _ _ _); first | refine Zp rfl rfl vc.one rfl rfl rfl ?_ | refine Zh rfl rfl hat ?_ | refine Z8 rfl rfl hchk ?_ | refine Z02 (src := Z1 [kb]) rfl rfl (by rw [← hkb]; rfl) (Z00 _) (by decide) (by decide) (Zfx rfl (by simp) hroom1) ?_ | refine Z8 rfl rfl h8 ?_ | refine Zp rfl rfl hone8 hlen8 rfl (Z03 rfl hz8) ?_ | refine Z02 (src := Z1 (be 8 (Z1k n))) rfl rfl (hvsl _ _ rfl) (Z00 _) (by decide) (by decide) (Zfx rfl hne8 (hroom3 _ (by simp [Z1r]))) ?_ | refine Z0 rfl ?_ | refine Z9 rfl ?_ | refine Z4 ?_) | refine fin _ _ _ _ _ _ hform rfl rfl rfl rfl rfl rfl rfl rfl
        · replace hk3 : k = 3 := hk3
          subst hk3
          have fin := fin0 (by decide) (by decide)
          have hform : (b ++ [kb]) ++ [UInt8.ofNat (n % 256).toNat] = b ++ Z1a (.mk 3 n s ll) := by simp only [Z1a, hkd]; simp
          refine Zj (.put 4 _ (.put 9 p (.put 10 _ (.put 11 _ .nil)))) (Z2 h4 (Z2 h9 (Z2 h10 (Z2 h11 Zk)))) (Zn ?_)
          repeat' first | ((with_reducible show V _ _ _ _ _ _); first | refine Z27 hlt rfl rfl ?_ | refine Z3 rfl ?_ | refine Zb rfl rfl ?_ | refine Ze rfl rfl ?_) | ((with_reducible show VO _ _ _ _ _ _ _); first | refine Zp rfl rfl vc.one rfl rfl rfl ?_ | refine Zh rfl rfl hat ?_ | refine Z8 rfl rfl hchk ?_ | refine Z02 (src := Z1 [kb]) rfl rfl (by rw [← hkb]; rfl) (Z00 _) (by decide) (by decide) (Zfx rfl (by simp) hroom1) ?_ | refine Z02 (src := Z1 [UInt8.ofNat (n % 256).toNat]) rfl rfl (by rw [← wrap8 n]; rfl) (Z00 _) (by decide) (by decide) (Zfx rfl (by simp) (hroom3 _ (by simp))) ?_ | refine Z0 rfl ?_ | refine Z9 rfl ?_ | refine Z4 ?_) | refine fin _ _ _ _ _ _ hform rfl rfl rfl rfl rfl rfl rfl rfl
        · replace hk6 : k = 6 := hk6
          subst hk6
          have fin := fin0 (by decide) (by decide)
          have hform : (b ++ [kb]) ++ be 8 (Z1k n) = b ++ Z1a (.mk 6 n s ll) := by simp only [Z1a, hkd]; simp
          refine Zj (.put 4 _ (.put 9 p (.put 10 _ (.put 11 _ .nil)))) (Z2 h4 (Z2 h9 (Z2 h10 (Z2 h11 Zk)))) (Zn ?_)
          repeat' first | ((with_reducible show V _ _ _ _ _ _); first | refine Z27 hlt rfl rfl ?_ | refine Z3 rfl ?_ | refine Zb rfl rfl ?_ | refine Ze rfl rfl ?_) | ((with_reducible show VO _ _ _ _ _ _ _); first | refine Zp rfl rfl vc.one rfl rfl rfl ?_ | refine Zh rfl rfl hat ?_ | refine Z8 rfl rfl hchk ?_ | refine Z02 (src := Z1 [kb]) rfl rfl (by rw [← hkb]; rfl) (Z00 _) (by decide) (by decide) (Zfx rfl (by simp) hroom1) ?_ | refine Z8 rfl rfl h8 ?_ | refine Zp rfl rfl hone8 hlen8 rfl (Z03 rfl hz8) ?_ | refine Z02 (src := Z1 (be 8 (Z1k n))) rfl rfl (hvsl _ _ rfl) (Z00 _) (by decide) (by decide) (Zfx rfl hne8 (hroom3 _ (by simp [Z1r]))) ?_ | refine Z0 rfl ?_ | refine Z9 rfl ?_ | refine Z4 ?_) | refine fin _ _ _ _ _ _ hform rfl rfl rfl rfl rfl rfl rfl rfl
        · replace hk7 : k = 7 := hk7
          subst hk7
          have fin := fin0 (by decide) (by decide)
          have hform : (b ++ [kb]) ++ be 8 (Z1k n) = b ++ Z1a (.mk 7 n s ll) := by simp only [Z1a, hkd]; simp
          refine Zj (.put 4 _ (.put 9 p (.put 10 _ (.put 11 _ .nil)))) (Z2 h4 (Z2 h9 (Z2 h10 (Z2 h11 Zk)))) (Zn ?_)
          repeat' first | ((with_reducible show V _ _ _ _ _ _); first | refine Z27 hlt rfl rfl ?_ | refine Z3 rfl ?_ | refine Zb rfl rfl ?_ | refine Ze rfl rfl ?_) | ((with_reducible show VO _ _ _ _ _ _ _); first | refine Zp rfl rfl vc.one rfl rfl rfl ?_ | refine Zh rfl rfl hat ?_ | refine Z8 rfl rfl hchk ?_ | refine Z02 (src := Z1 [kb]) rfl rfl (by rw [← hkb]; rfl) (Z00 _) (by decide) (by decide) (Zfx rfl (by simp) hroom1) ?_ | refine Z8 rfl rfl h8 ?_ | refine Zp rfl rfl hone8 hlen8 rfl (Z03 rfl hz8) ?_ | refine Z02 (src := Z1 (be 8 (Z1k n))) rfl rfl (hvsl _ _ rfl) (Z00 _) (by decide) (by decide) (Zfx rfl hne8 (hroom3 _ (by simp [Z1r]))) ?_ | refine Z0 rfl ?_ | refine Z9 rfl ?_ | refine Z4 ?_) | refine fin _ _ _ _ _ _ hform rfl rfl rfl rfl rfl rfl rfl rfl
        · replace hk2 : k = 2 := hk2
          subst hk2
          have fin := fin0 (by decide) (by decide)
          obtain ⟨qe, he1, he2⟩ := Zec s (by omega) false true true
          have ple := he2.pl
          have hel := esc_le s
          have hform : ((b ++ [kb]) ++ Zc s) ++ [0, 1] = b ++ Z1a (.mk 2 n s ll) := by simp only [Z1a, hkd]; simp
          have hpls := (BV.sl s false).pl
          by_cases hes : Zc s = []
          · rw [hes] at he2 hform
            refine Zj (.put 4 _ (.put 9 p (.put 10 _ (.put 11 _ .nil)))) (Z2 h4 (Z2 h9 (Z2 h10 (Z2 h11 Zk)))) (Zn ?_)
            repeat' first | ((with_reducible show V _ _ _ _ _ _); first | refine Z27 hlt rfl rfl ?_ | refine Z3 rfl ?_ | refine Zb rfl rfl ?_ | refine Ze rfl rfl ?_) | ((with_reducible show VO _ _ _ _ _ _ _); first | refine Zp rfl rfl vc.one rfl rfl rfl ?_ | refine Zh rfl rfl hat ?_ | refine Z8 rfl rfl hchk ?_ | refine Z02 (src := Z1 [kb]) rfl rfl (by rw [← hkb]; rfl) (Z00 _) (by decide) (by decide) (Zfx rfl (by simp) hroom1) ?_ | refine Z8 rfl rfl he1 ?_ | refine Z02 rfl rfl (Z0f he2) (Z00 _) (by decide) (by decide) appE ?_ | refine Z02 (src := Z1 [0, 1]) rfl rfl rfl (Z00 _) (by decide) (by decide) (Zfx rfl (by simp) (hroom3 _ (by simp))) ?_ | refine Z0 rfl ?_ | refine Z9 rfl ?_ | refine Z4 ?_) | refine fin _ _ _ _ _ _ (by rw [← hform, List.append_nil]) rfl rfl rfl rfl rfl rfl rfl rfl
          · refine Zj (.put 4 _ (.put 9 p (.put 10 _ (.put 11 _ .nil)))) (Z2 h4 (Z2 h9 (Z2 h10 (Z2 h11 Zk)))) (Zn ?_)
            repeat' first | ((with_reducible show V _ _ _ _ _ _); first | refine Z27 hlt rfl rfl ?_ | refine Z3 rfl ?_ | refine Zb rfl rfl ?_ | refine Ze rfl rfl ?_) | ((with_reducible show VO _ _ _ _ _ _ _); first | refine Zp rfl rfl vc.one rfl rfl rfl ?_ | refine Zh rfl rfl hat ?_ | refine Z8 rfl rfl hchk ?_ | refine Z02 (src := Z1 [kb]) rfl rfl (by rw [← hkb]; rfl) (Z00 _) (by decide) (by decide) (Zfx rfl (by simp) hroom1) ?_ | refine Z8 rfl rfl he1 ?_ | refine Z02 rfl rfl (Z0f he2) (Z00 _) (by decide) (by decide) (Zfx rfl hes (hroom3 _ (by omega))) ?_ | refine Z02 (src := Z1 [0, 1]) rfl rfl rfl (Z00 _) (by decide) (by decide) (Zfx rfl (by simp) (hroom4 _ (by omega))) ?_ | refine Z0 rfl ?_ | refine Z9 rfl ?_ | refine Z4 ?_) | refine fin _ _ _ _ _ _ hform rfl rfl rfl rfl rfl rfl rfl rfl
        · replace hk4 : k = 4 := hk4
          subst hk4
          have hke : Zbg l = .error 21 := by rw [hk]; simp [Zbg, hm, Val.kind, Except.map]
          refine Zj (.put 4 _ (.put 9 p (.put 10 _ (.put 11 _ .nil)))) (Z2 h4 (Z2 h9 (Z2 h10 (Z2 h11 Zk)))) (Zn ?_)
          repeat' first | ((with_reducible show V _ _ _ _ _ _); first | refine Z27 hlt rfl rfl ?_ | refine Z3 rfl ?_ | refine Ze rfl rfl ?_) | ((with_reducible show VO _ _ _ _ _ _ _); first | refine Zp rfl rfl vc.one rfl rfl rfl ?_ | refine Zh rfl rfl hat ?_ | refine Z8 rfl rfl hchk ?_ | refine Z02 (src := Z1 [kb]) rfl rfl (by rw [← hkb]; rfl) (Z00 _) (by decide) (by decide) (Zfx rfl (by simp) hroom1) ?_ | refine Z0 rfl ?_ | refine Z9 rfl ?_ | refine Z4 ?_) | refine ret _ _ _ _ _ hke rfl rfl rfl
        · replace hk5 : k = 5 := hk5
          subst hk5
          have hke : Zbg l = .error 21 := by rw [hk]; simp [Zbg, hm, Val.kind, Except.map]
          refine Zj (.put 4 _ (.put 9 p (.put 10 _ (.put 11 _ .nil)))) (Z2 h4 (Z2 h9 (Z2 h10 (Z2 h11 Zk)))) (Zn ?_)
          repeat' first | ((with_reducible show V _ _ _ _ _ _); first | refine Z27 hlt rfl rfl ?_ | refine Z3 rfl ?_ | refine Ze rfl rfl ?_) | ((with_reducible show VO _ _ _ _ _ _ _); first | refine Zp rfl rfl vc.one rfl rfl rfl ?_ | refine Zh rfl rfl hat ?_ | refine Z8 rfl rfl hchk ?_ | refine Z02 (src := Z1 [kb]) rfl rfl (by rw [← hkb]; rfl) (Z00 _) (by decide) (by decide) (Zfx rfl (by simp) hroom1) ?_ | refine Z0 rfl ?_ | refine Z9 rfl ?_ | refine Z4 ?_) | refine ret _ _ _ _ _ hke rfl rfl rfl
    · have hm' : Zr 8 (.mk k n s ll) = false := by simpa using hm
      have hc0 : chk (.mk k n s ll) = 20 := by simp [chk, hm']
      rw [hc0] at hchk
      have hke : Zbg l = .error 20 := by rw [hk]; simp [Zbg, hm', Except.map]
      clear ih
      rcases hA with ⟨rfl, rfl, rfl⟩ | ⟨g, rfl, rfl⟩
      · refine Zj (.put 4 _ (.put 9 p (.put 10 _ (.put 11 _ .nil)))) (Z2 h4 (Z2 h9 (Z2 h10 (Z2 h11 Zk)))) (Zn ?_)
        repeat' first | ((with_reducible show V _ _ _ _ _ _); first | refine Z27 hlt rfl rfl ?_ | refine Z3 rfl ?_ | refine Zb rfl rfl ?_) | ((with_reducible show VO _ _ _ _ _ _ _); first | refine Z9 rfl ?_ | refine Zp rfl rfl vc.one rfl rfl rfl ?_ | refine Zh rfl rfl hat ?_ | refine Z8 rfl rfl hchk ?_ | refine Z0 rfl ?_ | refine Z4 ?_) | refine ret _ _ _ _ _ hke rfl rfl rfl
      · refine Zj (.put 4 _ (.put 9 p (.put 10 _ (.put 11 _ .nil)))) (Z2 h4 (Z2 h9 (Z2 h10 (Z2 h11 Zk)))) (Zn ?_)
        repeat' first | ((with_reducible show V _ _ _ _ _ _); first | refine Z27 hlt rfl rfl ?_ | refine Z3 rfl ?_ | refine Zb rfl rfl ?_) | ((with_reducible show VO _ _ _ _ _ _ _); first | refine Z9 rfl ?_ | refine Zp rfl rfl vc.one rfl rfl rfl ?_ | refine Zh rfl rfl hat ?_ | refine Z8 rfl rfl hchk ?_ | refine Z0 rfl ?_ | refine Z4 ?_) | refine ret _ _ _ _ _ hke rfl rfl rfl
def keyB (l : List Val) : List UInt8 := match Zbg l with
  | .ok b => b
  | .error _ => []
def keyE (l : List Val) : Int := match Zbg l with
  | .ok _ => 0
  | .error e => e
theorem run_Key (l : List Val) (p : PV) (hp : LC l p) (hln : l.length ≤ 1073741824) : ∃ q, BV q (keyB l) ∧ T.R (.call Z9v [p] (.tuple [q, .int .i64 (keyE l)])) := by
  obtain ⟨lp1, lp2, lp3⟩ := hp.len
  have hl := fun e h4 h9 h10 h11 => key_loop l p hp hln l [] [] e emptySt .nilSl rfl (by cases Zbg l <;> rfl) (by simp) (.inl ⟨rfl, rfl, rfl⟩) h4 h9 h10 h11
  have key : ∃ r, T.R (.call Z9v [p] r) ∧ ∃ q, BV q (keyB l) ∧ r = .tuple [q, .int .i64 (keyE l)] := by
    refine Z6w rfl rfl ?_
    repeat' first | refine Z55 rfl (hl _ rfl rfl rfl rfl) ?_ | refine Z3 rfl ?_ | ((with_reducible show VO _ _ _ _ _ _ _); first | refine Z0r rfl lp1 lp2 ?_ | refine Z0 rfl ?_ | refine Z4 ?_)
    rintro x e' st' (⟨rfl, v', b', hk, rfl, hA⟩ | ⟨err, rfl, hk, rfl⟩)
    · have hb : keyB l = b' := by simp [keyB, hk]
      have he : keyE l = 0 := by simp [keyE, hk]
      rw [hb, he]
      rcases hA with ⟨rfl, rfl, rfl⟩ | ⟨g, rfl, rfl⟩
      · repeat' first | refine Z3 rfl ?_ | refine Zl rfl rfl ?_ | refine Z0 rfl ?_ | refine Z4 ?_
        exact ⟨_, .nil, rfl⟩
      · repeat' first | refine Z5z (r := .tuple [.sl (Z1 b') false, .int .i64 0]) rfl rfl (view_tuple (Z63 (Z4n (g := g) (sz := 1) (lv := true) (es := Z1 b') rfl (.inl rfl) rfl (Z5b _)) (Z63 (.int _ _) Ze8))) ?_ | refine Z3 rfl ?_ | refine Z0 rfl ?_ | refine Z4 ?_
        exact ⟨_, .sl _ _, rfl⟩
    · have hb : keyB l = [] := by simp [keyB, hk]
      have he : keyE l = err := by simp [keyE, hk]
      rw [hb, he]
      exact Z5z (r := .tuple [.nilSl, .int .i64 err]) rfl rfl (Pl.view (by (repeat' (first | exact Pl.int _ _ | exact Pl.bool _ | exact Pl.str _ | exact Pl.nilSl | exact Z45 | refine Z0k ?_ ?_ | refine Pl.tuple _ ?_ | refine Pl.agg _ ?_ | refine Pl.func _ _ ?_ | assumption | refine Pl.iptr _ _ ?_ | exact Z9k | refine Z6n ?_ ?_ | refine Pl.sl _ _ ?_)); first | done | fail)) ⟨_, .nil, rfl⟩
  obtain ⟨r, h1, q, h2, rfl⟩ := key
  exact ⟨q, h2, h1⟩
theorem run_CloneNil : T.R (.call Z2r [.nilSl] .nilSl) := by
  refine Zo rfl rfl ?_
  repeat' first | ((with_reducible show V _ _ _ _ _ _); first | refine Z3 rfl ?_ | refine Zb rfl rfl ?_ | refine Zl rfl rfl ?_) | refine Z0 rfl ?_ | refine Z4 ?_
  rfl
def Good (v : Val) : Prop := Zr 8 v = true ∧ v.kind ≠ 4 ∧ v.kind ≠ 5
theorem esc_cons (a : UInt8) (s : List UInt8) : Zc (a :: s) = (if a = 0 then [0, 255] else [a]) ++ Zc s := rfl
theorem good_cases {k n : Int} {s : List UInt8} {l : List Val} (h : Good (.mk k n s l)) :
    (k = 1 ∧ s = [] ∧ l = []) ∨ (k = 3 ∧ s = [] ∧ l = [] ∧ (n = 0 ∨ n = 1)) ∨ (k = 6 ∧ s = [] ∧ l = []) ∨ (k = 7 ∧ s = [] ∧ l = []) ∨ (k = 2 ∧ n = 0 ∧ l = []) := by
  obtain ⟨hm, h4, h5⟩ := h
  simp only [Val.kind] at h4 h5
  simp only [Zr] at hm
  split at hm
  · simp at hm; simp [*]
  · split at hm
    · simp at hm; simp [*]
    · split at hm
      · simp at hm; simp [*]
      · split at hm
        · simp at hm; simp [*]
        · split at hm
          · simp at hm; simp [*]
          · exfalso
            first | (cases hm; done) | (simp [h4, h5] at hm)
end Go.Proofs.YtgdjnlopdpjnaaaDoor
namespace Go.Proofs.YtgdjnlopdpjnaaaDoor
open Go Go.AM Go.RowKit
end Go.Proofs.YtgdjnlopdpjnaaaDoor
namespace Go.Proofs.YtgdjnlopdpjnaaaDoor
open Go Go.AM Go.RowKit
theorem foldl8 : ∀ (l : List UInt8) (u : Nat), l.foldl (fun u c => u * 256 + c.toNat) u = u * 256 ^ l.length + un8 l
  | [], u => by simp [un8]
  | c :: l, u => by
    have h1 := foldl8 l (u * 256 + c.toNat)
    have h2 := foldl8 l (0 * 256 + c.toNat)
    unfold un8
    simp only [List.foldl_cons, List.length_cons, Nat.pow_succ]
    rw [h1, h2, Nat.add_mul, Nat.add_mul, Nat.mul_assoc, Nat.mul_comm 256]
    omega
theorem un8_cons (c : UInt8) (l : List UInt8) : un8 (c :: l) = c.toNat * 256 ^ l.length + un8 l := by
  have := foldl8 l (0 * 256 + c.toNat)
  rw [Nat.zero_mul, Nat.zero_add] at this
  rw [← this]
  simp [un8]
theorem un8_be : ∀ j m, un8 (be j m) = m % 256 ^ j
  | 0, m => by simp [be, un8, Nat.mod_one]
  | j + 1, m => by
    rw [be, un8_cons, Z1r, un8_be j m, Nat.mod_pow_succ, UInt8.toNat_ofNat']
    rw [Nat.mul_comm, Nat.add_comm]
theorem strR_esc : ∀ (s acc : List UInt8) (n : Nat) (x : List UInt8), Z7h (Zc s ++ 0 :: 1 :: x) acc n = made (.mk 2 0 (acc ++ s) []) (n + (Zc s).length + 2)
  | [], acc, n, x => by simp [Zc, Z7h]
  | b :: s, acc, n, x => by
    rw [esc_cons]
    by_cases h : b = 0
    · subst h
      have := strR_esc s (acc ++ [0]) (n + 2) x
      simp only [if_true, List.cons_append, List.nil_append, Z7h]
      rw [if_neg (by decide), this]
      simp
      congr 1
      omega
    · have := strR_esc s (acc ++ [b]) (n + 1) x
      simp only [if_neg h, List.cons_append, List.nil_append, List.append_assoc]
      obtain ⟨c, r, hcr⟩ : ∃ c r, Zc s ++ 0 :: 1 :: x = c :: r := by
        cases he : Zc s with
        | nil => exact ⟨_, _, rfl⟩
        | cons a l => exact ⟨_, _, rfl⟩
      rw [hcr] at this ⊢
      simp only [Z7h]
      rw [if_neg h, this]
      simp
      congr 1
      omega
theorem Zb6 {v : Val} (h : Good v) (n : Nat) : made v n = .ok v n := by simp [made, h.1]
theorem take_key {v : Val} (h : Good v) (hi : I64 v.n) (x : List UInt8) : Z64 (Z1a v ++ x) = .ok v (Z1a v).length := by
  obtain ⟨k, n, s, l⟩ := v
  simp only [Val.n] at hi
  unfold I64 at hi
  have p256 : (256 : Nat) ^ 8 = 18446744073709551616 := by decide
  rcases good_cases h with ⟨rfl, rfl, rfl⟩ | ⟨rfl, rfl, rfl, hn⟩ | ⟨rfl, rfl, rfl⟩ | ⟨rfl, rfl, rfl⟩ | ⟨rfl, rfl, rfl⟩
  · have e : Z1a (.mk 1 n [] []) = 1 :: be 8 (Z1k n) := by simp [Z1a]
    have ht : ((be 8 (Z1k n) ++ x).take 8) = be 8 (Z1k n) := by rw [List.take_append_of_le_length (by rw [Z1r]; omega), List.take_of_length_le (by rw [Z1r]; omega)]
    have hu : Z7g (un8 (be 8 (Z1k n))) = n := by rw [un8_be, p256]; unfold Z7g Z1k; omega
    rw [e]
    simp only [List.cons_append, Z64]
    rw [if_pos (by decide), if_neg (by simp [Z1r]), ht, hu]
    simp only [List.length_cons, Z1r]
    exact Zb6 h 9
  · have e : Z1a (.mk 3 n [] []) = [3, UInt8.ofNat (n % 256).toNat] := by simp [Z1a]
    rw [e]
    rcases hn with rfl | rfl <;> rfl
  · have e : Z1a (.mk 6 n [] []) = 6 :: be 8 (Z1k n) := by simp [Z1a]
    have ht : ((be 8 (Z1k n) ++ x).take 8) = be 8 (Z1k n) := by rw [List.take_append_of_le_length (by rw [Z1r]; omega), List.take_of_length_le (by rw [Z1r]; omega)]
    have hu : Z7g (un8 (be 8 (Z1k n))) = n := by rw [un8_be, p256]; unfold Z7g Z1k; omega
    rw [e]
    simp only [List.cons_append, Z64]
    rw [if_pos (by decide), if_neg (by simp [Z1r]), ht, hu]
    simp only [List.length_cons, Z1r]
    exact Zb6 h 9
  · have e : Z1a (.mk 7 n [] []) = 7 :: be 8 (Z1k n) := by simp [Z1a]
    have ht : ((be 8 (Z1k n) ++ x).take 8) = be 8 (Z1k n) := by rw [List.take_append_of_le_length (by rw [Z1r]; omega), List.take_of_length_le (by rw [Z1r]; omega)]
    have hu : Z7g (un8 (be 8 (Z1k n))) = n := by rw [un8_be, p256]; unfold Z7g Z1k; omega
    rw [e]
    simp only [List.cons_append, Z64]
    rw [if_pos (by decide), if_neg (by simp [Z1r]), ht, hu]
    simp only [List.length_cons, Z1r]
    exact Zb6 h 9
  · have e : Z1a (.mk 2 0 s []) = 2 :: (Zc s ++ [0, 1]) := by simp [Z1a]
    rw [e]
    simp only [List.cons_append, List.append_assoc, List.nil_append, Z64]
    rw [if_neg (by decide), if_neg (by decide), if_pos trivial, strR_esc, List.nil_append]
    simp only [List.length_cons, List.length_append, List.length_nil]
    rw [Zb6 h]
    congr 1
    omega
theorem run_PutMay {v : Val} {cs : List PV} (hv : VC v cs) (hm : Zr 8 v = true) (hlen : (Zbo v).length ≤ 100000000000000) : T.R (.call Zez [.nilSl, .agg cs] (.sl (Z1 (Zbo v)) false)) := by
  have hchk := Z7j hv
  have hc0 : chk v = 0 := by simp [chk, hm]
  rw [hc0] at hchk
  have plc := hv.pl
  have hA0 : (emptySt.new (.var cs)).get 0 = some (.var cs) := rfl
  have hnxt : (emptySt.new (.var cs)).next = 1 := rfl
  obtain ⟨b', st', h1, h2, h3⟩ := put_all hv ⟨1, 1, (emptySt.new (.var cs)).toks⟩ .nilSl [] rfl (.inl ⟨rfl, rfl⟩) (by simpa using hlen)
  have hB0 : (⟨0, st'.next, st'.toks⟩ : St).get 0 = some (.var cs) := (h3.2.2.2 0 (by show 0 < 1; omega) (by simp [Z0n])).trans rfl
  rw [List.nil_append] at h2
  refine Zo rfl rfl ?_
  repeat' first | ((with_reducible show V _ _ _ _ _ _); first | refine V_M 3 ⟨0, st'.next, st'.toks⟩ rfl ?_ | refine Z3 rfl ?_ | refine Ze rfl rfl ?_) | ((with_reducible show VO _ _ _ _ _ _ _); first | refine Z2m rfl hA0 hv.len4 ?_ | refine Z8 rfl rfl hchk ?_ | refine Z0 rfl ?_ | refine Z9 rfl ?_ | refine Z4 ?_) | ((with_reducible show VM _ _ _ _ _ _ _ _ _ _ _); first | refine M_call rfl (.inl rfl) rfl rfl (Z17) (Z17) run_CloneNil ?_ | refine M_loadP rfl (.inl rfl) rfl hA0 hB0 hv.len4 ?_ | refine M_rawAll h1 h3.1 rfl rfl rfl rfl ?_ | refine Zd7 rfl (.inl rfl) rfl rfl ?_ | refine Zd7 rfl (.inr rfl) rfl rfl ?_ | refine M_nil ?_)
  rcases h2 with ⟨_, h⟩ | ⟨t, g, rfl, hg, hlt⟩
  · exact absurd h (by simp [Z1, putV_pos])
  · exact Z5z rfl rfl (Z4n (lv := true) (es := Z1 (Zbo v)) hg (.inl rfl) rfl (Z5b _)) rfl
mutual
def sizeV : Val → Nat
  | .mk _ _ s l => 1 + s.length + Zae l
def Zae : List Val → Nat
  | [] => 0
  | v :: l => sizeV v + Zae l
end
theorem Z2h : ∀ n u, (Zbp n u).length ≤ n + 1
  | 0, u => by simp [Zbp]
  | n + 1, u => by
    have := Z2h n (u / 128)
    simp only [Zbp]
    split
    · simp
    · simp; omega
mutual
theorem putV_size : ∀ v : Val, (Zbo v).length ≤ 11 * sizeV v
  | .mk k n s l => by
    have h1 := Z2h 9 (zigN n)
    have h2 := Z2h 9 (n % 18446744073709551616).toNat
    have h3 := Z2h 9 s.length
    have h4 := Z2h 9 l.length
    have h5 := Zgu l
    simp only [Zbo, sizeV]
    split
    · simp only [List.length_cons]; omega
    · split
      · simp only [List.length_cons]; omega
      · split
        · simp; omega
        · split
          · simp only [List.length_cons, List.length_append]; omega
          · simp only [List.length_cons, List.length_append]; omega
theorem Zgu : ∀ l : List Val, (Z9j l).length ≤ 11 * Zae l
  | [] => by simp [Z9j]
  | v :: l => by
    have h1 := putV_size v
    have h2 := Zgu l
    simp only [Z9j, Zae, List.length_append]
    omega
end
structure Prp where
  name : List UInt8
  val : Val
structure Vtx where
  id : Int
  label : List UInt8
  props : List Prp
structure Lnk where
  id : Int
  label : List UInt8
  out : Int
  into : Int
  props : List Prp
def PpC (x : Prp) (cs : List PV) : Prop := x.name.length ≤ 140737488355328 ∧ ∃ vc, cs = .str x.name :: vc ∧ VC x.val vc
def VtC (x : Vtx) (cs : List PV) : Prop := I64 x.id ∧ x.label.length ≤ 140737488355328 ∧ ∃ p, cs = [.int .i64 x.id, .str x.label, p] ∧ LR PpC p x.props
def LkC (x : Lnk) (cs : List PV) : Prop := I64 x.id ∧ x.label.length ≤ 140737488355328 ∧ I64 x.out ∧ I64 x.into ∧ ∃ p, cs = [.int .i64 x.id, .str x.label, .int .i64 x.out, .int .i64 x.into, p] ∧ LR PpC p x.props
def EnC (x : List UInt8 × List UInt8) (cs : List PV) : Prop := ∃ p q, cs = [p, q] ∧ BV p x.1 ∧ BV q x.2
theorem PpC.pl {x : Prp} {cs : List PV} (h : PpC x cs) : ∀ c ∈ cs, Pl c := by
  obtain ⟨_, vc, rfl, hv⟩ := h
  exact Z0k (.str _) hv.pl
theorem PpC.len5 {x : Prp} {cs : List PV} (h : PpC x cs) : cs.length = 5 := by
  obtain ⟨_, vc, rfl, hv⟩ := h
  simp [hv.len4]
theorem EnC.pl {x : List UInt8 × List UInt8} {cs : List PV} (h : EnC x cs) : ∀ c ∈ cs, Pl c := by
  obtain ⟨p, q, rfl, h1, h2⟩ := h
  exact Z0k h1.pl (Z0k h2.pl Z45)
theorem EnC.len2 {x : List UInt8 × List UInt8} {cs : List PV} (h : EnC x cs) : cs.length = 2 := by
  obtain ⟨p, q, rfl, _⟩ := h
  rfl
def vStr (s : List UInt8) : Val := .mk 2 0 s []
def Z6l (n : Int) : Val := .mk 6 n [] []
def Z61 (n : Int) : Val := .mk 7 n [] []
def kB (v : Val) : List UInt8 := if keyE [v] = 0 then keyB [v] else []
def Zei (v : Val) : List UInt8 := if Zr 8 v = true then Zbo v else []
def Z4k (n : Int) : List UInt8 := Zbp 9 (if 0 < n then n.toNat else 0)
def Z49 (s : List UInt8) : List UInt8 := Z4k s.length ++ s
def propK (x : Prp) : List UInt8 := Z49 x.name ++ Zei x.val
def Z2o (l : List Prp) : List UInt8 := Z4k l.length ++ l.flatMap propK
def signB (v : Val) : List UInt8 :=
  let b := if v.kind = 4 ∨ v.kind = 5 then Zei v else kB v
  UInt8.ofNat (b.take 40).length :: b.take 40
def labelK (kind : Int) (s : List UInt8) : List UInt8 := [5, UInt8.ofNat (kind % 256).toNat] ++ kB (vStr s)
def Zej (kind : Int) (x : Prp) : List UInt8 := [6, UInt8.ofNat (kind % 256).toNat] ++ kB (vStr x.name) ++ signB x.val
def idxK (elem : Val) (s : List UInt8) (l : List Prp) : List (List UInt8 × List UInt8) :=
  (labelK elem.kind s ++ kB elem, []) :: l.map fun x => (Zej elem.kind x ++ kB elem, [])
def idB (n : Int) : Bool := decide (1 ≤ n) && decide (n ≤ 281474976710656)
def Z41 (v : Val) : List UInt8 := if Zr 8 v = true then (if v.kind = 6 then 1 :: kB v else if v.kind = 7 then 2 :: kB v else []) else []
def vtxK (x : Vtx) : List (List UInt8 × List UInt8) := if idB x.id = true then (Z41 (Z6l x.id), Z49 x.label ++ Z2o x.props) :: idxK (Z6l x.id) x.label x.props else []
def Z2k (k : UInt8) (v : Int) (s : List UInt8) : List UInt8 := k :: kB (Z6l v) ++ kB (vStr s)
def Zh2 (x : Lnk) : List (List UInt8 × List UInt8) :=
  if idB x.id = true ∧ idB x.out = true ∧ idB x.into = true then
    (Z41 (Z61 x.id), Z4k x.out ++ Z4k x.into ++ Z49 x.label ++ Z2o x.props) :: (Z2k 3 x.out x.label ++ kB (Z61 x.id), Z4k x.into) :: (Z2k 4 x.into x.label ++ kB (Z61 x.id), Z4k x.out) :: idxK (Z61 x.id) x.label x.props
  else []
theorem load_aggK {sz : Nat} {cs : List PV} (h : cs.length = sz) (look : Nat → Option Tok) : loadAt look sz true (.iptr cs 0) = some (.agg cs) := by
  subst h
  simp [loadAt, behind, slice?]
theorem Zfu {Q : Z59} {k : List Fr} {l : List POp} {kill : List Nat} {ρ : EC} {st : St} {d : Option Nat} {a : Opd} {n : Nat} {cs : List PV} (ha : a.get ρ = some (.iptr cs 0)) (hl : cs.length = n) (h : VO T Q l kill k (ρ.sets d (.agg cs)) st) : VO T Q (⟨d, none, .load n true a⟩ :: l) kill k ρ st :=
  Z0 (by simp only [Zg, Z62, ha]; exact load_aggK hl _) h
theorem Z9i (n : Int) : T.R (.call Zg8 [.int .i64 n] (.agg [.int .i64 6, .int .i64 n, .str [], .nilSl])) := by
  refine Zo rfl rfl ?_
  repeat' first | refine Z3 rfl ?_ | refine Zl rfl rfl ?_ | ((with_reducible show VO _ _ _ _ _ _ _); first | refine Z9 rfl ?_ | refine Z0 rfl ?_ | refine Z4 ?_)
  rfl
theorem run_VEdge (n : Int) : T.R (.call n_value_Edge [.int .i64 n] (.agg [.int .i64 7, .int .i64 n, .str [], .nilSl])) := by
  refine Zo rfl rfl ?_
  repeat' first | refine Z3 rfl ?_ | refine Zl rfl rfl ?_ | ((with_reducible show VO _ _ _ _ _ _ _); first | refine Z9 rfl ?_ | refine Z0 rfl ?_ | refine Z4 ?_)
  rfl
theorem run_VStr (s : List UInt8) : T.R (.call Zeu [.str s] (.agg [.int .i64 2, .int .i64 0, .str s, .nilSl])) := by
  refine Zo rfl rfl ?_
  repeat' first | refine Z3 rfl ?_ | refine Zl rfl rfl ?_ | ((with_reducible show VO _ _ _ _ _ _ _); first | refine Z9 rfl ?_ | refine Z0 rfl ?_ | refine Z4 ?_)
  rfl
theorem vc_vtx {n : Int} (h : I64 n) : VC (Z6l n) [.int .i64 6, .int .i64 n, .str [], .nilSl] := .nil _ _ _ (by simp [I64]) h (by simp)
theorem vc_edg {n : Int} (h : I64 n) : VC (Z61 n) [.int .i64 7, .int .i64 n, .str [], .nilSl] := .nil _ _ _ (by simp [I64]) h (by simp)
theorem vc_str {s : List UInt8} (h : s.length ≤ 140737488355328) : VC (vStr s) [.int .i64 2, .int .i64 0, .str s, .nilSl] := .nil _ _ _ (by simp [I64]) (by simp [I64]) h
theorem Z92 {v : Val} {cs : List PV} (h : VC v cs) (f : Bool) : LC [v] (.sl [cs] f) := .inr ⟨_, f, rfl, by simp, rfl, fun j w ds h1 h2 => by
  match j with
  | 0 => simp at h1 h2; subst h1 h2; exact h
  | j + 1 => simp at h1⟩
theorem VC.form {v : Val} {cs : List PV} (h : VC v cs) : ∃ k n s q, cs = [.int .i64 k, .int .i64 n, .str s, q] := by
  cases h
  all_goals exact ⟨_, _, _, _, rfl⟩
theorem numU {n : Int} (h : I64 n) : (if 0 < n then n.toNat else 0) < 18446744073709551616 := by
  unfold I64 at h
  split <;> omega
theorem put_e1 {n : Int} : PV.int .i64 (if n > 0 then n else 0) = PV.int .i64 (((if 0 < n then n.toNat else 0 : Nat)) : Int) := Z6g (by split <;> omega)
theorem put_e2 {n : Int} (h : I64 n) : PV.int .u64 (IntKind.u64.wrap (((if 0 < n then n.toNat else 0 : Nat)) : Int)) = PV.int .u64 (((if 0 < n then n.toNat else 0 : Nat)) : Int) := Z6g (by rw [Z0p]; have := numU h; omega)
theorem putK1 {st : St} {b : PV} {s : List UInt8} (hbn : st.base = st.next) (hv : RB st b s) (hs : s.length ≤ 100000000000000) {n : Int} (hn : I64 n) (f : Bool) :
    ∃ v' st', T.R (.raw Z8a [b, .sl [[.int .i64 n]] f] st v' st') ∧ AccT 1 st' v' (Z1 (s ++ Z4k n)) ∧ Grow st .nilSl st' v' := by
  obtain ⟨v1, st1, h1, h2, h3⟩ := putG (st := ⟨st.next, st.next, st.toks⟩) rfl (hv.keep (Nat.le_refl _) (fun _ _ => rfl)) hs _ (numU hn)
  have e1 := put_e1 (n := n)
  have e2 := put_e2 hn
  refine Z1c rfl rfl ?_
  repeat' first | ((with_reducible show V _ _ _ _ _ _); first | refine V_loop rfl (Zn ?_) | refine Z05 rfl rfl ?_ | refine Z3 rfl ?_ | refine Zb rfl rfl ?_ | refine Ze rfl rfl ?_) | ((with_reducible show VO _ _ _ _ _ _ _); first | refine O_idx [.int .i64 n] rfl rfl (by decide) rfl rfl ?_ | refine Z6 e1 rfl ?_ | refine Z6 e2 rfl ?_ | refine Z0d h1 h3.1 rfl rfl ?_ | refine Z0 rfl ?_ | refine Z4 ?_)
  exact ⟨h2, Grow.re (b := 0) h3⟩
theorem putK2 {st : St} {b : PV} {s : List UInt8} (hbn : st.base = st.next) (hv : RB st b s) {n m : Int} (hs : s.length ≤ 10000000000000) (hn : I64 n) (hm : I64 m) (f : Bool) :
    ∃ v' st', T.R (.raw Z8a [b, .sl [[.int .i64 n], [.int .i64 m]] f] st v' st') ∧ AccT 1 st' v' (Z1 (s ++ Z4k n ++ Z4k m)) ∧ Grow st .nilSl st' v' := by
  obtain ⟨v1, st1, h1, h2, h3⟩ := putG (st := ⟨st.next, st.next, st.toks⟩) rfl (hv.keep (Nat.le_refl _) (fun _ _ => rfl)) (by omega) _ (numU hn)
  have hl : (Z4k n).length ≤ 10 := Z2h _ _
  obtain ⟨v2, st2, k1, k2, k3⟩ := putG (st := ⟨st1.next, st1.next, st1.toks⟩) rfl (b := v1) (s := s ++ Z4k n) ((AccT.rb h2).keep (Nat.le_refl _) (fun _ _ => rfl)) (by rw [List.length_append]; omega) _ (numU hm)
  have e1 := put_e1 (n := n)
  have e2 := put_e2 hn
  have e3 := put_e1 (n := m)
  have e4 := put_e2 hm
  refine Z1c rfl rfl ?_
  repeat' first | ((with_reducible show V _ _ _ _ _ _); first | refine V_loop rfl (Zn ?_) | refine Z05 rfl rfl ?_ | refine Z3 rfl ?_ | refine Zb rfl rfl ?_ | refine Ze rfl rfl ?_) | ((with_reducible show VO _ _ _ _ _ _ _); first | refine O_idx [.int .i64 n] rfl rfl (by decide) rfl rfl ?_ | refine O_idx [.int .i64 m] rfl rfl (by decide) rfl rfl ?_ | refine Z6 e1 rfl ?_ | refine Z6 e2 rfl ?_ | refine Z6 e3 rfl ?_ | refine Z6 e4 rfl ?_ | refine Z0d h1 h3.1 rfl rfl ?_ | refine Z0d k1 k3.1 rfl rfl ?_ | refine Z0 rfl ?_ | refine Z4 ?_)
  refine ⟨k2, ?_⟩
  have g1 : Grow st .nilSl ⟨st.base, st1.next, st1.toks⟩ v1 := Grow.re (b := 0) h3
  have g2 : Grow ⟨st.base, st1.next, st1.toks⟩ .nilSl ⟨st.base, st2.next, st2.toks⟩ v2 := ⟨rfl, k3.2.1, k3.2.2.1, k3.2.2.2⟩
  refine ⟨rfl, Nat.le_trans g1.2.1 g2.2.1, ?_, fun u hu hn => ?_⟩
  · rcases g2.2.2.1 with h | ⟨m, h, hm⟩
    · exact .inl h
    · exact .inr ⟨m, h, Nat.le_trans g1.2.1 hm⟩
  · exact (g2.2.2.2 u (Nat.lt_of_lt_of_le hu g1.2.1) (by simp [Z0n])).trans (g1.2.2.2 u hu hn)
theorem key_one {v : Val} {cs : List PV} (h : VC v cs) : ∃ q, BV q (keyB [v]) ∧ T.R (.call Z9v [.sl [cs] true] (.tuple [q, .int .i64 (keyE [v])])) := run_Key [v] _ (Z92 h true) (by simp)
theorem keyK_loop {l : List Val} {p : PV} (hp : LC l p) : ∀ (rest pre : List Val) (st : St) (b : PV) (s : List UInt8), l = pre ++ rest → AB st b s → s.length + (rest.flatMap kB).length ≤ 100000000000000 →
    V T (PE fun x e st' => x = .exit 0 ∧ ∃ b', e = Za4 [(0, b')] ∧ AB st' b' (s ++ rest.flatMap kB) ∧ Grow st b st' b') [.code (.loop Zb8)] .normal (Za4 [(0, b), (9, p), (10, .int .i64 l.length), (11, .int .i64 pre.length)]) st := by
  obtain ⟨_, _, hbig⟩ := hp.len
  intro rest
  induction rest with
  | nil =>
    intro pre st b s hl hA hlen
    have hlt : decide ((pre.length : Int) < l.length) = false := decide_eq_false (by subst hl; simp)
    refine Zn ?_
    repeat' first | ((with_reducible show V _ _ _ _ _ _); first | refine Z3v hlt rfl rfl ?_ | refine V_out [(0, b)] rfl ⟨rfl, trivial⟩ ⟨rfl, b, rfl, by simpa using hA, .refl _ _⟩ | refine Z3 rfl ?_) | refine Z0 rfl ?_ | refine Z4 ?_
  | cons v rest ih =>
    intro pre st b s hl hA hlen
    have hlt : decide ((pre.length : Int) < l.length) = true := decide_eq_true (by subst hl; simp; omega)
    have hpl : pre.length < l.length := by subst hl; simp
    obtain ⟨cs, hat, hvc⟩ := hp.at (j := pre.length) (v := v) (by subst hl; simp)
    have hw : IntKind.i64.wrap ((pre.length : Int) + 1) = ((pre ++ [v]).length : Int) := by rw [Z06]; simp; have : 140737488355328 = 140737488355328 := rfl; omega
    obtain ⟨q, hq, hk⟩ := key_one hvc
    obtain ⟨vk, vn, vs, vq, hcs⟩ := hvc.form
    have hplv := hvc.pl
    rw [List.flatMap_cons, List.length_append] at hlen
    have hA1 : AB ((st.new (.var [.int .i64 0, .int .i64 0, .str [], .nilSl])).put st.next (.var cs)) b s := hA.keep (by simp [St.new, St.put]) (fun u hu => by
      have := hA.lt hu
      rw [St.get_put_old (by omega)]
      exact St.get_new_old this)
    have hG1 : Grow st b ((st.new (.var [.int .i64 0, .int .i64 0, .str [], .nilSl])).put st.next (.var cs)) b := ⟨rfl, by simp [St.new, St.put], .inl rfl, fun u hu _ => by rw [St.get_put_old (by omega)]; exact St.get_new_old hu⟩
    have hg : ((st.new (.var [.int .i64 0, .int .i64 0, .str [], .nilSl])).put st.next (.var cs)).get st.next = some (.var cs) := St.get_put
    generalize hS : (st.new (.var [.int .i64 0, .int .i64 0, .str [], .nilSl])).put st.next (.var cs) = S1 at hA1 hG1 hg
    have hst : storeAt (st.new (.var [.int .i64 0, .int .i64 0, .str [], .nilSl])) (.ptr st.next 0) (.agg cs) = some S1 := by rw [← hS]; exact Z03 St.get_new (by rw [hvc.len4]; rfl)
    have hone := hvc.one
    have hl4 := hvc.len4
    clear hvc
    subst hcs
    have hpvq : Pl vq := hplv _ (by simp)
    have hpsl : Pl (.sl [[.int .i64 vk, .int .i64 vn, .str vs, vq]] true) := .sl _ _ (fun ds h c hc => by rw [List.mem_singleton] at h; subst h; exact hplv c hc)
    refine Zn ?_
    by_cases he : keyE [v] = 0
    · have hb : kB v = keyB [v] := by simp [kB, he]
      rw [← hb] at hq
      obtain ⟨b2, S2, k1, k2, k3⟩ := hA1.app (t := kB v) (by omega)
      have hi := ih (pre ++ [v]) S2 b2 (s ++ kB v) (by rw [hl]; simp) k2 (by rw [List.length_append]; omega)
      have hd := Z0o (p := keyE [v] = 0) he
      repeat' first | ((with_reducible show V _ _ _ _ _ _); first | refine Z27 hlt rfl rfl ?_ | refine Zcb (V_re rfl hi ⟨rfl, rfl, rfl, Z4b hw, trivial⟩) ?_ | refine Z3 rfl ?_ | refine Zb rfl rfl ?_) | ((with_reducible show VO _ _ _ _ _ _ _); first | refine Zh rfl rfl hat ?_ | refine Zp rfl rfl hone hl4 rfl hst ?_ | refine Z2m rfl hg hl4 ?_ | refine Z8 rfl rfl hk ?_ | refine Z6 hd rfl ?_ | refine Z02 rfl rfl (Z0f hq) AB.okEls (by decide) (by decide) k1 ?_ | refine Z0 rfl ?_ | refine Z9 rfl ?_ | refine Z4 ?_)
      rintro x e st' ⟨rfl, b', rfl, h1, h2⟩
      exact ⟨rfl, b', rfl, by rw [List.flatMap_cons, ← List.append_assoc]; exact h1, hG1.trans (k3.trans h2)⟩
    · have hb : kB v = [] := by simp [kB, he]
      have hi := ih (pre ++ [v]) S1 b s (by rw [hl]; simp) hA1 (by omega)
      have hd := Z07 (p := keyE [v] = 0) he
      repeat' first | ((with_reducible show V _ _ _ _ _ _); first | refine Z27 hlt rfl rfl ?_ | refine Zcb (V_re rfl hi ⟨rfl, rfl, rfl, Z4b hw, trivial⟩) ?_ | refine Z3 rfl ?_ | refine Ze rfl rfl ?_) | ((with_reducible show VO _ _ _ _ _ _ _); first | refine Zh rfl rfl hat ?_ | refine Zp rfl rfl hone hl4 rfl hst ?_ | refine Z2m rfl hg hl4 ?_ | refine Z8 rfl rfl hk ?_ | refine Z6 hd rfl ?_ | refine Z0 rfl ?_ | refine Z9 rfl ?_ | refine Z4 ?_)
      rintro x e st' ⟨rfl, b', rfl, h1, h2⟩
      exact ⟨rfl, b', rfl, by rw [List.flatMap_cons, hb, List.nil_append]; exact h1, hG1.trans h2⟩
theorem keyK {l : List Val} {p : PV} (hp : LC l p) : AppsB T Zbu [p] (l.flatMap kB) := by
  intro st b s hbn hA hlen
  obtain ⟨h1, h2, _⟩ := hp.len
  refine Z1c rfl rfl ?_
  repeat' first | refine Zcc rfl (keyK_loop hp l [] st b s rfl hA hlen) ⟨rfl, rfl, rfl, rfl, trivial⟩ ?_ | refine Z3 rfl ?_ | ((with_reducible show VO _ _ _ _ _ _ _); first | refine Z0r rfl h1 h2 ?_ | refine Z0 rfl ?_ | refine Z4 ?_)
  rintro x e st' ⟨rfl, b', rfl, k1, k2⟩
  repeat' first | refine Z05 rfl rfl ?_ | refine Z3 rfl ?_ | refine Z0 rfl ?_ | refine Z4 ?_
  exact ⟨k1, k2⟩
end Go.Proofs.YtgdjnlopdpjnaaaDoor
