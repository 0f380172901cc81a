/- codec.read, codec.Read, codec.Parse. · codec.Key: the key of any values. · codec.Key; codec.Put behind nothing; begun. · Keys stand as their values do: the plain law. · rambleref03.form, rambleref03.Key. · rambleref03.Key. · Values are read as they were put; what is read has those bytes; over plain values. · The values of a key are as they were; what values are told of has that key; over plain values. -/
import Derived.Test.YtgdjnlopdpjnaaaGreatDoorPutVToReadB
import Derived.Test.YtgdjnlopdpjnaaaGreatDoorValHToCodK
import Derived.Test.YtgdjnlopdpjnaaaGreatDoorBytesToCodB
import Derived.Test.YtgdjnlopdpjnaaaGreatDoorAmZ
import Derived.Test.YtgdjnlopdpjnaaaGreatDoorCodCToValG
set_option linter.unusedVariables false
set_option linter.unusedSimpArgs false
namespace Go.Proofs.YtgdjnlopdpjnaaaGreatDoor
open Go Go.AM Go.RowKit
end Go.Proofs.YtgdjnlopdpjnaaaGreatDoor
set_option linter.unusedVariables false
set_option linter.unusedSimpArgs false
namespace Go.Proofs.YtgdjnlopdpjnaaaGreatDoor
open Go Go.AM Go.RowKit
def Z2r : Val → List UInt8
  | .mk k n s l => UInt8.ofNat (k % 256).toNat :: (if k = 1 ∨ k = 6 ∨ k = 7 then be 8 (Z2k n) else if k = 3 then [UInt8.ofNat (n % 256).toNat] else esc s ++ [0, 1])
def keyR : List Val → Except Int (List UInt8)
  | [] => .ok []
  | v :: l => if Z21 8 v then (if v.kind = 4 ∨ v.kind = 5 then .error 21 else (keyR l).map (Z2r v ++ ·)) else .error 20
theorem keyR_ok {v : Val} {l : List Val} (b bb : List UInt8) (hbb : bb = b ++ Z2r v) (hm : Z21 8 v = true) (h4 : v.kind ≠ 4) (h5 : v.kind ≠ 5) : (keyR (v :: l)).map (b ++ ·) = (keyR l).map (bb ++ ·) := by
  subst hbb
  simp only [keyR, hm, if_true, h4, h5, or_self, if_false]
  cases keyR l <;> simp [Except.map]
theorem may_kind {f : Nat} {v : Val} (h : Z21 f v = true) : v.kind = 1 ∨ v.kind = 3 ∨ v.kind = 6 ∨ v.kind = 7 ∨ v.kind = 2 ∨ v.kind = 4 ∨ v.kind = 5 := by
  obtain ⟨k, n, s, l⟩ := v
  cases f with
  | zero => simp [Z21] at h
  | succ f =>
    simp only [Z21] at h
    simp only [Val.kind]
    repeat' (split at h; · simp [*])
    cases h
theorem may_str {f : Nat} {k n : Int} {s : List UInt8} {l : List Val} (h : Z21 f (.mk k n s l) = true) (hk : k ≠ 2) : s = [] := by
  cases f with
  | zero => simp [Z21] at h
  | succ f =>
    simp only [Z21] at h
    repeat' (split at h; · first | (exact absurd ‹_› hk) | (simp at h; simp [h]))
    cases h
theorem may_len {f : Nat} {k n : Int} {s : List UInt8} {l : List Val} (h : Z21 f (.mk k n s l) = true) : s.length ≤ 128 := by
  by_cases hk : k = 2
  · subst hk
    cases f with
    | zero => simp [Z21] at h
    | succ f => simp [Z21] at h; omega
  · rw [may_str h hk]; simp
theorem esc_le (s : List UInt8) : (esc s).length ≤ 2 * s.length := by
  rw [esc_length]
  have : s.count 0 ≤ s.length := List.count_le_length
  omega
theorem form_len {v : Val} (h : Z21 8 v = true) : (Z2r v).length ≤ 259 := by
  obtain ⟨k, n, s, l⟩ := v
  have h1 := may_len h
  have h2 := esc_le s
  simp only [Z2r]
  split
  · simp [be_len]
  · split
    · simp
    · simp; omega
theorem wrap8 (n : Int) : [[PV.int .u8 (IntKind.u8.wrap n)]] = Z00 [UInt8.ofNat (n % 256).toNat] := by
  rw [wrap_u8]
  have h1 : n % 256 = (((n % 256).toNat : Nat) : Int) := by omega
  have h2 : (n % 256).toNat < 256 := by omega
  simp [Z00]
  omega
def KS (g : Nat) (b : List UInt8) : St := ⟨0, 2, [(1, .row g 1 (Z00 b) true)]⟩
def AccK (st : St) (v : PV) (b : List UInt8) : Prop := (v = .nilSl ∧ b = [] ∧ st = emptySt) ∨ ∃ g, v = .osl 1 g 0 (Z00 b).length false ∧ st = KS g b
def keyP (l : List Val) : EX → EC → St → Prop := fun x e' st' => (x = .exit 0 ∧ ∃ v' b', keyR l = .ok b' ∧ e' = .put 4 v' .nil ∧ AccK st' v' b') ∨ (∃ err, x = .ret ∧ keyR l = .error err ∧ e' = .put 2 .nilSl (.put 3 (.int .i64 err) .nil))
set_option maxHeartbeats 4000000 in
theorem key_loop (l : List Val) (p : PV) (hp : LC l p) (hln : l.length ≤ 1073741824) : ∀ (rest pre : List Val) (b : List UInt8) (e : EC) (st : St) (v : PV), l = pre ++ rest → keyR l = (keyR rest).map (b ++ ·) → b.length ≤ 259 * pre.length → AccK st v b → e.get 4 = some v → e.get 9 = some p → e.get 10 = some (.int .i64 l.length) → e.get 11 = some (.int .i64 pre.length) →
    V T (PE (keyP l)) [.code (.loop lp_codec_Key_0)] .normal e st := by
  obtain ⟨lp1, lp2, lp3⟩ := hp.len
  intro rest
  induction rest with
  | nil =>
    intro pre b e st v hl hk hb hA h4 h9 h10 h11
    have hlt : decide ((pre.length : Int) < l.length) = false := decide_eq_false (by subst hl; simp)
    have out : ∀ (fr : List Fr) (x : EX) (e' : EC), adv 200 fr x = ([], .exit 0) → e'.get 4 = some v → V T (PE (keyP l)) fr x e' st := fun fr x e' hadv g4 =>
      Z0d (.put 4 v .nil) (Z01 g4 Z06) (Z1s hadv (.inl ⟨rfl, v, b, by rw [hk]; simp [keyR, Except.map], rfl, hA⟩))
    refine Z0d (.put 4 _ (.put 9 p (.put 10 _ (.put 11 _ .nil)))) (Z01 h4 (Z01 h9 (Z01 h10 (Z01 h11 Z06)))) (Z08 ?_)
    repeat' first | refine Z2y hlt rfl rfl ?_ | refine V_O rfl ?_ | refine Z02 rfl ?_ | refine Z03 ?_ | refine out _ _ _ rfl rfl
  | cons v0 rest ih =>
    intro pre b e st v hl hk hb hA h4 h9 h10 h11
    have hlt : decide ((pre.length : Int) < l.length) = true := decide_eq_true (by subst hl; simp; omega)
    have hpl : pre.length + 1 ≤ l.length := by subst hl; simp
    have hbl : b.length + 600 ≤ 140737488355328 := by omega
    have hv0 : l[pre.length]? = some v0 := by subst hl; simp
    obtain ⟨cs, hat, vc⟩ := hp.at hv0
    have hchk := run_Check vc
    obtain ⟨k, n, s, ll⟩ := v0
    obtain ⟨hki, hni, hsi, q, rfl, hq⟩ := vc.open
    have plq := hq.pl
    have ret : ∀ (fr : List Fr) (x : EX) (e' : EC) (st' : St) (err : Int), keyR l = .error err → adv 200 fr x = ([], .ret) → e'.get 2 = some .nilSl → e'.get 3 = some (.int .i64 err) → V T (PE (keyP l)) fr x e' st' := fun fr x e' st' err hke hadv g2 g3 =>
      Z0d (.put 2 _ (.put 3 _ .nil)) (Z01 g2 (Z01 g3 Z06)) (Z1s hadv (.inr ⟨err, rfl, hke, rfl⟩))
    by_cases hm : Z21 8 (.mk k n s ll) = true
    · have hc0 : chk (.mk k n s ll) = 0 := by simp [chk, hm]
      rw [hc0] at hchk
      have hsl := may_len hm
      have hwi : IntKind.i64.wrap ((pre.length : Int) + 1) = ((pre ++ [Val.mk k n s ll]).length : Int) := by rw [Z0l]; simp; omega
      have hfl := form_len hm
      have fin0 : k ≠ 4 → k ≠ 5 → ∀ (fr : List Fr) (x : EX) (e' : EC) (st' : St) (g' : Nat) (bb : List UInt8), bb = b ++ Z2r (.mk k n s ll) → adv 200 fr x = ([.code (.loop lp_codec_Key_0)], .normal) → e'.get 4 = some (.osl 1 g' 0 (Z00 bb).length false) → e'.get 9 = some p → e'.get 10 = some (.int .i64 l.length) → e'.get 11 = some (.int .i64 (IntKind.i64.wrap ((pre.length : Int) + 1))) → st'.base = 0 → Nat.ble 2 st'.next = true → st'.get 1 = some (.row g' 1 (Z00 bb) true) → V T (PE (keyP l)) fr x e' st' := fun hk4 hk5 fr x e' st' g' bb hbb hadv g4 g9 g10 g11 hb0 hn2 hg1 => Z3l hadv (by
        rw [hwi] at g11
        refine V_forget [(4, .osl 1 g' 0 (Z00 bb).length false), (9, p), (10, .int .i64 l.length), (11, .int .i64 ((pre ++ [Val.mk k n s ll]).length : Int))] (KS g' bb)
          (fg_cons g4 (.osl _ _ _ _ _ (by show 1 < 2; omega)) (fg_cons g9 hp.pl.bel (fg_cons g10 (.int _ _) (fg_cons g11 (.int _ _) fg_nil)))) (by rw [hb0]; rfl) ⟨Nat.zero_le _, Nat.le_of_ble_eq_true hn2⟩ (fun x hx => by
            simp only [KS, List.mem_cons, List.not_mem_nil, or_false] at hx
            subst hx
            exact ⟨by show 1 < 2; omega, fun cs hcs c hc => (Z2u bb cs hcs c hc).bel, hg1⟩) ?_
        refine ih (pre ++ [Val.mk k n s ll]) bb _ _ _ (by rw [hl]; simp) ?_ ?_ (.inr ⟨g', rfl, rfl⟩) rfl rfl rfl rfl
        · rw [hk]
          exact keyR_ok b bb hbb hm hk4 hk5
        · rw [hbb]; simp; omega)
      clear ih
      have h8 := run_eight hni
      have hone8 : ((be 8 (Z2k n)).map byPV).all PV.one = true := by simp [byPV, PV.one]
      have hlen8 : ((be 8 (Z2k n)).map byPV).length = 8 := by simp [be_len]
      have hz8 : [PV.int .u8 0, PV.int .u8 0, PV.int .u8 0, PV.int .u8 0, PV.int .u8 0, PV.int .u8 0, PV.int .u8 0, PV.int .u8 0].length = ((be 8 (Z2k n)).map byPV).length := by rw [hlen8]; rfl
      have hne8 : be 8 (Z2k n) ≠ [] := by simp [be]
      have hvsl : ∀ (st : St) (t : Nat), st.get t = some (.var ((be 8 (Z2k n)).map byPV)) → srcOf st (.vsl t 0 1 8) = some (Z00 (be 8 (Z2k n))) := fun st t hg => by
        have := elems_vslB (look := st.get) (t := t) (s := be 8 (Z2k n)) hg
        rw [be_len] at this
        exact this
      have hpl8 : ∀ c ∈ (be 8 (Z2k n)).map byPV, Pl c := fun c hc => by
        obtain ⟨b, _, rfl⟩ := List.mem_map.1 hc
        exact .int _ _
      obtain ⟨kb, hkd⟩ : ∃ kb, UInt8.ofNat (k % 256).toNat = kb := ⟨_, rfl⟩
      have hkb := wrap8 k
      rw [hkd] at hkb
      rcases hA with ⟨rfl, rfl, rfl⟩ | ⟨g, rfl, rfl⟩
      ·
        have hroom1 : ([] : List UInt8).length + ([kb] : List UInt8).length ≤ Z0e := by simp [Z0e] at hbl ⊢; try omega
        have hroom3 : ∀ c : List UInt8, c.length ≤ 258 → ([kb] : List UInt8).length + c.length ≤ Z0e := fun c hc => by simp [Z0e]; omega
        have hroom4 : ∀ c : List UInt8, c.length ≤ 256 → (([kb] : List UInt8) ++ c).length + ([0, 1] : List UInt8).length ≤ Z0e := fun c hc => by simp [Z0e] at hbl ⊢; try omega
        rcases may_kind hm with hk1 | hk3 | hk6 | hk7 | hk2 | hk4 | hk5
        · replace hk1 : k = 1 := hk1
          subst hk1
          have fin := fin0 (by decide) (by decide)
          have hform : [kb] ++ be 8 (Z2k n) = [] ++ Z2r (.mk 1 n s ll) := by simp only [Z2r, hkd]; simp
          refine Z0d (.put 4 _ (.put 9 p (.put 10 _ (.put 11 _ .nil)))) (Z01 h4 (Z01 h9 (Z01 h10 (Z01 h11 Z06)))) (Z08 ?_)
          repeat' first | ((with_reducible show V _ _ _ _ _ _); first | refine Z2d hlt rfl rfl ?_ | refine V_O rfl ?_ | refine Z16 rfl rfl ?_ | refine Z1e rfl rfl ?_) | ((with_reducible show VO _ _ _ _ _ _ _); first | refine Z0b rfl rfl vc.one rfl rfl rfl ?_ | refine Z2q rfl rfl hat ?_ | refine Z0u rfl rfl hchk ?_ | refine Z09 (src := Z00 [kb]) rfl rfl (by rw [← hkb]; rfl) (Z04 _) (by decide) (by decide) (appN (by simp) (by simp [Z0e])) ?_ | refine Z0u rfl rfl h8 ?_ | refine Z0b rfl rfl hone8 hlen8 rfl (Z0i rfl hz8) ?_ | refine Z09 (src := Z00 (be 8 (Z2k n))) rfl rfl (hvsl _ _ rfl) (Z04 _) (by decide) (by decide) (appB rfl hne8 (hroom3 _ (by simp [be_len]))) ?_ | refine Z02 rfl ?_ | refine Z05 rfl ?_ | refine Z03 ?_) | refine fin _ _ _ _ _ _ hform rfl rfl rfl rfl rfl rfl rfl rfl
        · replace hk3 : k = 3 := hk3
          subst hk3
          have fin := fin0 (by decide) (by decide)
          have hform : [kb] ++ [UInt8.ofNat (n % 256).toNat] = [] ++ Z2r (.mk 3 n s ll) := by simp only [Z2r, hkd]; simp
          refine Z0d (.put 4 _ (.put 9 p (.put 10 _ (.put 11 _ .nil)))) (Z01 h4 (Z01 h9 (Z01 h10 (Z01 h11 Z06)))) (Z08 ?_)
          repeat' first | ((with_reducible show V _ _ _ _ _ _); first | refine Z2d hlt rfl rfl ?_ | refine V_O rfl ?_ | refine Z16 rfl rfl ?_ | refine Z1e rfl rfl ?_) | ((with_reducible show VO _ _ _ _ _ _ _); first | refine Z0b rfl rfl vc.one rfl rfl rfl ?_ | refine Z2q rfl rfl hat ?_ | refine Z0u rfl rfl hchk ?_ | refine Z09 (src := Z00 [kb]) rfl rfl (by rw [← hkb]; rfl) (Z04 _) (by decide) (by decide) (appN (by simp) (by simp [Z0e])) ?_ | refine Z09 (src := Z00 [UInt8.ofNat (n % 256).toNat]) rfl rfl (by rw [← wrap8 n]; rfl) (Z04 _) (by decide) (by decide) (appB rfl (by simp) (hroom3 _ (by simp))) ?_ | refine Z02 rfl ?_ | refine Z05 rfl ?_ | refine Z03 ?_) | refine fin _ _ _ _ _ _ hform rfl rfl rfl rfl rfl rfl rfl rfl
        · replace hk6 : k = 6 := hk6
          subst hk6
          have fin := fin0 (by decide) (by decide)
          have hform : [kb] ++ be 8 (Z2k n) = [] ++ Z2r (.mk 6 n s ll) := by simp only [Z2r, hkd]; simp
          refine Z0d (.put 4 _ (.put 9 p (.put 10 _ (.put 11 _ .nil)))) (Z01 h4 (Z01 h9 (Z01 h10 (Z01 h11 Z06)))) (Z08 ?_)
          repeat' first | ((with_reducible show V _ _ _ _ _ _); first | refine Z2d hlt rfl rfl ?_ | refine V_O rfl ?_ | refine Z16 rfl rfl ?_ | refine Z1e rfl rfl ?_) | ((with_reducible show VO _ _ _ _ _ _ _); first | refine Z0b rfl rfl vc.one rfl rfl rfl ?_ | refine Z2q rfl rfl hat ?_ | refine Z0u rfl rfl hchk ?_ | refine Z09 (src := Z00 [kb]) rfl rfl (by rw [← hkb]; rfl) (Z04 _) (by decide) (by decide) (appN (by simp) (by simp [Z0e])) ?_ | refine Z0u rfl rfl h8 ?_ | refine Z0b rfl rfl hone8 hlen8 rfl (Z0i rfl hz8) ?_ | refine Z09 (src := Z00 (be 8 (Z2k n))) rfl rfl (hvsl _ _ rfl) (Z04 _) (by decide) (by decide) (appB rfl hne8 (hroom3 _ (by simp [be_len]))) ?_ | refine Z02 rfl ?_ | refine Z05 rfl ?_ | refine Z03 ?_) | refine fin _ _ _ _ _ _ hform rfl rfl rfl rfl rfl rfl rfl rfl
        · replace hk7 : k = 7 := hk7
          subst hk7
          have fin := fin0 (by decide) (by decide)
          have hform : [kb] ++ be 8 (Z2k n) = [] ++ Z2r (.mk 7 n s ll) := by simp only [Z2r, hkd]; simp
          refine Z0d (.put 4 _ (.put 9 p (.put 10 _ (.put 11 _ .nil)))) (Z01 h4 (Z01 h9 (Z01 h10 (Z01 h11 Z06)))) (Z08 ?_)
          repeat' first | ((with_reducible show V _ _ _ _ _ _); first | refine Z2d hlt rfl rfl ?_ | refine V_O rfl ?_ | refine Z16 rfl rfl ?_ | refine Z1e rfl rfl ?_) | ((with_reducible show VO _ _ _ _ _ _ _); first | refine Z0b rfl rfl vc.one rfl rfl rfl ?_ | refine Z2q rfl rfl hat ?_ | refine Z0u rfl rfl hchk ?_ | refine Z09 (src := Z00 [kb]) rfl rfl (by rw [← hkb]; rfl) (Z04 _) (by decide) (by decide) (appN (by simp) (by simp [Z0e])) ?_ | refine Z0u rfl rfl h8 ?_ | refine Z0b rfl rfl hone8 hlen8 rfl (Z0i rfl hz8) ?_ | refine Z09 (src := Z00 (be 8 (Z2k n))) rfl rfl (hvsl _ _ rfl) (Z04 _) (by decide) (by decide) (appB rfl hne8 (hroom3 _ (by simp [be_len]))) ?_ | refine Z02 rfl ?_ | refine Z05 rfl ?_ | refine Z03 ?_) | refine fin _ _ _ _ _ _ hform rfl rfl rfl rfl rfl rfl rfl rfl
        · replace hk2 : k = 2 := hk2
          subst hk2
          have fin := fin0 (by decide) (by decide)
          obtain ⟨qe, he1, he2⟩ := run_Replace s (by omega) false true true
          have ple := he2.pl
          have hel := esc_le s
          have hform : ([kb] ++ esc s) ++ [0, 1] = [] ++ Z2r (.mk 2 n s ll) := by simp only [Z2r, hkd]; simp
          have hpls := (BV.sl s false).pl
          by_cases hes : esc s = []
          · rw [hes] at he2 hform
            refine Z0d (.put 4 _ (.put 9 p (.put 10 _ (.put 11 _ .nil)))) (Z01 h4 (Z01 h9 (Z01 h10 (Z01 h11 Z06)))) (Z08 ?_)
            repeat' first | ((with_reducible show V _ _ _ _ _ _); first | refine Z2d hlt rfl rfl ?_ | refine V_O rfl ?_ | refine Z16 rfl rfl ?_ | refine Z1e rfl rfl ?_) | ((with_reducible show VO _ _ _ _ _ _ _); first | refine Z0b rfl rfl vc.one rfl rfl rfl ?_ | refine Z2q rfl rfl hat ?_ | refine Z0u rfl rfl hchk ?_ | refine Z09 (src := Z00 [kb]) rfl rfl (by rw [← hkb]; rfl) (Z04 _) (by decide) (by decide) (appN (by simp) (by simp [Z0e])) ?_ | refine Z0u rfl rfl he1 ?_ | refine Z09 rfl rfl (Z0j he2) (Z04 _) (by decide) (by decide) appE ?_ | refine Z09 (src := Z00 [0, 1]) rfl rfl rfl (Z04 _) (by decide) (by decide) (appB rfl (by simp) (hroom3 _ (by simp))) ?_ | refine Z02 rfl ?_ | refine Z05 rfl ?_ | refine Z03 ?_) | refine fin _ _ _ _ _ _ (by rw [← hform, List.append_nil]) rfl rfl rfl rfl rfl rfl rfl rfl
          · refine Z0d (.put 4 _ (.put 9 p (.put 10 _ (.put 11 _ .nil)))) (Z01 h4 (Z01 h9 (Z01 h10 (Z01 h11 Z06)))) (Z08 ?_)
            repeat' first | ((with_reducible show V _ _ _ _ _ _); first | refine Z2d hlt rfl rfl ?_ | refine V_O rfl ?_ | refine Z16 rfl rfl ?_ | refine Z1e rfl rfl ?_) | ((with_reducible show VO _ _ _ _ _ _ _); first | refine Z0b rfl rfl vc.one rfl rfl rfl ?_ | refine Z2q rfl rfl hat ?_ | refine Z0u rfl rfl hchk ?_ | refine Z09 (src := Z00 [kb]) rfl rfl (by rw [← hkb]; rfl) (Z04 _) (by decide) (by decide) (appN (by simp) (by simp [Z0e])) ?_ | refine Z0u rfl rfl he1 ?_ | refine Z09 rfl rfl (Z0j he2) (Z04 _) (by decide) (by decide) (appB rfl hes (hroom3 _ (by omega))) ?_ | refine Z09 (src := Z00 [0, 1]) rfl rfl rfl (Z04 _) (by decide) (by decide) (appB rfl (by simp) (hroom4 _ (by omega))) ?_ | refine Z02 rfl ?_ | refine Z05 rfl ?_ | refine Z03 ?_) | refine fin _ _ _ _ _ _ hform rfl rfl rfl rfl rfl rfl rfl rfl
        · replace hk4 : k = 4 := hk4
          subst hk4
          have hke : keyR l = .error 21 := by rw [hk]; simp [keyR, hm, Val.kind, Except.map]
          refine Z0d (.put 4 _ (.put 9 p (.put 10 _ (.put 11 _ .nil)))) (Z01 h4 (Z01 h9 (Z01 h10 (Z01 h11 Z06)))) (Z08 ?_)
          repeat' first | ((with_reducible show V _ _ _ _ _ _); first | refine Z2d hlt rfl rfl ?_ | refine V_O rfl ?_ | refine Z1e rfl rfl ?_) | ((with_reducible show VO _ _ _ _ _ _ _); first | refine Z0b rfl rfl vc.one rfl rfl rfl ?_ | refine Z2q rfl rfl hat ?_ | refine Z0u rfl rfl hchk ?_ | refine Z09 (src := Z00 [kb]) rfl rfl (by rw [← hkb]; rfl) (Z04 _) (by decide) (by decide) (appN (by simp) (by simp [Z0e])) ?_ | refine Z02 rfl ?_ | refine Z05 rfl ?_ | refine Z03 ?_) | refine ret _ _ _ _ _ hke rfl rfl rfl
        · replace hk5 : k = 5 := hk5
          subst hk5
          have hke : keyR l = .error 21 := by rw [hk]; simp [keyR, hm, Val.kind, Except.map]
          refine Z0d (.put 4 _ (.put 9 p (.put 10 _ (.put 11 _ .nil)))) (Z01 h4 (Z01 h9 (Z01 h10 (Z01 h11 Z06)))) (Z08 ?_)
          repeat' first | ((with_reducible show V _ _ _ _ _ _); first | refine Z2d hlt rfl rfl ?_ | refine V_O rfl ?_ | refine Z1e rfl rfl ?_) | ((with_reducible show VO _ _ _ _ _ _ _); first | refine Z0b rfl rfl vc.one rfl rfl rfl ?_ | refine Z2q rfl rfl hat ?_ | refine Z0u rfl rfl hchk ?_ | refine Z09 (src := Z00 [kb]) rfl rfl (by rw [← hkb]; rfl) (Z04 _) (by decide) (by decide) (appN (by simp) (by simp [Z0e])) ?_ | refine Z02 rfl ?_ | refine Z05 rfl ?_ | refine Z03 ?_) | refine ret _ _ _ _ _ hke rfl rfl rfl
      ·
        have hroom1 : (b : List UInt8).length + ([kb] : List UInt8).length ≤ Z0e := by simp [Z0e] at hbl ⊢; try omega
        have hroom3 : ∀ c : List UInt8, c.length ≤ 258 → ((b ++ [kb]) : List UInt8).length + c.length ≤ Z0e := fun c hc => by simp [Z0e] at hbl ⊢; try omega
        have hroom4 : ∀ c : List UInt8, c.length ≤ 256 → (((b ++ [kb]) : List UInt8) ++ c).length + ([0, 1] : List UInt8).length ≤ Z0e := fun c hc => by simp [Z0e] at hbl ⊢; try omega
        rcases may_kind hm with hk1 | hk3 | hk6 | hk7 | hk2 | hk4 | hk5
        · replace hk1 : k = 1 := hk1
          subst hk1
          have fin := fin0 (by decide) (by decide)
          have hform : (b ++ [kb]) ++ be 8 (Z2k n) = b ++ Z2r (.mk 1 n s ll) := by simp only [Z2r, hkd]; simp
          refine Z0d (.put 4 _ (.put 9 p (.put 10 _ (.put 11 _ .nil)))) (Z01 h4 (Z01 h9 (Z01 h10 (Z01 h11 Z06)))) (Z08 ?_)
          repeat' first | ((with_reducible show V _ _ _ _ _ _); first | refine Z2d hlt rfl rfl ?_ | refine V_O rfl ?_ | refine Z16 rfl rfl ?_ | refine Z1e rfl rfl ?_) | ((with_reducible show VO _ _ _ _ _ _ _); first | refine Z0b rfl rfl vc.one rfl rfl rfl ?_ | refine Z2q rfl rfl hat ?_ | refine Z0u rfl rfl hchk ?_ | refine Z09 (src := Z00 [kb]) rfl rfl (by rw [← hkb]; rfl) (Z04 _) (by decide) (by decide) (appB rfl (by simp) hroom1) ?_ | refine Z0u rfl rfl h8 ?_ | refine Z0b rfl rfl hone8 hlen8 rfl (Z0i rfl hz8) ?_ | refine Z09 (src := Z00 (be 8 (Z2k n))) rfl rfl (hvsl _ _ rfl) (Z04 _) (by decide) (by decide) (appB rfl hne8 (hroom3 _ (by simp [be_len]))) ?_ | refine Z02 rfl ?_ | refine Z05 rfl ?_ | refine Z03 ?_) | refine fin _ _ _ _ _ _ hform rfl rfl rfl rfl rfl rfl rfl rfl
        · replace hk3 : k = 3 := hk3
          subst hk3
          have fin := fin0 (by decide) (by decide)
          have hform : (b ++ [kb]) ++ [UInt8.ofNat (n % 256).toNat] = b ++ Z2r (.mk 3 n s ll) := by simp only [Z2r, hkd]; simp
          refine Z0d (.put 4 _ (.put 9 p (.put 10 _ (.put 11 _ .nil)))) (Z01 h4 (Z01 h9 (Z01 h10 (Z01 h11 Z06)))) (Z08 ?_)
          repeat' first | ((with_reducible show V _ _ _ _ _ _); first | refine Z2d hlt rfl rfl ?_ | refine V_O rfl ?_ | refine Z16 rfl rfl ?_ | refine Z1e rfl rfl ?_) | ((with_reducible show VO _ _ _ _ _ _ _); first | refine Z0b rfl rfl vc.one rfl rfl rfl ?_ | refine Z2q rfl rfl hat ?_ | refine Z0u rfl rfl hchk ?_ | refine Z09 (src := Z00 [kb]) rfl rfl (by rw [← hkb]; rfl) (Z04 _) (by decide) (by decide) (appB rfl (by simp) hroom1) ?_ | refine Z09 (src := Z00 [UInt8.ofNat (n % 256).toNat]) rfl rfl (by rw [← wrap8 n]; rfl) (Z04 _) (by decide) (by decide) (appB rfl (by simp) (hroom3 _ (by simp))) ?_ | refine Z02 rfl ?_ | refine Z05 rfl ?_ | refine Z03 ?_) | refine fin _ _ _ _ _ _ hform rfl rfl rfl rfl rfl rfl rfl rfl
        · replace hk6 : k = 6 := hk6
          subst hk6
          have fin := fin0 (by decide) (by decide)
          have hform : (b ++ [kb]) ++ be 8 (Z2k n) = b ++ Z2r (.mk 6 n s ll) := by simp only [Z2r, hkd]; simp
          refine Z0d (.put 4 _ (.put 9 p (.put 10 _ (.put 11 _ .nil)))) (Z01 h4 (Z01 h9 (Z01 h10 (Z01 h11 Z06)))) (Z08 ?_)
          repeat' first | ((with_reducible show V _ _ _ _ _ _); first | refine Z2d hlt rfl rfl ?_ | refine V_O rfl ?_ | refine Z16 rfl rfl ?_ | refine Z1e rfl rfl ?_) | ((with_reducible show VO _ _ _ _ _ _ _); first | refine Z0b rfl rfl vc.one rfl rfl rfl ?_ | refine Z2q rfl rfl hat ?_ | refine Z0u rfl rfl hchk ?_ | refine Z09 (src := Z00 [kb]) rfl rfl (by rw [← hkb]; rfl) (Z04 _) (by decide) (by decide) (appB rfl (by simp) hroom1) ?_ | refine Z0u rfl rfl h8 ?_ | refine Z0b rfl rfl hone8 hlen8 rfl (Z0i rfl hz8) ?_ | refine Z09 (src := Z00 (be 8 (Z2k n))) rfl rfl (hvsl _ _ rfl) (Z04 _) (by decide) (by decide) (appB rfl hne8 (hroom3 _ (by simp [be_len]))) ?_ | refine Z02 rfl ?_ | refine Z05 rfl ?_ | refine Z03 ?_) | refine fin _ _ _ _ _ _ hform rfl rfl rfl rfl rfl rfl rfl rfl
        · replace hk7 : k = 7 := hk7
          subst hk7
          have fin := fin0 (by decide) (by decide)
          have hform : (b ++ [kb]) ++ be 8 (Z2k n) = b ++ Z2r (.mk 7 n s ll) := by simp only [Z2r, hkd]; simp
          refine Z0d (.put 4 _ (.put 9 p (.put 10 _ (.put 11 _ .nil)))) (Z01 h4 (Z01 h9 (Z01 h10 (Z01 h11 Z06)))) (Z08 ?_)
          repeat' first | ((with_reducible show V _ _ _ _ _ _); first | refine Z2d hlt rfl rfl ?_ | refine V_O rfl ?_ | refine Z16 rfl rfl ?_ | refine Z1e rfl rfl ?_) | ((with_reducible show VO _ _ _ _ _ _ _); first | refine Z0b rfl rfl vc.one rfl rfl rfl ?_ | refine Z2q rfl rfl hat ?_ | refine Z0u rfl rfl hchk ?_ | refine Z09 (src := Z00 [kb]) rfl rfl (by rw [← hkb]; rfl) (Z04 _) (by decide) (by decide) (appB rfl (by simp) hroom1) ?_ | refine Z0u rfl rfl h8 ?_ | refine Z0b rfl rfl hone8 hlen8 rfl (Z0i rfl hz8) ?_ | refine Z09 (src := Z00 (be 8 (Z2k n))) rfl rfl (hvsl _ _ rfl) (Z04 _) (by decide) (by decide) (appB rfl hne8 (hroom3 _ (by simp [be_len]))) ?_ | refine Z02 rfl ?_ | refine Z05 rfl ?_ | refine Z03 ?_) | refine fin _ _ _ _ _ _ hform rfl rfl rfl rfl rfl rfl rfl rfl
        · replace hk2 : k = 2 := hk2
          subst hk2
          have fin := fin0 (by decide) (by decide)
          obtain ⟨qe, he1, he2⟩ := run_Replace s (by omega) false true true
          have ple := he2.pl
          have hel := esc_le s
          have hform : ((b ++ [kb]) ++ esc s) ++ [0, 1] = b ++ Z2r (.mk 2 n s ll) := by simp only [Z2r, hkd]; simp
          have hpls := (BV.sl s false).pl
          by_cases hes : esc s = []
          · rw [hes] at he2 hform
            refine Z0d (.put 4 _ (.put 9 p (.put 10 _ (.put 11 _ .nil)))) (Z01 h4 (Z01 h9 (Z01 h10 (Z01 h11 Z06)))) (Z08 ?_)
            repeat' first | ((with_reducible show V _ _ _ _ _ _); first | refine Z2d hlt rfl rfl ?_ | refine V_O rfl ?_ | refine Z16 rfl rfl ?_ | refine Z1e rfl rfl ?_) | ((with_reducible show VO _ _ _ _ _ _ _); first | refine Z0b rfl rfl vc.one rfl rfl rfl ?_ | refine Z2q rfl rfl hat ?_ | refine Z0u rfl rfl hchk ?_ | refine Z09 (src := Z00 [kb]) rfl rfl (by rw [← hkb]; rfl) (Z04 _) (by decide) (by decide) (appB rfl (by simp) hroom1) ?_ | refine Z0u rfl rfl he1 ?_ | refine Z09 rfl rfl (Z0j he2) (Z04 _) (by decide) (by decide) appE ?_ | refine Z09 (src := Z00 [0, 1]) rfl rfl rfl (Z04 _) (by decide) (by decide) (appB rfl (by simp) (hroom3 _ (by simp))) ?_ | refine Z02 rfl ?_ | refine Z05 rfl ?_ | refine Z03 ?_) | refine fin _ _ _ _ _ _ (by rw [← hform, List.append_nil]) rfl rfl rfl rfl rfl rfl rfl rfl
          · refine Z0d (.put 4 _ (.put 9 p (.put 10 _ (.put 11 _ .nil)))) (Z01 h4 (Z01 h9 (Z01 h10 (Z01 h11 Z06)))) (Z08 ?_)
            repeat' first | ((with_reducible show V _ _ _ _ _ _); first | refine Z2d hlt rfl rfl ?_ | refine V_O rfl ?_ | refine Z16 rfl rfl ?_ | refine Z1e rfl rfl ?_) | ((with_reducible show VO _ _ _ _ _ _ _); first | refine Z0b rfl rfl vc.one rfl rfl rfl ?_ | refine Z2q rfl rfl hat ?_ | refine Z0u rfl rfl hchk ?_ | refine Z09 (src := Z00 [kb]) rfl rfl (by rw [← hkb]; rfl) (Z04 _) (by decide) (by decide) (appB rfl (by simp) hroom1) ?_ | refine Z0u rfl rfl he1 ?_ | refine Z09 rfl rfl (Z0j he2) (Z04 _) (by decide) (by decide) (appB rfl hes (hroom3 _ (by omega))) ?_ | refine Z09 (src := Z00 [0, 1]) rfl rfl rfl (Z04 _) (by decide) (by decide) (appB rfl (by simp) (hroom4 _ (by omega))) ?_ | refine Z02 rfl ?_ | refine Z05 rfl ?_ | refine Z03 ?_) | refine fin _ _ _ _ _ _ hform rfl rfl rfl rfl rfl rfl rfl rfl
        · replace hk4 : k = 4 := hk4
          subst hk4
          have hke : keyR l = .error 21 := by rw [hk]; simp [keyR, hm, Val.kind, Except.map]
          refine Z0d (.put 4 _ (.put 9 p (.put 10 _ (.put 11 _ .nil)))) (Z01 h4 (Z01 h9 (Z01 h10 (Z01 h11 Z06)))) (Z08 ?_)
          repeat' first | ((with_reducible show V _ _ _ _ _ _); first | refine Z2d hlt rfl rfl ?_ | refine V_O rfl ?_ | refine Z1e rfl rfl ?_) | ((with_reducible show VO _ _ _ _ _ _ _); first | refine Z0b rfl rfl vc.one rfl rfl rfl ?_ | refine Z2q rfl rfl hat ?_ | refine Z0u rfl rfl hchk ?_ | refine Z09 (src := Z00 [kb]) rfl rfl (by rw [← hkb]; rfl) (Z04 _) (by decide) (by decide) (appB rfl (by simp) hroom1) ?_ | refine Z02 rfl ?_ | refine Z05 rfl ?_ | refine Z03 ?_) | refine ret _ _ _ _ _ hke rfl rfl rfl
        · replace hk5 : k = 5 := hk5
          subst hk5
          have hke : keyR l = .error 21 := by rw [hk]; simp [keyR, hm, Val.kind, Except.map]
          refine Z0d (.put 4 _ (.put 9 p (.put 10 _ (.put 11 _ .nil)))) (Z01 h4 (Z01 h9 (Z01 h10 (Z01 h11 Z06)))) (Z08 ?_)
          repeat' first | ((with_reducible show V _ _ _ _ _ _); first | refine Z2d hlt rfl rfl ?_ | refine V_O rfl ?_ | refine Z1e rfl rfl ?_) | ((with_reducible show VO _ _ _ _ _ _ _); first | refine Z0b rfl rfl vc.one rfl rfl rfl ?_ | refine Z2q rfl rfl hat ?_ | refine Z0u rfl rfl hchk ?_ | refine Z09 (src := Z00 [kb]) rfl rfl (by rw [← hkb]; rfl) (Z04 _) (by decide) (by decide) (appB rfl (by simp) hroom1) ?_ | refine Z02 rfl ?_ | refine Z05 rfl ?_ | refine Z03 ?_) | refine ret _ _ _ _ _ hke rfl rfl rfl
    · have hm' : Z21 8 (.mk k n s ll) = false := by simpa using hm
      have hc0 : chk (.mk k n s ll) = 20 := by simp [chk, hm']
      rw [hc0] at hchk
      have hke : keyR l = .error 20 := by rw [hk]; simp [keyR, hm', Except.map]
      clear ih
      rcases hA with ⟨rfl, rfl, rfl⟩ | ⟨g, rfl, rfl⟩
      · refine Z0d (.put 4 _ (.put 9 p (.put 10 _ (.put 11 _ .nil)))) (Z01 h4 (Z01 h9 (Z01 h10 (Z01 h11 Z06)))) (Z08 ?_)
        repeat' first | ((with_reducible show V _ _ _ _ _ _); first | refine Z2d hlt rfl rfl ?_ | refine V_O rfl ?_ | refine Z16 rfl rfl ?_) | ((with_reducible show VO _ _ _ _ _ _ _); first | refine Z05 rfl ?_ | refine Z0b rfl rfl vc.one rfl rfl rfl ?_ | refine Z2q rfl rfl hat ?_ | refine Z0u rfl rfl hchk ?_ | refine Z02 rfl ?_ | refine Z03 ?_) | refine ret _ _ _ _ _ hke rfl rfl rfl
      · refine Z0d (.put 4 _ (.put 9 p (.put 10 _ (.put 11 _ .nil)))) (Z01 h4 (Z01 h9 (Z01 h10 (Z01 h11 Z06)))) (Z08 ?_)
        repeat' first | ((with_reducible show V _ _ _ _ _ _); first | refine Z2d hlt rfl rfl ?_ | refine V_O rfl ?_ | refine Z16 rfl rfl ?_) | ((with_reducible show VO _ _ _ _ _ _ _); first | refine Z05 rfl ?_ | refine Z0b rfl rfl vc.one rfl rfl rfl ?_ | refine Z2q rfl rfl hat ?_ | refine Z0u rfl rfl hchk ?_ | refine Z02 rfl ?_ | refine Z03 ?_) | refine ret _ _ _ _ _ hke rfl rfl rfl
end Go.Proofs.YtgdjnlopdpjnaaaGreatDoor
set_option linter.unusedVariables false
set_option linter.unusedSimpArgs false
namespace Go.Proofs.YtgdjnlopdpjnaaaGreatDoor
open Go Go.AM Go.RowKit
def keyB (l : List Val) : List UInt8 := match keyR l with
  | .ok b => b
  | .error _ => []
def keyE (l : List Val) : Int := match keyR l with
  | .ok _ => 0
  | .error e => e
theorem run_Key (l : List Val) (p : PV) (hp : LC l p) (hln : l.length ≤ 1073741824) : ∃ q, BV q (keyB l) ∧ T.R (.call n_codec_Key [p] (.tuple [q, .int .i64 (keyE l)])) := by
  obtain ⟨lp1, lp2, lp3⟩ := hp.len
  have hl := fun e h4 h9 h10 h11 => key_loop l p hp hln l [] [] e emptySt .nilSl rfl (by cases keyR l <;> rfl) (by simp) (.inl ⟨rfl, rfl, rfl⟩) h4 h9 h10 h11
  have key : ∃ r, T.R (.call n_codec_Key [p] r) ∧ ∃ q, BV q (keyB l) ∧ r = .tuple [q, .int .i64 (keyE l)] := by
    refine Z24 rfl rfl ?_
    repeat' first | refine Z4c rfl (hl _ rfl rfl rfl rfl) ?_ | refine V_O rfl ?_ | ((with_reducible show VO _ _ _ _ _ _ _); first | refine Z0p rfl lp1 lp2 ?_ | refine Z02 rfl ?_ | refine Z03 ?_)
    rintro x e' st' (⟨rfl, v', b', hk, rfl, hA⟩ | ⟨err, rfl, hk, rfl⟩)
    · have hb : keyB l = b' := by simp [keyB, hk]
      have he : keyE l = 0 := by simp [keyE, hk]
      rw [hb, he]
      rcases hA with ⟨rfl, rfl, rfl⟩ | ⟨g, rfl, rfl⟩
      · repeat' first | refine V_O rfl ?_ | refine Z1t rfl rfl ?_ | refine Z02 rfl ?_ | refine Z03 ?_
        exact ⟨_, .nil, rfl⟩
      · repeat' first | refine Z2c (r := .tuple [.sl (Z00 b') false, .int .i64 0]) rfl rfl (view_tuple (Z3g (Z2h (g := g) (sz := 1) (lv := true) (es := Z00 b') rfl (.inl rfl) rfl (Z2u _)) (Z3g (.int _ _) viewL_nil))) ?_ | refine V_O rfl ?_ | refine Z02 rfl ?_ | refine Z03 ?_
        exact ⟨_, .sl _ _, rfl⟩
    · have hb : keyB l = [] := by simp [keyB, hk]
      have he : keyE l = err := by simp [keyE, hk]
      rw [hb, he]
      exact Z2c (r := .tuple [.nilSl, .int .i64 err]) rfl rfl (Pl.view (by (repeat' (first | exact Pl.int _ _ | exact Pl.bool _ | exact Pl.str _ | exact Pl.nilSl | exact Z1d | refine Z0m ?_ ?_ | refine Pl.tuple _ ?_ | refine Pl.agg _ ?_ | refine Pl.func _ _ ?_ | assumption | refine Pl.iptr _ _ ?_ | exact Z1h | refine Z11 ?_ ?_ | refine Pl.sl _ _ ?_)); first | done | fail)) ⟨_, .nil, rfl⟩
  obtain ⟨r, h1, q, h2, rfl⟩ := key
  exact ⟨q, h2, h1⟩
theorem run_CloneNil : T.R (.call Z45 [.nilSl] .nilSl) := by
  refine Z0c rfl rfl ?_
  repeat' first | ((with_reducible show V _ _ _ _ _ _); first | refine V_O rfl ?_ | refine Z16 rfl rfl ?_ | refine Z1t rfl rfl ?_) | refine Z02 rfl ?_ | refine Z03 ?_
  rfl
end Go.Proofs.YtgdjnlopdpjnaaaGreatDoor
set_option linter.unusedVariables false
set_option linter.unusedSimpArgs false
namespace Go.Proofs.YtgdjnlopdpjnaaaGreatDoor
open Go Go.AM Go.RowKit
def Good (v : Val) : Prop := Z21 8 v = true ∧ v.kind ≠ 4 ∧ v.kind ≠ 5
theorem u8_pos {a : UInt8} (h : a ≠ 0) : (0 : Int) < a.toNat := by
  have : a.toNat ≠ 0 := fun e => h (UInt8.toNat_inj.1 e)
  omega
theorem good_cases {k n : Int} {s : List UInt8} {l : List Val} (h : Good (.mk k n s l)) :
    (k = 1 ∧ s = [] ∧ l = []) ∨ (k = 3 ∧ s = [] ∧ l = [] ∧ (n = 0 ∨ n = 1)) ∨ (k = 6 ∧ s = [] ∧ l = []) ∨ (k = 7 ∧ s = [] ∧ l = []) ∨ (k = 2 ∧ n = 0 ∧ l = []) := by
  obtain ⟨hm, h4, h5⟩ := h
  simp only [Val.kind] at h4 h5
  simp only [Z21] at hm
  split at hm
  · simp at hm; simp [*]
  · split at hm
    · simp at hm; simp [*]
    · split at hm
      · simp at hm; simp [*]
      · split at hm
        · simp at hm; simp [*]
        · split at hm
          · simp at hm; simp [*]
          · exfalso
            first | (cases hm; done) | (simp [h4, h5] at hm)
theorem form_ne (v : Val) : Z2r v ≠ [] := by obtain ⟨k, n, s, l⟩ := v; simp [Z2r]
end Go.Proofs.YtgdjnlopdpjnaaaGreatDoor
set_option linter.unusedVariables false
set_option linter.unusedSimpArgs false
namespace Go.Proofs.YtgdjnlopdpjnaaaGreatDoor
open Go Go.AM Go.RowKit
theorem acc_fin {st : St} {v : PV} {b : List UInt8} (h : AccT 1 st v (Z00 b)) (hne : b ≠ []) : View true st.get v (.sl (Z00 b) false) := by
  rcases h with ⟨_, h⟩ | ⟨t, g, rfl, hg, _⟩
  · exact absurd h (by simpa [Z00] using hne)
  · exact Z2h hg (.inl rfl) rfl (Z2u _)
def formP (S : St) (c : List PV) (b : List UInt8) : EX → EC → St → Prop := fun x e' st' => x = .exit 1 ∧ ∃ v', e' = .put 3 v' .nil ∧ AccT 1 st' v' (Z00 b)
theorem form_loop (k n : Int) (s : List UInt8) (p : PV) (hs : s.length ≤ 1000) : ∀ (rest pre : List UInt8) (e : EC) (st : St) (v : PV), s = pre ++ rest → AccT 1 st v (Z00 (2 :: esc pre)) → st.get 0 = some (.var [.int .i64 k, .int .i64 n, .str s, p]) → Z15 v ≠ some 0 → e.get 1 = some (.ptr 0 0) → e.get 3 = some v → e.get 4 = some (.int .i64 pre.length) →
    V T (PE (formP st [] (2 :: esc s))) [.code (.loop Z2b)] .normal e st := by
  intro rest
  induction rest with
  | nil =>
    intro pre e st v hsp hA hg0 htk h1 h3 h4
    have hlt : decide ((pre.length : Int) < s.length) = false := decide_eq_false (by subst hsp; simp)
    have hps : pre = s := by rw [hsp]; simp
    have out : ∀ (fr : List Fr) (x : EX) (e' : EC), adv 200 fr x = ([], .exit 1) → e'.get 3 = some v → V T (PE (formP st [] (2 :: esc s))) fr x e' st := fun fr x e' hadv g3 =>
      Z0d (.put 3 v .nil) (Z01 g3 Z06) (Z1s hadv ⟨rfl, v, rfl, by rw [← hps]; exact hA⟩)
    refine Z0d (.put 1 _ (.put 3 _ (.put 4 _ .nil))) (Z01 h1 (Z01 h3 (Z01 h4 Z06))) (Z08 ?_)
    repeat' first | refine Z2y hlt rfl rfl ?_ | refine V_O rfl ?_ | ((with_reducible show VO _ _ _ _ _ _ _); first | refine Z0a rfl hg0 rfl ?_ | refine Z02 rfl ?_ | refine Z03 ?_) | refine out _ _ _ rfl rfl
  | cons c rest ih =>
    intro pre e st v hsp hA hg0 htk h1 h3 h4
    have hlt : decide ((pre.length : Int) < s.length) = true := decide_eq_true (by subst hsp; simp; omega)
    have hpl : pre.length + 1 ≤ s.length := by subst hsp; simp
    have hc : s[(pre.length : Int).toNat]? = some c := by subst hsp; simp
    have hw : IntKind.i64.wrap ((pre.length : Int) + 1) = ((pre ++ [c]).length : Int) := by rw [Z0l]; simp; omega
    have hel := esc_le pre
    have hpre : pre.length ≤ s.length := by omega
    obtain ⟨v2, st2, k1, k2, k3⟩ := hA.grow (bytes := 1) (src := Z00 [c]) (by simp [Z00]) (by simp only [Z07, Z0e]; simp; omega)
    rw [← Z0f] at k2
    have hlt0 : 0 < st.next ∨ True := .inr trivial
    have hg2 : st2.get 0 = some (.var [.int .i64 k, .int .i64 n, .str s, p]) := by
      by_cases h0 : 0 < st.next
      · rw [k3.2.2.2 0 h0 htk]; exact hg0
      · exfalso
        rcases hA with ⟨_, h⟩ | ⟨t, g, rfl, hg, hlt⟩
        · simp [Z00] at h
        · omega
    have htk2 : Z15 v2 ≠ some 0 := by
      have h0 : 0 < st.next := by
        rcases hA with ⟨_, h⟩ | ⟨t, g, rfl, hg, hlt⟩
        · simp [Z00] at h
        · omega
      rcases k3.2.2.1 with h | ⟨m, h, hm⟩
      · rw [h]; exact htk
      · rw [h]; intro e; injection e; omega
    by_cases hc0 : c = 0
    · subst hc0
      have he0 : decide (((0 : UInt8).toNat : Int) = 0) = true := rfl
      obtain ⟨v3, st3, j1, j2, j3⟩ := k2.grow (bytes := 1) (src := Z00 [255]) (by simp [Z00]) (by simp only [Z07, Z0e]; simp; omega)
      rw [← Z0f] at j2
      have hesc : 2 :: esc pre ++ [0] ++ [255] = 2 :: esc (pre ++ [0]) := by rw [esc_append]; simp [esc]
      rw [hesc] at j2
      have hn2 : 0 < st2.next := by
        rcases k2 with ⟨_, h⟩ | ⟨t, g, rfl, hg, hlt⟩
        · simp [Z00] at h
        · omega
      have hg3 : st3.get 0 = some (.var [.int .i64 k, .int .i64 n, .str s, p]) := by rw [j3.2.2.2 0 hn2 htk2]; exact hg2
      have htk3 : Z15 v3 ≠ some 0 := by
        rcases j3.2.2.1 with h | ⟨m, h, hm⟩
        · rw [h]; exact htk2
        · rw [h]; intro e; injection e; omega
      have fin : ∀ (fr : List Fr) (x : EX) (e' : EC), adv 200 fr x = ([.code (.loop Z2b)], .normal) → e'.get 1 = some (.ptr 0 0) → e'.get 3 = some v3 → e'.get 4 = some (.int .i64 (IntKind.i64.wrap ((pre.length : Int) + 1))) → V T (PE (formP st [] (2 :: esc s))) fr x e' st3 := fun fr x e' hadv g1 g3 g4 => Z3l hadv (by
        rw [hw] at g4
        exact V_monoP (ih (pre ++ [0]) e' st3 v3 (by rw [hsp]; simp) j2 hg3 htk3 g1 g3 g4) (fun x e2 s2 h => h))
      refine Z0d (.put 1 _ (.put 3 _ (.put 4 _ .nil))) (Z01 h1 (Z01 h3 (Z01 h4 Z06))) (Z08 ?_)
      clear ih
      repeat' first | ((with_reducible show V _ _ _ _ _ _); first | refine Z2d hlt rfl rfl ?_ | refine Z2d he0 rfl rfl ?_ | refine V_O rfl ?_) | ((with_reducible show VO _ _ _ _ _ _ _); first | refine Z0a rfl hg0 rfl ?_ | refine Z0a rfl hg2 rfl ?_ | refine O_chr 0 rfl rfl (by omega) hc ?_ | refine Z09 (src := Z00 [0]) rfl rfl rfl (Z04 _) (by decide) (by decide) k1 ?_ | refine Z09 (src := Z00 [255]) rfl rfl rfl (Z04 _) (by decide) (by decide) j1 ?_ | refine Z02 rfl ?_ | refine Z03 ?_) | refine fin _ _ _ rfl rfl rfl rfl
    · have he0 : decide ((c.toNat : Int) = 0) = false := decide_eq_false (by have := u8_pos hc0; omega)
      have hesc : 2 :: esc pre ++ [c] = 2 :: esc (pre ++ [c]) := by rw [esc_append]; simp [esc, hc0]
      rw [hesc] at k2
      have fin : ∀ (fr : List Fr) (x : EX) (e' : EC), adv 200 fr x = ([.code (.loop Z2b)], .normal) → e'.get 1 = some (.ptr 0 0) → e'.get 3 = some v2 → e'.get 4 = some (.int .i64 (IntKind.i64.wrap ((pre.length : Int) + 1))) → V T (PE (formP st [] (2 :: esc s))) fr x e' st2 := fun fr x e' hadv g1 g3 g4 => Z3l hadv (by
        rw [hw] at g4
        exact V_monoP (ih (pre ++ [c]) e' st2 v2 (by rw [hsp]; simp) k2 hg2 htk2 g1 g3 g4) (fun x e2 s2 h => h))
      refine Z0d (.put 1 _ (.put 3 _ (.put 4 _ .nil))) (Z01 h1 (Z01 h3 (Z01 h4 Z06))) (Z08 ?_)
      clear ih
      repeat' first | ((with_reducible show V _ _ _ _ _ _); first | refine Z2d hlt rfl rfl ?_ | refine Z2y he0 rfl rfl ?_ | refine V_O rfl ?_) | ((with_reducible show VO _ _ _ _ _ _ _); first | refine Z0a rfl hg0 rfl ?_ | refine Z0a rfl hg2 rfl ?_ | refine O_chr c rfl rfl (by omega) hc ?_ | refine Z09 (src := Z00 [c]) rfl rfl rfl (Z04 _) (by decide) (by decide) k1 ?_ | refine Z02 rfl ?_ | refine Z03 ?_) | refine fin _ _ _ rfl rfl rfl rfl
set_option maxHeartbeats 4000000 in
theorem run_form3 {v : Val} {cs : List PV} (hv : VC v cs) (hg : Good v) : T.R (.call n_rambleref03_form [.agg cs] (.sl (Z00 (Z2r v)) false)) := by
  obtain ⟨k, n, s, l⟩ := v
  obtain ⟨hk, hn, hs, p, rfl, hp⟩ := hv.open
  have hsl := may_len hg.1
  have h8 := run_eight3 hn
  have pl8 := (BV.sl (be 8 (Z2k n)) false).pl
  have plp := hp.pl
  have hfull : ∀ (st : St) (c d : List UInt8), d ≠ [] → c.length + d.length ≤ 140737488355328 → Z0w st 1 1 (.sl (Z00 c) true) (Z00 d) = some (.osl st.next 0 0 (Z00 (c ++ d)).length false, st.new (.row 0 1 (Z00 (c ++ d)) true)) := fun st c d hd hl => by
    rw [appendTo_full (by simpa [Z00] using hd) (by simp only [Z07, Z0e]; omega) (Z2x _), Z0f, List.length_append]
  obtain ⟨kb, hkd⟩ : ∃ kb, UInt8.ofNat (k % 256).toNat = kb := ⟨_, rfl⟩
  have hkb := wrap8 k
  rw [hkd] at hkb
  have hkc : ∀ (st : St), (PV.sl [[.int .u8 (IntKind.u8.wrap k)]] true) = PV.sl (Z00 [kb]) true := fun st => by rw [hkb]
  have hf8 := fun st => hfull st [kb] (be 8 (Z2k n)) (by simp [be]) (by simp [be_len])
  have hf3 := fun st => hfull st [kb] [UInt8.ofNat (n % 256).toNat] (by simp) (by simp)
  rcases good_cases hg with ⟨rfl, _⟩ | ⟨rfl, _⟩ | ⟨rfl, _⟩ | ⟨rfl, _⟩ | ⟨rfl, _⟩
  · have hfv : Z2r (.mk 1 n s l) = [kb] ++ be 8 (Z2k n) := by simp only [Z2r, hkd]; simp
    rw [hfv]
    refine Z0c rfl rfl ?_
    repeat' first | refine V_O rfl ?_ | refine Z16 rfl rfl ?_ | ((with_reducible show VO _ _ _ _ _ _ _); first | refine Z0u rfl rfl h8 ?_ | refine Z09 (p := .sl (Z00 [kb]) true) (src := Z00 (be 8 (Z2k n))) (by rw [← hkb]; rfl) rfl rfl (Z04 _) (by decide) (by decide) (hf8 _) ?_ | refine Z02 rfl ?_ | refine Z05 rfl ?_ | refine Z03 ?_)
    exact Z2c (r := .sl (Z00 ([kb] ++ be 8 (Z2k n))) false) rfl rfl (Z2h (g := 0) (sz := 1) (lv := true) (es := Z00 ([kb] ++ be 8 (Z2k n))) rfl (.inl rfl) rfl (Z2u _)) rfl
  · have hfv : Z2r (.mk 3 n s l) = [kb] ++ [UInt8.ofNat (n % 256).toNat] := by simp only [Z2r, hkd]; simp
    rw [hfv]
    refine Z0c rfl rfl ?_
    repeat' first | ((with_reducible show V _ _ _ _ _ _); first | refine V_O rfl ?_ | refine Z16 rfl rfl ?_ | refine Z1e rfl rfl ?_) | ((with_reducible show VO _ _ _ _ _ _ _); first | refine Z09 (p := .sl (Z00 [kb]) true) (src := Z00 [UInt8.ofNat (n % 256).toNat]) (by rw [← hkb]; rfl) rfl (by rw [← wrap8 n]; rfl) (Z04 _) (by decide) (by decide) (hf3 _) ?_ | refine Z02 rfl ?_ | refine Z05 rfl ?_ | refine Z03 ?_)
    exact Z2c (r := .sl (Z00 ([kb] ++ [UInt8.ofNat (n % 256).toNat])) false) rfl rfl (Z2h (g := 0) (sz := 1) (lv := true) (es := Z00 ([kb] ++ [UInt8.ofNat (n % 256).toNat])) rfl (.inl rfl) rfl (Z2u _)) rfl
  · have hfv : Z2r (.mk 6 n s l) = [kb] ++ be 8 (Z2k n) := by simp only [Z2r, hkd]; simp
    rw [hfv]
    refine Z0c rfl rfl ?_
    repeat' first | ((with_reducible show V _ _ _ _ _ _); first | refine V_O rfl ?_ | refine Z16 rfl rfl ?_ | refine Z1e rfl rfl ?_) | ((with_reducible show VO _ _ _ _ _ _ _); first | refine Z0u rfl rfl h8 ?_ | refine Z09 (p := .sl (Z00 [kb]) true) (src := Z00 (be 8 (Z2k n))) (by rw [← hkb]; rfl) rfl rfl (Z04 _) (by decide) (by decide) (hf8 _) ?_ | refine Z02 rfl ?_ | refine Z05 rfl ?_ | refine Z03 ?_)
    exact Z2c (r := .sl (Z00 ([kb] ++ be 8 (Z2k n))) false) rfl rfl (Z2h (g := 0) (sz := 1) (lv := true) (es := Z00 ([kb] ++ be 8 (Z2k n))) rfl (.inl rfl) rfl (Z2u _)) rfl
  · have hfv : Z2r (.mk 7 n s l) = [kb] ++ be 8 (Z2k n) := by simp only [Z2r, hkd]; simp
    rw [hfv]
    refine Z0c rfl rfl ?_
    repeat' first | ((with_reducible show V _ _ _ _ _ _); first | refine V_O rfl ?_ | refine Z16 rfl rfl ?_ | refine Z1e rfl rfl ?_) | ((with_reducible show VO _ _ _ _ _ _ _); first | refine Z0u rfl rfl h8 ?_ | refine Z09 (p := .sl (Z00 [kb]) true) (src := Z00 (be 8 (Z2k n))) (by rw [← hkb]; rfl) rfl rfl (Z04 _) (by decide) (by decide) (hf8 _) ?_ | refine Z02 rfl ?_ | refine Z05 rfl ?_ | refine Z03 ?_)
    exact Z2c (r := .sl (Z00 ([kb] ++ be 8 (Z2k n))) false) rfl rfl (Z2h (g := 0) (sz := 1) (lv := true) (es := Z00 ([kb] ++ be 8 (Z2k n))) rfl (.inl rfl) rfl (Z2u _)) rfl
  · have hfv : Z2r (.mk 2 n s l) = 2 :: esc s ++ [0, 1] := by simp only [Z2r]; rfl
    have hel := esc_le s
    have hloop := fun e st v hA hg0 htk h1 h3 h4 => form_loop 2 n s p (by omega) s [] e st v rfl hA hg0 htk h1 h3 h4
    rw [hfv]
    refine Z0c rfl rfl ?_
    repeat' first | refine V_O rfl ?_ | refine Z1e rfl rfl ?_ | ((with_reducible show VO _ _ _ _ _ _ _); first | refine Z05 rfl ?_ | refine Z02 rfl ?_ | refine Z03 ?_)
    refine Z4c rfl (hloop _ _ (.osl 1 0 0 1 false) (.inr ⟨1, 0, rfl, rfl, Nat.le_of_ble_eq_true rfl⟩) rfl (by simp [Z15]) rfl rfl rfl) ?_
    rintro x e' st' ⟨rfl, v', rfl, hA⟩
    obtain ⟨v3, st3, j1, j2, j3⟩ := hA.grow (bytes := 1) (src := Z00 [0, 1]) (by simp [Z00]) (by simp only [Z07, Z0e]; simp; omega)
    rw [← Z0f] at j2
    repeat' first | refine V_O rfl ?_ | ((with_reducible show VO _ _ _ _ _ _ _); first | refine Z09 (src := Z00 [0, 1]) rfl rfl rfl (Z04 _) (by decide) (by decide) j1 ?_ | refine Z02 rfl ?_ | refine Z03 ?_)
    exact Z2c rfl rfl (acc_fin j2 (by simp)) rfl
end Go.Proofs.YtgdjnlopdpjnaaaGreatDoor
set_option linter.unusedVariables false
set_option linter.unusedSimpArgs false
namespace Go.Proofs.YtgdjnlopdpjnaaaGreatDoor
open Go Go.AM Go.RowKit
theorem keyR_21 {v : Val} {l : List Val} (b : List UInt8) (hm : Z21 8 v = true) (h : v.kind = 4 ∨ v.kind = 5) : (keyR (v :: l)).map (b ++ ·) = .error 21 := by
  simp only [keyR, hm, if_true]
  rw [if_pos h]
  rfl
def key3P (l : List Val) : EX → EC → St → Prop := fun x e' st' => (x = .exit 0 ∧ ∃ v' b', keyR l = .ok b' ∧ e' = .put 4 v' .nil ∧ AccT 1 st' v' (Z00 b')) ∨ (∃ err, x = .ret ∧ keyR l = .error err ∧ e' = .put 2 .nilSl (.put 3 (.int .i64 err) .nil))
theorem key3_loop (l : List Val) (p : PV) (hp : LC l p) (hln : l.length ≤ 1073741824) : ∀ (rest pre : List Val) (b : List UInt8) (e : EC) (st : St) (v : PV), l = pre ++ rest → keyR l = (keyR rest).map (b ++ ·) → b.length ≤ 259 * pre.length → AccT 1 st v (Z00 b) → e.get 0 = some p → e.get 4 = some v → e.get 5 = some (.int .i64 pre.length) →
    V T (PE (key3P l)) [.code (.loop Z3p)] .normal e st := by
  obtain ⟨lp1, lp2, lp3⟩ := hp.len
  intro rest
  induction rest with
  | nil =>
    intro pre b e st v hl hk hb hA h0 h4 h5
    have hlt : decide ((pre.length : Int) < l.length) = false := decide_eq_false (by subst hl; simp)
    have out : ∀ (fr : List Fr) (x : EX) (e' : EC), adv 200 fr x = ([], .exit 0) → e'.get 4 = some v → V T (PE (key3P l)) fr x e' st := fun fr x e' hadv g4 =>
      Z0d (.put 4 v .nil) (Z01 g4 Z06) (Z1s hadv (.inl ⟨rfl, v, b, by rw [hk]; simp [keyR, Except.map], rfl, hA⟩))
    refine Z0d (.put 0 p (.put 4 _ (.put 5 _ .nil))) (Z01 h0 (Z01 h4 (Z01 h5 Z06))) (Z08 ?_)
    repeat' first | refine Z2y hlt rfl rfl ?_ | refine V_O rfl ?_ | ((with_reducible show VO _ _ _ _ _ _ _); first | refine Z0p rfl lp1 lp2 ?_ | refine Z02 rfl ?_ | refine Z03 ?_) | refine out _ _ _ rfl rfl
  | cons v0 rest ih =>
    intro pre b e st v hl hk hb hA h0 h4 h5
    have hlt : decide ((pre.length : Int) < l.length) = true := decide_eq_true (by subst hl; simp; omega)
    have hpl : pre.length + 1 ≤ l.length := by subst hl; simp
    have hbl : b.length + 600 ≤ 140737488355328 := by omega
    have hv0 : l[pre.length]? = some v0 := by subst hl; simp
    obtain ⟨cs, hat, vc⟩ := hp.at hv0
    have hchk := run_Check2 vc
    have hform := fun hg => run_form3 (v := v0) vc hg
    obtain ⟨k, n, s, ll⟩ := v0
    obtain ⟨hki, hni, hsi, q, rfl, hq⟩ := vc.open
    have plq := hq.pl
    have ret : ∀ (fr : List Fr) (x : EX) (e' : EC) (st' : St) (err : Int), keyR l = .error err → adv 200 fr x = ([], .ret) → e'.get 2 = some .nilSl → e'.get 3 = some (.int .i64 err) → V T (PE (key3P l)) fr x e' st' := fun fr x e' st' err hke hadv g2 g3 =>
      Z0d (.put 2 _ (.put 3 _ .nil)) (Z01 g2 (Z01 g3 Z06)) (Z1s hadv (.inr ⟨err, rfl, hke, rfl⟩))
    by_cases hm : Z21 8 (.mk k n s ll) = true
    · have hc0 : chk (.mk k n s ll) = 0 := by simp [chk, hm]
      rw [hc0] at hchk
      by_cases h45 : k = 4 ∨ k = 5
      · have hke : keyR l = .error 21 := by rw [hk]; exact keyR_21 b hm h45
        clear ih
        refine Z0d (.put 0 p (.put 4 _ (.put 5 _ .nil))) (Z01 h0 (Z01 h4 (Z01 h5 Z06))) (Z08 ?_)
        rcases h45 with rfl | rfl
        · repeat' first | ((with_reducible show V _ _ _ _ _ _); first | refine Z2d hlt rfl rfl ?_ | refine V_O rfl ?_ | refine Z16 rfl rfl ?_ | refine Z1e rfl rfl ?_) | ((with_reducible show VO _ _ _ _ _ _ _); first | refine Z0p rfl lp1 lp2 ?_ | refine Z2q rfl rfl hat ?_ | refine Z0u rfl rfl hchk ?_ | refine Z02 rfl ?_ | refine Z03 ?_ | refine Z1j rfl rfl ?_) | refine ret _ _ _ _ _ hke rfl rfl rfl
        · repeat' first | ((with_reducible show V _ _ _ _ _ _); first | refine Z2d hlt rfl rfl ?_ | refine V_O rfl ?_ | refine Z16 rfl rfl ?_ | refine Z1e rfl rfl ?_) | ((with_reducible show VO _ _ _ _ _ _ _); first | refine Z0p rfl lp1 lp2 ?_ | refine Z2q rfl rfl hat ?_ | refine Z0u rfl rfl hchk ?_ | refine Z02 rfl ?_ | refine Z03 ?_ | refine Z10 rfl ?_) | refine ret _ _ _ _ _ hke rfl rfl rfl
      · have hg : Good (.mk k n s ll) := ⟨hm, fun e => h45 (.inl e), fun e => h45 (.inr e)⟩
        have hcall := hform hg
        have hfl := form_len hm
        have hwi : IntKind.i64.wrap ((pre.length : Int) + 1) = ((pre ++ [Val.mk k n s ll]).length : Int) := by rw [Z0l]; simp; omega
        have h4f : decide (k = 4) = false := decide_eq_false (fun e => h45 (.inl e))
        have h5f : decide (k = 5) = false := decide_eq_false (fun e => h45 (.inr e))
        obtain ⟨v2, st2, k1, k2, k3⟩ := hA.grow (bytes := 1) (src := Z00 (Z2r (.mk k n s ll))) (by simpa [Z00] using form_ne _) (by simp only [Z07, Z0e]; omega)
        rw [← Z0f] at k2
        have fin : ∀ (fr : List Fr) (x : EX) (e' : EC), adv 200 fr x = ([.code (.loop Z3p)], .normal) → e'.get 0 = some p → e'.get 4 = some v2 → e'.get 5 = some (.int .i64 (IntKind.i64.wrap ((pre.length : Int) + 1))) → V T (PE (key3P l)) fr x e' st2 := fun fr x e' hadv g0 g4 g5 => Z3l hadv (by
          rw [hwi] at g5
          refine ih (pre ++ [Val.mk k n s ll]) _ e' st2 v2 (by rw [hl]; simp) ?_ ?_ k2 g0 g4 g5
          · rw [hk]
            exact keyR_ok b _ rfl hm (fun e => h45 (.inl e)) (fun e => h45 (.inr e))
          · simp; omega)
        clear ih hform
        generalize Z2r (.mk k n s ll) = F at hcall k1 k2
        have plF := (BV.sl F false).pl
        refine Z0d (.put 0 p (.put 4 _ (.put 5 _ .nil))) (Z01 h0 (Z01 h4 (Z01 h5 Z06))) (Z08 ?_)
        repeat' first | ((with_reducible show V _ _ _ _ _ _); first | refine Z2d hlt rfl rfl ?_ | refine Z2y h5f rfl rfl ?_ | refine V_O rfl ?_ | refine Z16 rfl rfl ?_ | refine Z1e rfl rfl ?_) | ((with_reducible show VO _ _ _ _ _ _ _); first | refine Z0p rfl lp1 lp2 ?_ | refine Z2q rfl rfl hat ?_ | refine Z0u rfl rfl hchk ?_ | refine Z0u rfl rfl hcall ?_ | refine Z09 (src := Z00 F) rfl rfl rfl (Z04 _) (by decide) (by decide) k1 ?_ | refine Z02 rfl ?_ | refine Z03 ?_ | refine Z10 rfl ?_ | refine Z1j rfl rfl ?_ | refine O_gS rfl (fun _ => ?_) (fun _ => ?_)) | refine fin _ _ _ rfl rfl rfl rfl
        all_goals (exfalso; clear fin ret; simp_all; done)
    · have hm' : Z21 8 (.mk k n s ll) = false := by simpa using hm
      have hc0 : chk (.mk k n s ll) = 20 := by simp [chk, hm']
      rw [hc0] at hchk
      have hke : keyR l = .error 20 := by rw [hk]; simp [keyR, hm', Except.map]
      clear ih
      refine Z0d (.put 0 p (.put 4 _ (.put 5 _ .nil))) (Z01 h0 (Z01 h4 (Z01 h5 Z06))) (Z08 ?_)
      repeat' first | ((with_reducible show V _ _ _ _ _ _); first | refine Z2d hlt rfl rfl ?_ | refine V_O rfl ?_ | refine Z16 rfl rfl ?_) | ((with_reducible show VO _ _ _ _ _ _ _); first | refine Z0p rfl lp1 lp2 ?_ | refine Z2q rfl rfl hat ?_ | refine Z0u rfl rfl hchk ?_ | refine Z02 rfl ?_ | refine Z03 ?_) | refine ret _ _ _ _ _ hke rfl rfl rfl
theorem run_Key3 (l : List Val) (p : PV) (hp : LC l p) (hln : l.length ≤ 1073741824) : ∃ q, BV q (keyB l) ∧ T.R (.call n_rambleref03_Key [p] (.tuple [q, .int .i64 (keyE l)])) := by
  have hl := fun e h0 h4 h5 => key3_loop l p hp hln l [] [] e emptySt .nilSl rfl (by cases keyR l <;> rfl) (by simp) (.inl ⟨rfl, rfl⟩) h0 h4 h5
  have key : ∃ r, T.R (.call n_rambleref03_Key [p] r) ∧ ∃ q, BV q (keyB l) ∧ r = .tuple [q, .int .i64 (keyE l)] := by
    refine Z24 rfl rfl ?_
    repeat' first | refine Z4c rfl (hl _ rfl rfl rfl) ?_ | refine V_O rfl ?_ | refine Z02 rfl ?_ | refine Z03 ?_
    rintro x e' st' (⟨rfl, v', b', hk, rfl, hA⟩ | ⟨err, rfl, hk, rfl⟩)
    · have hb : keyB l = b' := by simp [keyB, hk]
      have he : keyE l = 0 := by simp [keyE, hk]
      rw [hb, he]
      by_cases hbn : b' = []
      · subst hbn
        rcases hA with ⟨rfl, _⟩ | ⟨t, g, rfl, hg, hlt⟩
        · repeat' first | refine V_O rfl ?_ | refine Z1t rfl rfl ?_ | refine Z02 rfl ?_ | refine Z03 ?_
          exact ⟨_, .nil, rfl⟩
        · repeat' first | refine Z2c (r := .tuple [.sl (Z00 []) false, .int .i64 0]) rfl rfl (view_tuple (Z3g (Z2h hg (.inl rfl) rfl (Z2u _)) (Z3g (.int _ _) viewL_nil))) ?_ | refine V_O rfl ?_ | refine Z02 rfl ?_ | refine Z03 ?_
          exact ⟨_, .sl _ _, rfl⟩
      · have hvw := acc_fin hA hbn
        repeat' first | refine Z2c (r := .tuple [.sl (Z00 b') false, .int .i64 0]) rfl rfl (view_tuple (Z3g hvw (Z3g (.int _ _) viewL_nil))) ?_ | refine V_O rfl ?_ | refine Z02 rfl ?_ | refine Z03 ?_
        exact ⟨_, .sl _ _, rfl⟩
    · have hb : keyB l = [] := by simp [keyB, hk]
      have he : keyE l = err := by simp [keyE, hk]
      rw [hb, he]
      exact Z2c (r := .tuple [.nilSl, .int .i64 err]) rfl rfl (Pl.view (by (repeat' (first | exact Pl.int _ _ | exact Pl.bool _ | exact Pl.str _ | exact Pl.nilSl | exact Z1d | refine Z0m ?_ ?_ | refine Pl.tuple _ ?_ | refine Pl.agg _ ?_ | refine Pl.func _ _ ?_ | assumption | refine Pl.iptr _ _ ?_ | exact Z1h | refine Z11 ?_ ?_ | refine Pl.sl _ _ ?_)); first | done | fail)) ⟨_, .nil, rfl⟩
  obtain ⟨r, h1, q, h2, rfl⟩ := key
  exact ⟨q, h2, h1⟩
end Go.Proofs.YtgdjnlopdpjnaaaGreatDoor
set_option linter.unusedVariables false
set_option linter.unusedSimpArgs false
namespace Go.Proofs.YtgdjnlopdpjnaaaGreatDoor
open Go Go.AM Go.RowKit
end Go.Proofs.YtgdjnlopdpjnaaaGreatDoor
set_option linter.unusedVariables false
set_option linter.unusedSimpArgs false
namespace Go.Proofs.YtgdjnlopdpjnaaaGreatDoor
open Go Go.AM Go.RowKit
end Go.Proofs.YtgdjnlopdpjnaaaGreatDoor
