/- codec.Key: the key of any values. -/
import Derived.Test.YtfdebgebnkbagaaDoorValJ
import Derived.Test.YtfdebgebnkbagaaDoorCodB
import Derived.Test.YtfdebgebnkbagaaDoorCodD
import Derived.Test.YtfdebgebnkbagaaDoorAmZ
set_option linter.unusedVariables false
set_option linter.unusedSimpArgs false
namespace Go.Proofs.YtfdebgebnkbagaaDoor
open Go Go.AM Go.RowKit
def formV : Val → List UInt8
  | .mk k n s l => UInt8.ofNat (k % 256).toNat :: (if k = 1 ∨ k = 6 ∨ k = 7 then be 8 (ord64 n) else if k = 3 then [UInt8.ofNat (n % 256).toNat] else esc s ++ [0, 1])
def keyR : List Val → Except Int (List UInt8)
  | [] => .ok []
  | v :: l => if mayV 8 v then (if v.kind = 4 ∨ v.kind = 5 then .error 21 else (keyR l).map (formV v ++ ·)) else .error 20
theorem keyR_ok {v : Val} {l : List Val} (b bb : List UInt8) (hbb : bb = b ++ formV v) (hm : mayV 8 v = true) (h4 : v.kind ≠ 4) (h5 : v.kind ≠ 5) : (keyR (v :: l)).map (b ++ ·) = (keyR l).map (bb ++ ·) := by
  subst hbb
  simp only [keyR, hm, if_true, h4, h5, or_self, if_false]
  cases keyR l <;> simp [Except.map]
theorem may_kind {f : Nat} {v : Val} (h : mayV f v = true) : v.kind = 1 ∨ v.kind = 3 ∨ v.kind = 6 ∨ v.kind = 7 ∨ v.kind = 2 ∨ v.kind = 4 ∨ v.kind = 5 := by
  obtain ⟨k, n, s, l⟩ := v
  cases f with
  | zero => simp [mayV] at h
  | succ f =>
    simp only [mayV] at h
    simp only [Val.kind]
    repeat' (split at h; · simp [*])
    cases h
theorem may_str {f : Nat} {k n : Int} {s : List UInt8} {l : List Val} (h : mayV f (.mk k n s l) = true) (hk : k ≠ 2) : s = [] := by
  cases f with
  | zero => simp [mayV] at h
  | succ f =>
    simp only [mayV] at h
    repeat' (split at h; · first | (exact absurd ‹_› hk) | (simp at h; simp [h]))
    cases h
theorem may_len {f : Nat} {k n : Int} {s : List UInt8} {l : List Val} (h : mayV f (.mk k n s l) = true) : s.length ≤ 128 := by
  by_cases hk : k = 2
  · subst hk
    cases f with
    | zero => simp [mayV] at h
    | succ f => simp [mayV] at h; omega
  · rw [may_str h hk]; simp
theorem esc_le (s : List UInt8) : (esc s).length ≤ 2 * s.length := by
  rw [esc_length]
  have : s.count 0 ≤ s.length := List.count_le_length
  omega
theorem form_len {v : Val} (h : mayV 8 v = true) : (formV v).length ≤ 259 := by
  obtain ⟨k, n, s, l⟩ := v
  have h1 := may_len h
  have h2 := esc_le s
  simp only [formV]
  split
  · simp [be_len]
  · split
    · simp
    · simp; omega
theorem wrap8 (n : Int) : [[PV.int .u8 (IntKind.u8.wrap n)]] = byteCells [UInt8.ofNat (n % 256).toNat] := by
  rw [wrap_u8]
  have h1 : n % 256 = (((n % 256).toNat : Nat) : Int) := by omega
  have h2 : (n % 256).toNat < 256 := by omega
  simp [byteCells]
  omega
def KS (g : Nat) (b : List UInt8) : St := ⟨0, 2, [(1, .row g 1 (byteCells b) true)]⟩
def AccK (st : St) (v : PV) (b : List UInt8) : Prop := (v = .nilSl ∧ b = [] ∧ st = emptySt) ∨ ∃ g, v = .osl 1 g 0 (byteCells b).length false ∧ st = KS g b
def keyP (l : List Val) : EX → EC → St → Prop := fun x e' st' => (x = .exit 0 ∧ ∃ v' b', keyR l = .ok b' ∧ e' = .put 4 v' .nil ∧ AccK st' v' b') ∨ (∃ err, x = .ret ∧ keyR l = .error err ∧ e' = .put 2 .nilSl (.put 3 (.int .i64 err) .nil))
set_option maxHeartbeats 4000000 in
theorem key_loop (l : List Val) (p : PV) (hp : LC l p) (hln : l.length ≤ 1073741824) : ∀ (rest pre : List Val) (b : List UInt8) (e : EC) (st : St) (v : PV), l = pre ++ rest → keyR l = (keyR rest).map (b ++ ·) → b.length ≤ 259 * pre.length → AccK st v b → e.get 4 = some v → e.get 9 = some p → e.get 10 = some (.int .i64 l.length) → e.get 11 = some (.int .i64 pre.length) →
    V T (PE (keyP l)) [.code (.loop lp_codec_Key_0)] .normal e st := by
  obtain ⟨lp1, lp2, lp3⟩ := hp.len
  intro rest
  induction rest with
  | nil =>
    intro pre b e st v hl hk hb hA h4 h9 h10 h11
    have hlt : decide ((pre.length : Int) < l.length) = false := decide_eq_false (by subst hl; simp)
    have out : ∀ (fr : List Fr) (x : EX) (e' : EC), adv 200 fr x = ([], .exit 0) → e'.get 4 = some v → V T (PE (keyP l)) fr x e' st := fun fr x e' hadv g4 =>
      V_less (.put 4 v .nil) (less_put g4 less_nil) (V_endP hadv (.inl ⟨rfl, v, b, by rw [hk]; simp [keyR, Except.map], rfl, hA⟩))
    refine V_less (.put 4 _ (.put 9 p (.put 10 _ (.put 11 _ .nil)))) (less_put h4 (less_put h9 (less_put h10 (less_put h11 less_nil)))) (V_unroll ?_)
    repeat' first | refine V_cH hlt rfl rfl ?_ | refine out _ _ _ rfl rfl | refine V_O rfl ?_ | refine O_step rfl ?_ | refine O_nil' ?_ | refine V_cT rfl rfl ?_ | refine V_cF rfl rfl ?_ | refine V_cEq rfl rfl ?_ | refine V_cNe rfl rfl ?_ | refine V_cB rfl rfl (fun _ => ?_) (fun _ => ?_) | refine O_gT' rfl ?_ | refine O_gU' rfl ?_ | refine O_gF' rfl rfl ?_ | refine O_gEq rfl ?_ | refine O_gNe rfl ?_ | refine O_gS rfl (fun _ => ?_) (fun _ => ?_) | refine V_fA rfl rfl ?_ | refine V_fAN rfl rfl ?_ | refine V_D rfl ?_ | refine D_step rfl ?_ | refine D_nil' ?_ | refine D_gT' rfl ?_ | refine D_gU' rfl ?_ | refine D_gF' rfl rfl ?_ | refine D_gS rfl (fun _ => ?_) (fun _ => ?_)
  | cons v0 rest ih =>
    intro pre b e st v hl hk hb hA h4 h9 h10 h11
    have hlt : decide ((pre.length : Int) < l.length) = true := decide_eq_true (by subst hl; simp; omega)
    have hpl : pre.length + 1 ≤ l.length := by subst hl; simp
    have hbl : b.length + 600 ≤ 140737488355328 := by omega
    have hv0 : l[pre.length]? = some v0 := by subst hl; simp
    obtain ⟨cs, hat, vc⟩ := hp.at hv0
    have hchk := run_Check vc
    obtain ⟨k, n, s, ll⟩ := v0
    obtain ⟨hki, hni, hsi, q, rfl, hq⟩ := vc.open
    have plq := hq.pl
    have ret : ∀ (fr : List Fr) (x : EX) (e' : EC) (st' : St) (err : Int), keyR l = .error err → adv 200 fr x = ([], .ret) → e'.get 2 = some .nilSl → e'.get 3 = some (.int .i64 err) → V T (PE (keyP l)) fr x e' st' := fun fr x e' st' err hke hadv g2 g3 =>
      V_less (.put 2 _ (.put 3 _ .nil)) (less_put g2 (less_put g3 less_nil)) (V_endP hadv (.inr ⟨err, rfl, hke, rfl⟩))
    by_cases hm : mayV 8 (.mk k n s ll) = true
    · have hc0 : chk (.mk k n s ll) = 0 := by simp [chk, hm]
      rw [hc0] at hchk
      have hsl := may_len hm
      have hwi : IntKind.i64.wrap ((pre.length : Int) + 1) = ((pre ++ [Val.mk k n s ll]).length : Int) := by rw [wrap_i64]; simp; omega
      have hfl := form_len hm
      have fin0 : k ≠ 4 → k ≠ 5 → ∀ (fr : List Fr) (x : EX) (e' : EC) (st' : St) (g' : Nat) (bb : List UInt8), bb = b ++ formV (.mk k n s ll) → adv 200 fr x = ([.code (.loop lp_codec_Key_0)], .normal) → e'.get 4 = some (.osl 1 g' 0 (byteCells bb).length false) → e'.get 9 = some p → e'.get 10 = some (.int .i64 l.length) → e'.get 11 = some (.int .i64 (IntKind.i64.wrap ((pre.length : Int) + 1))) → st'.base = 0 → Nat.ble 2 st'.next = true → st'.get 1 = some (.row g' 1 (byteCells bb) true) → V T (PE (keyP l)) fr x e' st' := fun hk4 hk5 fr x e' st' g' bb hbb hadv g4 g9 g10 g11 hb0 hn2 hg1 => V_adv hadv (by
        rw [hwi] at g11
        refine V_forget [(4, .osl 1 g' 0 (byteCells bb).length false), (9, p), (10, .int .i64 l.length), (11, .int .i64 ((pre ++ [Val.mk k n s ll]).length : Int))] (KS g' bb)
          (fg_cons g4 (.osl _ _ _ _ _ (by show 1 < 2; omega)) (fg_cons g9 hp.pl.bel (fg_cons g10 (.int _ _) (fg_cons g11 (.int _ _) fg_nil)))) (by rw [hb0]; rfl) ⟨Nat.zero_le _, Nat.le_of_ble_eq_true hn2⟩ (fun x hx => by
            simp only [KS, List.mem_cons, List.not_mem_nil, or_false] at hx
            subst hx
            exact ⟨by show 1 < 2; omega, fun cs hcs c hc => (pl_bytes bb cs hcs c hc).bel, hg1⟩) ?_
        refine ih (pre ++ [Val.mk k n s ll]) bb _ _ _ (by rw [hl]; simp) ?_ ?_ (.inr ⟨g', rfl, rfl⟩) rfl rfl rfl rfl
        · rw [hk]
          exact keyR_ok b bb hbb hm hk4 hk5
        · rw [hbb]; simp; omega)
      clear ih
      have h8 := run_eight hni
      have hone8 : ((be 8 (ord64 n)).map byPV).all PV.one = true := by simp [byPV, PV.one]
      have hlen8 : ((be 8 (ord64 n)).map byPV).length = 8 := by simp [be_len]
      have hz8 : [PV.int .u8 0, PV.int .u8 0, PV.int .u8 0, PV.int .u8 0, PV.int .u8 0, PV.int .u8 0, PV.int .u8 0, PV.int .u8 0].length = ((be 8 (ord64 n)).map byPV).length := by rw [hlen8]; rfl
      have hne8 : be 8 (ord64 n) ≠ [] := by simp [be]
      have hvsl : ∀ (st : St) (t : Nat), st.get t = some (.var ((be 8 (ord64 n)).map byPV)) → srcOf st (.vsl t 0 1 8) = some (byteCells (be 8 (ord64 n))) := fun st t hg => by
        have := elems_vslB (look := st.get) (t := t) (s := be 8 (ord64 n)) hg
        rw [be_len] at this
        exact this
      have hpl8 : ∀ c ∈ (be 8 (ord64 n)).map byPV, Pl c := fun c hc => by
        obtain ⟨b, _, rfl⟩ := List.mem_map.1 hc
        exact .int _ _
      obtain ⟨kb, hkd⟩ : ∃ kb, UInt8.ofNat (k % 256).toNat = kb := ⟨_, rfl⟩
      have hkb := wrap8 k
      rw [hkd] at hkb
      rcases hA with ⟨rfl, rfl, rfl⟩ | ⟨g, rfl, rfl⟩
      ·
        have hroom1 : ([] : List UInt8).length + ([kb] : List UInt8).length ≤ roomLen := by simp [roomLen] at hbl ⊢; try omega
        have hroom3 : ∀ c : List UInt8, c.length ≤ 258 → ([kb] : List UInt8).length + c.length ≤ roomLen := fun c hc => by simp [roomLen]; omega
        have hroom4 : ∀ c : List UInt8, c.length ≤ 256 → (([kb] : List UInt8) ++ c).length + ([0, 1] : List UInt8).length ≤ roomLen := fun c hc => by simp [roomLen] at hbl ⊢; try omega
        rcases may_kind hm with hk1 | hk3 | hk6 | hk7 | hk2 | hk4 | hk5
        · replace hk1 : k = 1 := hk1
          subst hk1
          have fin := fin0 (by decide) (by decide)
          have hform : [kb] ++ be 8 (ord64 n) = [] ++ formV (.mk 1 n s ll) := by simp only [formV, hkd]; simp
          refine V_less (.put 4 _ (.put 9 p (.put 10 _ (.put 11 _ .nil)))) (less_put h4 (less_put h9 (less_put h10 (less_put h11 less_nil)))) (V_unroll ?_)
          repeat' first | refine O_storeV rfl rfl vc.one rfl rfl rfl ?_ | refine O_at rfl rfl hat ?_ | refine V_cHT hlt rfl rfl ?_ | refine O_cA rfl rfl hchk ?_ | refine O_append (src := byteCells [kb]) rfl rfl (by rw [← hkb]; rfl) (okEls_bytes _) (by decide) (by decide) (appN (by simp) (by simp [roomLen])) ?_ | refine O_cA rfl rfl h8 ?_ | refine O_storeV rfl rfl hone8 hlen8 rfl (storeAt_whole rfl hz8) ?_ | refine O_append (src := byteCells (be 8 (ord64 n))) rfl rfl (hvsl _ _ rfl) (okEls_bytes _) (by decide) (by decide) (appB rfl hne8 (hroom3 _ (by simp [be_len]))) ?_ | refine O_step rfl ?_ | refine O_stepL rfl ?_ | refine fin _ _ _ _ _ _ hform rfl rfl rfl rfl rfl rfl rfl rfl | refine V_O rfl ?_ | refine O_step rfl ?_ | refine O_nil' ?_ | refine V_cT rfl rfl ?_ | refine V_cF rfl rfl ?_ | refine V_cEq rfl rfl ?_ | refine V_cNe rfl rfl ?_ | refine V_cB rfl rfl (fun _ => ?_) (fun _ => ?_) | refine O_gT' rfl ?_ | refine O_gU' rfl ?_ | refine O_gF' rfl rfl ?_ | refine O_gEq rfl ?_ | refine O_gNe rfl ?_ | refine O_gS rfl (fun _ => ?_) (fun _ => ?_) | refine V_fA rfl rfl ?_ | refine V_fAN rfl rfl ?_ | refine V_D rfl ?_ | refine D_step rfl ?_ | refine D_nil' ?_ | refine D_gT' rfl ?_ | refine D_gU' rfl ?_ | refine D_gF' rfl rfl ?_ | refine D_gS rfl (fun _ => ?_) (fun _ => ?_)
        · replace hk3 : k = 3 := hk3
          subst hk3
          have fin := fin0 (by decide) (by decide)
          have hform : [kb] ++ [UInt8.ofNat (n % 256).toNat] = [] ++ formV (.mk 3 n s ll) := by simp only [formV, hkd]; simp
          refine V_less (.put 4 _ (.put 9 p (.put 10 _ (.put 11 _ .nil)))) (less_put h4 (less_put h9 (less_put h10 (less_put h11 less_nil)))) (V_unroll ?_)
          repeat' first | refine O_storeV rfl rfl vc.one rfl rfl rfl ?_ | refine O_at rfl rfl hat ?_ | refine V_cHT hlt rfl rfl ?_ | refine O_cA rfl rfl hchk ?_ | refine O_append (src := byteCells [kb]) rfl rfl (by rw [← hkb]; rfl) (okEls_bytes _) (by decide) (by decide) (appN (by simp) (by simp [roomLen])) ?_ | refine O_append (src := byteCells [UInt8.ofNat (n % 256).toNat]) rfl rfl (by rw [← wrap8 n]; rfl) (okEls_bytes _) (by decide) (by decide) (appB rfl (by simp) (hroom3 _ (by simp))) ?_ | refine O_step rfl ?_ | refine O_stepL rfl ?_ | refine fin _ _ _ _ _ _ hform rfl rfl rfl rfl rfl rfl rfl rfl | refine V_O rfl ?_ | refine O_step rfl ?_ | refine O_nil' ?_ | refine V_cT rfl rfl ?_ | refine V_cF rfl rfl ?_ | refine V_cEq rfl rfl ?_ | refine V_cNe rfl rfl ?_ | refine V_cB rfl rfl (fun _ => ?_) (fun _ => ?_) | refine O_gT' rfl ?_ | refine O_gU' rfl ?_ | refine O_gF' rfl rfl ?_ | refine O_gEq rfl ?_ | refine O_gNe rfl ?_ | refine O_gS rfl (fun _ => ?_) (fun _ => ?_) | refine V_fA rfl rfl ?_ | refine V_fAN rfl rfl ?_ | refine V_D rfl ?_ | refine D_step rfl ?_ | refine D_nil' ?_ | refine D_gT' rfl ?_ | refine D_gU' rfl ?_ | refine D_gF' rfl rfl ?_ | refine D_gS rfl (fun _ => ?_) (fun _ => ?_)
        · replace hk6 : k = 6 := hk6
          subst hk6
          have fin := fin0 (by decide) (by decide)
          have hform : [kb] ++ be 8 (ord64 n) = [] ++ formV (.mk 6 n s ll) := by simp only [formV, hkd]; simp
          refine V_less (.put 4 _ (.put 9 p (.put 10 _ (.put 11 _ .nil)))) (less_put h4 (less_put h9 (less_put h10 (less_put h11 less_nil)))) (V_unroll ?_)
          repeat' first | refine O_storeV rfl rfl vc.one rfl rfl rfl ?_ | refine O_at rfl rfl hat ?_ | refine V_cHT hlt rfl rfl ?_ | refine O_cA rfl rfl hchk ?_ | refine O_append (src := byteCells [kb]) rfl rfl (by rw [← hkb]; rfl) (okEls_bytes _) (by decide) (by decide) (appN (by simp) (by simp [roomLen])) ?_ | refine O_cA rfl rfl h8 ?_ | refine O_storeV rfl rfl hone8 hlen8 rfl (storeAt_whole rfl hz8) ?_ | refine O_append (src := byteCells (be 8 (ord64 n))) rfl rfl (hvsl _ _ rfl) (okEls_bytes _) (by decide) (by decide) (appB rfl hne8 (hroom3 _ (by simp [be_len]))) ?_ | refine O_step rfl ?_ | refine O_stepL rfl ?_ | refine fin _ _ _ _ _ _ hform rfl rfl rfl rfl rfl rfl rfl rfl | refine V_O rfl ?_ | refine O_step rfl ?_ | refine O_nil' ?_ | refine V_cT rfl rfl ?_ | refine V_cF rfl rfl ?_ | refine V_cEq rfl rfl ?_ | refine V_cNe rfl rfl ?_ | refine V_cB rfl rfl (fun _ => ?_) (fun _ => ?_) | refine O_gT' rfl ?_ | refine O_gU' rfl ?_ | refine O_gF' rfl rfl ?_ | refine O_gEq rfl ?_ | refine O_gNe rfl ?_ | refine O_gS rfl (fun _ => ?_) (fun _ => ?_) | refine V_fA rfl rfl ?_ | refine V_fAN rfl rfl ?_ | refine V_D rfl ?_ | refine D_step rfl ?_ | refine D_nil' ?_ | refine D_gT' rfl ?_ | refine D_gU' rfl ?_ | refine D_gF' rfl rfl ?_ | refine D_gS rfl (fun _ => ?_) (fun _ => ?_)
        · replace hk7 : k = 7 := hk7
          subst hk7
          have fin := fin0 (by decide) (by decide)
          have hform : [kb] ++ be 8 (ord64 n) = [] ++ formV (.mk 7 n s ll) := by simp only [formV, hkd]; simp
          refine V_less (.put 4 _ (.put 9 p (.put 10 _ (.put 11 _ .nil)))) (less_put h4 (less_put h9 (less_put h10 (less_put h11 less_nil)))) (V_unroll ?_)
          repeat' first | refine O_storeV rfl rfl vc.one rfl rfl rfl ?_ | refine O_at rfl rfl hat ?_ | refine V_cHT hlt rfl rfl ?_ | refine O_cA rfl rfl hchk ?_ | refine O_append (src := byteCells [kb]) rfl rfl (by rw [← hkb]; rfl) (okEls_bytes _) (by decide) (by decide) (appN (by simp) (by simp [roomLen])) ?_ | refine O_cA rfl rfl h8 ?_ | refine O_storeV rfl rfl hone8 hlen8 rfl (storeAt_whole rfl hz8) ?_ | refine O_append (src := byteCells (be 8 (ord64 n))) rfl rfl (hvsl _ _ rfl) (okEls_bytes _) (by decide) (by decide) (appB rfl hne8 (hroom3 _ (by simp [be_len]))) ?_ | refine O_step rfl ?_ | refine O_stepL rfl ?_ | refine fin _ _ _ _ _ _ hform rfl rfl rfl rfl rfl rfl rfl rfl | refine V_O rfl ?_ | refine O_step rfl ?_ | refine O_nil' ?_ | refine V_cT rfl rfl ?_ | refine V_cF rfl rfl ?_ | refine V_cEq rfl rfl ?_ | refine V_cNe rfl rfl ?_ | refine V_cB rfl rfl (fun _ => ?_) (fun _ => ?_) | refine O_gT' rfl ?_ | refine O_gU' rfl ?_ | refine O_gF' rfl rfl ?_ | refine O_gEq rfl ?_ | refine O_gNe rfl ?_ | refine O_gS rfl (fun _ => ?_) (fun _ => ?_) | refine V_fA rfl rfl ?_ | refine V_fAN rfl rfl ?_ | refine V_D rfl ?_ | refine D_step rfl ?_ | refine D_nil' ?_ | refine D_gT' rfl ?_ | refine D_gU' rfl ?_ | refine D_gF' rfl rfl ?_ | refine D_gS rfl (fun _ => ?_) (fun _ => ?_)
        · replace hk2 : k = 2 := hk2
          subst hk2
          have fin := fin0 (by decide) (by decide)
          obtain ⟨qe, he1, he2⟩ := run_Replace s (by omega) false true true
          have ple := he2.pl
          have hel := esc_le s
          have hform : ([kb] ++ esc s) ++ [0, 1] = [] ++ formV (.mk 2 n s ll) := by simp only [formV, hkd]; simp
          have hpls := (BV.sl s false).pl
          by_cases hes : esc s = []
          · rw [hes] at he2 hform
            refine V_less (.put 4 _ (.put 9 p (.put 10 _ (.put 11 _ .nil)))) (less_put h4 (less_put h9 (less_put h10 (less_put h11 less_nil)))) (V_unroll ?_)
            repeat' first | refine O_storeV rfl rfl vc.one rfl rfl rfl ?_ | refine O_at rfl rfl hat ?_ | refine V_cHT hlt rfl rfl ?_ | refine O_cA rfl rfl hchk ?_ | refine O_append (src := byteCells [kb]) rfl rfl (by rw [← hkb]; rfl) (okEls_bytes _) (by decide) (by decide) (appN (by simp) (by simp [roomLen])) ?_ | refine O_cA rfl rfl he1 ?_ | refine O_append rfl rfl (srcOf_bytes he2) (okEls_bytes _) (by decide) (by decide) appE ?_ | refine O_append (src := byteCells [0, 1]) rfl rfl rfl (okEls_bytes _) (by decide) (by decide) (appB rfl (by simp) (hroom3 _ (by simp))) ?_ | refine O_step rfl ?_ | refine O_stepL rfl ?_ | refine fin _ _ _ _ _ _ (by rw [← hform, List.append_nil]) rfl rfl rfl rfl rfl rfl rfl rfl | refine V_O rfl ?_ | refine O_step rfl ?_ | refine O_nil' ?_ | refine V_cT rfl rfl ?_ | refine V_cF rfl rfl ?_ | refine V_cEq rfl rfl ?_ | refine V_cNe rfl rfl ?_ | refine V_cB rfl rfl (fun _ => ?_) (fun _ => ?_) | refine O_gT' rfl ?_ | refine O_gU' rfl ?_ | refine O_gF' rfl rfl ?_ | refine O_gEq rfl ?_ | refine O_gNe rfl ?_ | refine O_gS rfl (fun _ => ?_) (fun _ => ?_) | refine V_fA rfl rfl ?_ | refine V_fAN rfl rfl ?_ | refine V_D rfl ?_ | refine D_step rfl ?_ | refine D_nil' ?_ | refine D_gT' rfl ?_ | refine D_gU' rfl ?_ | refine D_gF' rfl rfl ?_ | refine D_gS rfl (fun _ => ?_) (fun _ => ?_)
          · refine V_less (.put 4 _ (.put 9 p (.put 10 _ (.put 11 _ .nil)))) (less_put h4 (less_put h9 (less_put h10 (less_put h11 less_nil)))) (V_unroll ?_)
            repeat' first | refine O_storeV rfl rfl vc.one rfl rfl rfl ?_ | refine O_at rfl rfl hat ?_ | refine V_cHT hlt rfl rfl ?_ | refine O_cA rfl rfl hchk ?_ | refine O_append (src := byteCells [kb]) rfl rfl (by rw [← hkb]; rfl) (okEls_bytes _) (by decide) (by decide) (appN (by simp) (by simp [roomLen])) ?_ | refine O_cA rfl rfl he1 ?_ | refine O_append rfl rfl (srcOf_bytes he2) (okEls_bytes _) (by decide) (by decide) (appB rfl hes (hroom3 _ (by omega))) ?_ | refine O_append (src := byteCells [0, 1]) rfl rfl rfl (okEls_bytes _) (by decide) (by decide) (appB rfl (by simp) (hroom4 _ (by omega))) ?_ | refine O_step rfl ?_ | refine O_stepL rfl ?_ | refine fin _ _ _ _ _ _ hform rfl rfl rfl rfl rfl rfl rfl rfl | refine V_O rfl ?_ | refine O_step rfl ?_ | refine O_nil' ?_ | refine V_cT rfl rfl ?_ | refine V_cF rfl rfl ?_ | refine V_cEq rfl rfl ?_ | refine V_cNe rfl rfl ?_ | refine V_cB rfl rfl (fun _ => ?_) (fun _ => ?_) | refine O_gT' rfl ?_ | refine O_gU' rfl ?_ | refine O_gF' rfl rfl ?_ | refine O_gEq rfl ?_ | refine O_gNe rfl ?_ | refine O_gS rfl (fun _ => ?_) (fun _ => ?_) | refine V_fA rfl rfl ?_ | refine V_fAN rfl rfl ?_ | refine V_D rfl ?_ | refine D_step rfl ?_ | refine D_nil' ?_ | refine D_gT' rfl ?_ | refine D_gU' rfl ?_ | refine D_gF' rfl rfl ?_ | refine D_gS rfl (fun _ => ?_) (fun _ => ?_)
        · replace hk4 : k = 4 := hk4
          subst hk4
          have hke : keyR l = .error 21 := by rw [hk]; simp [keyR, hm, Val.kind, Except.map]
          refine V_less (.put 4 _ (.put 9 p (.put 10 _ (.put 11 _ .nil)))) (less_put h4 (less_put h9 (less_put h10 (less_put h11 less_nil)))) (V_unroll ?_)
          repeat' first | refine O_storeV rfl rfl vc.one rfl rfl rfl ?_ | refine O_at rfl rfl hat ?_ | refine V_cHT hlt rfl rfl ?_ | refine O_cA rfl rfl hchk ?_ | refine O_append (src := byteCells [kb]) rfl rfl (by rw [← hkb]; rfl) (okEls_bytes _) (by decide) (by decide) (appN (by simp) (by simp [roomLen])) ?_ | refine O_step rfl ?_ | refine O_stepL rfl ?_ | refine ret _ _ _ _ _ hke rfl rfl rfl | refine V_O rfl ?_ | refine O_step rfl ?_ | refine O_nil' ?_ | refine V_cT rfl rfl ?_ | refine V_cF rfl rfl ?_ | refine V_cEq rfl rfl ?_ | refine V_cNe rfl rfl ?_ | refine V_cB rfl rfl (fun _ => ?_) (fun _ => ?_) | refine O_gT' rfl ?_ | refine O_gU' rfl ?_ | refine O_gF' rfl rfl ?_ | refine O_gEq rfl ?_ | refine O_gNe rfl ?_ | refine O_gS rfl (fun _ => ?_) (fun _ => ?_) | refine V_fA rfl rfl ?_ | refine V_fAN rfl rfl ?_ | refine V_D rfl ?_ | refine D_step rfl ?_ | refine D_nil' ?_ | refine D_gT' rfl ?_ | refine D_gU' rfl ?_ | refine D_gF' rfl rfl ?_ | refine D_gS rfl (fun _ => ?_) (fun _ => ?_)
        · replace hk5 : k = 5 := hk5
          subst hk5
          have hke : keyR l = .error 21 := by rw [hk]; simp [keyR, hm, Val.kind, Except.map]
          refine V_less (.put 4 _ (.put 9 p (.put 10 _ (.put 11 _ .nil)))) (less_put h4 (less_put h9 (less_put h10 (less_put h11 less_nil)))) (V_unroll ?_)
          repeat' first | refine O_storeV rfl rfl vc.one rfl rfl rfl ?_ | refine O_at rfl rfl hat ?_ | refine V_cHT hlt rfl rfl ?_ | refine O_cA rfl rfl hchk ?_ | refine O_append (src := byteCells [kb]) rfl rfl (by rw [← hkb]; rfl) (okEls_bytes _) (by decide) (by decide) (appN (by simp) (by simp [roomLen])) ?_ | refine O_step rfl ?_ | refine O_stepL rfl ?_ | refine ret _ _ _ _ _ hke rfl rfl rfl | refine V_O rfl ?_ | refine O_step rfl ?_ | refine O_nil' ?_ | refine V_cT rfl rfl ?_ | refine V_cF rfl rfl ?_ | refine V_cEq rfl rfl ?_ | refine V_cNe rfl rfl ?_ | refine V_cB rfl rfl (fun _ => ?_) (fun _ => ?_) | refine O_gT' rfl ?_ | refine O_gU' rfl ?_ | refine O_gF' rfl rfl ?_ | refine O_gEq rfl ?_ | refine O_gNe rfl ?_ | refine O_gS rfl (fun _ => ?_) (fun _ => ?_) | refine V_fA rfl rfl ?_ | refine V_fAN rfl rfl ?_ | refine V_D rfl ?_ | refine D_step rfl ?_ | refine D_nil' ?_ | refine D_gT' rfl ?_ | refine D_gU' rfl ?_ | refine D_gF' rfl rfl ?_ | refine D_gS rfl (fun _ => ?_) (fun _ => ?_)
      ·
        have hroom1 : (b : List UInt8).length + ([kb] : List UInt8).length ≤ roomLen := by simp [roomLen] at hbl ⊢; try omega
        have hroom3 : ∀ c : List UInt8, c.length ≤ 258 → ((b ++ [kb]) : List UInt8).length + c.length ≤ roomLen := fun c hc => by simp [roomLen] at hbl ⊢; try omega
        have hroom4 : ∀ c : List UInt8, c.length ≤ 256 → (((b ++ [kb]) : List UInt8) ++ c).length + ([0, 1] : List UInt8).length ≤ roomLen := fun c hc => by simp [roomLen] at hbl ⊢; try omega
        rcases may_kind hm with hk1 | hk3 | hk6 | hk7 | hk2 | hk4 | hk5
        · replace hk1 : k = 1 := hk1
          subst hk1
          have fin := fin0 (by decide) (by decide)
          have hform : (b ++ [kb]) ++ be 8 (ord64 n) = b ++ formV (.mk 1 n s ll) := by simp only [formV, hkd]; simp
          refine V_less (.put 4 _ (.put 9 p (.put 10 _ (.put 11 _ .nil)))) (less_put h4 (less_put h9 (less_put h10 (less_put h11 less_nil)))) (V_unroll ?_)
          repeat' first | refine O_storeV rfl rfl vc.one rfl rfl rfl ?_ | refine O_at rfl rfl hat ?_ | refine V_cHT hlt rfl rfl ?_ | refine O_cA rfl rfl hchk ?_ | refine O_append (src := byteCells [kb]) rfl rfl (by rw [← hkb]; rfl) (okEls_bytes _) (by decide) (by decide) (appB rfl (by simp) hroom1) ?_ | refine O_cA rfl rfl h8 ?_ | refine O_storeV rfl rfl hone8 hlen8 rfl (storeAt_whole rfl hz8) ?_ | refine O_append (src := byteCells (be 8 (ord64 n))) rfl rfl (hvsl _ _ rfl) (okEls_bytes _) (by decide) (by decide) (appB rfl hne8 (hroom3 _ (by simp [be_len]))) ?_ | refine O_step rfl ?_ | refine O_stepL rfl ?_ | refine fin _ _ _ _ _ _ hform rfl rfl rfl rfl rfl rfl rfl rfl | refine V_O rfl ?_ | refine O_step rfl ?_ | refine O_nil' ?_ | refine V_cT rfl rfl ?_ | refine V_cF rfl rfl ?_ | refine V_cEq rfl rfl ?_ | refine V_cNe rfl rfl ?_ | refine V_cB rfl rfl (fun _ => ?_) (fun _ => ?_) | refine O_gT' rfl ?_ | refine O_gU' rfl ?_ | refine O_gF' rfl rfl ?_ | refine O_gEq rfl ?_ | refine O_gNe rfl ?_ | refine O_gS rfl (fun _ => ?_) (fun _ => ?_) | refine V_fA rfl rfl ?_ | refine V_fAN rfl rfl ?_ | refine V_D rfl ?_ | refine D_step rfl ?_ | refine D_nil' ?_ | refine D_gT' rfl ?_ | refine D_gU' rfl ?_ | refine D_gF' rfl rfl ?_ | refine D_gS rfl (fun _ => ?_) (fun _ => ?_)
        · replace hk3 : k = 3 := hk3
          subst hk3
          have fin := fin0 (by decide) (by decide)
          have hform : (b ++ [kb]) ++ [UInt8.ofNat (n % 256).toNat] = b ++ formV (.mk 3 n s ll) := by simp only [formV, hkd]; simp
          refine V_less (.put 4 _ (.put 9 p (.put 10 _ (.put 11 _ .nil)))) (less_put h4 (less_put h9 (less_put h10 (less_put h11 less_nil)))) (V_unroll ?_)
          repeat' first | refine O_storeV rfl rfl vc.one rfl rfl rfl ?_ | refine O_at rfl rfl hat ?_ | refine V_cHT hlt rfl rfl ?_ | refine O_cA rfl rfl hchk ?_ | refine O_append (src := byteCells [kb]) rfl rfl (by rw [← hkb]; rfl) (okEls_bytes _) (by decide) (by decide) (appB rfl (by simp) hroom1) ?_ | refine O_append (src := byteCells [UInt8.ofNat (n % 256).toNat]) rfl rfl (by rw [← wrap8 n]; rfl) (okEls_bytes _) (by decide) (by decide) (appB rfl (by simp) (hroom3 _ (by simp))) ?_ | refine O_step rfl ?_ | refine O_stepL rfl ?_ | refine fin _ _ _ _ _ _ hform rfl rfl rfl rfl rfl rfl rfl rfl | refine V_O rfl ?_ | refine O_step rfl ?_ | refine O_nil' ?_ | refine V_cT rfl rfl ?_ | refine V_cF rfl rfl ?_ | refine V_cEq rfl rfl ?_ | refine V_cNe rfl rfl ?_ | refine V_cB rfl rfl (fun _ => ?_) (fun _ => ?_) | refine O_gT' rfl ?_ | refine O_gU' rfl ?_ | refine O_gF' rfl rfl ?_ | refine O_gEq rfl ?_ | refine O_gNe rfl ?_ | refine O_gS rfl (fun _ => ?_) (fun _ => ?_) | refine V_fA rfl rfl ?_ | refine V_fAN rfl rfl ?_ | refine V_D rfl ?_ | refine D_step rfl ?_ | refine D_nil' ?_ | refine D_gT' rfl ?_ | refine D_gU' rfl ?_ | refine D_gF' rfl rfl ?_ | refine D_gS rfl (fun _ => ?_) (fun _ => ?_)
        · replace hk6 : k = 6 := hk6
          subst hk6
          have fin := fin0 (by decide) (by decide)
          have hform : (b ++ [kb]) ++ be 8 (ord64 n) = b ++ formV (.mk 6 n s ll) := by simp only [formV, hkd]; simp
          refine V_less (.put 4 _ (.put 9 p (.put 10 _ (.put 11 _ .nil)))) (less_put h4 (less_put h9 (less_put h10 (less_put h11 less_nil)))) (V_unroll ?_)
          repeat' first | refine O_storeV rfl rfl vc.one rfl rfl rfl ?_ | refine O_at rfl rfl hat ?_ | refine V_cHT hlt rfl rfl ?_ | refine O_cA rfl rfl hchk ?_ | refine O_append (src := byteCells [kb]) rfl rfl (by rw [← hkb]; rfl) (okEls_bytes _) (by decide) (by decide) (appB rfl (by simp) hroom1) ?_ | refine O_cA rfl rfl h8 ?_ | refine O_storeV rfl rfl hone8 hlen8 rfl (storeAt_whole rfl hz8) ?_ | refine O_append (src := byteCells (be 8 (ord64 n))) rfl rfl (hvsl _ _ rfl) (okEls_bytes _) (by decide) (by decide) (appB rfl hne8 (hroom3 _ (by simp [be_len]))) ?_ | refine O_step rfl ?_ | refine O_stepL rfl ?_ | refine fin _ _ _ _ _ _ hform rfl rfl rfl rfl rfl rfl rfl rfl | refine V_O rfl ?_ | refine O_step rfl ?_ | refine O_nil' ?_ | refine V_cT rfl rfl ?_ | refine V_cF rfl rfl ?_ | refine V_cEq rfl rfl ?_ | refine V_cNe rfl rfl ?_ | refine V_cB rfl rfl (fun _ => ?_) (fun _ => ?_) | refine O_gT' rfl ?_ | refine O_gU' rfl ?_ | refine O_gF' rfl rfl ?_ | refine O_gEq rfl ?_ | refine O_gNe rfl ?_ | refine O_gS rfl (fun _ => ?_) (fun _ => ?_) | refine V_fA rfl rfl ?_ | refine V_fAN rfl rfl ?_ | refine V_D rfl ?_ | refine D_step rfl ?_ | refine D_nil' ?_ | refine D_gT' rfl ?_ | refine D_gU' rfl ?_ | refine D_gF' rfl rfl ?_ | refine D_gS rfl (fun _ => ?_) (fun _ => ?_)
        · replace hk7 : k = 7 := hk7
          subst hk7
          have fin := fin0 (by decide) (by decide)
          have hform : (b ++ [kb]) ++ be 8 (ord64 n) = b ++ formV (.mk 7 n s ll) := by simp only [formV, hkd]; simp
          refine V_less (.put 4 _ (.put 9 p (.put 10 _ (.put 11 _ .nil)))) (less_put h4 (less_put h9 (less_put h10 (less_put h11 less_nil)))) (V_unroll ?_)
          repeat' first | refine O_storeV rfl rfl vc.one rfl rfl rfl ?_ | refine O_at rfl rfl hat ?_ | refine V_cHT hlt rfl rfl ?_ | refine O_cA rfl rfl hchk ?_ | refine O_append (src := byteCells [kb]) rfl rfl (by rw [← hkb]; rfl) (okEls_bytes _) (by decide) (by decide) (appB rfl (by simp) hroom1) ?_ | refine O_cA rfl rfl h8 ?_ | refine O_storeV rfl rfl hone8 hlen8 rfl (storeAt_whole rfl hz8) ?_ | refine O_append (src := byteCells (be 8 (ord64 n))) rfl rfl (hvsl _ _ rfl) (okEls_bytes _) (by decide) (by decide) (appB rfl hne8 (hroom3 _ (by simp [be_len]))) ?_ | refine O_step rfl ?_ | refine O_stepL rfl ?_ | refine fin _ _ _ _ _ _ hform rfl rfl rfl rfl rfl rfl rfl rfl | refine V_O rfl ?_ | refine O_step rfl ?_ | refine O_nil' ?_ | refine V_cT rfl rfl ?_ | refine V_cF rfl rfl ?_ | refine V_cEq rfl rfl ?_ | refine V_cNe rfl rfl ?_ | refine V_cB rfl rfl (fun _ => ?_) (fun _ => ?_) | refine O_gT' rfl ?_ | refine O_gU' rfl ?_ | refine O_gF' rfl rfl ?_ | refine O_gEq rfl ?_ | refine O_gNe rfl ?_ | refine O_gS rfl (fun _ => ?_) (fun _ => ?_) | refine V_fA rfl rfl ?_ | refine V_fAN rfl rfl ?_ | refine V_D rfl ?_ | refine D_step rfl ?_ | refine D_nil' ?_ | refine D_gT' rfl ?_ | refine D_gU' rfl ?_ | refine D_gF' rfl rfl ?_ | refine D_gS rfl (fun _ => ?_) (fun _ => ?_)
        · replace hk2 : k = 2 := hk2
          subst hk2
          have fin := fin0 (by decide) (by decide)
          obtain ⟨qe, he1, he2⟩ := run_Replace s (by omega) false true true
          have ple := he2.pl
          have hel := esc_le s
          have hform : ((b ++ [kb]) ++ esc s) ++ [0, 1] = b ++ formV (.mk 2 n s ll) := by simp only [formV, hkd]; simp
          have hpls := (BV.sl s false).pl
          by_cases hes : esc s = []
          · rw [hes] at he2 hform
            refine V_less (.put 4 _ (.put 9 p (.put 10 _ (.put 11 _ .nil)))) (less_put h4 (less_put h9 (less_put h10 (less_put h11 less_nil)))) (V_unroll ?_)
            repeat' first | refine O_storeV rfl rfl vc.one rfl rfl rfl ?_ | refine O_at rfl rfl hat ?_ | refine V_cHT hlt rfl rfl ?_ | refine O_cA rfl rfl hchk ?_ | refine O_append (src := byteCells [kb]) rfl rfl (by rw [← hkb]; rfl) (okEls_bytes _) (by decide) (by decide) (appB rfl (by simp) hroom1) ?_ | refine O_cA rfl rfl he1 ?_ | refine O_append rfl rfl (srcOf_bytes he2) (okEls_bytes _) (by decide) (by decide) appE ?_ | refine O_append (src := byteCells [0, 1]) rfl rfl rfl (okEls_bytes _) (by decide) (by decide) (appB rfl (by simp) (hroom3 _ (by simp))) ?_ | refine O_step rfl ?_ | refine O_stepL rfl ?_ | refine fin _ _ _ _ _ _ (by rw [← hform, List.append_nil]) rfl rfl rfl rfl rfl rfl rfl rfl | refine V_O rfl ?_ | refine O_step rfl ?_ | refine O_nil' ?_ | refine V_cT rfl rfl ?_ | refine V_cF rfl rfl ?_ | refine V_cEq rfl rfl ?_ | refine V_cNe rfl rfl ?_ | refine V_cB rfl rfl (fun _ => ?_) (fun _ => ?_) | refine O_gT' rfl ?_ | refine O_gU' rfl ?_ | refine O_gF' rfl rfl ?_ | refine O_gEq rfl ?_ | refine O_gNe rfl ?_ | refine O_gS rfl (fun _ => ?_) (fun _ => ?_) | refine V_fA rfl rfl ?_ | refine V_fAN rfl rfl ?_ | refine V_D rfl ?_ | refine D_step rfl ?_ | refine D_nil' ?_ | refine D_gT' rfl ?_ | refine D_gU' rfl ?_ | refine D_gF' rfl rfl ?_ | refine D_gS rfl (fun _ => ?_) (fun _ => ?_)
          · refine V_less (.put 4 _ (.put 9 p (.put 10 _ (.put 11 _ .nil)))) (less_put h4 (less_put h9 (less_put h10 (less_put h11 less_nil)))) (V_unroll ?_)
            repeat' first | refine O_storeV rfl rfl vc.one rfl rfl rfl ?_ | refine O_at rfl rfl hat ?_ | refine V_cHT hlt rfl rfl ?_ | refine O_cA rfl rfl hchk ?_ | refine O_append (src := byteCells [kb]) rfl rfl (by rw [← hkb]; rfl) (okEls_bytes _) (by decide) (by decide) (appB rfl (by simp) hroom1) ?_ | refine O_cA rfl rfl he1 ?_ | refine O_append rfl rfl (srcOf_bytes he2) (okEls_bytes _) (by decide) (by decide) (appB rfl hes (hroom3 _ (by omega))) ?_ | refine O_append (src := byteCells [0, 1]) rfl rfl rfl (okEls_bytes _) (by decide) (by decide) (appB rfl (by simp) (hroom4 _ (by omega))) ?_ | refine O_step rfl ?_ | refine O_stepL rfl ?_ | refine fin _ _ _ _ _ _ hform rfl rfl rfl rfl rfl rfl rfl rfl | refine V_O rfl ?_ | refine O_step rfl ?_ | refine O_nil' ?_ | refine V_cT rfl rfl ?_ | refine V_cF rfl rfl ?_ | refine V_cEq rfl rfl ?_ | refine V_cNe rfl rfl ?_ | refine V_cB rfl rfl (fun _ => ?_) (fun _ => ?_) | refine O_gT' rfl ?_ | refine O_gU' rfl ?_ | refine O_gF' rfl rfl ?_ | refine O_gEq rfl ?_ | refine O_gNe rfl ?_ | refine O_gS rfl (fun _ => ?_) (fun _ => ?_) | refine V_fA rfl rfl ?_ | refine V_fAN rfl rfl ?_ | refine V_D rfl ?_ | refine D_step rfl ?_ | refine D_nil' ?_ | refine D_gT' rfl ?_ | refine D_gU' rfl ?_ | refine D_gF' rfl rfl ?_ | refine D_gS rfl (fun _ => ?_) (fun _ => ?_)
        · replace hk4 : k = 4 := hk4
          subst hk4
          have hke : keyR l = .error 21 := by rw [hk]; simp [keyR, hm, Val.kind, Except.map]
          refine V_less (.put 4 _ (.put 9 p (.put 10 _ (.put 11 _ .nil)))) (less_put h4 (less_put h9 (less_put h10 (less_put h11 less_nil)))) (V_unroll ?_)
          repeat' first | refine O_storeV rfl rfl vc.one rfl rfl rfl ?_ | refine O_at rfl rfl hat ?_ | refine V_cHT hlt rfl rfl ?_ | refine O_cA rfl rfl hchk ?_ | refine O_append (src := byteCells [kb]) rfl rfl (by rw [← hkb]; rfl) (okEls_bytes _) (by decide) (by decide) (appB rfl (by simp) hroom1) ?_ | refine O_step rfl ?_ | refine O_stepL rfl ?_ | refine ret _ _ _ _ _ hke rfl rfl rfl | refine V_O rfl ?_ | refine O_step rfl ?_ | refine O_nil' ?_ | refine V_cT rfl rfl ?_ | refine V_cF rfl rfl ?_ | refine V_cEq rfl rfl ?_ | refine V_cNe rfl rfl ?_ | refine V_cB rfl rfl (fun _ => ?_) (fun _ => ?_) | refine O_gT' rfl ?_ | refine O_gU' rfl ?_ | refine O_gF' rfl rfl ?_ | refine O_gEq rfl ?_ | refine O_gNe rfl ?_ | refine O_gS rfl (fun _ => ?_) (fun _ => ?_) | refine V_fA rfl rfl ?_ | refine V_fAN rfl rfl ?_ | refine V_D rfl ?_ | refine D_step rfl ?_ | refine D_nil' ?_ | refine D_gT' rfl ?_ | refine D_gU' rfl ?_ | refine D_gF' rfl rfl ?_ | refine D_gS rfl (fun _ => ?_) (fun _ => ?_)
        · replace hk5 : k = 5 := hk5
          subst hk5
          have hke : keyR l = .error 21 := by rw [hk]; simp [keyR, hm, Val.kind, Except.map]
          refine V_less (.put 4 _ (.put 9 p (.put 10 _ (.put 11 _ .nil)))) (less_put h4 (less_put h9 (less_put h10 (less_put h11 less_nil)))) (V_unroll ?_)
          repeat' first | refine O_storeV rfl rfl vc.one rfl rfl rfl ?_ | refine O_at rfl rfl hat ?_ | refine V_cHT hlt rfl rfl ?_ | refine O_cA rfl rfl hchk ?_ | refine O_append (src := byteCells [kb]) rfl rfl (by rw [← hkb]; rfl) (okEls_bytes _) (by decide) (by decide) (appB rfl (by simp) hroom1) ?_ | refine O_step rfl ?_ | refine O_stepL rfl ?_ | refine ret _ _ _ _ _ hke rfl rfl rfl | refine V_O rfl ?_ | refine O_step rfl ?_ | refine O_nil' ?_ | refine V_cT rfl rfl ?_ | refine V_cF rfl rfl ?_ | refine V_cEq rfl rfl ?_ | refine V_cNe rfl rfl ?_ | refine V_cB rfl rfl (fun _ => ?_) (fun _ => ?_) | refine O_gT' rfl ?_ | refine O_gU' rfl ?_ | refine O_gF' rfl rfl ?_ | refine O_gEq rfl ?_ | refine O_gNe rfl ?_ | refine O_gS rfl (fun _ => ?_) (fun _ => ?_) | refine V_fA rfl rfl ?_ | refine V_fAN rfl rfl ?_ | refine V_D rfl ?_ | refine D_step rfl ?_ | refine D_nil' ?_ | refine D_gT' rfl ?_ | refine D_gU' rfl ?_ | refine D_gF' rfl rfl ?_ | refine D_gS rfl (fun _ => ?_) (fun _ => ?_)
    · have hm' : mayV 8 (.mk k n s ll) = false := by simpa using hm
      have hc0 : chk (.mk k n s ll) = 20 := by simp [chk, hm']
      rw [hc0] at hchk
      have hke : keyR l = .error 20 := by rw [hk]; simp [keyR, hm', Except.map]
      clear ih
      rcases hA with ⟨rfl, rfl, rfl⟩ | ⟨g, rfl, rfl⟩
      · refine V_less (.put 4 _ (.put 9 p (.put 10 _ (.put 11 _ .nil)))) (less_put h4 (less_put h9 (less_put h10 (less_put h11 less_nil)))) (V_unroll ?_)
        repeat' first | refine O_stepL rfl ?_ | refine O_storeV rfl rfl vc.one rfl rfl rfl ?_ | refine O_at rfl rfl hat ?_ | refine V_cHT hlt rfl rfl ?_ | refine O_cA rfl rfl hchk ?_ | refine ret _ _ _ _ _ hke rfl rfl rfl | refine V_O rfl ?_ | refine O_step rfl ?_ | refine O_nil' ?_ | refine V_cT rfl rfl ?_ | refine V_cF rfl rfl ?_ | refine V_cEq rfl rfl ?_ | refine V_cNe rfl rfl ?_ | refine V_cB rfl rfl (fun _ => ?_) (fun _ => ?_) | refine O_gT' rfl ?_ | refine O_gU' rfl ?_ | refine O_gF' rfl rfl ?_ | refine O_gEq rfl ?_ | refine O_gNe rfl ?_ | refine O_gS rfl (fun _ => ?_) (fun _ => ?_) | refine V_fA rfl rfl ?_ | refine V_fAN rfl rfl ?_ | refine V_D rfl ?_ | refine D_step rfl ?_ | refine D_nil' ?_ | refine D_gT' rfl ?_ | refine D_gU' rfl ?_ | refine D_gF' rfl rfl ?_ | refine D_gS rfl (fun _ => ?_) (fun _ => ?_)
      · refine V_less (.put 4 _ (.put 9 p (.put 10 _ (.put 11 _ .nil)))) (less_put h4 (less_put h9 (less_put h10 (less_put h11 less_nil)))) (V_unroll ?_)
        repeat' first | refine O_stepL rfl ?_ | refine O_storeV rfl rfl vc.one rfl rfl rfl ?_ | refine O_at rfl rfl hat ?_ | refine V_cHT hlt rfl rfl ?_ | refine O_cA rfl rfl hchk ?_ | refine ret _ _ _ _ _ hke rfl rfl rfl | refine V_O rfl ?_ | refine O_step rfl ?_ | refine O_nil' ?_ | refine V_cT rfl rfl ?_ | refine V_cF rfl rfl ?_ | refine V_cEq rfl rfl ?_ | refine V_cNe rfl rfl ?_ | refine V_cB rfl rfl (fun _ => ?_) (fun _ => ?_) | refine O_gT' rfl ?_ | refine O_gU' rfl ?_ | refine O_gF' rfl rfl ?_ | refine O_gEq rfl ?_ | refine O_gNe rfl ?_ | refine O_gS rfl (fun _ => ?_) (fun _ => ?_) | refine V_fA rfl rfl ?_ | refine V_fAN rfl rfl ?_ | refine V_D rfl ?_ | refine D_step rfl ?_ | refine D_nil' ?_ | refine D_gT' rfl ?_ | refine D_gU' rfl ?_ | refine D_gF' rfl rfl ?_ | refine D_gS rfl (fun _ => ?_) (fun _ => ?_)
end Go.Proofs.YtfdebgebnkbagaaDoor
