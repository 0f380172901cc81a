/- rambleref01.Put and Zig, rambleref03.put and Put. · Keys: what stands together (plain). · ramblelaw11.KeysTogether: the walk. · rambleref11: keys, texts, signs, properties. · rambleref11: properties, signs, keys. -/
import Derived.Test.YtgdjnlopdpjnaaaGreatDoorBackLToKeyF
import Derived.Test.YtgdjnlopdpjnaaaGreatDoorKeyOToKeyT
import Derived.Test.YtgdjnlopdpjnaaaGreatDoorReadCToBackK
set_option linter.unusedVariables false
set_option linter.unusedSimpArgs false
namespace Go.Proofs.YtgdjnlopdpjnaaaGreatDoor
open Go Go.AM Go.RowKit
theorem run_rBare {n : Int} (h : I64 n) : T.R (.call n_rambleref01_bare [.int .i64 n] (.int .u64 (n.natAbs : Int))) := by
  obtain ⟨h1, h2⟩ := h
  by_cases hn : n < 0
  · have hd := Z13 (p := n < 0) hn
    have e1 : PV.int .u64 (IntKind.u64.wrap (0 - IntKind.u64.wrap n)) = PV.int .u64 (n.natAbs : Int) := Z3x (by rw [Z0x, Z0x]; omega)
    refine Z0c rfl rfl ?_
    repeat' first | ((with_reducible show V _ _ _ _ _ _); first | refine V_O rfl ?_ | refine Z16 rfl rfl ?_ | refine Z1t rfl rfl ?_) | ((with_reducible show VO _ _ _ _ _ _ _); first | refine Z0q hd rfl ?_ | refine Z0q e1 rfl ?_ | refine Z02 rfl ?_ | refine Z03 ?_)
    rfl
  · have hd := Z0n (p := n < 0) hn
    have e1 : PV.int .u64 (IntKind.u64.wrap n) = PV.int .u64 (n.natAbs : Int) := Z3x (by rw [Z0x]; omega)
    refine Z0c rfl rfl ?_
    repeat' first | ((with_reducible show V _ _ _ _ _ _); first | refine V_O rfl ?_ | refine Z1e rfl rfl ?_ | refine Z1t rfl rfl ?_) | ((with_reducible show VO _ _ _ _ _ _ _); first | refine Z0q hd rfl ?_ | refine Z0q e1 rfl ?_ | refine Z02 rfl ?_ | refine Z03 ?_)
    rfl
theorem run_rZig {n : Int} (h : I64 n) : T.R (.call n_rambleref01_Zig [.int .i64 n] (.int .u64 (zigN n))) := by
  have hb := run_rBare h
  obtain ⟨h1, h2⟩ := h
  by_cases hn : n < 0
  · have hd := Z13 (p := n < 0) hn
    have e1 : PV.int .u64 (IntKind.u64.wrap ((n.natAbs : Int) - 1)) = PV.int .u64 ((n.natAbs : Int) - 1) := Z3x (by rw [Z0x]; omega)
    have e2 : PV.int .u64 (IntKind.u64.wrap (2 * ((n.natAbs : Int) - 1))) = PV.int .u64 (2 * ((n.natAbs : Int) - 1)) := Z3x (by rw [Z0x]; omega)
    have e3 : PV.int .u64 (IntKind.u64.wrap (2 * ((n.natAbs : Int) - 1) + 1)) = PV.int .u64 (zigN n) := Z3x (by rw [Z0x]; unfold zigN; rw [if_pos hn]; omega)
    refine Z0c rfl rfl ?_
    repeat' first | ((with_reducible show V _ _ _ _ _ _); first | refine V_O rfl ?_ | refine Z16 rfl rfl ?_ | refine Z1t rfl rfl ?_) | ((with_reducible show VO _ _ _ _ _ _ _); first | refine Z0q hd rfl ?_ | refine Z0u rfl rfl hb ?_ | refine Z0q e1 rfl ?_ | refine Z0q e2 rfl ?_ | refine Z0q e3 rfl ?_ | refine Z02 rfl ?_ | refine Z03 ?_)
    rfl
  · have hd := Z0n (p := n < 0) hn
    have e1 : PV.int .u64 (IntKind.u64.wrap n) = PV.int .u64 n := Z3x (by rw [Z0x]; omega)
    have e2 : PV.int .u64 (IntKind.u64.wrap (2 * n)) = PV.int .u64 (zigN n) := Z3x (by rw [Z0x]; unfold zigN; rw [if_neg hn]; omega)
    refine Z0c rfl rfl ?_
    repeat' first | ((with_reducible show V _ _ _ _ _ _); first | refine V_O rfl ?_ | refine Z1e rfl rfl ?_ | refine Z1t rfl rfl ?_) | ((with_reducible show VO _ _ _ _ _ _ _); first | refine Z0q hd rfl ?_ | refine Z0q e1 rfl ?_ | refine Z0q e2 rfl ?_ | refine Z02 rfl ?_ | refine Z03 ?_)
    rfl
def putP3 (n u : Nat) (es : List (List PV)) (st : St) (v : PV) : EX → EC → St → Prop := fun x e' st' => x = .exit 0 ∧ ∃ (v' : PV) (u' : Nat) (pre : List UInt8), e' = ecOf [(1, .int .u64 u'), (5, v')] ∧ AccT 1 st' v' (es ++ Z00 pre) ∧ Grow st v st' v' ∧ pre ++ [UInt8.ofNat u'] = putL n u ∧ u' < 128 ∧ pre.length ≤ n
theorem put3_step {u : Nat} (hu : u < 18446744073709551616) : [[PV.int .u8 (IntKind.u8.wrap (IntKind.u8.wrap ((u : Int).tmod 128) + 128))]] = Z00 [UInt8.ofNat (u % 128 + 128)] := by
  have h1 : (u : Int).tmod 128 = ((u % 128 : Nat) : Int) := by rw [Int.tmod_eq_emod_of_nonneg (by omega)]; omega
  rw [h1, wrap_u8, wrap_u8]
  have h2 : (UInt8.ofNat (u % 128 + 128)).toNat = u % 128 + 128 := by simp; omega
  simp only [Z00, List.map_cons, List.map_nil, h2]
  congr 3
  omega
theorem put3_loop : ∀ (n u : Nat) (es : List (List PV)) (st : St) (v : PV), u < 128 ^ (n + 1) → u < 18446744073709551616 → AccT 1 st v es → es.length + n ≤ 140000000000000 →
    V T (PE (putP3 n u es st v)) [.code (.loop Z3r)] .normal (ecOf [(1, .int .u64 u), (5, v)]) st := by
  have stop : ∀ (n u : Nat) (es : List (List PV)) (st : St) (v : PV), u < 128 → AccT 1 st v es → putL n u = [UInt8.ofNat u] → V T (PE (putP3 n u es st v)) [.code (.loop Z3r)] .normal (ecOf [(1, .int .u64 u), (5, v)]) st := fun n u es st v hu hacc hl => by
    have hd := Z0n (p := (u : Int) ≥ 128) (by omega)
    refine Z08 ?_
    repeat' first | ((with_reducible show V _ _ _ _ _ _); first | refine V_out [(1, .int .u64 u), (5, v)] rfl ⟨rfl, rfl, trivial⟩ ⟨rfl, v, u, [], rfl, by simpa [Z00] using hacc, .refl _ _, hl.symm, hu, by simp⟩ | refine V_O rfl ?_ | refine Z1e rfl rfl ?_) | ((with_reducible show VO _ _ _ _ _ _ _); first | refine Z0q hd rfl ?_ | refine Z02 rfl ?_ | refine Z03 ?_)
  intro n
  induction n with
  | zero =>
    intro u es st v hu _ hacc hb
    exact stop 0 u es st v (by simpa using hu) hacc rfl
  | succ n ih =>
    intro u es st v hu hu64 hacc hb
    by_cases hlt : u < 128
    · exact stop _ u es st v hlt hacc (by simp [putL, hlt])
    · have hd := Z13 (p := (u : Int) ≥ 128) (by omega)
      obtain ⟨v', st', k1, k2, k3⟩ := hacc.grow (bytes := 1) (src := Z00 [UInt8.ofNat (u % 128 + 128)]) (by simp [Z00]) (by simp only [Z07, Z0e]; simp; omega)
      have hq : IntKind.u64.wrap ((u : Int).tdiv 128) = ((u / 128 : Nat) : Int) := by rw [Z0x, Int.tdiv_eq_ediv_of_nonneg (by omega)]; omega
      have hsrc : srcOf st (.sl [[.int .u8 (IntKind.u8.wrap (IntKind.u8.wrap ((u : Int).tmod 128) + 128))]] true) = some (Z00 [UInt8.ofNat (u % 128 + 128)]) := by rw [put3_step hu64]; rfl
      have hi := ih (u / 128) _ _ v' (by rw [Nat.pow_succ] at hu; omega) (by omega) k2 (by rw [List.length_append, Z07]; simp; omega)
      refine Z08 ?_
      repeat' first | ((with_reducible show V _ _ _ _ _ _); first | refine V_monoP (V_re rfl hi ⟨some_int hq, rfl, trivial⟩) ?_ | refine V_O rfl ?_ | refine Z16 rfl rfl ?_) | ((with_reducible show VO _ _ _ _ _ _ _); first | refine Z0q hd rfl ?_ | refine O_rem rfl rfl rfl ?_ | refine O_quo rfl rfl rfl ?_ | refine Z09 rfl rfl hsrc (Z04 _) (by decide) (by decide) k1 ?_ | refine Z02 rfl ?_ | refine Z03 ?_)
      rintro x e' st'' ⟨hx, v'', u', pre, he, hA, hG, hpre, hu', hlen⟩
      refine ⟨hx, v'', u', UInt8.ofNat (u % 128 + 128) :: pre, he, ?_, k3.trans hG, ?_, hu', by simp; omega⟩
      · simpa [Z00] using hA
      · simp only [putL, if_neg hlt, List.cons_append, hpre]
theorem app_nil_src {st : St} : Z0w st 1 1 .nilSl (Z00 []) = some (.nilSl, st) := Z1w (.inl rfl)
theorem refPutR {st : St} {b : PV} {s : List UInt8} (hbn : st.base = st.next) (hv : RB st b s) (hs : s.length ≤ 100000000000000) (u : Nat) (hu : u < 18446744073709551616) :
    ∃ v' st', T.R (.raw n_rambleref01_Put [b, .int .u64 u] st v' st') ∧ AccT 1 st' v' (Z00 (s ++ putL 9 u)) ∧ Grow st .nilSl st' v' := by
  have hsrc := hv.src
  have hacc0 : AccT 1 st .nilSl [] := .inl ⟨rfl, rfl⟩
  have hstart : ∃ v1 st1, Z0w st 1 1 .nilSl (Z00 s) = some (v1, st1) ∧ AccT 1 st1 v1 (Z00 s) ∧ Grow st .nilSl st1 v1 := by
    by_cases h : s = []
    · subst h
      exact ⟨.nilSl, st, app_nil_src, hacc0, .refl _ _⟩
    · obtain ⟨v1, st1, k1, k2, k3⟩ := hacc0.grow (bytes := 1) (src := Z00 s) (by simpa [Z00] using h) (by simp only [Z07, Z0e, List.length_nil]; omega)
      exact ⟨v1, st1, k1, by simpa using k2, k3⟩
  obtain ⟨v1, st1, k1, k2, k3⟩ := hstart
  have hl := put3_loop 9 u (Z00 s) st1 v1 (by omega) hu k2 (by rw [Z07]; omega)
  refine Z1f rfl rfl ?_
  repeat' first | refine V_cutTo rfl hl ⟨rfl, rfl, trivial⟩ ?_ | refine V_O rfl ?_ | ((with_reducible show VO _ _ _ _ _ _ _); first | refine Z09 rfl rfl hsrc (Z04 _) (by decide) (by decide) k1 ?_ | refine Z02 rfl ?_ | refine Z03 ?_)
  rintro x e' st' ⟨rfl, v', u', pre, rfl, hA, hG, hpre, hu', hlen⟩
  have hcell : [[PV.int .u8 (IntKind.u8.wrap (u' : Int))]] = Z00 [UInt8.ofNat u'] := by
    rw [wrap_u8]
    simp [Z00]
  obtain ⟨w, st2, j1, j2, j3⟩ := hA.grow (bytes := 1) (src := [[.int .u8 (IntKind.u8.wrap (u' : Int))]]) (by simp) (by simp [Z0e, Z00]; omega)
  repeat' first | refine Z0k rfl rfl ?_ | refine V_O rfl ?_ | ((with_reducible show VO _ _ _ _ _ _ _); first | refine Z09 rfl rfl rfl rfl (by decide) (by decide) j1 ?_ | refine Z02 rfl ?_ | refine Z03 ?_)
  rw [hcell, ← Z0f, ← Z0f, List.append_assoc, hpre] at j2
  exact ⟨j2, k3.trans (hG.trans j3)⟩
theorem O_alloc2 {T : Tb} {Q : Post} {k : List Fr} {ρ : EC} {st S' : St} {l : List POp} {kill : List Nat} {d : Option Nat} {x : Opd} {p : PV} {cs : List PV} (hS : st.new (.var cs) = S') (h : VO T Q l kill k (ρ.sets d (.ptr st.next 0)) S') (hx : x.get ρ = some p := by rfl) (hj : p.isJunk = false := by rfl) (hc : p.cells = cs := by rfl) : VO T Q (⟨d, none, .box x⟩ :: l) kill k ρ st := by
  subst hS hc
  exact Z05 (by simp only [stepL, hx, hj, if_true]) h
def Put3 (v : Val) (cs : List PV) : Prop := ∀ (st : St) (b : PV) (s : List UInt8), st.base = st.next → AccT 1 st b (Z00 s) → s.length + (putV v).length ≤ 100000000000000 → ∃ b' st', T.R (.raw n_rambleref03_put [b, .agg cs] st b' st') ∧ AccT 1 st' b' (Z00 (s ++ putV v)) ∧ Grow st b st' b'
theorem puts3_loop (c : List PV) (l : List Val) (p : PV) (hp : LC l p) (ih : ∀ (j : Nat) (v : Val) (cs : List PV), l[j]? = some v → At 4 p j cs → Put3 v cs) (t0 : Nat) (hc : c[3]? = some p) :
    ∀ (rest pre : List Val) (st : St) (v : PV) (s : List UInt8), l = pre ++ rest → AccT 1 st v (Z00 s) → s.length + (putVs rest).length ≤ 100000000000000 → st.get t0 = some (.var c) → t0 < st.next →
    V T (PE fun x e st' => x = .exit 1 ∧ ∃ v', e = ecOf [(0, v')] ∧ AccT 1 st' v' (Z00 (s ++ putVs rest)) ∧ Grow st v st' v') [.code (.loop lp_rambleref03_put_0)] .normal (ecOf [(0, v), (3, .ptr t0 0), (5, .int .i64 pre.length)]) st := by
  obtain ⟨lp1, lp2, lp3⟩ := hp.len
  intro rest
  induction rest with
  | nil =>
    intro pre st v s hl hA hs h0 hlt0
    have hlt : decide ((pre.length : Int) < l.length) = false := decide_eq_false (by subst hl; simp)
    refine Z08 ?_
    repeat' first | ((with_reducible show V _ _ _ _ _ _); first | refine Z2y hlt rfl rfl ?_ | refine V_out [(0, v)] rfl ⟨rfl, trivial⟩ ⟨rfl, v, rfl, by simpa [putVs] using hA, .refl _ _⟩ | refine V_O rfl ?_) | ((with_reducible show VO _ _ _ _ _ _ _); first | refine Z0a rfl h0 hc ?_ | refine Z0p rfl lp1 lp2 ?_ | refine Z02 rfl ?_ | refine Z03 ?_)
  | cons v0 rest ihr =>
    intro pre st v s hl hA hs h0 hlt0
    have hlt : decide ((pre.length : Int) < l.length) = true := decide_eq_true (by subst hl; simp; omega)
    have hpl : pre.length + 1 ≤ l.length := by subst hl; simp
    have hv0 : l[pre.length]? = some v0 := by subst hl; simp
    obtain ⟨cs, hat, vc⟩ := hp.at hv0
    have hok := ih _ v0 cs hv0 hat
    have hsum : putVs (v0 :: rest) = putV v0 ++ putVs rest := rfl
    obtain ⟨b', st', k1, k2, k3⟩ := hok ⟨st.next, st.next, st.toks⟩ v s rfl hA (by rw [hsum, List.length_append] at hs; omega)
    have hA2 : AccT 1 ⟨st.base, st'.next, st'.toks⟩ b' (Z00 (s ++ putV v0)) := k2
    have hG2 : Grow st v ⟨st.base, st'.next, st'.toks⟩ b' := ⟨rfl, k3.2.1, k3.2.2.1, k3.2.2.2⟩
    have hne : Z15 v ≠ some t0 := fun h => by
      rcases hA with ⟨rfl, _⟩ | ⟨t, g, rfl, hg, _⟩
      · cases h
      · injection h with h
        subst h
        rw [h0] at hg
        cases hg
    have hw : IntKind.i64.wrap ((pre.length : Int) + 1) = ((pre ++ [v0]).length : Int) := by rw [Z0l]; simp; omega
    have hi := ihr (pre ++ [v0]) ⟨st.base, st'.next, st'.toks⟩ b' (s ++ putV v0) (by rw [hl]; simp) hA2 (by rw [hsum, List.length_append] at hs; simp; omega) ((hG2.2.2.2 t0 hlt0 hne).trans h0) (by have := hG2.2.1; omega)
    have vcl := vc.len4
    refine Z08 ?_
    repeat' first | ((with_reducible show V _ _ _ _ _ _); first | refine Z2d hlt rfl rfl ?_ | refine V_monoP (V_re rfl hi ⟨rfl, rfl, some_int hw, trivial⟩) ?_ | refine V_O rfl ?_) | ((with_reducible show VO _ _ _ _ _ _ _); first | refine Z0a rfl h0 hc ?_ | refine Z0p rfl lp1 lp2 ?_ | refine Z2q rfl rfl hat ?_ | refine O_loadI rfl vcl ?_ | refine Z0s k1 k3.1 rfl rfl ?_ | refine Z02 rfl ?_ | refine Z03 ?_)
    rintro x e st2 ⟨rfl, v2, rfl, hA3, hG3⟩
    refine ⟨rfl, v2, rfl, ?_, hG2.trans hG3⟩
    rw [hsum, ← List.append_assoc]
    exact hA3
set_option maxHeartbeats 4000000 in
theorem put3_all {v : Val} {cs : List PV} (hv : VC v cs) : Put3 v cs := by
  refine VC.ind (M := fun v cs => Put3 v cs) ?_ hv
  intro k n s l p hk hn hs hp ih st b bs hbn hA hlen
  obtain ⟨lp1, lp2, lp3⟩ := hp.len
  have plp := hp.pl
  obtain ⟨kb, hkd⟩ : ∃ kb, UInt8.ofNat (k % 256).toNat = kb := ⟨_, rfl⟩
  have hkb := wrap8' k
  rw [hkd] at hkb
  have hA1 := AccT_new hA (.var [.int .i64 k, .int .i64 n, .str s, p])
  have hG1 := Grow_new st b (.var [.int .i64 k, .int .i64 n, .str s, p])
  have hg1 : (st.new (.var [.int .i64 k, .int .i64 n, .str s, p])).get st.next = some (.var [.int .i64 k, .int .i64 n, .str s, p]) := St.get_new
  have hnx : (st.new (.var [.int .i64 k, .int .i64 n, .str s, p])).next = st.next + 1 := rfl
  have hbt : Z15 b ≠ some st.next := fun h => by have := AccT_lt hA h; omega
  generalize hS : st.new (.var [.int .i64 k, .int .i64 n, .str s, p]) = S1 at hA1 hG1 hg1 hnx
  have hl1 : bs.length + 1 ≤ 100000000000000 := by simp [putV] at hlen; omega
  obtain ⟨v2, S2, k1, hA2, hG2⟩ := hA1.grow (bytes := 1) (src := Z00 [kb]) (by simp [Z00]) (by simp only [Z07, Z0e]; simp; omega)
  rw [← Z0f] at hA2
  have hg2 : S2.get st.next = some (.var [.int .i64 k, .int .i64 n, .str s, p]) := by rw [hG2.2.2.2 st.next (by omega) hbt]; exact hg1
  have hG02 := hG1.trans hG2
  have hrb2 : RB ⟨S2.next, S2.next, S2.toks⟩ v2 (bs ++ [kb]) := (AccT.rb (st := S2) hA2).keep (Nat.le_refl _) (fun _ _ => rfl)
  have num : ∀ u : Nat, u < 18446744073709551616 → ∃ v3 S3, T.R (.raw n_rambleref01_Put [v2, .int .u64 u] ⟨S2.next, S2.next, S2.toks⟩ v3 S3) ∧ S3.base = S2.next ∧ AccT 1 ⟨S2.base, S3.next, S3.toks⟩ v3 (Z00 (bs ++ [kb] ++ putL 9 u)) ∧ Grow st b ⟨S2.base, S3.next, S3.toks⟩ v3 ∧ (∀ t, t < S2.next → (⟨S2.base, S3.next, S3.toks⟩ : St).get t = S2.get t) ∧ (∃ m, Z15 v3 = some m ∧ S2.next ≤ m) ∧ S2.next ≤ S3.next := fun u hu => by
    obtain ⟨v3, S3, h1, h2, h3⟩ := refPutR (st := ⟨S2.next, S2.next, S2.toks⟩) rfl hrb2 (by simp; omega) u hu
    have hne : Z00 (bs ++ [kb] ++ putL 9 u) ≠ [] := by simp [Z00, putL_ne]
    have hG3 : Grow S2 .nilSl ⟨S2.base, S3.next, S3.toks⟩ v3 := ⟨rfl, h3.2.1, h3.2.2.1, h3.2.2.2⟩
    exact ⟨v3, S3, h1, h3.1, h2, hG02.trans (Grow_nil hG3 h2 hne), fun t ht => h3.2.2.2 t ht (by simp [Z15]), AccT.none_fresh hG3 h2 hne, h3.2.1⟩
  have happ : srcOf S1 (.sl [[.int .u8 (IntKind.u8.wrap k)]] true) = some (Z00 [kb]) := by rw [hkb]; rfl
  by_cases hk1 : k = 1
  · subst hk1
    obtain ⟨v3, S3, h1, h2, h3, h4, h5, _⟩ := num (zigN n) (by unfold zigN; obtain ⟨a, b⟩ := hn; split <;> omega)
    have hz := run_rZig hn
    have hpv : putV (.mk 1 n s l) = kb :: putL 9 (zigN n) := by simp only [putV, hkd]; simp
    refine Z1f rfl rfl ?_
    repeat' first | ((with_reducible show V _ _ _ _ _ _); first | refine Z0k rfl rfl ?_ | refine V_O rfl ?_ | refine Z16 rfl rfl ?_) | ((with_reducible show VO _ _ _ _ _ _ _); first | refine Z09 rfl rfl happ (Z04 _) (by decide) (by decide) k1 ?_ | refine O_alloc2 hS ?_ | refine Z0a rfl hg1 rfl ?_ | refine Z0a rfl hg2 rfl ?_ | refine Z0u rfl rfl hz ?_ | refine Z0s h1 h2 rfl rfl ?_ | refine Z02 rfl ?_ | refine Z03 ?_)
    rw [hpv, List.append_cons]
    exact ⟨h3, h4⟩
  by_cases hk6 : k = 6
  · subst hk6
    obtain ⟨v3, S3, h1, h2, h3, h4, h5, _⟩ := num (n % 18446744073709551616).toNat (by omega)
    rw [← hn.nat] at h1
    have hpv : putV (.mk 6 n s l) = kb :: putL 9 (n % 18446744073709551616).toNat := by simp only [putV, hkd]; simp
    refine Z1f rfl rfl ?_
    repeat' first | ((with_reducible show V _ _ _ _ _ _); first | refine Z0k rfl rfl ?_ | refine V_O rfl ?_ | refine Z16 rfl rfl ?_ | refine Z1e rfl rfl ?_) | ((with_reducible show VO _ _ _ _ _ _ _); first | refine Z09 rfl rfl happ (Z04 _) (by decide) (by decide) k1 ?_ | refine O_alloc2 hS ?_ | refine Z0a rfl hg1 rfl ?_ | refine Z0a rfl hg2 rfl ?_ | refine Z0s h1 h2 rfl rfl ?_ | refine Z02 rfl ?_ | refine Z03 ?_)
    rw [hpv, List.append_cons]
    exact ⟨h3, h4⟩
  by_cases hk7 : k = 7
  · subst hk7
    obtain ⟨v3, S3, h1, h2, h3, h4, h5, _⟩ := num (n % 18446744073709551616).toNat (by omega)
    rw [← hn.nat] at h1
    have hpv : putV (.mk 7 n s l) = kb :: putL 9 (n % 18446744073709551616).toNat := by simp only [putV, hkd]; simp
    refine Z1f rfl rfl ?_
    repeat' first | ((with_reducible show V _ _ _ _ _ _); first | refine Z0k rfl rfl ?_ | refine V_O rfl ?_ | refine Z16 rfl rfl ?_ | refine Z1e rfl rfl ?_) | ((with_reducible show VO _ _ _ _ _ _ _); first | refine Z09 rfl rfl happ (Z04 _) (by decide) (by decide) k1 ?_ | refine O_alloc2 hS ?_ | refine Z0a rfl hg1 rfl ?_ | refine Z0a rfl hg2 rfl ?_ | refine Z0s h1 h2 rfl rfl ?_ | refine Z02 rfl ?_ | refine Z03 ?_)
    rw [hpv, List.append_cons]
    exact ⟨h3, h4⟩
  by_cases hk3 : k = 3
  · subst hk3
    obtain ⟨v3, S3, k4, h3, h4⟩ := hA2.grow (bytes := 1) (src := Z00 [UInt8.ofNat (n % 256).toNat]) (by simp [Z00]) (by simp only [Z07, Z0e]; simp; omega)
    rw [← Z0f] at h3
    have hpv : putV (.mk 3 n s l) = kb :: [UInt8.ofNat (n % 256).toNat] := by simp only [putV, hkd]; simp
    refine Z1f rfl rfl ?_
    repeat' first | ((with_reducible show V _ _ _ _ _ _); first | refine Z0k rfl rfl ?_ | refine V_O rfl ?_ | refine Z16 rfl rfl ?_ | refine Z1e rfl rfl ?_) | ((with_reducible show VO _ _ _ _ _ _ _); first | refine Z09 rfl rfl happ (Z04 _) (by decide) (by decide) k1 ?_ | refine O_alloc2 hS ?_ | refine Z0a rfl hg1 rfl ?_ | refine Z0a rfl hg2 rfl ?_ | refine Z09 (src := Z00 [UInt8.ofNat (n % 256).toNat]) rfl rfl (by rw [← wrap8' n]; rfl) (Z04 _) (by decide) (by decide) k4 ?_ | refine Z02 rfl ?_ | refine Z03 ?_)
    rw [hpv, List.append_cons]
    exact ⟨h3, hG02.trans h4⟩
  by_cases hk2 : k = 2
  · subst hk2
    obtain ⟨v3, S3, h1, h2, h3, h4, h5, hfr, hl3⟩ := num s.length (by omega)
    have hwl : IntKind.u64.wrap (s.length : Int) = (s.length : Int) := by rw [Z0x]; omega
    rw [← hwl] at h1
    have hpv : putV (.mk 2 n s l) = kb :: (putL 9 s.length ++ s) := by simp only [putV, hkd]; simp
    have hlt2 : st.next < S2.next := by have := hG2.2.1; omega
    have hg3 : (⟨S2.base, S3.next, S3.toks⟩ : St).get st.next = some (.var [.int .i64 2, .int .i64 n, .str s, p]) := (h5 st.next hlt2).trans hg2
    obtain ⟨v4, S4, j1, j2, j3⟩ := Z2e h3 s (by rw [hpv] at hlen; simp at hlen ⊢; have := Z1r 9 s.length; omega)
    have hg4 : S4.get st.next = some (.var [.int .i64 2, .int .i64 n, .str s, p]) := by
      refine (j3.2.2.2 st.next (by show st.next < S3.next; omega) ?_).trans hg3
      obtain ⟨m, e1, e2⟩ := hfr
      rw [e1]
      intro e
      injection e with e
      omega
    have hall : ∀ i, ((mkC [5, 8] [some 44, some 47] S2 [⟨S2.base, S3.next, S3.toks⟩, S4] none).S i).get st.next = some (.var [.int .i64 2, .int .i64 n, .str s, p]) := Z1o (Q := fun s' => s'.get st.next = some (.var [.int .i64 2, .int .i64 n, .str s, p])) ⟨hg2, hg3, hg4⟩
    refine Z1f rfl rfl ?_
    repeat' first | ((with_reducible show V _ _ _ _ _ _); first | refine V_C (mkC [5, 8] [some 44, some 47] S2 [⟨S2.base, S3.next, S3.toks⟩, S4] none) rfl rfl ?_ | refine Z0k rfl rfl ?_ | refine V_O rfl ?_ | refine Z16 rfl rfl ?_ | refine Z1e rfl rfl ?_) | ((with_reducible show VO _ _ _ _ _ _ _); first | refine Z09 rfl rfl happ (Z04 _) (by decide) (by decide) k1 ?_ | refine O_alloc2 hS ?_ | refine Z0a rfl hg1 rfl ?_ | refine Z0a rfl hg2 rfl ?_ | refine Z02 rfl ?_ | refine Z03 ?_) | ((with_reducible show Go.AM.VC _ _ _ _ _ _ _ _ _ _); first | refine Z3y rfl rfl rfl rfl rfl rfl rfl rfl h1 h2 rfl ?_ | refine C_loadV rfl rfl rfl hall rfl ?_ | refine C_append rfl rfl rfl rfl rfl rfl rfl rfl rfl rfl (Z04 _) (by decide) (by decide) j1 ?_ | refine Z3n rfl rfl (fun _ => rfl) ?_ | refine C_nil rfl rfl ?_)
    rw [hpv]
    refine ⟨?_, h4.trans j3⟩
    have : bs ++ kb :: (putL 9 s.length ++ s) = bs ++ [kb] ++ putL 9 s.length ++ s := by simp
    rw [this]
    exact j2
  · obtain ⟨v3, S3, h1, h2, h3, h4, h5, _, hl3⟩ := num l.length (by omega)
    have hwl : IntKind.u64.wrap (l.length : Int) = (l.length : Int) := by rw [Z0x]; omega
    rw [← hwl] at h1
    have hpv : putV (.mk k n s l) = kb :: (putL 9 l.length ++ putVs l) := by simp only [putV, hkd]; simp [hk1, hk6, hk7, hk3, hk2]
    have hlt2 : st.next < S2.next := by have := hG2.2.1; omega
    have hg3 : (⟨S2.base, S3.next, S3.toks⟩ : St).get st.next = some (.var [.int .i64 k, .int .i64 n, .str s, p]) := (h5 st.next hlt2).trans hg2
    have hloop := puts3_loop [.int .i64 k, .int .i64 n, .str s, p] l p hp ih st.next rfl l [] ⟨S2.base, S3.next, S3.toks⟩ v3 (bs ++ [kb] ++ putL 9 l.length) rfl h3 (by rw [hpv] at hlen; simp at hlen ⊢; omega) hg3 (by show st.next < S3.next; omega)
    refine Z1f rfl rfl ?_
    repeat' first | ((with_reducible show V _ _ _ _ _ _); first | refine Z2y (decide_eq_false hk1) rfl rfl ?_ | refine Z2y (decide_eq_false hk6) rfl rfl ?_ | refine Z2y (decide_eq_false hk7) rfl rfl ?_ | refine Z2y (decide_eq_false hk3) rfl rfl ?_ | refine Z2y (decide_eq_false hk2) rfl rfl ?_ | refine V_cutTo rfl hloop ⟨rfl, rfl, rfl, trivial⟩ ?_ | refine V_O rfl ?_) | ((with_reducible show VO _ _ _ _ _ _ _); first | refine Z09 rfl rfl happ (Z04 _) (by decide) (by decide) k1 ?_ | refine O_alloc2 hS ?_ | refine Z0a rfl hg1 rfl ?_ | refine Z0a rfl hg2 rfl ?_ | refine Z0p rfl lp1 lp2 ?_ | refine Z0s h1 h2 rfl rfl ?_ | refine Z02 rfl ?_ | refine Z03 ?_)
    rintro x e' st' ⟨rfl, v', rfl, hA5, hG5⟩
    repeat' first | refine Z0k rfl rfl ?_ | refine V_O rfl ?_ | refine Z02 rfl ?_ | refine Z03 ?_
    rw [hpv]
    refine ⟨?_, h4.trans hG5⟩
    have : bs ++ kb :: (putL 9 l.length ++ putVs l) = bs ++ [kb] ++ putL 9 l.length ++ putVs l := by simp
    rw [this]
    exact hA5
theorem build_val {v : Val} {cs : List PV} (hv : VC v cs) : ∀ (look : Nat → Option Tok) (e : EC) {k : Nat}, e.get k = some (.agg cs) → Z0v look e (.buildSl 4 [[.int .i64 0, .int .i64 0, .str [], .nilSl]] [(0, .t k)]) = some (.sl [cs] true) := fun look e k h => by
  obtain ⟨s, q, rfl, hq⟩ := hv.form2
  have h1 := hv.one
  simp only [List.all_cons, List.all_nil, Bool.and_true, Bool.and_eq_true] at h1
  have hq1 := h1.2.2.2
  have hq2 : q.isJunk = false := by cases q <;> first | rfl | cases hq1
  simp only [Z0v, Z3z, elsOf, Opd.get, h]
  simp [Z23, Z1i, PV.cells, PV.isJunk, hq1, hq2, PV.one]
end Go.Proofs.YtgdjnlopdpjnaaaGreatDoor
set_option linter.unusedVariables false
set_option linter.unusedSimpArgs false
namespace Go.Proofs.YtgdjnlopdpjnaaaGreatDoor
open Go Go.AM Go.RowKit
theorem D_loadV {T : Tb} {Q : Post} {k : List Fr} {ρ : EC} {st : St} {l : List POp} {kill : List Nat} {d : Option Nat} {a : Opd} {t off : Nat} {cs : List PV} {c : PV} (ha : a.get ρ = some (.ptr t off)) (hg : st.get t = some (.var cs)) (hc : cs[off]? = some c) (h : VD T Q l kill k (ρ.sets d c) st) : VD T Q (⟨d, none, .load 1 false a⟩ :: l) kill k ρ st :=
  Z1b (by
    have hlt := (List.getElem?_eq_some_iff.1 hc).1
    simp only [Z0v, get1, ha, loadAt, behind, hg, Option.bind_some, slice?]
    rw [if_pos (by omega)]
    simpa using hc) h
theorem D_loadW {T : Tb} {Q : Post} {k : List Fr} {ρ : EC} {st : St} {l : List POp} {kill : List Nat} {d : Option Nat} {a : Opd} {t off n : Nat} {cs ds : List PV} (ha : a.get ρ = some (.ptr t off)) (hg : st.get t = some (.var cs)) (hl : off + n ≤ cs.length) (hd : (cs.drop off).take n = ds) (h : VD T Q l kill k (ρ.sets d (.agg ds)) st) : VD T Q (⟨d, none, .load n true a⟩ :: l) kill k ρ st :=
  Z1b (by
    simp only [Z0v, get1, ha, loadAt, behind, hg, Option.bind_some, slice?]
    rw [if_pos hl]
    simp [hd]) h
end Go.Proofs.YtgdjnlopdpjnaaaGreatDoor
set_option linter.unusedVariables false
set_option linter.unusedSimpArgs false
namespace Go.Proofs.YtgdjnlopdpjnaaaGreatDoor
open Go Go.AM Go.RowKit
theorem lnkK_ok {x : Lnk} (h1 : idB x.id = true) (h2 : idB x.out = true) (h3 : idB x.into = true) : lnkK x = (Z35 (vEdg x.id), Z2g x.out ++ Z2g x.into ++ Z2s x.label ++ Z20 x.props) :: (Z1v 3 x.out x.label ++ kB (vEdg x.id), Z2g x.into) :: (Z1v 4 x.into x.label ++ kB (vEdg x.id), Z2g x.out) :: idxK (vEdg x.id) x.label x.props := by simp [lnkK, h1, h2, h3]
def BdK (label : List UInt8) (l : List Prp) : Prop := (∀ y ∈ l, (putM y.val).length ≤ 100000000000000) ∧ (Z2s label).length + (Z20 l).length ≤ 10000000000 ∧ label.length ≤ 1000000000000 ∧ l.length ≤ 100000000000
theorem edge_of {x : Lnk} {cs : List PV} (hx : LkC x cs) (hb : BdK x.label x.props) : ∃ q, T.R (.call n_keys_Edge [.agg cs] q) ∧ LR EnC q (lnkK x) := run_Edge hx hb.1 hb.2.1 hb.2.2.1 hb.2.2.2
end Go.Proofs.YtgdjnlopdpjnaaaGreatDoor
set_option linter.unusedVariables false
set_option linter.unusedSimpArgs false
namespace Go.Proofs.YtgdjnlopdpjnaaaGreatDoor
open Go Go.AM Go.RowKit
theorem keyB_err {v : Val} (h : keyE [v] ≠ 0) : keyB [v] = [] := by
  unfold keyE at h
  unfold keyB
  split at h
  · exact absurd rfl h
  · rename_i e he
    simp only [he]
theorem kB_eq (v : Val) : kB v = keyB [v] := by
  unfold kB
  split
  · rfl
  · rename_i h
    exact (keyB_err h).symm
theorem run_k {v : Val} {cs : List PV} (hv : VC v cs) : ∃ q, T.R (.call n_rambleref11_k [.agg cs] q) ∧ BV q (kB v) := by
  obtain ⟨q, h1, h2⟩ := run_Key3 [v] _ (lc_one hv true) (by simp)
  rw [← kB_eq] at h1
  obtain ⟨s, w, rfl, hw⟩ := hv.form2
  have hqp := h1.pl
  refine ⟨q, ?_, h1⟩
  refine Z0c rfl rfl ?_
  repeat' first | refine Z2c rfl rfl hqp.view ?_ | refine V_O rfl ?_ | ((with_reducible show VO _ _ _ _ _ _ _); first | refine Z0u rfl rfl h2 ?_ | refine Z02 (build_val hv _ _ rfl) ?_ | refine Z02 rfl ?_ | refine Z05 rfl ?_ | refine Z03 ?_)
  rfl
theorem run_rStr (s : List UInt8) : T.R (.call n_rambleref02_Str [.str s] (.agg [.int .i64 2, .int .i64 0, .str s, .nilSl])) := by
  refine Z0c rfl rfl ?_
  repeat' first | refine V_O rfl ?_ | refine Z1t rfl rfl ?_ | ((with_reducible show VO _ _ _ _ _ _ _); first | refine Z02 rfl ?_ | refine Z05 rfl ?_ | refine Z03 ?_)
  rfl
theorem run_kStr {s : List UInt8} (hs : s.length ≤ 140737488355328) : ∃ q, T.R (.call n_rambleref11_str [.str s] q) ∧ BV q (kB (vStr s)) := by
  obtain ⟨q, h1, h2⟩ := run_k (vc_str hs)
  have hqp := h2.pl
  have h3 := run_rStr s
  refine ⟨q, ?_, h2⟩
  refine Z0c rfl rfl ?_
  repeat' first | refine Z2c rfl rfl hqp.view ?_ | refine V_O rfl ?_ | ((with_reducible show VO _ _ _ _ _ _ _); first | refine Z0u rfl rfl h3 ?_ | refine Z0u rfl rfl h1 ?_ | refine Z02 rfl ?_ | refine Z03 ?_)
  rfl
theorem run_rid {n : Int} : T.R (.call n_rambleref11_id [.int .i64 n] (.bool (idB n))) := by
  rcases idB_cases (n := n) with ⟨h1, h2⟩ | ⟨h1, h3, h2⟩ | ⟨h1, h3, h2⟩
  · have d1 := Z0n (p := n ≥ 1) (by omega)
    rw [h2]
    refine Z0c rfl rfl ?_
    repeat' first | refine V_O rfl ?_ | refine Z1t rfl rfl ?_ | ((with_reducible show VO _ _ _ _ _ _ _); first | refine Z0q d1 rfl ?_ | refine Z02 rfl ?_ | refine Z03 ?_ | refine Z1j rfl rfl ?_)
    rfl
  · have d1 := Z13 (p := n ≥ 1) (by omega)
    have d2 := Z0n (p := n ≤ 281474976710656) (by omega)
    rw [h2]
    refine Z0c rfl rfl ?_
    repeat' first | refine V_O rfl ?_ | refine Z1t rfl rfl ?_ | ((with_reducible show VO _ _ _ _ _ _ _); first | refine Z0q d1 rfl ?_ | refine Z0q d2 rfl ?_ | refine Z02 rfl ?_ | refine Z03 ?_ | refine Z10 rfl ?_)
    rfl
  · have d1 := Z13 (p := n ≥ 1) (by omega)
    have d2 := Z13 (p := n ≤ 281474976710656) (by omega)
    rw [h2]
    refine Z0c rfl rfl ?_
    repeat' first | refine V_O rfl ?_ | refine Z1t rfl rfl ?_ | ((with_reducible show VO _ _ _ _ _ _ _); first | refine Z0q d1 rfl ?_ | refine Z0q d2 rfl ?_ | refine Z02 rfl ?_ | refine Z03 ?_ | refine Z10 rfl ?_)
    rfl
theorem rNumR {st : St} {b : PV} {s : List UInt8} (hbn : st.base = st.next) (hv : RB st b s) (hs : s.length ≤ 100000000000000) {n : Int} (hn : I64 n) : ∃ v' st', T.R (.raw n_rambleref11_num [b, .int .i64 n] st v' st') ∧ AccT 1 st' v' (Z00 (s ++ Z2g n)) ∧ Grow st .nilSl st' v' := by
  obtain ⟨v1, st1, h1, h2, h3⟩ := refPutR (st := ⟨st.next, st.next, st.toks⟩) rfl (hv.keep (Nat.le_refl _) (fun _ _ => rfl)) hs _ (numU hn)
  have e1 : PV.int .i64 (if 0 > n then 0 else n) = PV.int .i64 (((if 0 < n then n.toNat else 0 : Nat)) : Int) := Z3x (by split <;> split <;> omega)
  have e2 := put_e2 hn
  have hend : AccT 1 ⟨st.base, st1.next, st1.toks⟩ v1 (Z00 (s ++ Z2g n)) ∧ Grow st .nilSl ⟨st.base, st1.next, st1.toks⟩ v1 := ⟨h2, Grow.re (b := 0) h3⟩
  refine Z1f rfl rfl ?_
  repeat' first | refine Z0k rfl rfl hend | refine V_O rfl ?_ | ((with_reducible show VO _ _ _ _ _ _ _); first | refine Z0q e1 rfl ?_ | refine Z0q e2 rfl ?_ | refine Z0s h1 h3.1 rfl rfl ?_ | refine Z02 rfl ?_ | refine Z03 ?_)
theorem call_rNum {b : PV} {s : List UInt8} (hb : BV b s) (hs : s.length ≤ 100000000000000) {n : Int} (hn : I64 n) : ∃ q, T.R (.call n_rambleref11_num [b, .int .i64 n] q) ∧ BV q (s ++ Z2g n) := by
  obtain ⟨v', st', h1, h2, h3⟩ := rNumR (st := emptySt) rfl (rb_of hb) hs hn
  exact own_call h1 h2
theorem rLabR {st : St} {b : PV} {s t : List UInt8} (hbn : st.base = st.next) (hv : RB st b s) (hs : s.length + t.length ≤ 10000000000000) (ht : t.length ≤ 140737488355328) : ∃ v' st', T.R (.raw n_rambleref11_label [b, .str t] st v' st') ∧ AccT 1 st' v' (Z00 (s ++ Z2s t)) ∧ Grow st .nilSl st' v' := by
  obtain ⟨v1, st1, h1, h2, h3⟩ := rNumR (st := ⟨st.next, st.next, st.toks⟩) rfl (hv.keep (Nat.le_refl _) (fun _ _ => rfl)) (by omega) (i64_len ht)
  have hl : (Z2g t.length).length ≤ 10 := Z1r _ _
  have hA : AccT 1 ⟨st.base, st1.next, st1.toks⟩ v1 (Z00 (s ++ Z2g t.length)) := h2
  have hG : Grow st .nilSl ⟨st.base, st1.next, st1.toks⟩ v1 := Grow.re (b := 0) h3
  have hfr := AccT.none_fresh hG hA (cells_ne (by simp [numK_ne]))
  obtain ⟨v2, st2, k1, k2, k3⟩ := Z2e hA t (by rw [List.length_append]; omega)
  have hend : AccT 1 st2 v2 (Z00 (s ++ Z2s t)) ∧ Grow st .nilSl st2 v2 := ⟨by unfold Z2s; rw [← List.append_assoc]; exact k2, grow_nil2 hG k3 hfr⟩
  refine Z1f rfl rfl ?_
  repeat' first | refine Z0k rfl rfl hend | refine V_O rfl ?_ | ((with_reducible show VO _ _ _ _ _ _ _); first | refine Z0s h1 h3.1 rfl rfl ?_ | refine Z09 rfl rfl rfl (Z04 _) (by decide) (by decide) k1 ?_ | refine Z02 rfl ?_ | refine Z03 ?_)
theorem call_rLab {b : PV} {s t : List UInt8} (hb : BV b s) (hs : s.length + t.length ≤ 10000000000000) (ht : t.length ≤ 140737488355328) : ∃ q, T.R (.call n_rambleref11_label [b, .str t] q) ∧ BV q (s ++ Z2s t) := by
  obtain ⟨v', st', h1, h2, h3⟩ := rLabR (st := emptySt) rfl (rb_of hb) hs ht
  exact own_call h1 h2
end Go.Proofs.YtgdjnlopdpjnaaaGreatDoor
set_option linter.unusedVariables false
set_option linter.unusedSimpArgs false
namespace Go.Proofs.YtgdjnlopdpjnaaaGreatDoor
open Go Go.AM Go.RowKit
theorem at_step {sz : Nat} {v : PV} {n : Int} {cs : List PV} {kk : IntKind} (ha : At sz v n cs) : ∀ (look : Nat → Option Tok) (e : EC) {i j : Nat}, e.get i = some v → e.get j = some (.int kk n) → Z0v look e (.indexS (.t i) (.t j) sz) = some (.iptr cs 0) := fun look e i j hi hj => by
  obtain ⟨h0, hl, xs, f, rfl, hc⟩ := ha
  simp only [Z0v, get2, Opd.get, hi, hj, indexed, indexS?]
  rw [if_pos h0, hc]
  simp [hl]
theorem load_val {name : PV} {vc : List PV} (h4 : vc.length = 4) : ∀ look : Nat → Option Tok, loadAt look 4 true (.iptr (name :: vc) 1) = some (.agg vc) := fun look => by
  simp only [loadAt, behind, Option.bind_some, slice?]
  rw [if_pos (by simp [h4])]
  simp [← h4]
theorem load_step {n : Nat} {agg : Bool} {p v : PV} (h : ∀ look : Nat → Option Tok, loadAt look n agg p = some v) : ∀ (look : Nat → Option Tok) (e : EC) {i : Nat}, e.get i = some p → Z0v look e (.load n agg (.t i)) = some v := fun look e i hi => by
  simp only [Z0v, get1, Opd.get, hi]
  exact h look
theorem run_rPut {v : Val} {cs : List PV} (hv : VC v cs) (hlen : (putM v).length ≤ 100000000000000) : ∃ q, T.R (.call n_rambleref03_Put [.nilSl, .agg cs] q) ∧ BV q (putM v) := by
  have hchk := run_Check2 hv
  have plc := hv.pl
  have hA0 : (emptySt.new (.var cs)).get 0 = some (.var cs) := rfl
  by_cases hm : Z21 8 v = true
  · have e : putM v = putV v := by simp [putM, hm]
    have hc0 : chk v = 0 := by simp [chk, hm]
    rw [hc0] at hchk
    rw [e] at hlen ⊢
    obtain ⟨v', st', h1, h2, h3⟩ := put3_all hv ⟨1, 1, (emptySt.new (.var cs)).toks⟩ .nilSl [] rfl (.inl ⟨rfl, rfl⟩) (by simpa using hlen)
    rw [List.nil_append] at h2
    have hA1 : AccT 1 ⟨0, st'.next, st'.toks⟩ v' (Z00 (putV v)) := h2
    obtain ⟨q, w1, w2⟩ := AB.view (.inr hA1)
    have hg1 : (⟨0, st'.next, st'.toks⟩ : St).get 0 = some (.var cs) := (h3.2.2.2 0 (by show 0 < 1; omega) (by simp [Z15])).trans hA0
    have hall : ∀ i, ((mkC [3] [some 12] (emptySt.new (.var cs)) [⟨0, st'.next, st'.toks⟩] none).S i).get 0 = some (.var cs) := Z1o (Q := fun s => s.get 0 = some (.var cs)) ⟨hA0, hg1⟩
    have hall1 : ∀ i, Z0w ((mkC [3] [some 12] (emptySt.new (.var cs)) [⟨0, st'.next, st'.toks⟩] none).S i) 1 1 .nilSl [] = some (.nilSl, (mkC [3] [some 12] (emptySt.new (.var cs)) [⟨0, st'.next, st'.toks⟩] none).S i) := fun i => Z1w (.inl rfl)
    refine ⟨q, ?_, w2⟩
    refine Z0c rfl rfl ?_
    repeat' first | ((with_reducible show V _ _ _ _ _ _); first | refine V_C (mkC [1, 3] [some 10, some 12] (emptySt.new (.var cs)) [emptySt.new (.var cs), ⟨0, st'.next, st'.toks⟩] none) rfl rfl ?_ | refine Z2c rfl rfl w1 ?_ | refine V_O rfl ?_ | refine Z1e rfl rfl ?_) | ((with_reducible show VO _ _ _ _ _ _ _); first | refine Z1p rfl hA0 hv.len4 ?_ | refine Z0u rfl rfl hchk ?_ | refine Z02 rfl ?_ | refine Z05 rfl ?_ | refine Z03 ?_) | ((with_reducible show Go.AM.VC _ _ _ _ _ _ _ _ _ _); first | refine C_append rfl rfl rfl rfl rfl rfl rfl rfl rfl (src := []) rfl rfl (by decide) (by decide) (Z1w (.inl rfl)) ?_ | refine Z42 rfl rfl rfl (Z1o (Q := fun s => s.get 0 = some (.var cs)) ⟨hA0, hA0, hg1⟩) hv.len4 ?_ | refine Z3y rfl rfl rfl rfl rfl rfl rfl rfl h1 h3.1 rfl ?_ | refine Z3n rfl rfl (fun _ => rfl) ?_ | refine C_nil rfl rfl ?_)
    rfl
  · have e : putM v = [] := by simp [putM, hm]
    have hc0 : chk v = 20 := by simp [chk, hm]
    rw [hc0] at hchk
    rw [e]
    refine ⟨.nilSl, ?_, .nil⟩
    refine Z0c rfl rfl ?_
    repeat' first | ((with_reducible show V _ _ _ _ _ _); first | refine V_O rfl ?_ | refine Z16 rfl rfl ?_ | refine Z1t rfl rfl ?_) | ((with_reducible show VO _ _ _ _ _ _ _); first | refine Z1p rfl hA0 hv.len4 ?_ | refine Z0u rfl rfl hchk ?_ | refine Z02 rfl ?_ | refine Z05 rfl ?_ | refine Z03 ?_)
    rfl
theorem rprops_loop {l : List Prp} {p : PV} (hp : LR PpC p l) : ∀ (rest pre : List Prp) (st : St) (b : PV) (s : List UInt8), l = pre ++ rest → AccT 1 st b (Z00 s) → s ≠ [] → s.length + (rest.flatMap propK).length ≤ 1000000000000 →
    V T (PE fun x e st' => x = .exit 0 ∧ ∃ b', e = ecOf [(0, b')] ∧ AccT 1 st' b' (Z00 (s ++ rest.flatMap propK)) ∧ Grow st b st' b') [.code (.loop lp_rambleref11_props_0)] .normal (ecOf [(0, b), (1, p), (5, .int .i64 pre.length)]) st := by
  obtain ⟨e1, e2, hbig⟩ := hp.len
  intro rest
  induction rest with
  | nil =>
    intro pre st b s hl hA hne hlen
    have hlt : decide ((pre.length : Int) < l.length) = false := decide_eq_false (by subst hl; simp)
    refine Z08 ?_
    repeat' first | ((with_reducible show V _ _ _ _ _ _); first | refine Z2y hlt rfl rfl ?_ | refine V_out [(0, b)] rfl ⟨rfl, trivial⟩ ⟨rfl, b, rfl, by simpa using hA, .refl _ _⟩ | refine V_O rfl ?_) | ((with_reducible show VO _ _ _ _ _ _ _); first | refine Z0p rfl e1 e2 ?_ | refine Z02 rfl ?_ | refine Z03 ?_)
  | cons v rest ih =>
    intro pre st b s hl hA hne hlen
    have hlt : decide ((pre.length : Int) < l.length) = true := decide_eq_true (by subst hl; simp; omega)
    have hpl : pre.length < l.length := by subst hl; simp
    obtain ⟨cs, hat, hvc⟩ := hp.at (fun _ _ h => h.len5) (j := pre.length) (a := v) (by subst hl; simp)
    have hcl := hvc.len5
    obtain ⟨hnl, vc, rfl, hvv⟩ := hvc
    have hw : IntKind.i64.wrap ((pre.length : Int) + 1) = ((pre ++ [v]).length : Int) := by rw [Z0l]; simp; omega
    rw [List.flatMap_cons, List.length_append] at hlen
    have hpk : propK v = Z2s v.name ++ putM v.val := rfl
    rw [hpk, List.length_append] at hlen
    have htl : (Z2s v.name).length = (Z2g v.name.length).length + v.name.length := by simp [Z2s]
    obtain ⟨q, hq1, hq2⟩ := run_rPut hvv (by omega)
    obtain ⟨v1, st1, h1, h2, h3⟩ := rLabR (st := ⟨st.next, st.next, st.toks⟩) rfl ((AccT.rb hA).keep (Nat.le_refl _) (fun _ _ => rfl)) (t := v.name) (by omega) hnl
    have hA2 : AccT 1 ⟨st.base, st1.next, st1.toks⟩ v1 (Z00 (s ++ Z2s v.name)) := h2
    have hG2 : Grow st .nilSl ⟨st.base, st1.next, st1.toks⟩ v1 := Grow.re (b := 0) h3
    have hfr := AccT.none_fresh hG2 hA2 (cells_ne (by simp [hne]))
    obtain ⟨v2, S3, k1, k2, k3⟩ := Z2e hA2 (putM v.val) (by rw [List.length_append]; omega)
    have hG3 : Grow st .nilSl S3 v2 := grow_nil2 hG2 k3 hfr
    have hi := ih (pre ++ [v]) S3 v2 (s ++ propK v) (by rw [hl]; simp) (by rw [hpk, ← List.append_assoc]; exact k2) (by simp [hne]) (by rw [hpk, List.length_append, List.length_append]; omega)
    have hat' := at_step (kk := .i64) hat
    have hvl := hvv.len4
    have hld := load_step (load_val (name := .str v.name) hvl)
    have hplv := hvv.pl
    refine Z08 ?_
    repeat' first | ((with_reducible show V _ _ _ _ _ _); first | refine Z2d hlt rfl rfl ?_ | refine V_C (mkC [6, 13] [some 22, some 29] st [⟨st.base, st1.next, st1.toks⟩, S3] none) rfl rfl ?_ | refine V_monoP (V_re rfl hi ⟨rfl, rfl, some_int hw, trivial⟩) ?_ | refine V_O rfl ?_) | ((with_reducible show VO _ _ _ _ _ _ _); first | refine Z0p rfl e1 e2 ?_ | refine Z02 rfl ?_ | refine Z03 ?_) | ((with_reducible show Go.AM.VC _ _ _ _ _ _ _ _ _ _); first | refine Z3y rfl rfl rfl rfl rfl rfl rfl rfl h1 h3.1 rfl ?_ | refine Z3n rfl rfl (fun _ => hat' _ _ rfl rfl) ?_ | refine Z3n rfl rfl (fun _ => hld _ _ rfl) ?_ | refine C_call rfl rfl rfl rfl (fun _ => Z1a (by (repeat' (first | exact Pl.int _ _ | exact Pl.bool _ | exact Pl.str _ | exact Pl.nilSl | exact Z1d | refine Z0m ?_ ?_ | refine Pl.tuple _ ?_ | refine Pl.agg _ ?_ | refine Pl.func _ _ ?_ | assumption | refine Pl.iptr _ _ ?_ | exact Z1h | refine Z11 ?_ ?_ | refine Pl.sl _ _ ?_)); first | done | fail)) hq1 ?_ | refine C_append rfl rfl rfl rfl rfl rfl rfl rfl rfl (Z0j hq2) (Z04 _) (by decide) (by decide) k1 ?_ | refine Z3n rfl rfl (fun _ => rfl) ?_ | refine C_nil rfl rfl ?_)
    rintro x e st' ⟨rfl, b', rfl, r1, r2⟩
    refine ⟨rfl, b', rfl, by rw [List.flatMap_cons, ← List.append_assoc]; exact r1, (Grow_nil hG3 k2 (cells_ne (by simp [hne]))).trans r2⟩
theorem call_rProps {b : PV} {s : List UInt8} {l : List Prp} {p : PV} (hb : BV b s) (hp : LR PpC p l) (hlen : s.length + (Z20 l).length ≤ 100000000000) : ∃ q, T.R (.call n_rambleref11_props [b, p] q) ∧ BV q (s ++ Z20 l) := by
  obtain ⟨e1, e2, e3⟩ := hp.len
  have hpk : Z20 l = Z2g l.length ++ l.flatMap propK := rfl
  rw [hpk, List.length_append] at hlen
  obtain ⟨v1, st1, h1, h2, h3⟩ := rNumR (st := ⟨0, 0, []⟩) rfl (rb_of hb) (by omega) (n := (l.length : Int)) (by unfold I64; omega)
  have hl := rprops_loop hp l [] ⟨0, st1.next, st1.toks⟩ v1 (s ++ Z2g l.length) rfl h2 (by simp [numK_ne]) (by rw [List.length_append]; omega)
  have key : ∃ v' st', T.R (.raw n_rambleref11_props [b, p] emptySt v' st') ∧ AccT 1 st' v' (Z00 (s ++ Z20 l)) := by
    refine Z1f rfl rfl ?_
    repeat' first | refine V_cutTo rfl hl ⟨rfl, rfl, rfl, trivial⟩ ?_ | refine V_O rfl ?_ | ((with_reducible show VO _ _ _ _ _ _ _); first | refine Z0p rfl e1 e2 ?_ | refine Z0s h1 h3.1 rfl rfl ?_ | refine Z02 rfl ?_ | refine Z03 ?_)
    rintro x e st' ⟨rfl, b', rfl, r1, r2⟩
    repeat' first | refine Z0k rfl rfl ?_ | refine V_O rfl ?_ | refine Z02 rfl ?_ | refine Z03 ?_
    rw [hpk, ← List.append_assoc]
    exact r1
  obtain ⟨v', st', k1, k2⟩ := key
  exact own_call k1 k2
theorem ab_fin {pf : PF} {b : List UInt8} {k : List Fr} {x : EX} {ρ : EC} {st : St} {v : PV} (hA : AB st v b) (ha : adv 200 k x = ([], .ret)) (hr : resG ρ st.get pf.results = some v) : V T (Go.AM.Ends pf fun q => BV q b) k x ρ st := by
  obtain ⟨q, w1, w2⟩ := hA.view
  exact Z2c ha hr w1 w2
theorem run_rKey {v : Val} {cs : List PV} (hv : VC v cs) : ∃ q, T.R (.call n_rambleref11_Key [.agg cs] q) ∧ BV q (Z35 v) := by
  have hchk := run_Check2 hv
  obtain ⟨qk, k1, k2⟩ := run_k hv
  have hkp := k2.pl
  have hA0 : (emptySt.new (.var cs)).get 0 = some (.var cs) := rfl
  have hl4 := hv.len4
  have hcp := hv.pl
  have hkl := Z3w v
  obtain ⟨s, w, hcs, hw⟩ := hv.form2
  by_cases hm : Z21 8 v = true
  · have hc0 : chk v = 0 := by simp [chk, hm]
    rw [hc0] at hchk
    by_cases h6 : v.kind = 6
    · have d6 := Z13 (p := v.kind = 6) h6
      obtain ⟨v1, st1, a1, a2, a3⟩ := (AB.lit (emptySt.new (.var cs)) [1]).app (t := kB v) (by simp; omega)
      have e : Z35 v = [1] ++ kB v := by simp [Z35, hm, h6]
      rw [e]
      subst hcs
      refine Z24 rfl rfl ?_
      repeat' first | ((with_reducible show V _ _ _ _ _ _); first | refine V_O rfl ?_ | refine Z16 rfl rfl ?_ | refine Z1e rfl rfl ?_) | ((with_reducible show VO _ _ _ _ _ _ _); first | refine Z1p rfl hA0 hl4 ?_ | refine Z0a rfl hA0 rfl ?_ | refine Z0u rfl rfl hchk ?_ | refine Z0u rfl rfl k1 ?_ | refine Z0q d6 rfl ?_ | refine Z09 rfl rfl (Z0j k2) (Z04 _) (by decide) (by decide) a1 ?_ | refine Z02 rfl ?_ | refine Z05 rfl ?_ | refine Z03 ?_) | refine ab_fin a2 rfl rfl
    · have d6 := Z0n (p := v.kind = 6) h6
      by_cases h7 : v.kind = 7
      · have d7 := Z13 (p := v.kind = 7) h7
        obtain ⟨v1, st1, a1, a2, a3⟩ := (AB.lit (emptySt.new (.var cs)) [2]).app (t := kB v) (by simp; omega)
        have e : Z35 v = [2] ++ kB v := by simp [Z35, hm, h6, h7]
        rw [e]
        subst hcs
        refine Z24 rfl rfl ?_
        repeat' first | ((with_reducible show V _ _ _ _ _ _); first | refine V_O rfl ?_ | refine Z16 rfl rfl ?_ | refine Z1e rfl rfl ?_) | ((with_reducible show VO _ _ _ _ _ _ _); first | refine Z1p rfl hA0 hl4 ?_ | refine Z0a rfl hA0 rfl ?_ | refine Z0u rfl rfl hchk ?_ | refine Z0u rfl rfl k1 ?_ | refine Z0q d6 rfl ?_ | refine Z0q d7 rfl ?_ | refine Z09 rfl rfl (Z0j k2) (Z04 _) (by decide) (by decide) a1 ?_ | refine Z02 rfl ?_ | refine Z05 rfl ?_ | refine Z03 ?_) | refine ab_fin a2 rfl rfl
      · have d7 := Z0n (p := v.kind = 7) h7
        have e : Z35 v = [] := by simp [Z35, hm, h6, h7]
        rw [e]
        subst hcs
        refine Z24 rfl rfl ?_
        repeat' first | ((with_reducible show V _ _ _ _ _ _); first | refine V_O rfl ?_ | refine Z1e rfl rfl ?_ | refine Z1t rfl rfl ?_) | ((with_reducible show VO _ _ _ _ _ _ _); first | refine Z1p rfl hA0 hl4 ?_ | refine Z0a rfl hA0 rfl ?_ | refine Z0u rfl rfl hchk ?_ | refine Z0q d6 rfl ?_ | refine Z0q d7 rfl ?_ | refine Z02 rfl ?_ | refine Z05 rfl ?_ | refine Z03 ?_)
        exact .nil
  · have hc0 : chk v = 20 := by simp [chk, hm]
    rw [hc0] at hchk
    have e : Z35 v = [] := by simp [Z35, hm]
    rw [e]
    subst hcs
    refine Z24 rfl rfl ?_
    repeat' first | ((with_reducible show V _ _ _ _ _ _); first | refine V_O rfl ?_ | refine Z16 rfl rfl ?_ | refine Z1t rfl rfl ?_) | ((with_reducible show VO _ _ _ _ _ _ _); first | refine Z1p rfl hA0 hl4 ?_ | refine Z0u rfl rfl hchk ?_ | refine Z02 rfl ?_ | refine Z05 rfl ?_ | refine Z03 ?_)
    exact .nil
theorem run_rSign {v : Val} {cs : List PV} (hv : VC v cs) (hlen : (putM v).length ≤ 100000000000000) : ∃ q, T.R (.call n_rambleref11_Sign [.agg cs] q) ∧ BV q (signB v) := by
  have hA0 : (emptySt.new (.var cs)).get 0 = some (.var cs) := rfl
  have hl4 := hv.len4
  have hcp := hv.pl
  obtain ⟨s, w, hcs, hw⟩ := hv.form2
  obtain ⟨b, hb⟩ : ∃ b, b = if v.kind = 4 ∨ v.kind = 5 then putM v else kB v := ⟨_, rfl⟩
  have hsb : signB v = [UInt8.ofNat (b.take 40).length] ++ b.take 40 := by rw [hb]; rfl
  have htk : b.take 40 = b.take (min 40 b.length) := by
    rcases Nat.le_total 40 b.length with h | h
    · rw [Nat.min_eq_left h]
    · rw [Nat.min_eq_right h, List.take_of_length_le h, List.take_of_length_le (Nat.le_refl _)]
  have fin : ∀ q, BV q b → ∃ q', (∀ look, sliceSl? look 1 none (some (.int .i64 ((min 40 b.length : Nat) : Int))) none q = some q') ∧ BV q' (b.take 40) := fun q hq => by
    rw [htk]
    exact bv_take hq (Nat.min_le_right _ _)
  have hl40 : (b.take 40).length = min 40 b.length := by rw [List.length_take]
  have e1 := minU (n := b.length)
  have e2 : PV.int .u8 (IntKind.u8.wrap ((min 40 b.length : Nat) : Int)) = PV.int .u8 ((UInt8.ofNat (b.take 40).length).toNat : Int) := by
    rw [hl40, wrapU8]
    congr 3
    have h1 : ((min 40 b.length : Nat) : Int) % 256 = ((min 40 b.length : Nat) : Int) := by omega
    rw [h1]
    rfl
  obtain ⟨v', st', k1, k2, k3⟩ := (AB.lit (emptySt.new (.var cs)) [UInt8.ofNat (b.take 40).length]).app (t := b.take 40) (by simp; omega)
  obtain ⟨qp, hp1, hp2⟩ := run_rPut hv hlen
  obtain ⟨qk, hk1, hk2⟩ := run_k hv
  have hplp := hp2.pl
  have hplk := hk2.pl
  rw [hsb]
  subst hcs
  refine Z24 rfl rfl ?_
  by_cases h4 : v.kind = 4
  · have hbp : b = putM v := by rw [hb, if_pos (.inl h4)]
    rw [← hbp] at hp2
    obtain ⟨q', f1, f2⟩ := fin _ hp2
    have d4 := Z13 (p := v.kind = 4) h4
    repeat' first | refine V_O rfl ?_ | refine Z16 rfl rfl ?_ | ((with_reducible show VO _ _ _ _ _ _ _); first | refine Z1p rfl hA0 hl4 ?_ | refine Z0a rfl hA0 rfl ?_ | refine Z0q d4 rfl ?_ | refine Z0u rfl rfl hk1 ?_ | refine Z0u rfl rfl hp1 ?_ | refine Z0z rfl hp2 ?_ | refine Z0q e1 rfl ?_ | refine Z0q e2 rfl ?_ | refine Z02 (f1 _) ?_ | refine Z09 rfl rfl (Z0j f2) (Z04 _) (by decide) (by decide) k1 ?_ | refine Z02 rfl ?_ | refine Z05 rfl ?_ | refine Z03 ?_ | refine Z1j rfl rfl ?_) | refine ab_fin k2 rfl rfl
  · have d4 := Z0n (p := v.kind = 4) h4
    by_cases h5 : v.kind = 5
    · have hbp : b = putM v := by rw [hb, if_pos (.inr h5)]
      rw [← hbp] at hp2
      obtain ⟨q', f1, f2⟩ := fin _ hp2
      have d5 := Z13 (p := v.kind = 5) h5
      repeat' first | refine V_O rfl ?_ | refine Z16 rfl rfl ?_ | ((with_reducible show VO _ _ _ _ _ _ _); first | refine Z1p rfl hA0 hl4 ?_ | refine Z0a rfl hA0 rfl ?_ | refine Z0q d4 rfl ?_ | refine Z0q d5 rfl ?_ | refine Z0u rfl rfl hk1 ?_ | refine Z0u rfl rfl hp1 ?_ | refine Z0z rfl hp2 ?_ | refine Z0q e1 rfl ?_ | refine Z0q e2 rfl ?_ | refine Z02 (f1 _) ?_ | refine Z09 rfl rfl (Z0j f2) (Z04 _) (by decide) (by decide) k1 ?_ | refine Z02 rfl ?_ | refine Z05 rfl ?_ | refine Z03 ?_ | refine Z10 rfl ?_) | refine ab_fin k2 rfl rfl
    · have hbp : b = kB v := by rw [hb, if_neg (by simp [h4, h5])]
      rw [← hbp] at hk2
      obtain ⟨q', f1, f2⟩ := fin _ hk2
      have d5 := Z0n (p := v.kind = 5) h5
      repeat' first | refine V_O rfl ?_ | refine Z1e rfl rfl ?_ | ((with_reducible show VO _ _ _ _ _ _ _); first | refine Z1p rfl hA0 hl4 ?_ | refine Z0a rfl hA0 rfl ?_ | refine Z0q d4 rfl ?_ | refine Z0q d5 rfl ?_ | refine Z0u rfl rfl hk1 ?_ | refine Z0z rfl hk2 ?_ | refine Z0q e1 rfl ?_ | refine Z0q e2 rfl ?_ | refine Z02 (f1 _) ?_ | refine Z09 rfl rfl (Z0j f2) (Z04 _) (by decide) (by decide) k1 ?_ | refine Z02 rfl ?_ | refine Z05 rfl ?_ | refine Z03 ?_ | refine Z10 rfl ?_) | refine ab_fin k2 rfl rfl
end Go.Proofs.YtgdjnlopdpjnaaaGreatDoor
