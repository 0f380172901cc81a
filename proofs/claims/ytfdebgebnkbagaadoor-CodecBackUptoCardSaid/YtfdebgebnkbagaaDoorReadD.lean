/- codec.read, over plain values; num.Zag; codec.made of any value. -/
import Derived.Test.YtfdebgebnkbagaaDoorCodO
import Derived.Test.YtfdebgebnkbagaaDoorNTake
import Derived.Test.YtfdebgebnkbagaaDoorPutW
set_option linter.unusedVariables false
set_option linter.unusedSimpArgs false
namespace Go.Proofs.YtfdebgebnkbagaaDoor
open Go Go.AM Go.RowKit
def zagN (u : Nat) : Int := if u % 2 = 0 then ((u / 2 : Nat) : Int) else -((u / 2 : Nat) : Int) - 1
def sgnN (u : Nat) : Int := if u < 9223372036854775808 then (u : Int) else (u : Int) - 18446744073709551616
def readVs (rd : List UInt8 → TR) : Nat → List UInt8 → Nat → Except Int (List Val × Nat)
  | 0, _, n => .ok ([], n)
  | m + 1, b, n => match rd b with
    | .err e => .error e
    | .ok v k => (readVs rd m (b.drop k) (n + k)).map fun r => (v :: r.1, r.2)
def restV (rd : List UInt8 → TR) (k u : Nat) (b : List UInt8) (n : Nat) : TR :=
  if k = 1 then .ok (.mk 1 (zagN u) [] []) n
  else if k = 6 ∨ k = 7 then .ok (.mk k (sgnN u) [] []) n
  else if k = 2 then (if 128 < u then .err 30 else if b.length < u then .err 11 else .ok (.mk 2 0 (b.take u) []) (n + u))
  else if 512 < u ∨ (k = 4 ∧ 256 < u) then .err 30
  else match readVs rd u b n with
    | .error e => .err e
    | .ok r => .ok (.mk k 0 [] r.1) r.2
def readV : Nat → List UInt8 → TR
  | _, [] => .err 11
  | 0, _ :: _ => .err 30
  | f + 1, c :: r => if c.toNat < 1 ∨ 7 < c.toNat then .err 30 else if c.toNat = 3 then (match r with
      | [] => .err 11
      | d :: _ => .ok (.mk 3 d.toNat [] []) 2)
    else match decN 10 0 r with
      | .ends => .err 11
      | .form => .err 30
      | .ok u n => restV (readV f) c.toNat u (r.drop n) (n + 1)
def RdLe (rd : List UInt8 → TR) : Prop := ∀ b, (∀ e, rd b = .err e → e ≠ 0) ∧ ∀ v k, rd b = .ok v k → k ≤ b.length
theorem decN_le : ∀ (m i : Nat) (b : List UInt8) (u n : Nat), decN m i b = .ok u n → n ≤ b.length
  | 0, i, b, u, n, h => by cases h
  | m + 1, i, [], u, n, h => by cases h
  | m + 1, i, c :: r, u, n, h => by
    simp only [decN] at h
    split at h
    · cases hd : decN m (i + 1) r with
      | ends => rw [hd] at h; cases h
      | form => rw [hd] at h; cases h
      | ok u' n' =>
        rw [hd] at h
        injection h with h1 h2
        have := decN_le m (i + 1) r u' n' hd
        simp only [List.length_cons]
        omega
    · split at h
      · cases h
      · injection h with h1 h2
        simp only [List.length_cons]
        omega
theorem readVs_le {rd : List UInt8 → TR} (h : RdLe rd) : ∀ (m : Nat) (b : List UInt8) (n : Nat), (∀ e, readVs rd m b n = .error e → e ≠ 0) ∧ ∀ r, readVs rd m b n = .ok r → r.2 ≤ n + b.length
  | 0, b, n => ⟨fun e he => (by cases he), fun r hr => (by injection hr with hr; subst hr; simp)⟩
  | m + 1, b, n => by
    simp only [readVs]
    cases hb : rd b with
    | err e =>
      refine ⟨fun e' he => ?_, fun r hr => by cases hr⟩
      injection he with he
      subst he
      exact (h b).1 e hb
    | ok v k =>
      have hk := (h b).2 v k hb
      obtain ⟨i1, i2⟩ := readVs_le h m (b.drop k) (n + k)
      simp only
      cases hr : readVs rd m (b.drop k) (n + k) with
      | error e =>
        refine ⟨fun e' he => ?_, fun r hr => by cases hr⟩
        injection he with he
        subst he
        exact i1 e hr
      | ok r =>
        refine ⟨fun e' he => (by cases he), fun r' hr' => ?_⟩
        injection hr' with hr'
        subst hr'
        have := i2 r hr
        rw [List.length_drop] at this
        show r.2 ≤ _
        omega
theorem restV_le {rd : List UInt8 → TR} (h : RdLe rd) (k u : Nat) (b : List UInt8) (n : Nat) : (∀ e, restV rd k u b n = .err e → e ≠ 0) ∧ ∀ v m, restV rd k u b n = .ok v m → m ≤ n + b.length := by
  unfold restV
  split
  · exact ⟨fun e he => (by cases he), fun v m hm => by injection hm with _ hm; omega⟩
  · split
    · exact ⟨fun e he => (by cases he), fun v m hm => by injection hm with _ hm; omega⟩
    · split
      · split
        · exact ⟨fun e he => (by injection he with he; omega), fun v m hm => by cases hm⟩
        · split
          · exact ⟨fun e he => (by injection he with he; omega), fun v m hm => by cases hm⟩
          · exact ⟨fun e he => (by cases he), fun v m hm => by injection hm with _ hm; omega⟩
      · split
        · exact ⟨fun e he => (by injection he with he; omega), fun v m hm => by cases hm⟩
        · obtain ⟨i1, i2⟩ := readVs_le h u b n
          cases hr : readVs rd u b n with
          | error e => exact ⟨fun e' he => (by injection he with he; subst he; exact i1 e hr), fun v m hm => by cases hm⟩
          | ok r => exact ⟨fun e' he => (by cases he), fun v m hm => by injection hm with _ hm; have := i2 r hr; omega⟩
theorem readV_le : ∀ f, RdLe (readV f)
  | 0 => fun b => by
    cases b with
    | nil => exact ⟨fun e he => (by injection he with he; omega), fun v k hk => by cases hk⟩
    | cons c r => exact ⟨fun e he => (by injection he with he; omega), fun v k hk => by cases hk⟩
  | f + 1 => fun b => by
    cases b with
    | nil => exact ⟨fun e he => (by injection he with he; omega), fun v k hk => by cases hk⟩
    | cons c r =>
      simp only [readV]
      split
      · exact ⟨fun e he => (by injection he with he; omega), fun v k hk => by cases hk⟩
      · split
        · cases r with
          | nil => exact ⟨fun e he => (by injection he with he; omega), fun v k hk => by cases hk⟩
          | cons d r => exact ⟨fun e he => (by cases he), fun v k hk => by injection hk with _ hk; simp; omega⟩
        · cases hd : decN 10 0 r with
          | ends => exact ⟨fun e he => (by injection he with he; omega), fun v k hk => by cases hk⟩
          | form => exact ⟨fun e he => (by injection he with he; omega), fun v k hk => by cases hk⟩
          | ok u n =>
            have hn := decN_le _ _ _ _ _ hd
            obtain ⟨i1, i2⟩ := restV_le (readV_le f) c.toNat u (r.drop n) (n + 1)
            refine ⟨i1, fun v m hm => ?_⟩
            have := i2 v m hm
            rw [List.length_drop] at this
            simp only [List.length_cons]
            omega
theorem decN_lt : ∀ (m i : Nat) (b : List UInt8) (u n : Nat), m + i = 10 → decN m i b = .ok u n → u < 2 * 128 ^ (9 - i)
  | 0, i, b, u, n, _, h => by cases h
  | m + 1, i, [], u, n, _, h => by cases h
  | m + 1, i, c :: r, u, n, hm, h => by
    have hc := c.toNat_lt
    simp only [decN] at h
    split at h
    · cases hd : decN m (i + 1) r with
      | ends => rw [hd] at h; cases h
      | form => rw [hd] at h; cases h
      | ok u' n' =>
        rw [hd] at h
        injection h with h1 h2
        have := decN_lt m (i + 1) r u' n' (by omega) hd
        by_cases h9 : i = 9
        · subst h9
          have : m = 0 := by omega
          subst this
          cases hd
        · have h3 : 9 - i = (9 - (i + 1)) + 1 := by omega
          rw [h3, Nat.pow_succ]
          omega
    · split at h
      · cases h
      · rename_i hn
        injection h with h1 h2
        by_cases h9 : i = 9
        · subst h9
          simp at hn ⊢
          omega
        · have h3 : 128 ^ 1 ≤ 128 ^ (9 - i) := Nat.pow_le_pow_right (by omega) (by omega)
          omega
theorem decN_u64 {b : List UInt8} {u n : Nat} (h : decN 10 0 b = .ok u n) : u < 18446744073709551616 := by
  have := decN_lt 10 0 b u n rfl h
  have h9 : (128 : Nat) ^ 9 = 9223372036854775808 := by decide
  rw [show 9 - 0 = 9 from rfl, h9] at this
  omega
theorem zag_val {u : Nat} (hu : u < 18446744073709551616) : IntKind.i64.wrap ((BitVec.ofInt 64 (IntKind.i64.wrap ((u : Int).fdiv (2 ^ (min (1 : Int).toNat IntKind.u64.bits)))) ^^^ BitVec.ofInt 64 (IntKind.i64.wrap (0 - (IntKind.i64.wrap (IntKind.u64.wrap ((BitVec.ofInt 64 (u : Int) &&& BitVec.ofInt 64 1).toNat : Int)))))).toNat : Int) = zagN u := by
  have e1 : (2 : Int) ^ (min (1 : Int).toNat IntKind.u64.bits) = 2 := rfl
  have h1 : IntKind.i64.wrap ((u : Int).fdiv 2) = ((u / 2 : Nat) : Int) := by rw [Int.fdiv_eq_ediv_of_nonneg _ (by omega), wrap_i64]; omega
  have h2 : (BitVec.ofInt 64 (u : Int) &&& BitVec.ofInt 64 1).toNat = u % 2 := by
    have h4 : BitVec.ofInt 64 1 = 1#64 := rfl
    rw [BitVec.ofInt_natCast, h4, BitVec.toNat_and, BitVec.toNat_ofNat, Nat.mod_eq_of_lt (by omega)]
    show u &&& (1 : Nat) = _
    exact Nat.and_one_is_mod u
  have h3 : IntKind.i64.wrap (0 - (IntKind.i64.wrap (IntKind.u64.wrap ((u % 2 : Nat) : Int)))) = -((u % 2 : Nat) : Int) := by
    have a : IntKind.u64.wrap ((u % 2 : Nat) : Int) = ((u % 2 : Nat) : Int) := by rw [wrap_u64]; omega
    have b : IntKind.i64.wrap ((u % 2 : Nat) : Int) = ((u % 2 : Nat) : Int) := by rw [wrap_i64]; omega
    rw [a, b, wrap_i64]
    omega
  rw [e1, h1, h2, h3]
  unfold zagN
  rcases Nat.mod_two_eq_zero_or_one u with h | h
  · rw [h, if_pos rfl]
    have c : BitVec.ofInt 64 (-((0 : Nat) : Int)) = 0#64 := rfl
    rw [c, BitVec.xor_zero, BitVec.ofInt_natCast, BitVec.toNat_ofNat, wrap_i64]
    omega
  · rw [h, if_neg (by omega)]
    have c : BitVec.ofInt 64 (-((1 : Nat) : Int)) = BitVec.allOnes 64 := rfl
    rw [c, BitVec.xor_allOnes, BitVec.toNat_not, BitVec.ofInt_natCast, BitVec.toNat_ofNat, wrap_i64]
    omega
theorem run_Zag {u : Nat} (hu : u < 18446744073709551616) : T.R (.call n_num_Zag [.int .u64 u] (.int .i64 (zagN u))) := by
  have hz := zag_val hu
  refine call_V rfl rfl ?_
  repeat' first | refine V_O rfl ?_ | refine O_step rfl ?_ | refine O_nil' ?_ | refine V_cT rfl rfl ?_ | refine V_cF rfl rfl ?_ | refine V_cEq rfl rfl ?_ | refine V_cNe rfl rfl ?_ | refine V_cB rfl rfl (fun _ => ?_) (fun _ => ?_) | refine O_gT' rfl ?_ | refine O_gU' rfl ?_ | refine O_gF' rfl rfl ?_ | refine O_gEq rfl ?_ | refine O_gNe rfl ?_ | refine O_gS rfl (fun _ => ?_) (fun _ => ?_) | refine V_fA rfl rfl ?_ | refine V_fAN rfl rfl ?_ | refine V_D rfl ?_ | refine D_step rfl ?_ | refine D_nil' ?_ | refine D_gT' rfl ?_ | refine D_gU' rfl ?_ | refine D_gF' rfl rfl ?_ | refine D_gS rfl (fun _ => ?_) (fun _ => ?_)
  rw [← hz]
  rfl
theorem conv_i64 {u : Nat} (hu : u < 18446744073709551616) : IntKind.i64.wrap (u : Int) = sgnN u := by
  unfold sgnN
  rw [wrap_i64]
  split <;> omega
theorem sgn_i64 {u : Nat} (hu : u < 18446744073709551616) : I64 (sgnN u) := by unfold sgnN I64; split <;> omega
theorem zag_i64 {u : Nat} (hu : u < 18446744073709551616) : I64 (zagN u) := by unfold zagN I64; split <;> omega
theorem resG_cG {e : EC} {look : Nat → Option Tok} {t a b c n : Nat} {cs : List PV} {x y : PV} (ha : e.get a = some (.ptr t 0)) (hg : look t = some (.var cs)) (hl : cs.length = n) (hb : e.get b = some x) (hc : e.get c = some y) : resG e look [.cell a n true, .tmp b, .tmp c] = some (.tuple [.agg cs, x, y]) := by
  have hld : loadAt look n true (.ptr t 0) = some (.agg cs) := by
    simp only [loadAt, behind, hg, Option.bind_some]
    rw [← hl]
    simp [slice?]
  simp [resG, resGs, resG1, ha, hb, hc, hld]
def RdOk (f : Nat) (args : List PV) (t : TR) : Prop := (∃ e, t = .err e ∧ T.R (.call f args (.tuple [.agg [.int .i64 0, .int .i64 0, .str [], .nilSl], .int .i64 0, .int .i64 e]))) ∨ ∃ v n cs, t = .ok v n ∧ VC v cs ∧ T.R (.call f args (.tuple [.agg cs, .int .i64 n, .int .i64 0]))
theorem run_madeG {v : Val} {cs : List PV} (hv : VC v cs) (n : Nat) : RdOk n_codec_made [.agg cs, .int .i64 n] (made v n) := by
  have hchk := run_Check hv
  have plc := hv.pl
  have hl4 := hv.len4
  have h1 := hv.one
  have hz : ([.int .i64 0, .int .i64 0, .str [], .nilSl] : List PV).length = cs.length := by rw [hl4]; rfl
  have hst : storeAt ((emptySt.new (.var cs)).new (.var [.int .i64 0, .int .i64 0, .str [], .nilSl])) (.ptr 1 0) (.agg cs) = some (((emptySt.new (.var cs)).new (.var [.int .i64 0, .int .i64 0, .str [], .nilSl])).put 1 (.var cs)) := storeAt_whole rfl hz
  by_cases hm : mayV 8 v = true
  · have hc0 : chk v = 0 := by simp [chk, hm]
    rw [hc0] at hchk
    refine .inr ⟨v, n, cs, by simp [made, hm], hv, ?_⟩
    refine call_V rfl rfl ?_
    repeat' first | refine O_loadP rfl rfl hl4 ?_ | refine O_cA rfl rfl hchk ?_ | refine O_storeV rfl rfl h1 hl4 rfl hst ?_ | refine O_step rfl ?_ | refine O_stepL rfl ?_ | refine V_O rfl ?_ | refine O_step rfl ?_ | refine O_nil' ?_ | refine V_cT rfl rfl ?_ | refine V_cF rfl rfl ?_ | refine V_cEq rfl rfl ?_ | refine V_cNe rfl rfl ?_ | refine V_cB rfl rfl (fun _ => ?_) (fun _ => ?_) | refine O_gT' rfl ?_ | refine O_gU' rfl ?_ | refine O_gF' rfl rfl ?_ | refine O_gEq rfl ?_ | refine O_gNe rfl ?_ | refine O_gS rfl (fun _ => ?_) (fun _ => ?_) | refine V_fA rfl rfl ?_ | refine V_fAN rfl rfl ?_ | refine V_D rfl ?_ | refine D_step rfl ?_ | refine D_nil' ?_ | refine D_gT' rfl ?_ | refine D_gU' rfl ?_ | refine D_gF' rfl rfl ?_ | refine D_gS rfl (fun _ => ?_) (fun _ => ?_)
    exact V_fin (r0 := .tuple [.agg cs, .int .i64 n, .int .i64 0]) rfl (resG_cG rfl St.get_put hl4 rfl rfl) (Pl.view (by (repeat' (first | exact Pl.int _ _ | exact Pl.bool _ | exact Pl.str _ | exact Pl.nilSl | exact pl_nil | refine pl_cons ?_ ?_ | refine Pl.tuple _ ?_ | refine Pl.agg _ ?_ | refine Pl.func _ _ ?_ | assumption | refine Pl.iptr _ _ ?_ | exact pll_nil | refine pll_cons ?_ ?_ | refine Pl.sl _ _ ?_)); first | done | fail)) rfl
  · have hm' : mayV 8 v = false := by simpa using hm
    have hc0 : chk v = 20 := by simp [chk, hm']
    rw [hc0] at hchk
    refine .inl ⟨30, by simp [made, hm'], ?_⟩
    refine call_V rfl rfl ?_
    repeat' first | refine O_loadP rfl rfl hl4 ?_ | refine O_cA rfl rfl hchk ?_ | refine O_step rfl ?_ | refine O_stepL rfl ?_ | refine V_O rfl ?_ | refine O_step rfl ?_ | refine O_nil' ?_ | refine V_cT rfl rfl ?_ | refine V_cF rfl rfl ?_ | refine V_cEq rfl rfl ?_ | refine V_cNe rfl rfl ?_ | refine V_cB rfl rfl (fun _ => ?_) (fun _ => ?_) | refine O_gT' rfl ?_ | refine O_gU' rfl ?_ | refine O_gF' rfl rfl ?_ | refine O_gEq rfl ?_ | refine O_gNe rfl ?_ | refine O_gS rfl (fun _ => ?_) (fun _ => ?_) | refine V_fA rfl rfl ?_ | refine V_fAN rfl rfl ?_ | refine V_D rfl ?_ | refine D_step rfl ?_ | refine D_nil' ?_ | refine D_gT' rfl ?_ | refine D_gU' rfl ?_ | refine D_gF' rfl rfl ?_ | refine D_gS rfl (fun _ => ?_) (fun _ => ?_)
    rfl
end Go.Proofs.YtfdebgebnkbagaaDoor
