/- How values stand: plain laws. · A number's bytes in order: codec.eight, rambleref03.eight. · A number's bytes in order: rambleref03.eight. · How two values stand: rambleref02.Compare, Same, SameAll. · How two values stand: value.Compare; whether they are the same. · How two values stand: value.Compare. · Whether two values are the same; whether all are; whether a value may be: rambleref02. · num.Take: a number out of its bytes. -/
import Derived.Test.YtgdjnlopdpjnaaaGreatDoorBytesToNameB
import Derived.Test.YtgdjnlopdpjnaaaGreatDoorAmZ
set_option linter.unusedVariables false
set_option linter.unusedSimpArgs false
namespace Go.Proofs.YtgdjnlopdpjnaaaGreatDoor
open Go Go.AM Go.RowKit
def orI (a b : Int) : Int := if a = 0 then b else a
mutual
def cmpV : Val → Val → Int
  | .mk k n s l, .mk k' n' s' l' => orI (cmpI k k') (orI (cmpI n n') (orI (cmpS s s') (cmpVs l l')))
def cmpVs : List Val → List Val → Int
  | [], [] => 0
  | [], _ :: _ => -1
  | _ :: _, [] => 1
  | a :: x, b :: y => orI (cmpV a b) (cmpVs x y)
end
theorem cmpI_zero {a b : Int} : cmpI a b = 0 ↔ a = b := by
  unfold cmpI
  constructor
  · intro h
    split at h
    · cases h
    · split at h
      · cases h
      · omega
  · rintro rfl; simp
theorem orI_zero {a b : Int} : orI a b = 0 ↔ a = 0 ∧ b = 0 := by
  unfold orI
  constructor
  · intro h
    split at h
    · exact ⟨by assumption, h⟩
    · contradiction
  · rintro ⟨rfl, rfl⟩; rfl
theorem cmpS_zero : ∀ {s t : List UInt8}, cmpS s t = 0 ↔ s = t
  | [], [] => by simp [cmpS]
  | [], _ :: _ => by simp [cmpS]
  | _ :: _, [] => by simp [cmpS]
  | a :: s, b :: t => by
    unfold cmpS
    by_cases h : a = b
    · subst h; rw [if_pos rfl]; rw [cmpS_zero]; simp
    · rw [if_neg h, cmpI_zero]
      constructor
      · intro h2
        exact absurd (UInt8.toNat_inj.1 (by omega)) h
      · intro h2; injection h2 with h2; exact absurd h2 h
mutual
theorem cmpV_zero : ∀ {a b : Val}, cmpV a b = 0 ↔ a = b
  | .mk k n s l, .mk k' n' s' l' => by
    unfold cmpV
    rw [orI_zero, orI_zero, orI_zero, cmpI_zero, cmpI_zero, cmpS_zero, cmpVs_zero]
    simp
theorem cmpVs_zero : ∀ {a b : List Val}, cmpVs a b = 0 ↔ a = b
  | [], [] => by simp [cmpVs]
  | [], _ :: _ => by simp [cmpVs]
  | _ :: _, [] => by simp [cmpVs]
  | a :: x, b :: y => by
    unfold cmpVs
    rw [orI_zero, cmpV_zero, cmpVs_zero]
    simp
end
theorem cmpV_self (a : Val) : cmpV a a = 0 := cmpV_zero.2 rfl
theorem cmpVs_pre : ∀ (p x y : List Val), cmpVs (p ++ x) (p ++ y) = cmpVs x y
  | [], x, y => rfl
  | a :: p, x, y => by
    show orI (cmpV a a) (cmpVs (p ++ x) (p ++ y)) = _
    rw [cmpV_self]
    exact cmpVs_pre p x y
def LC (l : List Val) (p : PV) : Prop := (p = .nilSl ∧ l = []) ∨ ∃ xs full, p = .sl xs full ∧ l.length ≤ 140737488355328 ∧ xs.length = l.length ∧ ∀ (j : Nat) (v : Val) (cs : List PV), l[j]? = some v → xs[j]? = some cs → VC v cs
theorem VC.open {k n : Int} {s : List UInt8} {l : List Val} {cs : List PV} (h : VC (.mk k n s l) cs) : I64 k ∧ I64 n ∧ s.length ≤ 140737488355328 ∧ ∃ p, cs = [.int .i64 k, .int .i64 n, .str s, p] ∧ LC l p := by
  cases h with
  | nil k n s hk hn hs => exact ⟨hk, hn, hs, _, rfl, .inl ⟨rfl, rfl⟩⟩
  | sl k n s l xs full hk hn hs hb hl h => exact ⟨hk, hn, hs, _, rfl, .inr ⟨xs, full, rfl, hb, hl, h⟩⟩
theorem LC.vc {k n : Int} {s : List UInt8} {l : List Val} {p : PV} (h : LC l p) (hk : I64 k) (hn : I64 n) (hs : s.length ≤ 140737488355328) : VC (.mk k n s l) [.int .i64 k, .int .i64 n, .str s, p] := by
  rcases h with ⟨rfl, rfl⟩ | ⟨xs, full, rfl, hb, hl, h⟩
  · exact .nil _ _ _ hk hn hs
  · exact .sl _ _ _ _ _ _ hk hn hs hb hl h
theorem VC.len4 {v : Val} {cs : List PV} (h : VC v cs) : cs.length = 4 := by cases h <;> rfl
theorem VC.one {v : Val} {cs : List PV} (h : VC v cs) : cs.all PV.one = true := by cases h <;> rfl
theorem LC.len {l : List Val} {p : PV} (h : LC l p) : lenOf p = some l.length ∧ isStr p = false ∧ l.length ≤ 140737488355328 := by
  rcases h with ⟨rfl, rfl⟩ | ⟨xs, full, rfl, hb, hl, h⟩
  · exact ⟨rfl, rfl, by simp⟩
  · exact ⟨by simp [lenOf, hl], rfl, hb⟩
theorem LC.pl {l : List Val} {p : PV} (h : LC l p) : Pl p := by
  have := (LC.vc (k := 0) (n := 0) (s := []) h (by simp [I64]) (by simp [I64]) (by simp)).pl
  exact this p (by simp)
theorem LC.at {l : List Val} {p : PV} (h : LC l p) {j : Nat} {v : Val} (hv : l[j]? = some v) : ∃ cs, At 4 p j cs ∧ VC v cs := by
  rcases h with ⟨rfl, rfl⟩ | ⟨xs, full, rfl, hb, hl, h⟩
  · simp at hv
  · have hlt : j < xs.length := by have := (List.getElem?_eq_some_iff.1 hv).1; omega
    have hc := h _ v _ hv (List.getElem?_eq_getElem hlt)
    exact ⟨_, ⟨by omega, hc.len4, xs, full, rfl, by simp [hlt]⟩, hc⟩
theorem VC.ind {M : Val → List PV → Prop} (h : ∀ (k n : Int) (s : List UInt8) (l : List Val) (p : PV), I64 k → I64 n → s.length ≤ 140737488355328 → LC l p → (∀ (j : Nat) (v : Val) (cs : List PV), l[j]? = some v → At 4 p j cs → M v cs) → M (.mk k n s l) [.int .i64 k, .int .i64 n, .str s, p]) {v : Val} {cs : List PV} (hv : VC v cs) : M v cs := by
  induction hv with
  | nil k n s hk hn hs => exact h k n s [] .nilSl hk hn hs (.inl ⟨rfl, rfl⟩) (fun j v cs hj => by simp at hj)
  | sl k n s l xs full hk hn hs hb hl hc ih =>
    refine h k n s l _ hk hn hs (.inr ⟨xs, full, rfl, hb, hl, hc⟩) (fun j v cs hj ha => ?_)
    obtain ⟨_, _, ys, f, he, hc2⟩ := ha
    injection he with he1 he2
    subst he1
    exact ih j v cs hj (by simpa using hc2)
end Go.Proofs.YtgdjnlopdpjnaaaGreatDoor
set_option linter.unusedVariables false
set_option linter.unusedSimpArgs false
namespace Go.Proofs.YtgdjnlopdpjnaaaGreatDoor
open Go Go.AM Go.RowKit
def be : Nat → Nat → List UInt8
  | 0, _ => []
  | j + 1, m => UInt8.ofNat (m / 256 ^ j) :: be j m
def ord64 (n : Int) : Nat := (n + 9223372036854775808).toNat
theorem xor_top (x : Nat) (h : x < 18446744073709551616) : x ^^^ 9223372036854775808 = (x + 9223372036854775808) % 18446744073709551616 := by
  have h1 : (x ^^^ 9223372036854775808) / 2 ^ 63 = (x / 2 ^ 63) ^^^ (9223372036854775808 / 2 ^ 63) := Nat.xor_div_two_pow
  have h2 : (x ^^^ 9223372036854775808) % 2 ^ 63 = (x % 2 ^ 63) ^^^ (9223372036854775808 % 2 ^ 63) := Nat.xor_mod_two_pow
  have e1 : (9223372036854775808 : Nat) / 2 ^ 63 = 1 := by decide
  have e2 : (9223372036854775808 : Nat) % 2 ^ 63 = 0 := by decide
  have e3 : (2 : Nat) ^ 63 = 9223372036854775808 := by decide
  rw [e1] at h1
  rw [e2, Nat.xor_zero] at h2
  rw [e3] at h1 h2
  have : x / 9223372036854775808 = 0 ∨ x / 9223372036854775808 = 1 := by omega
  rcases this with h3 | h3
  · rw [h3] at h1
    have : (0 : Nat) ^^^ 1 = 1 := by decide
    omega
  · rw [h3] at h1
    have : (1 : Nat) ^^^ 1 = 0 := by decide
    omega
theorem bv_top (x : Nat) (h : x < 18446744073709551616) : (BitVec.ofInt 64 (x : Int) ^^^ BitVec.ofInt 64 9223372036854775808).toNat = (x + 9223372036854775808) % 18446744073709551616 := by
  rw [BitVec.toNat_xor, BitVec.ofInt_natCast, BitVec.toNat_ofNat]
  have : (BitVec.ofInt 64 9223372036854775808).toNat = 9223372036854775808 := rfl
  rw [this, Nat.mod_eq_of_lt h, xor_top x h]
theorem flip64 {n : Int} (h : I64 n) : IntKind.u64.wrap ((BitVec.ofInt 64 (IntKind.u64.wrap n) ^^^ BitVec.ofInt 64 9223372036854775808).toNat : Int) = (ord64 n : Int) := by
  obtain ⟨h1, h2⟩ := h
  have hw : IntKind.u64.wrap n = ((n % 18446744073709551616).toNat : Int) := by rw [wrap_u64]; omega
  rw [hw, bv_top _ (by omega), wrap_u64]
  unfold ord64
  omega
theorem shr8 (m j : Nat) : IntKind.u8.wrap (Int.fdiv (m : Int) (2 ^ (8 * j))) = ((UInt8.ofNat (m / 256 ^ j)).toNat : Int) := by
  have h1 : (2 : Int) ^ (8 * j) = ((256 ^ j : Nat) : Int) := by
    rw [Int.pow_mul, Int.natCast_pow]
    rfl
  rw [h1, Int.fdiv_eq_ediv_of_nonneg _ (Int.natCast_nonneg _), wrap_u8, ← Int.natCast_ediv]
  simp
def byPV (b : UInt8) : PV := .int .u8 b.toNat
def stE (a b : List PV) : St := ⟨0, 2, [(0, .var a), (1, .var b)]⟩
def zer (j : Nat) : List PV := List.replicate j (.int .u8 0)
theorem be_len : ∀ (j m : Nat), (be j m).length = j
  | 0, m => rfl
  | j + 1, m => by simp [be, be_len j m]
theorem eight_loop (m : Nat) : ∀ (j : Nat) (pre : List UInt8) (e : EC), pre.length + j = 8 → pre ++ be j m = be 8 m → e.get 2 = some (.ptr 0 0) → e.get 3 = some (.ptr 1 0) → e.get 4 = some (.int .u64 m) → e.get 9 = some (.int .i64 pre.length) →
    V T (PE fun x e' st' => x = .exit 0 ∧ e' = .put 2 (.ptr 0 0) (.put 3 (.ptr 1 0) .nil) ∧ st' = stE (zer 8) ((be 8 m).map byPV)) [.code (.loop lp_codec_eight_0)] .normal e (stE (zer 8) (pre.map byPV ++ zer j)) := by
  intro j
  induction j with
  | zero =>
    intro pre e hl hb h2 h3 h4 h9
    have out : ∀ (fr : List Fr) (x : EX) (e' : EC), adv 200 fr x = ([], .exit 0) → e'.get 2 = some (.ptr 0 0) → e'.get 3 = some (.ptr 1 0) → V T (PE fun x e' st' => x = .exit 0 ∧ e' = .put 2 (.ptr 0 0) (.put 3 (.ptr 1 0) .nil) ∧ st' = stE (zer 8) ((be 8 m).map byPV)) fr x e' (stE (zer 8) (pre.map byPV ++ zer 0)) := fun fr x e' hadv g2 g3 =>
      V_less (.put 2 _ (.put 3 _ .nil)) (less_put g2 (less_put g3 less_nil)) (V_endP hadv ⟨rfl, rfl, by
        have hp : pre = be 8 m := by rw [← hb]; simp [be]
        rw [hp]; simp [zer]⟩)
    refine V_less (.put 2 _ (.put 3 _ (.put 9 _ .nil))) (less_put h2 (less_put h3 (less_put h9 less_nil))) (V_unroll ?_)
    repeat' first | ((with_reducible show Go.AM.V _ _ _ _ _ _); first | refine V_O rfl ?_ | refine V_cB rfl rfl (fun _ => ?_) (fun _ => ?_)) | ((with_reducible show Go.AM.VO _ _ _ _ _ _ _); first | refine O_step rfl ?_ | refine O_nil' ?_) | refine out _ _ _ rfl rfl rfl
    all_goals (exfalso; clear out; simp at *; omega)
  | succ j ih =>
    intro pre e hl hb h2 h3 h4 h9
    have hw1 : IntKind.i64.wrap (8 * (pre.length : Int)) = 8 * pre.length := by rw [wrap_i64]; omega
    have hw2 : IntKind.i64.wrap (56 - IntKind.i64.wrap (8 * (pre.length : Int))) = ((8 * j : Nat) : Int) := by rw [hw1, wrap_i64]; omega
    have hsh : Int.fdiv (m : Int) (2 ^ (min (IntKind.i64.wrap (56 - IntKind.i64.wrap (8 * (pre.length : Int)))).toNat IntKind.u64.bits)) = Int.fdiv (m : Int) (2 ^ (8 * j)) := by
      rw [hw2, show IntKind.u64.bits = 64 from rfl, Nat.min_eq_left (by omega), show ((8 * j : Nat) : Int).toNat = 8 * j by omega]
    have hd : (pre.map byPV ++ zer (j + 1)).take (0 + (pre.length : Int).toNat * 1) ++ PV.int .u8 (IntKind.u8.wrap (Int.fdiv (m : Int) (2 ^ (min (IntKind.i64.wrap (56 - IntKind.i64.wrap (8 * (pre.length : Int)))).toNat IntKind.u64.bits)))) :: (pre.map byPV ++ zer (j + 1)).drop (0 + (pre.length : Int).toNat * 1 + 1) = (pre ++ [UInt8.ofNat (m / 256 ^ j)]).map byPV ++ zer j := by
      rw [hsh, shr8, show 0 + (pre.length : Int).toNat * 1 = (pre.map byPV).length by simp]
      rw [List.take_left, ← List.drop_drop, List.drop_left]
      simp [zer, byPV, List.replicate_succ]
    have hln : 0 + (pre.length : Int).toNat * 1 + 1 ≤ (pre.map byPV ++ zer (j + 1)).length := by simp [zer]
    have hnb : ¬ IntKind.i64.wrap (56 - IntKind.i64.wrap (8 * (pre.length : Int))) < 0 := by rw [hw2]; omega
    have hix : 0 ≤ (pre.length : Int) ∧ (pre.length : Int) < (8 : Nat) := by omega
    have fin : ∀ (fr : List Fr) (x : EX) (e' : EC), adv 200 fr x = ([.code (.loop lp_codec_eight_0)], .normal) → e'.get 2 = some (.ptr 0 0) → e'.get 3 = some (.ptr 1 0) → e'.get 4 = some (.int .u64 m) → e'.get 9 = some (.int .i64 (IntKind.i64.wrap (pre.length + 1))) → V T (PE fun x e' st' => x = .exit 0 ∧ e' = .put 2 (.ptr 0 0) (.put 3 (.ptr 1 0) .nil) ∧ st' = stE (zer 8) ((be 8 m).map byPV)) fr x e' (stE (zer 8) ((pre ++ [UInt8.ofNat (m / 256 ^ j)]).map byPV ++ zer j)) := fun fr x e' hadv g2 g3 g4 g9 => V_adv hadv (by
      have hw : IntKind.i64.wrap (pre.length + 1) = ((pre ++ [UInt8.ofNat (m / 256 ^ j)]).length : Int) := by rw [wrap_i64]; simp; omega
      rw [hw] at g9
      exact ih _ e' (by simp; omega) (by rw [← hb]; simp [be]) g2 g3 g4 g9)
    refine V_less (.put 2 _ (.put 3 _ (.put 4 _ (.put 9 _ .nil)))) (less_put h2 (less_put h3 (less_put h4 (less_put h9 less_nil)))) (V_unroll ?_)
    repeat' first | ((with_reducible show Go.AM.V _ _ _ _ _ _); first | refine V_O rfl ?_ | refine V_cB rfl rfl (fun _ => ?_) (fun _ => ?_)) | ((with_reducible show Go.AM.VO _ _ _ _ _ _ _); first | refine O_shr rfl rfl hnb ?_ | refine O_idxA rfl rfl hix ?_ | refine O_storeP rfl rfl rfl rfl rfl hln hd ?_ | refine O_step rfl ?_ | refine O_nil' ?_) | refine fin _ _ _ rfl rfl rfl rfl rfl
    all_goals (exfalso; clear fin ih hd hln hnb hsh hw1 hw2; simp at *; omega)
theorem run_eight {n : Int} (hn : I64 n) : T.R (.call n_codec_eight [.int .i64 n] (.agg ((be 8 (ord64 n)).map byPV))) := by
  have hu := flip64 hn
  generalize ord64 n = m at hu ⊢
  have hlen : ((be 8 m).map byPV).length = 8 := by simp [be_len]
  have hl := fun e h2 h3 h4 h9 => eight_loop m 8 [] e rfl rfl h2 h3 h4 h9
  have hplc : ∀ c ∈ (be 8 m).map byPV, Pl c := fun c hc => by
    obtain ⟨b, _, rfl⟩ := List.mem_map.1 hc
    exact .int _ _
  have hone : ((be 8 m).map byPV).all PV.one = true := by
    simp [byPV, PV.one]
  refine call_V rfl rfl ?_
  repeat' first | ((with_reducible show Go.AM.V _ _ _ _ _ _); first | refine V_cutA rfl (hl _ rfl rfl (by rw [← hu]; rfl) rfl) ?_ | refine V_O rfl ?_) | ((with_reducible show Go.AM.VO _ _ _ _ _ _ _); first | refine O_stepL rfl ?_ | refine O_step rfl ?_ | refine O_nil' ?_)
  rintro x e' st' ⟨rfl, rfl, rfl⟩
  generalize (be 8 m).map byPV = cs at hlen hplc hone ⊢
  have hs : storeAt (stE (zer 8) cs) (.ptr 0 0) (.agg cs) = some (stE cs cs) := by
    simp only [storeAt, stE, St.get, getA]
    simp [zer, hlen, splice, St.put, putA, PV.cells]
  repeat' first | ((with_reducible show Go.AM.V _ _ _ _ _ _); first | refine V_O rfl ?_) | ((with_reducible show Go.AM.VO _ _ _ _ _ _ _); first | refine O_loadP rfl rfl hlen ?_ | refine O_storeV rfl rfl hone hlen rfl hs ?_ | refine O_nil' ?_)
  have hrr : loadAt (stE cs cs).get 8 true (.ptr 0 0) = some (.agg cs) := by
    simp only [loadAt, behind, stE, St.get, getA, Option.bind_some]
    simp only [slice?, if_true]
    rw [← hlen]
    simp
  exact V_fin (r0 := .agg cs) rfl (resG_cell rfl hrr) (Pl.view (.agg _ hplc)) rfl
end Go.Proofs.YtgdjnlopdpjnaaaGreatDoor
set_option linter.unusedVariables false
set_option linter.unusedSimpArgs false
namespace Go.Proofs.YtgdjnlopdpjnaaaGreatDoor
open Go Go.AM Go.RowKit
end Go.Proofs.YtgdjnlopdpjnaaaGreatDoor
set_option linter.unusedVariables false
set_option linter.unusedSimpArgs false
namespace Go.Proofs.YtgdjnlopdpjnaaaGreatDoor
open Go Go.AM Go.RowKit
theorem i64_len {α : Type} {l : List α} (h : l.length ≤ 140737488355328) : I64 l.length := by unfold I64; omega
def stV (ca cb : List PV) : St := ⟨0, 2, [(0, .var ca), (1, .var cb)]⟩
def cmpP (S : St) (la lb : List Val) : EX → EC → St → Prop := fun x e' st' => st' = S ∧ ((x = .exit 0 ∧ e' = .put 2 (.ptr 0 0) (.put 3 (.ptr 1 0) .nil) ∧ cmpI la.length lb.length = cmpVs la lb) ∨ (x = .ret ∧ e' = .put 4 (.int .i64 (cmpVs la lb)) .nil ∧ cmpVs la lb ≠ 0))
theorem cmp_loop (k n k' n' : Int) (s s' : List UInt8) (la lb : List Val) (p q : PV) (hp : LC la p) (hq : LC lb q)
    (ih : ∀ (j : Nat) (v : Val) (cs : List PV), la[j]? = some v → At 4 p j cs → ∀ (w : Val) (ds : List PV), VC w ds → T.R (.call n_rambleref02_Compare [.agg cs, .agg ds] (.int .i64 (cmpV v w)))) :
    ∀ (ra rb pre : List Val) (e : EC), la = pre ++ ra → lb = pre ++ rb → e.get 2 = some (.ptr 0 0) → e.get 3 = some (.ptr 1 0) → e.get 8 = some (.int .i64 pre.length) →
    V T (PE (cmpP (stV [.int .i64 k, .int .i64 n, .str s, p] [.int .i64 k', .int .i64 n', .str s', q]) la lb)) [.code (.loop lp_rambleref02_Compare_0)] .normal e (stV [.int .i64 k, .int .i64 n, .str s, p] [.int .i64 k', .int .i64 n', .str s', q]) := by
  obtain ⟨lp1, lp2, lp3⟩ := hp.len
  obtain ⟨lq1, lq2, lq3⟩ := hq.len
  have out : ∀ (ra rb pre : List Val) (fr : List Fr) (x : EX) (e' : EC), la = pre ++ ra → lb = pre ++ rb → ra = [] ∨ rb = [] → adv 200 fr x = ([], .exit 0) → e'.get 2 = some (.ptr 0 0) → e'.get 3 = some (.ptr 1 0) → V T (PE (cmpP (stV [.int .i64 k, .int .i64 n, .str s, p] [.int .i64 k', .int .i64 n', .str s', q]) la lb)) fr x e' (stV [.int .i64 k, .int .i64 n, .str s, p] [.int .i64 k', .int .i64 n', .str s', q]) := fun ra rb pre fr x e' ha hb hn hadv g0 g1 =>
    V_less (.put 2 (.ptr 0 0) (.put 3 (.ptr 1 0) .nil)) (less_put g0 (less_put g1 less_nil)) (V_endP hadv ⟨rfl, .inl ⟨rfl, rfl, by
      rw [ha, hb, cmpVs_pre]
      rcases hn with rfl | rfl
      · cases rb <;> simp [cmpVs, cmpI] <;> omega
      · cases ra <;> simp [cmpVs, cmpI] <;> omega⟩⟩)
  intro ra
  induction ra with
  | nil =>
    intro rb pre e ha hb h0 h1 h5
    refine V_less (.put 2 (.ptr 0 0) (.put 3 (.ptr 1 0) (.put 8 _ .nil))) (less_put h0 (less_put h1 (less_put h5 less_nil))) (V_unroll ?_)
    repeat' first | ((with_reducible show Go.AM.V _ _ _ _ _ _); first | refine V_O rfl ?_ | refine V_cF rfl rfl ?_ | refine V_cB rfl rfl (fun _ => ?_) (fun _ => ?_) | refine V_D rfl ?_) | ((with_reducible show Go.AM.VO _ _ _ _ _ _ _); first | refine O_lenO rfl lp1 lp2 ?_ | refine O_lenO rfl lq1 lq2 ?_ | refine O_step rfl ?_ | refine O_nil' ?_ | refine O_gT' rfl ?_ | refine O_gF' rfl rfl ?_ | refine O_gS rfl (fun _ => ?_) (fun _ => ?_)) | ((with_reducible show Go.AM.VD _ _ _ _ _ _ _); first | refine D_step rfl ?_) | refine out [] rb pre _ _ _ ha hb (.inl rfl) rfl rfl rfl
    all_goals (exfalso; subst ha; simp at *)
  | cons y ra ihr =>
    intro rb pre e ha hb h0 h1 h5
    refine V_less (.put 2 (.ptr 0 0) (.put 3 (.ptr 1 0) (.put 8 _ .nil))) (less_put h0 (less_put h1 (less_put h5 less_nil))) (V_unroll ?_)
    cases rb with
    | nil =>
      repeat' first | ((with_reducible show Go.AM.V _ _ _ _ _ _); first | refine V_O rfl ?_ | refine V_cF rfl rfl ?_ | refine V_cB rfl rfl (fun _ => ?_) (fun _ => ?_) | refine V_D rfl ?_) | ((with_reducible show Go.AM.VO _ _ _ _ _ _ _); first | refine O_lenO rfl lp1 lp2 ?_ | refine O_lenO rfl lq1 lq2 ?_ | refine O_step rfl ?_ | refine O_nil' ?_ | refine O_gT' rfl ?_ | refine O_gF' rfl rfl ?_ | refine O_gS rfl (fun _ => ?_) (fun _ => ?_)) | ((with_reducible show Go.AM.VD _ _ _ _ _ _ _); first | refine D_step rfl ?_) | refine out (y :: ra) [] pre _ _ _ ha hb (.inr rfl) rfl rfl rfl
      all_goals (exfalso; subst hb; simp at *)
    | cons z rb =>
      have hy : la[pre.length]? = some y := by subst ha; simp
      have hz : lb[pre.length]? = some z := by subst hb; simp
      obtain ⟨cy, ay, vy⟩ := hp.at hy
      obtain ⟨cz, az, vz⟩ := hq.at hz
      have ply := vy.pl
      have plz := vz.pl
      have hcall := ih _ y cy hy ay z cz vz
      have hcm : cmpVs la lb = orI (cmpV y z) (cmpVs ra rb) := by rw [ha, hb, cmpVs_pre]; rfl
      by_cases hyz : cmpV y z = 0
      · have hyz' := cmpV_zero.1 hyz
        subst hyz'
        have fin : ∀ (fr : List Fr) (x : EX) (e' : EC), adv 200 fr x = ([.code (.loop lp_rambleref02_Compare_0)], .normal) → e'.get 2 = some (.ptr 0 0) → e'.get 3 = some (.ptr 1 0) → e'.get 8 = some (.int .i64 (IntKind.i64.wrap (pre.length + 1))) → V T (PE (cmpP (stV [.int .i64 k, .int .i64 n, .str s, p] [.int .i64 k', .int .i64 n', .str s', q]) la lb)) fr x e' (stV [.int .i64 k, .int .i64 n, .str s, p] [.int .i64 k', .int .i64 n', .str s', q]) := fun fr x e' hadv g0 g1 g5 => V_adv hadv (by
          have hlt : pre.length < la.length := by subst ha; simp
          have hw : IntKind.i64.wrap (pre.length + 1) = ((pre ++ [y]).length : Int) := by rw [wrap_i64]; simp; omega
          rw [hw] at g5
          exact ihr rb (pre ++ [y]) e' (by rw [ha]; simp) (by rw [hb]; simp) g0 g1 g5)
        rw [hyz] at hcall
        repeat' first | ((with_reducible show Go.AM.V _ _ _ _ _ _); first | refine V_O rfl ?_ | refine V_cF rfl rfl ?_ | refine V_cB rfl rfl (fun _ => ?_) (fun _ => ?_) | refine V_D rfl ?_) | ((with_reducible show Go.AM.VO _ _ _ _ _ _ _); first | refine O_lenO rfl lp1 lp2 ?_ | refine O_lenO rfl lq1 lq2 ?_ | refine O_step rfl ?_ | refine O_nil' ?_ | refine O_gT' rfl ?_ | refine O_gF' rfl rfl ?_ | refine O_gS rfl (fun _ => ?_) (fun _ => ?_)) | ((with_reducible show Go.AM.VD _ _ _ _ _ _ _); first | refine D_at rfl rfl ay ?_ | refine D_at rfl rfl az ?_ | refine D_loadA rfl vy.len4 ?_ | refine D_loadA rfl vz.len4 ?_ | refine D_cA rfl rfl hcall ?_ | refine D_step rfl ?_ | refine D_nil' ?_) | refine fin _ _ _ rfl rfl rfl rfl
        all_goals (exfalso; subst ha hb; simp at *; try omega)
      · have ret : ∀ (fr : List Fr) (x : EX) (e' : EC), adv 200 fr x = ([], .ret) → e'.get 4 = some (.int .i64 (cmpV y z)) → V T (PE (cmpP (stV [.int .i64 k, .int .i64 n, .str s, p] [.int .i64 k', .int .i64 n', .str s', q]) la lb)) fr x e' (stV [.int .i64 k, .int .i64 n, .str s, p] [.int .i64 k', .int .i64 n', .str s', q]) := fun fr x e' hadv g0 => by
          have he : cmpVs la lb = cmpV y z := by rw [hcm]; exact if_neg hyz
          exact V_less (.put 4 _ .nil) (less_put g0 less_nil) (V_endP hadv ⟨rfl, .inr ⟨rfl, by rw [he], by rw [he]; exact hyz⟩⟩)
        generalize hcr : cmpV y z = r at hcall ret hyz
        repeat' first | ((with_reducible show Go.AM.V _ _ _ _ _ _); first | refine V_O rfl ?_ | refine V_cF rfl rfl ?_ | refine V_cB rfl rfl (fun _ => ?_) (fun _ => ?_) | refine V_D rfl ?_) | ((with_reducible show Go.AM.VO _ _ _ _ _ _ _); first | refine O_lenO rfl lp1 lp2 ?_ | refine O_lenO rfl lq1 lq2 ?_ | refine O_step rfl ?_ | refine O_nil' ?_ | refine O_gT' rfl ?_ | refine O_gF' rfl rfl ?_ | refine O_gS rfl (fun _ => ?_) (fun _ => ?_)) | ((with_reducible show Go.AM.VD _ _ _ _ _ _ _); first | refine D_at rfl rfl ay ?_ | refine D_at rfl rfl az ?_ | refine D_loadA rfl vy.len4 ?_ | refine D_loadA rfl vz.len4 ?_ | refine D_cA rfl rfl hcall ?_ | refine D_step rfl ?_ | refine D_nil' ?_) | refine ret _ _ _ rfl rfl
        all_goals clear ihr ret out hcall ih
        all_goals (exfalso; first | (subst ha hb; simp at *; omega) | (refine hyz ?_; simp_all; done))
theorem run_Compare2 {a : Val} {ca : List PV} (ha : VC a ca) : ∀ (b : Val) (cb : List PV), VC b cb → T.R (.call n_rambleref02_Compare [.agg ca, .agg cb] (.int .i64 (cmpV a b))) := by
  refine VC.ind (M := fun a ca => ∀ (b : Val) (cb : List PV), VC b cb → T.R (.call n_rambleref02_Compare [.agg ca, .agg cb] (.int .i64 (cmpV a b)))) ?_ ha
  rintro k n s l p hk hn hs hp ih ⟨k', n', s', l'⟩ cb hb
  obtain ⟨hk', hn', hs', q, rfl, hq⟩ := hb.open
  have h1 := run_num2 k k'
  have h2 := run_num2 n n'
  have h3 := run_text2 s s' (by omega)
  have h4 := run_num2 l.length l'.length
  have plp := hp.pl
  have plq := hq.pl
  obtain ⟨lp1, lp2, lp3⟩ := hp.len
  obtain ⟨lq1, lq2, lq3⟩ := hq.len
  have hl := fun e h0 h1 h2 => cmp_loop k n k' n' s s' l l' p q hp hq ih l l' [] e rfl rfl h0 h1 h2
  unfold cmpV orI
  generalize cmpI k k' = r1 at h1 ⊢
  generalize cmpI n n' = r2 at h2 ⊢
  generalize cmpS s s' = r3 at h3 ⊢
  refine call_V rfl rfl ?_
  repeat' first | ((with_reducible show Go.AM.V _ _ _ _ _ _); first | refine V_cutA rfl (hl _ rfl rfl rfl) ?_ | refine V_O rfl ?_ | refine V_cB rfl rfl (fun _ => ?_) (fun _ => ?_) | refine V_fA rfl rfl ?_) | ((with_reducible show Go.AM.VO _ _ _ _ _ _ _); first | refine O_stepL rfl ?_ | refine O_cA rfl rfl h1 ?_ | refine O_cA rfl rfl h2 ?_ | refine O_cA rfl rfl h3 ?_ | refine O_step rfl ?_ | refine O_nil' ?_)
  all_goals simp only [Bool.not_eq_true', Bool.not_eq_false', decide_eq_true_eq, decide_eq_false_iff_not] at *
  · rw [if_neg ‹_›]
  · rw [if_pos ‹_›, if_neg ‹_›]
  · rw [if_pos ‹_›, if_pos ‹_›, if_neg ‹_›]
  · rw [if_pos ‹_›, if_pos ‹_›, if_pos ‹_›]
    rintro x e' st' ⟨rfl, ⟨rfl, rfl, hc⟩ | ⟨rfl, rfl, hc⟩⟩
    · rw [hc] at h4
      repeat' first | ((with_reducible show Go.AM.V _ _ _ _ _ _); first | refine V_O rfl ?_ | refine V_fA rfl rfl ?_) | ((with_reducible show Go.AM.VO _ _ _ _ _ _ _); first | refine O_lenO rfl lp1 lp2 ?_ | refine O_lenO rfl lq1 lq2 ?_ | refine O_cA rfl rfl h4 ?_ | refine O_step rfl ?_ | refine O_nil' ?_)
      all_goals rfl
    · repeat' first | refine V_fA rfl rfl ?_
      all_goals rfl
end Go.Proofs.YtgdjnlopdpjnaaaGreatDoor
set_option linter.unusedVariables false
set_option linter.unusedSimpArgs false
namespace Go.Proofs.YtgdjnlopdpjnaaaGreatDoor
open Go Go.AM Go.RowKit
theorem run_isNaN (a : Int) : T.R (.call n_cmp_isNaN_int [.int .i64 a] (.bool false)) := by
  refine call_V rfl rfl ?_
  repeat' first | ((with_reducible show Go.AM.V _ _ _ _ _ _); first | refine V_O rfl ?_ | refine V_fA rfl rfl ?_) | ((with_reducible show Go.AM.VO _ _ _ _ _ _ _); first | refine O_step rfl ?_ | refine O_nil' ?_)
  all_goals simp
theorem run_isNaN64 (a : Int) : T.R (.call n_cmp_isNaN_int64 [.int .i64 a] (.bool false)) := by
  refine call_V rfl rfl ?_
  repeat' first | ((with_reducible show Go.AM.V _ _ _ _ _ _); first | refine V_O rfl ?_ | refine V_fA rfl rfl ?_) | ((with_reducible show Go.AM.VO _ _ _ _ _ _ _); first | refine O_step rfl ?_ | refine O_nil' ?_)
  all_goals simp
theorem run_cmpInt (a b : Int) : T.R (.call n_cmp_Compare_int [.int .i64 a, .int .i64 b] (.int .i64 (cmpI a b))) := by
  refine call_V rfl rfl ?_
  repeat' first | ((with_reducible show Go.AM.V _ _ _ _ _ _); first | refine V_O rfl ?_ | refine V_cF rfl rfl ?_ | refine V_cB rfl rfl (fun _ => ?_) (fun _ => ?_) | refine V_fA rfl rfl ?_) | ((with_reducible show Go.AM.VO _ _ _ _ _ _ _); first | refine O_cA rfl rfl (run_isNaN _) ?_ | refine O_step rfl ?_ | refine O_nil' ?_)
  all_goals simp only [decide_eq_true_eq, decide_eq_false_iff_not] at *
  all_goals unfold cmpI
  all_goals simp [*]
theorem run_cmpInt64 (a b : Int) : T.R (.call n_cmp_Compare_int64 [.int .i64 a, .int .i64 b] (.int .i64 (cmpI a b))) := by
  refine call_V rfl rfl ?_
  repeat' first | ((with_reducible show Go.AM.V _ _ _ _ _ _); first | refine V_O rfl ?_ | refine V_cF rfl rfl ?_ | refine V_cB rfl rfl (fun _ => ?_) (fun _ => ?_) | refine V_fA rfl rfl ?_) | ((with_reducible show Go.AM.VO _ _ _ _ _ _ _); first | refine O_cA rfl rfl (run_isNaN64 _) ?_ | refine O_step rfl ?_ | refine O_nil' ?_)
  all_goals simp only [decide_eq_true_eq, decide_eq_false_iff_not] at *
  all_goals unfold cmpI
  all_goals simp [*]
theorem cmpS_lib : ∀ a b : List UInt8, Lib.compareBytes a b = cmpS a b
  | [], [] => rfl
  | [], _ :: _ => rfl
  | _ :: _, [] => rfl
  | a :: x, b :: y => by
    unfold Lib.compareBytes cmpS cmpI
    rw [cmpS_lib x y]
    by_cases h : a = b
    · subst h; simp
    · rw [if_neg h]
      by_cases h2 : a < b
      · rw [if_pos h2, if_pos (by have := UInt8.lt_iff_toNat_lt.1 h2; omega)]
      · have h3 : b < a := by
          rcases UInt8.lt_or_lt_of_ne h with h3 | h3
          · exact absurd h3 h2
          · exact h3
        rw [if_neg h2, if_pos h3, if_neg (by have := UInt8.lt_iff_toNat_lt.1 h3; omega), if_pos (by have := UInt8.lt_iff_toNat_lt.1 h3; omega)]
theorem run_CompareString (a b : List UInt8) : T.R (.call n_bytealg_CompareString [.str a, .str b] (.int .i64 (cmpS a b))) := by
  have hx : T.ext n_bytealg_abigen_runtime_cmpstring [.str a, .str b] (.int .i64 (cmpS a b)) := X_cmp ⟨rfl, a, b, rfl, by rw [cmpS_lib]⟩
  refine call_V rfl rfl ?_
  repeat' first | ((with_reducible show Go.AM.V _ _ _ _ _ _); first | refine V_O rfl ?_ | refine V_fA rfl rfl ?_) | ((with_reducible show Go.AM.VO _ _ _ _ _ _ _); first | refine O_extP rfl rfl (viewL_pl (by (repeat' (first | exact Pl.int _ _ | exact Pl.bool _ | exact Pl.str _ | exact Pl.nilSl | exact pl_nil | refine pl_cons ?_ ?_ | refine Pl.tuple _ ?_ | refine Pl.agg _ ?_ | refine Pl.func _ _ ?_ | assumption | refine Pl.iptr _ _ ?_ | exact pll_nil | refine pll_cons ?_ ?_ | refine Pl.sl _ _ ?_)); first | done | fail)) rfl hx ?_ | refine O_step rfl ?_ | refine O_nil' ?_)
  all_goals rfl
theorem run_strCompare (a b : List UInt8) : T.R (.call n_strings_Compare [.str a, .str b] (.int .i64 (cmpS a b))) := by
  have hx := run_CompareString a b
  refine call_V rfl rfl ?_
  repeat' first | ((with_reducible show Go.AM.V _ _ _ _ _ _); first | refine V_O rfl ?_ | refine V_fA rfl rfl ?_) | ((with_reducible show Go.AM.VO _ _ _ _ _ _ _); first | refine O_cA rfl rfl hx ?_ | refine O_step rfl ?_ | refine O_nil' ?_)
  all_goals rfl
theorem run_Or4 (a b c d : Int) (f : Bool) : T.R (.call n_cmp_Or_int [.sl [[.int .i64 a], [.int .i64 b], [.int .i64 c], [.int .i64 d]] f] (.int .i64 (orI a (orI b (orI c d))))) := by
  unfold orI
  refine call_V rfl rfl ?_
  repeat' first | ((with_reducible show Go.AM.V _ _ _ _ _ _); first | refine V_loop rfl (V_unroll ?_) | refine V_O rfl ?_ | refine V_cT rfl rfl ?_ | refine V_cF rfl rfl ?_ | refine V_cB rfl rfl (fun _ => ?_) (fun _ => ?_) | refine V_fA rfl rfl ?_) | ((with_reducible show Go.AM.VO _ _ _ _ _ _ _); first | refine O_step rfl ?_ | refine O_nil' ?_)
  all_goals simp only [Bool.not_eq_true', Bool.not_eq_false', decide_eq_true_eq, decide_eq_false_iff_not] at *
  all_goals simp [*]
end Go.Proofs.YtgdjnlopdpjnaaaGreatDoor
set_option linter.unusedVariables false
set_option linter.unusedSimpArgs false
namespace Go.Proofs.YtgdjnlopdpjnaaaGreatDoor
open Go Go.AM Go.RowKit
def cmpF (p q : PV) (la lb : List Val) : EX → EC → St → Prop := fun x e' st' => (x = .exit 0 ∧ st' = emptySt ∧ e' = .put 0 p (.put 1 q .nil) ∧ cmpVs la lb = if la.length < lb.length then -1 else 0) ∨ (x = .ret ∧ e' = .put 6 (.int .i64 (cmpVs la lb)) .nil)
theorem cmpf_loop (la lb : List Val) (p q : PV) (hp : LC la p) (hq : LC lb q)
    (ih : ∀ (j : Nat) (v : Val) (cs : List PV), la[j]? = some v → At 4 p j cs → ∀ (w : Val) (ds : List PV), VC w ds → T.R (.call n_value_Compare [.agg cs, .agg ds] (.int .i64 (cmpV v w)))) :
    ∀ (ra rb pre : List Val) (e : EC), la = pre ++ ra → lb = pre ++ rb → e.get 0 = some p → e.get 1 = some q → e.get 2 = some (.func n_value_Compare []) → e.get 11 = some p → e.get 12 = some (.int .i64 la.length) → e.get 13 = some (.int .i64 pre.length) →
    V T (PE (cmpF p q la lb)) [.code (.loop lp_slices_CompareFunc_api_Value_0)] .normal e emptySt := by
  obtain ⟨lp1, lp2, lp3⟩ := hp.len
  obtain ⟨lq1, lq2, lq3⟩ := hq.len
  intro ra
  induction ra with
  | nil =>
    intro rb pre e ha hb h0 h1 h2 h11 h12 h13
    refine V_less (.put 0 p (.put 1 q (.put 2 (.func n_value_Compare []) (.put 11 p (.put 12 (.int .i64 la.length) (.put 13 (.int .i64 pre.length) .nil)))))) (less_put h0 (less_put h1 (less_put h2 (less_put h11 (less_put h12 (less_put h13 less_nil)))))) (V_unroll ?_)
    have hc : cmpVs la lb = if la.length < lb.length then -1 else 0 := by
      rw [ha, hb, cmpVs_pre]
      cases rb with
      | nil => simp [cmpVs]
      | cons z rb => rw [if_pos (by simp)]; rfl
    have out : ∀ (fr : List Fr) (x : EX) (e' : EC), adv 200 fr x = ([], .exit 0) → e'.get 0 = some p → e'.get 1 = some q → V T (PE (cmpF p q la lb)) fr x e' emptySt := fun fr x e' hadv g0 g1 =>
      V_less (.put 0 p (.put 1 q .nil)) (less_put g0 (less_put g1 less_nil)) (V_endP hadv (.inl ⟨rfl, rfl, rfl, hc⟩))
    repeat' first | ((with_reducible show Go.AM.V _ _ _ _ _ _); first | refine V_O rfl ?_ | refine V_cB rfl rfl (fun _ => ?_) (fun _ => ?_)) | ((with_reducible show Go.AM.VO _ _ _ _ _ _ _); first | refine O_step rfl ?_ | refine O_nil' ?_) | refine out _ _ _ rfl rfl rfl
    all_goals (exfalso; subst ha; simp at *)
  | cons y ra ihr =>
    intro rb pre e ha hb h0 h1 h2 h11 h12 h13
    refine V_less (.put 0 p (.put 1 q (.put 2 (.func n_value_Compare []) (.put 11 p (.put 12 (.int .i64 la.length) (.put 13 (.int .i64 pre.length) .nil)))))) (less_put h0 (less_put h1 (less_put h2 (less_put h11 (less_put h12 (less_put h13 less_nil)))))) (V_unroll ?_)
    have hy : la[pre.length]? = some y := by subst ha; simp
    obtain ⟨cy, ay, vy⟩ := hp.at hy
    have hih := ih _ y cy hy ay
    obtain ⟨ky, ny, sy, ly⟩ := y
    obtain ⟨hk1, hn1, hs1, py, rfl, hpy⟩ := vy.open
    have ply := hpy.pl
    have ret : ∀ (fr : List Fr) (x : EX) (e' : EC) (st' : St) (r : Int), adv 200 fr x = ([], .ret) → e'.get 6 = some (.int .i64 r) → r = cmpVs la lb → V T (PE (cmpF p q la lb)) fr x e' st' := fun fr x e' st' r hadv g0 hr => by
      subst hr
      exact V_less (.put 6 _ .nil) (less_put g0 less_nil) (V_endP hadv (.inr ⟨rfl, rfl⟩))
    cases rb with
    | nil =>
      have hc : 1 = cmpVs la lb := by rw [ha, hb, cmpVs_pre]; rfl
      repeat' first | ((with_reducible show Go.AM.V _ _ _ _ _ _); first | refine V_O rfl ?_ | refine V_cB rfl rfl (fun _ => ?_) (fun _ => ?_)) | ((with_reducible show Go.AM.VO _ _ _ _ _ _ _); first | refine O_stepL rfl ?_ | refine O_storeV rfl rfl vy.one rfl rfl rfl ?_ | refine O_at rfl rfl ay ?_ | refine O_lenO rfl lq1 lq2 ?_ | refine O_step rfl ?_ | refine O_nil' ?_) | refine ret _ _ _ _ 1 rfl rfl hc
      all_goals (exfalso; clear ret hih ihr ih hc; subst ha hb; simp at *; try omega)
    | cons z rb =>
      have hz : lb[pre.length]? = some z := by subst hb; simp
      obtain ⟨cz, az, vz⟩ := hq.at hz
      have hcall := hih z cz vz
      have hcm : cmpVs la lb = orI (cmpV (.mk ky ny sy ly) z) (cmpVs ra rb) := by rw [ha, hb, cmpVs_pre]; rfl
      have hz0 : cmpV (.mk ky ny sy ly) z = 0 → (.mk ky ny sy ly) = z := cmpV_zero.1
      generalize hr : cmpV (.mk ky ny sy ly) z = r at hcall hcm hz0
      obtain ⟨kz, nz, sz, lz⟩ := z
      obtain ⟨hk2, hn2, hs2, pz, rfl, hpz⟩ := vz.open
      have plz := hpz.pl
      by_cases hyz : r = 0
      · have hyz' := hz0 hyz
        have fin : ∀ (fr : List Fr) (x : EX) (e' : EC) (st' : St), adv 200 fr x = ([.code (.loop lp_slices_CompareFunc_api_Value_0)], .normal) → e'.get 0 = some p → e'.get 1 = some q → e'.get 2 = some (.func n_value_Compare []) → e'.get 11 = some p → e'.get 12 = some (.int .i64 la.length) → e'.get 13 = some (.int .i64 (IntKind.i64.wrap (pre.length + 1))) → st'.base = 0 → V T (PE (cmpF p q la lb)) fr x e' st' := fun fr x e' st' hadv g0 g1 g2 g11 g12 g13 hb0 => V_adv hadv (by
          have hlt : pre.length < la.length := by subst ha; simp
          have hw : IntKind.i64.wrap (pre.length + 1) = ((pre ++ [Val.mk ky ny sy ly]).length : Int) := by rw [wrap_i64]; simp; omega
          rw [hw] at g13
          have := V_forgetAll (st := st') [(0, p), (1, q), (2, .func n_value_Compare []), (11, p), (12, .int .i64 la.length), (13, .int .i64 ((pre ++ [Val.mk ky ny sy ly]).length : Int))]
            (fg_cons g0 hp.pl.bel (fg_cons g1 hq.pl.bel (fg_cons g2 (.func _ _ (by simp)) (fg_cons g11 hp.pl.bel (fg_cons g12 (.int _ _) (fg_cons g13 (.int _ _) fg_nil)))))) (by omega)
            (T := T) (Q := PE (cmpF p q la lb)) (c := .loop lp_slices_CompareFunc_api_Value_0) (k := [])
          rw [hb0] at this
          exact this (ihr rb (pre ++ [Val.mk ky ny sy ly]) _ (by rw [ha]; simp) (by rw [hb, hyz']; simp) rfl rfl rfl rfl rfl rfl))
        subst hyz
        repeat' first | ((with_reducible show Go.AM.V _ _ _ _ _ _); first | refine V_O rfl ?_ | refine V_cF rfl rfl ?_ | refine V_cB rfl rfl (fun _ => ?_) (fun _ => ?_)) | ((with_reducible show Go.AM.VO _ _ _ _ _ _ _); first | refine O_stepL rfl ?_ | refine O_storeV rfl rfl vy.one rfl rfl rfl ?_ | refine O_at rfl rfl ay ?_ | refine O_at rfl rfl az ?_ | refine O_storeV rfl rfl vz.one rfl rfl rfl ?_ | refine O_lenO rfl lq1 lq2 ?_ | refine O_cA rfl rfl hcall ?_ | refine O_step rfl ?_ | refine O_nil' ?_) | refine fin _ _ _ _ rfl rfl rfl rfl rfl rfl rfl rfl
        all_goals (exfalso; clear ret hih ihr ih fin; subst ha hb; simp at *; try omega)
      · have hc : r = cmpVs la lb := by rw [hcm]; exact (if_neg hyz).symm
        repeat' first | ((with_reducible show Go.AM.V _ _ _ _ _ _); first | refine V_O rfl ?_ | refine V_cB rfl rfl (fun _ => ?_) (fun _ => ?_)) | ((with_reducible show Go.AM.VO _ _ _ _ _ _ _); first | refine O_stepL rfl ?_ | refine O_storeV rfl rfl vy.one rfl rfl rfl ?_ | refine O_at rfl rfl ay ?_ | refine O_at rfl rfl az ?_ | refine O_storeV rfl rfl vz.one rfl rfl rfl ?_ | refine O_lenO rfl lq1 lq2 ?_ | refine O_cA rfl rfl hcall ?_ | refine O_step rfl ?_ | refine O_nil' ?_) | refine ret _ _ _ _ r rfl rfl hc
        all_goals (exfalso; clear ret hih ihr ih hc hcall)
        all_goals first | (subst ha hb; simp at *; omega) | (refine hyz ?_; simp_all; done)
theorem run_CompareFunc (la lb : List Val) (p q : PV) (hp : LC la p) (hq : LC lb q)
    (ih : ∀ (j : Nat) (v : Val) (cs : List PV), la[j]? = some v → At 4 p j cs → ∀ (w : Val) (ds : List PV), VC w ds → T.R (.call n_value_Compare [.agg cs, .agg ds] (.int .i64 (cmpV v w)))) :
    T.R (.call n_slices_CompareFunc_api_Value [p, q, .func n_value_Compare []] (.int .i64 (cmpVs la lb))) := by
  obtain ⟨lp1, lp2, lp3⟩ := hp.len
  obtain ⟨lq1, lq2, lq3⟩ := hq.len
  have hl := fun e h0 h1 h2 h3 h4 h5 => cmpf_loop la lb p q hp hq ih la lb [] e rfl rfl h0 h1 h2 h3 h4 h5
  generalize hc : cmpVs la lb = r at hl ⊢
  refine call_V rfl rfl ?_
  repeat' first | ((with_reducible show Go.AM.V _ _ _ _ _ _); first | refine V_cutA rfl (hl _ rfl rfl rfl rfl rfl rfl) ?_ | refine V_O rfl ?_) | ((with_reducible show Go.AM.VO _ _ _ _ _ _ _); first | refine O_lenO rfl lp1 lp2 ?_ | refine O_step rfl ?_ | refine O_nil' ?_)
  rintro x e' st' (⟨rfl, rfl, rfl, h⟩ | ⟨rfl, rfl⟩)
  · rw [hc] at h
    repeat' first | ((with_reducible show Go.AM.V _ _ _ _ _ _); first | refine V_O rfl ?_ | refine V_cB rfl rfl (fun _ => ?_) (fun _ => ?_) | refine V_fA rfl rfl ?_) | ((with_reducible show Go.AM.VO _ _ _ _ _ _ _); first | refine O_lenO rfl lp1 lp2 ?_ | refine O_lenO rfl lq1 lq2 ?_ | refine O_step rfl ?_ | refine O_nil' ?_)
    all_goals simp only [decide_eq_true_eq, decide_eq_false_iff_not] at *
    · rw [h, if_pos (by omega)]
    · rw [h, if_neg (by omega)]
  · rw [hc]
    repeat' first | refine V_fA rfl rfl ?_
    all_goals rfl
theorem run_Compare {a : Val} {ca : List PV} (ha : VC a ca) : ∀ (b : Val) (cb : List PV), VC b cb → T.R (.call n_value_Compare [.agg ca, .agg cb] (.int .i64 (cmpV a b))) := by
  refine VC.ind (M := fun a ca => ∀ (b : Val) (cb : List PV), VC b cb → T.R (.call n_value_Compare [.agg ca, .agg cb] (.int .i64 (cmpV a b)))) ?_ ha
  rintro k n s l p hk hn hs hp ih ⟨k', n', s', l'⟩ cb hb
  obtain ⟨hk', hn', hs', q, rfl, hq⟩ := hb.open
  have h1 := run_cmpInt k k'
  have h2 := run_cmpInt64 n n'
  have h3 := run_strCompare s s'
  have h4 := run_CompareFunc l l' p q hp hq ih
  have plp := hp.pl
  have plq := hq.pl
  have h5 := run_Or4 (cmpI k k') (cmpI n n') (cmpS s s') (cmpVs l l') true
  refine call_V rfl rfl ?_
  repeat' first | ((with_reducible show Go.AM.V _ _ _ _ _ _); first | refine V_O rfl ?_ | refine V_fA rfl rfl ?_ | refine V_D rfl ?_) | ((with_reducible show Go.AM.VO _ _ _ _ _ _ _); first | refine O_stepL rfl ?_ | refine O_step rfl ?_ | refine O_nil' ?_) | ((with_reducible show Go.AM.VD _ _ _ _ _ _ _); first | refine D_cA rfl rfl h1 ?_ | refine D_cA rfl rfl h2 ?_ | refine D_cA rfl rfl h3 ?_ | refine D_cA rfl rfl h4 ?_ | refine D_cA rfl rfl h5 ?_ | refine D_step rfl ?_ | refine D_nil' ?_)
  all_goals (unfold cmpV; rfl)
end Go.Proofs.YtgdjnlopdpjnaaaGreatDoor
set_option linter.unusedVariables false
set_option linter.unusedSimpArgs false
namespace Go.Proofs.YtgdjnlopdpjnaaaGreatDoor
open Go Go.AM Go.RowKit
theorem run_Same {a b : Val} {ca cb : List PV} (ha : VC a ca) (hb : VC b cb) : T.R (.call n_rambleref02_Same [.agg ca, .agg cb] (.bool (decide (cmpV a b = 0)))) := by
  have h := run_Compare2 ha b cb hb
  generalize cmpV a b = r at h ⊢
  obtain ⟨k, n, s, l⟩ := a
  obtain ⟨k', n', s', l'⟩ := b
  obtain ⟨hk, hn, hs, p, rfl, hp⟩ := ha.open
  obtain ⟨hk', hn', hs', q, rfl, hq⟩ := hb.open
  have plp := hp.pl
  have plq := hq.pl
  refine call_V rfl rfl ?_
  repeat' first | ((with_reducible show Go.AM.V _ _ _ _ _ _); first | refine V_O rfl ?_ | refine V_fA rfl rfl ?_) | ((with_reducible show Go.AM.VO _ _ _ _ _ _ _); first | refine O_stepL rfl ?_ | refine O_cA rfl rfl h ?_ | refine O_step rfl ?_ | refine O_nil' ?_)
  all_goals rfl
def risesV : List Val → Bool
  | a :: _ :: c :: r => decide (cmpV a c < 0) && risesV (c :: r)
  | _ => true
def mayV : Nat → Val → Bool
  | 0, _ => false
  | f + 1, .mk k n s l =>
    if k = 1 then decide (s = []) && decide ((l.length : Int) = 0)
    else if k = 3 then decide (s = []) && decide ((l.length : Int) = 0) && (decide (n = 0) || decide (n = 1))
    else if k = 6 then decide (s = []) && decide ((l.length : Int) = 0) && decide (1 ≤ n) && decide (n ≤ 281474976710656)
    else if k = 7 then decide (s = []) && decide ((l.length : Int) = 0) && decide (1 ≤ n) && decide (n ≤ 281474976710656)
    else if k = 2 then decide (n = 0) && decide ((l.length : Int) = 0) && decide ((s.length : Int) ≤ 128)
    else if k = 4 then decide (n = 0) && decide (s = []) && decide ((l.length : Int) ≤ 256) && l.all (mayV f)
    else if k = 5 then decide (n = 0) && decide (s = []) && decide ((l.length : Int) ≤ 512) && decide ((l.length : Int).tmod 2 = 0) && l.all (mayV f) && risesV l
    else false
end Go.Proofs.YtgdjnlopdpjnaaaGreatDoor
set_option linter.unusedVariables false
set_option linter.unusedSimpArgs false
namespace Go.Proofs.YtgdjnlopdpjnaaaGreatDoor
open Go Go.AM Go.RowKit
inductive NT where
  | ends
  | form
  | ok (u n : Nat)
def NT.up (c : Nat) : NT → NT
  | .ok u n => .ok (c + 128 * u) (n + 1)
  | t => t
def NT.at (u i : Nat) : NT → NT
  | .ok v n => .ok (u + 128 ^ i * v) (i + n)
  | t => t
theorem NT.at_up (u i c : Nat) (t : NT) : NT.at u i (NT.up c t) = NT.at (u + 128 ^ i * c) (i + 1) t := by
  cases t with
  | ends => rfl
  | form => rfl
  | ok v n =>
    simp only [NT.at, NT.up, Nat.pow_succ, Nat.mul_add, Nat.mul_assoc, NT.ok.injEq]
    exact ⟨by omega, by omega⟩
def decN : Nat → Nat → List UInt8 → NT
  | 0, _, _ => .form
  | _ + 1, _, [] => .ends
  | m + 1, i, c :: r => if 127 < c.toNat then NT.up (c.toNat % 128) (decN m (i + 1) r) else if (0 < i ∧ c.toNat = 0) ∨ (i = 9 ∧ 1 < c.toNat) then .form else .ok c.toNat 1
def ntPV : NT → PV
  | .ends => .tuple [.int .u64 0, .int .i64 0, .int .i64 11]
  | .form => .tuple [.int .u64 0, .int .i64 0, .int .i64 12]
  | .ok u n => .tuple [.int .u64 u, .int .i64 n, .int .i64 0]
def ntP (t : NT) : EX → EC → St → Prop := fun x e' st' => st' = emptySt ∧ ((x = .exit 0 ∧ t = .form ∧ e' = .nil) ∨ (x = .ret ∧ ∃ u n e : Int, ntPV t = .tuple [.int .u64 u, .int .i64 n, .int .i64 e] ∧ e' = .put 2 (.int .u64 u) (.put 3 (.int .i64 n) (.put 4 (.int .i64 e) .nil))))
theorem and127 (c : UInt8) : IntKind.u8.wrap ((BitVec.ofInt 8 (c.toNat : Int) &&& BitVec.ofInt 8 127).toNat : Int) = ((c.toNat % 128 : Nat) : Int) := by
  have h2 : ∀ b : BitVec 8, (b &&& 127#8).toNat = b.toNat % 128 := by decide
  have h3 : BitVec.ofInt 8 (c.toNat : Int) = BitVec.ofNat 8 c.toNat := by rw [BitVec.ofInt_natCast]
  have h4 : BitVec.ofInt 8 127 = 127#8 := rfl
  have hc := c.toNat_lt
  rw [h3, h4, h2, wrap_u8, BitVec.toNat_ofNat]
  omega
theorem pow27 (i : Nat) : 2 ^ (7 * i) = 128 ^ i := by rw [Nat.pow_mul]
theorem or_at {u c i : Nat} (hi : i ≤ 9) (hc : c < 128) : ∃ u' : Nat, IntKind.u64.wrap ((BitVec.ofInt 64 (u : Int) ||| BitVec.ofInt 64 (IntKind.u64.wrap ((c : Int) * 2 ^ (min ((7 * i : Nat) : Int).toNat IntKind.u64.bits)))).toNat : Int) = (u' : Int) ∧ (u < 128 ^ i → i ≤ 8 ∨ c ≤ 1 → u' = u + 128 ^ i * c) := by
  have hm : min ((7 * i : Nat) : Int).toNat IntKind.u64.bits = 7 * i := by
    show min ((7 * i : Nat) : Int).toNat 64 = 7 * i
    omega
  rw [hm]
  refine ⟨(BitVec.ofInt 64 (u : Int) ||| BitVec.ofInt 64 (IntKind.u64.wrap ((c : Int) * 2 ^ (7 * i)))).toNat, ?_, ?_⟩
  · rw [wrap_u64]
    have := (BitVec.ofInt 64 (u : Int) ||| BitVec.ofInt 64 (IntKind.u64.wrap ((c : Int) * 2 ^ (7 * i)))).isLt
    omega
  · intro hu hic
    have hcm : ((c : Int) * 2 ^ (7 * i)) = ((c * 128 ^ i : Nat) : Int) := by rw [← pow27]; push_cast; rfl
    have hle : 128 ^ i ≤ 128 ^ 9 := Nat.pow_le_pow_right (by omega) hi
    have h9 : (128 : Nat) ^ 9 = 9223372036854775808 := by decide
    have h8 : (128 : Nat) ^ 8 = 72057594037927936 := by decide
    have hlt : c * 128 ^ i < 18446744073709551616 := by
      rcases hic with h | h
      · have : 128 ^ i ≤ 128 ^ 8 := Nat.pow_le_pow_right (by omega) h
        have : c * 128 ^ i ≤ 127 * 72057594037927936 := Nat.mul_le_mul (by omega) (by omega)
        omega
      · have : c * 128 ^ i ≤ 1 * 9223372036854775808 := Nat.mul_le_mul h (by omega)
        omega
    have hw : IntKind.u64.wrap ((c * 128 ^ i : Nat) : Int) = ((c * 128 ^ i : Nat) : Int) := by rw [wrap_u64]; omega
    rw [hcm, hw, BitVec.toNat_or, BitVec.ofInt_natCast, BitVec.ofInt_natCast, BitVec.toNat_ofNat, BitVec.toNat_ofNat, Nat.mod_eq_of_lt (by omega), Nat.mod_eq_of_lt hlt, ← pow27, Nat.or_comm, ← Nat.shiftLeft_eq]
    rw [← Nat.shiftLeft_add_eq_or_of_lt (by rw [pow27]; exact hu), Nat.shiftLeft_eq]
    rw [Nat.mul_comm c]
    omega
set_option maxHeartbeats 4000000 in
theorem ntake_loop (p : PV) (b0 : List UInt8) (hp : BV p b0) : ∀ (m i u : Nat) (rest pre : List UInt8) (e : EC), m + i = 10 → b0 = pre ++ rest → pre.length = i → (m ≠ 0 → u < 128 ^ i) → e.get 0 = some p → e.get 5 = some (.int .u64 u) → e.get 7 = some (.int .i64 i) →
    V T (PE (ntP (NT.at u i (decN m i rest)))) [.code (.loop lp_num_Take_0)] .normal e emptySt := by
  intro m
  have out : ∀ (t : NT) (fr : List Fr) (x : EX) (e' : EC), t = .form → adv 200 fr x = ([], .exit 0) → V T (PE (ntP t)) fr x e' emptySt := fun t fr x e' ht hadv =>
    V_less .nil less_nil (V_endP hadv ⟨rfl, .inl ⟨rfl, ht, rfl⟩⟩)
  have ret : ∀ (t : NT) (fr : List Fr) (x : EX) (e' : EC) (u n e : Int), ntPV t = .tuple [.int .u64 u, .int .i64 n, .int .i64 e] → adv 200 fr x = ([], .ret) → e'.get 2 = some (.int .u64 u) → e'.get 3 = some (.int .i64 n) → e'.get 4 = some (.int .i64 e) → V T (PE (ntP t)) fr x e' emptySt := fun t fr x e' u n e ht hadv g2 g3 g4 =>
    V_less (.put 2 _ (.put 3 _ (.put 4 _ .nil))) (less_put g2 (less_put g3 (less_put g4 less_nil))) (V_endP hadv ⟨rfl, .inr ⟨rfl, u, n, e, ht, rfl⟩⟩)
  induction m with
  | zero =>
    intro i u rest pre e hmi hb hi hu h0 h5 h7
    have hlt : ¬ ((i : Int) < 10) := by omega
    refine V_less (.put 0 p (.put 5 _ (.put 7 _ .nil))) (less_put h0 (less_put h5 (less_put h7 less_nil))) (V_unroll ?_)
    repeat' first | ((with_reducible show Go.AM.V _ _ _ _ _ _); first | refine V_O rfl ?_ | refine V_cF rfl rfl ?_) | ((with_reducible show Go.AM.VO _ _ _ _ _ _ _); first | refine O_is (dec_not hlt) rfl ?_ | refine O_nil' ?_) | refine out _ _ _ _ rfl rfl
  | succ m ih =>
    intro i u rest pre e hmi hb hi hu h0 h5 h7
    have hlt : (i : Int) < 10 := by omega
    cases rest with
    | nil =>
      have heq : (i : Int) = (b0.length : Int) := by subst hb; simp; omega
      refine V_less (.put 0 p (.put 5 _ (.put 7 _ .nil))) (less_put h0 (less_put h5 (less_put h7 less_nil))) (V_unroll ?_)
      clear ih
      repeat' first | ((with_reducible show Go.AM.V _ _ _ _ _ _); first | refine V_O rfl ?_ | refine V_cT rfl rfl ?_) | ((with_reducible show Go.AM.VO _ _ _ _ _ _ _); first | refine O_lenB rfl hp ?_ | refine O_is (dec_is hlt) rfl ?_ | refine O_is (dec_is heq) rfl ?_ | refine O_step rfl ?_ | refine O_nil' ?_) | refine ret .ends _ _ _ _ _ _ rfl rfl rfl rfl rfl
    | cons c rest =>
      have heq : ¬ (i : Int) = (b0.length : Int) := by subst hb; simp; omega
      have hc := c.toNat_lt
      have hat := hp.at (n := (i : Int)) (b := c) (by omega) (by subst hb; simp [hi])
      have hand := int_is (k := .u8) (and127 c)
      have hcv : PV.int .u64 (IntKind.u64.wrap ((c.toNat % 128 : Nat) : Int)) = PV.int .u64 ((c.toNat % 128 : Nat) : Int) := int_is (by rw [wrap_u64]; omega)
      have h7i : PV.int .i64 (IntKind.i64.wrap (7 * (i : Int))) = PV.int .i64 ((7 * i : Nat) : Int) := int_is (by rw [wrap_i64]; omega)
      obtain ⟨u', hu', hu2⟩ := or_at (u := u) (c := c.toNat % 128) (i := i) (by omega) (by omega)
      have hor := int_is (k := .u64) hu'
      have hw : PV.int .i64 (IntKind.i64.wrap ((i : Int) + 1)) = PV.int .i64 ((i + 1 : Nat) : Int) := int_is (by rw [wrap_i64]; omega)
      have h70 : ¬ ((7 * i : Nat) : Int) < 0 := by omega
      by_cases hgt : 127 < c.toNat
      · have hd : decN (m + 1) i (c :: rest) = NT.up (c.toNat % 128) (decN m (i + 1) rest) := by simp only [decN]; rw [if_pos hgt]
        have hgt' : (127 : Int) < (c.toNat : Int) := by omega
        have fin : ∀ (fr : List Fr) (x : EX) (e' : EC), adv 200 fr x = ([.code (.loop lp_num_Take_0)], .normal) → e'.get 0 = some p → e'.get 5 = some (.int .u64 u') → e'.get 7 = some (.int .i64 ((i + 1 : Nat) : Int)) → V T (PE (ntP (NT.at u i (decN (m + 1) i (c :: rest))))) fr x e' emptySt := fun fr x e' hadv g0 g5 g7 => V_adv hadv (by
          rw [hd, NT.at_up]
          by_cases hm0 : m = 0
          · subst hm0
            have ha : NT.at (u + 128 ^ i * (c.toNat % 128)) (i + 1) (decN 0 (i + 1) rest) = NT.at u' (i + 1) (decN 0 (i + 1) rest) := rfl
            rw [ha]
            exact ih (i + 1) u' rest (pre ++ [c]) e' (by omega) (by rw [hb]; simp) (by simp [hi]) (fun h => absurd rfl h) g0 g5 g7
          · have hu3 := hu2 (hu (by omega)) (.inl (by omega))
            rw [← hu3]
            refine ih (i + 1) u' rest (pre ++ [c]) e' (by omega) (by rw [hb]; simp) (by simp [hi]) (fun _ => ?_) g0 g5 g7
            have hui := hu (by omega)
            have h3 : 128 ^ i * (c.toNat % 128) ≤ 128 ^ i * 127 := Nat.mul_le_mul_left _ (by omega)
            rw [hu3, Nat.pow_succ]
            omega)
        refine V_less (.put 0 p (.put 5 _ (.put 7 _ .nil))) (less_put h0 (less_put h5 (less_put h7 less_nil))) (V_unroll ?_)
        clear ih out ret
        repeat' first | ((with_reducible show Go.AM.V _ _ _ _ _ _); first | refine V_O rfl ?_ | refine V_cT rfl rfl ?_ | refine V_cF rfl rfl ?_) | ((with_reducible show Go.AM.VO _ _ _ _ _ _ _); first | refine O_lenB rfl hp ?_ | refine O_at rfl rfl hat ?_ | refine O_is (dec_is hlt) rfl ?_ | refine O_is (dec_not heq) rfl ?_ | refine O_is hand rfl ?_ | refine O_is hcv rfl ?_ | refine O_is h7i rfl ?_ | refine O_shl rfl rfl h70 ?_ | refine O_is hor rfl ?_ | refine O_is (dec_is hgt') rfl ?_ | refine O_is hw rfl ?_ | refine O_step rfl ?_ | refine O_nil' ?_) | refine fin _ _ _ rfl rfl rfl rfl
      · have hgt' : ¬ (127 : Int) < (c.toNat : Int) := by omega
        clear ih
        have hmod : c.toNat % 128 = c.toNat := by omega
        have okr : ¬ ((0 < i ∧ c.toNat = 0) ∨ (i = 9 ∧ 1 < c.toNat)) → NT.at u i (decN (m + 1) i (c :: rest)) = .ok u' (i + 1) := fun h => by
          simp only [decN]
          rw [if_neg hgt, if_neg h]
          simp only [NT.at]
          rw [hu2 (hu (by omega)) (by omega), hmod]
        have fo : ((0 < i ∧ c.toNat = 0) ∨ (i = 9 ∧ 1 < c.toNat)) → NT.at u i (decN (m + 1) i (c :: rest)) = .form := fun h => by
          simp only [decN]
          rw [if_neg hgt, if_pos h]
          rfl
        by_cases i0 : 0 < i
        · have i0' : (0 : Int) < (i : Int) := by omega
          by_cases c0 : c.toNat = 0
          · have c0' : (c.toNat : Int) = 0 := by omega
            have t0 := fo (.inl ⟨i0, c0⟩)
            refine V_less (.put 0 p (.put 5 _ (.put 7 _ .nil))) (less_put h0 (less_put h5 (less_put h7 less_nil))) (V_unroll ?_)
            repeat' first | ((with_reducible show Go.AM.V _ _ _ _ _ _); first | refine V_O rfl ?_ | refine V_cT rfl rfl ?_ | refine V_cF rfl rfl ?_) | ((with_reducible show Go.AM.VO _ _ _ _ _ _ _); first | refine O_lenB rfl hp ?_ | refine O_at rfl rfl hat ?_ | refine O_is (dec_is hlt) rfl ?_ | refine O_is (dec_not heq) rfl ?_ | refine O_is hand rfl ?_ | refine O_is hcv rfl ?_ | refine O_is h7i rfl ?_ | refine O_shl rfl rfl h70 ?_ | refine O_is hor rfl ?_ | refine O_is (dec_not hgt') rfl ?_ | refine O_is (dec_is i0') rfl ?_ | refine O_is (dec_is c0') rfl ?_ | refine O_step rfl ?_ | refine O_nil' ?_ | refine O_gT' rfl ?_ | refine O_gU' rfl ?_ | refine O_gF' rfl rfl ?_) | refine out _ _ _ _ t0 rfl
          · have c0' : ¬ (c.toNat : Int) = 0 := by omega
            by_cases i9 : i = 9
            · have i9' : (i : Int) = 9 := by omega
              by_cases c1 : 1 < c.toNat
              · have c1' : (1 : Int) < (c.toNat : Int) := by omega
                have t0 := fo (.inr ⟨i9, c1⟩)
                refine V_less (.put 0 p (.put 5 _ (.put 7 _ .nil))) (less_put h0 (less_put h5 (less_put h7 less_nil))) (V_unroll ?_)
                repeat' first | ((with_reducible show Go.AM.V _ _ _ _ _ _); first | refine V_O rfl ?_ | refine V_cT rfl rfl ?_ | refine V_cF rfl rfl ?_) | ((with_reducible show Go.AM.VO _ _ _ _ _ _ _); first | refine O_lenB rfl hp ?_ | refine O_at rfl rfl hat ?_ | refine O_is (dec_is hlt) rfl ?_ | refine O_is (dec_not heq) rfl ?_ | refine O_is hand rfl ?_ | refine O_is hcv rfl ?_ | refine O_is h7i rfl ?_ | refine O_shl rfl rfl h70 ?_ | refine O_is hor rfl ?_ | refine O_is (dec_not hgt') rfl ?_ | refine O_is (dec_is i0') rfl ?_ | refine O_is (dec_not c0') rfl ?_ | refine O_is (dec_is i9') rfl ?_ | refine O_is (dec_is c1') rfl ?_ | refine O_step rfl ?_ | refine O_nil' ?_ | refine O_gT' rfl ?_) | refine out _ _ _ _ t0 rfl
              · have c1' : ¬ (1 : Int) < (c.toNat : Int) := by omega
                have t0 := okr (by omega)
                rw [t0]
                refine V_less (.put 0 p (.put 5 _ (.put 7 _ .nil))) (less_put h0 (less_put h5 (less_put h7 less_nil))) (V_unroll ?_)
                repeat' first | ((with_reducible show Go.AM.V _ _ _ _ _ _); first | refine V_O rfl ?_ | refine V_cT rfl rfl ?_ | refine V_cF rfl rfl ?_) | ((with_reducible show Go.AM.VO _ _ _ _ _ _ _); first | refine O_lenB rfl hp ?_ | refine O_at rfl rfl hat ?_ | refine O_is (dec_is hlt) rfl ?_ | refine O_is (dec_not heq) rfl ?_ | refine O_is hand rfl ?_ | refine O_is hcv rfl ?_ | refine O_is h7i rfl ?_ | refine O_shl rfl rfl h70 ?_ | refine O_is hor rfl ?_ | refine O_is (dec_not hgt') rfl ?_ | refine O_is hw rfl ?_ | refine O_is (dec_is i0') rfl ?_ | refine O_is (dec_not c0') rfl ?_ | refine O_is (dec_is i9') rfl ?_ | refine O_is (dec_not c1') rfl ?_ | refine O_step rfl ?_ | refine O_nil' ?_ | refine O_gT' rfl ?_) | refine ret (.ok u' (i + 1)) _ _ _ _ _ _ rfl rfl rfl rfl rfl
            · have i9' : ¬ (i : Int) = 9 := by omega
              have t0 := okr (by omega)
              rw [t0]
              refine V_less (.put 0 p (.put 5 _ (.put 7 _ .nil))) (less_put h0 (less_put h5 (less_put h7 less_nil))) (V_unroll ?_)
              repeat' first | ((with_reducible show Go.AM.V _ _ _ _ _ _); first | refine V_O rfl ?_ | refine V_cT rfl rfl ?_ | refine V_cF rfl rfl ?_) | ((with_reducible show Go.AM.VO _ _ _ _ _ _ _); first | refine O_lenB rfl hp ?_ | refine O_at rfl rfl hat ?_ | refine O_is (dec_is hlt) rfl ?_ | refine O_is (dec_not heq) rfl ?_ | refine O_is hand rfl ?_ | refine O_is hcv rfl ?_ | refine O_is h7i rfl ?_ | refine O_shl rfl rfl h70 ?_ | refine O_is hor rfl ?_ | refine O_is (dec_not hgt') rfl ?_ | refine O_is hw rfl ?_ | refine O_is (dec_is i0') rfl ?_ | refine O_is (dec_not c0') rfl ?_ | refine O_is (dec_not i9') rfl ?_ | refine O_step rfl ?_ | refine O_nil' ?_ | refine O_gT' rfl ?_ | refine O_gF' rfl rfl ?_) | refine ret (.ok u' (i + 1)) _ _ _ _ _ _ rfl rfl rfl rfl rfl
        · have i0' : ¬ (0 : Int) < (i : Int) := by omega
          have i9' : ¬ (i : Int) = 9 := by omega
          have t0 := okr (by omega)
          rw [t0]
          refine V_less (.put 0 p (.put 5 _ (.put 7 _ .nil))) (less_put h0 (less_put h5 (less_put h7 less_nil))) (V_unroll ?_)
          repeat' first | ((with_reducible show Go.AM.V _ _ _ _ _ _); first | refine V_O rfl ?_ | refine V_cT rfl rfl ?_ | refine V_cF rfl rfl ?_) | ((with_reducible show Go.AM.VO _ _ _ _ _ _ _); first | refine O_lenB rfl hp ?_ | refine O_at rfl rfl hat ?_ | refine O_is (dec_is hlt) rfl ?_ | refine O_is (dec_not heq) rfl ?_ | refine O_is hand rfl ?_ | refine O_is hcv rfl ?_ | refine O_is h7i rfl ?_ | refine O_shl rfl rfl h70 ?_ | refine O_is hor rfl ?_ | refine O_is (dec_not hgt') rfl ?_ | refine O_is hw rfl ?_ | refine O_is (dec_not i0') rfl ?_ | refine O_is (dec_not i9') rfl ?_ | refine O_step rfl ?_ | refine O_nil' ?_ | refine O_gT' rfl ?_ | refine O_gF' rfl rfl ?_) | refine ret (.ok u' (i + 1)) _ _ _ _ _ _ rfl rfl rfl rfl rfl
theorem NT.at_zero (t : NT) : NT.at 0 0 t = t := by cases t <;> simp [NT.at]
theorem run_NTake {p : PV} {b : List UInt8} (hp : BV p b) : T.R (.call n_num_Take [p] (ntPV (decN 10 0 b))) := by
  have hl := fun e h0 h5 h7 => ntake_loop p b hp 10 0 0 b [] e rfl rfl rfl (fun _ => by omega) h0 h5 h7
  rw [NT.at_zero] at hl
  have plp := hp.pl
  refine call_V rfl rfl ?_
  repeat' first | ((with_reducible show Go.AM.V _ _ _ _ _ _); first | refine V_cutA rfl (hl _ rfl rfl rfl) ?_ | refine V_O rfl ?_) | ((with_reducible show Go.AM.VO _ _ _ _ _ _ _); first | refine O_step rfl ?_ | refine O_nil' ?_)
  rintro x e' st' ⟨rfl, ⟨rfl, ht, rfl⟩ | ⟨rfl, u, n, e, ht, rfl⟩⟩
  · rw [ht]
    repeat' first | ((with_reducible show Go.AM.V _ _ _ _ _ _); first | refine V_O rfl ?_ | refine V_fA rfl rfl ?_) | ((with_reducible show Go.AM.VO _ _ _ _ _ _ _); first | refine O_step rfl ?_ | refine O_nil' ?_)
    rfl
  · rw [ht]
    exact V_fin rfl rfl (Pl.view (by (repeat' (first | exact Pl.int _ _ | exact Pl.bool _ | exact Pl.str _ | exact Pl.nilSl | exact pl_nil | refine pl_cons ?_ ?_ | refine Pl.tuple _ ?_ | refine Pl.agg _ ?_ | refine Pl.func _ _ ?_ | assumption | refine Pl.iptr _ _ ?_ | exact pll_nil | refine pll_cons ?_ ?_ | refine Pl.sl _ _ ?_)); first | done | fail)) rfl
end Go.Proofs.YtgdjnlopdpjnaaaGreatDoor
