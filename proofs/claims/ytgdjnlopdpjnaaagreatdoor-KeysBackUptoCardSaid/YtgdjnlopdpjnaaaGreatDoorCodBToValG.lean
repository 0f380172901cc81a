/- A number's bytes in order: codec.eight, rambleref03.eight. · A number's bytes in order: rambleref03.eight. · How two values stand: rambleref02.Compare, Same, SameAll. · How two values stand: value.Compare; whether they are the same. · How two values stand: value.Compare. · Whether two values are the same; whether all are; whether a value may be: rambleref02. · num.Take: a number out of its bytes. · value.may, one step. -/
import Derived.Test.YtgdjnlopdpjnaaaGreatDoorBytesToOrd
import Derived.Test.YtgdjnlopdpjnaaaGreatDoorAmZ
set_option linter.unusedVariables false
set_option linter.unusedSimpArgs false
namespace Go.Proofs.YtgdjnlopdpjnaaaGreatDoor
open Go Go.AM Go.RowKit
def be : Nat → Nat → List UInt8
  | 0, _ => []
  | j + 1, m => UInt8.ofNat (m / 256 ^ j) :: be j m
def Z1y (n : Int) : Nat := (n + 9223372036854775808).toNat
theorem xor_top (x : Nat) (h : x < 18446744073709551616) : x ^^^ 9223372036854775808 = (x + 9223372036854775808) % 18446744073709551616 := by
  have h1 : (x ^^^ 9223372036854775808) / 2 ^ 63 = (x / 2 ^ 63) ^^^ (9223372036854775808 / 2 ^ 63) := Nat.xor_div_two_pow
  have h2 : (x ^^^ 9223372036854775808) % 2 ^ 63 = (x % 2 ^ 63) ^^^ (9223372036854775808 % 2 ^ 63) := Nat.xor_mod_two_pow
  have e1 : (9223372036854775808 : Nat) / 2 ^ 63 = 1 := by decide
  have e2 : (9223372036854775808 : Nat) % 2 ^ 63 = 0 := by decide
  have e3 : (2 : Nat) ^ 63 = 9223372036854775808 := by decide
  rw [e1] at h1
  rw [e2, Nat.xor_zero] at h2
  rw [e3] at h1 h2
  have : x / 9223372036854775808 = 0 ∨ x / 9223372036854775808 = 1 := by omega
  rcases this with h3 | h3
  · rw [h3] at h1
    have : (0 : Nat) ^^^ 1 = 1 := by decide
    omega
  · rw [h3] at h1
    have : (1 : Nat) ^^^ 1 = 0 := by decide
    omega
theorem bv_top (x : Nat) (h : x < 18446744073709551616) : (BitVec.ofInt 64 (x : Int) ^^^ BitVec.ofInt 64 9223372036854775808).toNat = (x + 9223372036854775808) % 18446744073709551616 := by
  rw [BitVec.toNat_xor, BitVec.ofInt_natCast, BitVec.toNat_ofNat]
  have : (BitVec.ofInt 64 9223372036854775808).toNat = 9223372036854775808 := rfl
  rw [this, Nat.mod_eq_of_lt h, xor_top x h]
theorem flip64 {n : Int} (h : I64 n) : IntKind.u64.wrap ((BitVec.ofInt 64 (IntKind.u64.wrap n) ^^^ BitVec.ofInt 64 9223372036854775808).toNat : Int) = (Z1y n : Int) := by
  obtain ⟨h1, h2⟩ := h
  have hw : IntKind.u64.wrap n = ((n % 18446744073709551616).toNat : Int) := by rw [Z0t]; omega
  rw [hw, bv_top _ (by omega), Z0t]
  unfold Z1y
  omega
theorem shr8 (m j : Nat) : IntKind.u8.wrap (Int.fdiv (m : Int) (2 ^ (8 * j))) = ((UInt8.ofNat (m / 256 ^ j)).toNat : Int) := by
  have h1 : (2 : Int) ^ (8 * j) = ((256 ^ j : Nat) : Int) := by
    rw [Int.pow_mul, Int.natCast_pow]
    rfl
  rw [h1, Int.fdiv_eq_ediv_of_nonneg _ (Int.natCast_nonneg _), Zc0, ← Int.natCast_ediv]
  simp
def Zhe (b : UInt8) : PV := .int .u8 b.toNat
def stE (a b : List PV) : St := ⟨0, 2, [(0, .var a), (1, .var b)]⟩
def zer (j : Nat) : List PV := List.replicate j (.int .u8 0)
theorem Z26 : ∀ (j m : Nat), (be j m).length = j
  | 0, m => rfl
  | j + 1, m => by simp [be, Z26 j m]
theorem eight_loop (m : Nat) : ∀ (j : Nat) (pre : List UInt8) (e : EC), pre.length + j = 8 → pre ++ be j m = be 8 m → e.get 2 = some (.ptr 0 0) → e.get 3 = some (.ptr 1 0) → e.get 4 = some (.int .u64 m) → e.get 9 = some (.int .i64 pre.length) →
    V T (PE fun x e' st' => x = .exit 0 ∧ e' = .put 2 (.ptr 0 0) (.put 3 (.ptr 1 0) .nil) ∧ st' = stE (zer 8) ((be 8 m).map Zhe)) [.code (.loop Z4z)] .normal e (stE (zer 8) (pre.map Zhe ++ zer j)) := by
  intro j
  induction j with
  | zero =>
    intro pre e hl hb h2 h3 h4 h9
    have out : ∀ (fr : List Fr) (x : EX) (e' : EC), Zm 200 fr x = ([], .exit 0) → e'.get 2 = some (.ptr 0 0) → e'.get 3 = some (.ptr 1 0) → V T (PE fun x e' st' => x = .exit 0 ∧ e' = .put 2 (.ptr 0 0) (.put 3 (.ptr 1 0) .nil) ∧ st' = stE (zer 8) ((be 8 m).map Zhe)) fr x e' (stE (zer 8) (pre.map Zhe ++ zer 0)) := fun fr x e' hadv g2 g3 =>
      Zn (.put 2 _ (.put 3 _ .nil)) (Z3 g2 (Z3 g3 Zp)) (Z18 hadv ⟨rfl, rfl, by
        have hp : pre = be 8 m := by rw [← hb]; simp [be]
        rw [hp]; simp [zer]⟩)
    refine Zn (.put 2 _ (.put 3 _ (.put 9 _ .nil))) (Z3 h2 (Z3 h3 (Z3 h9 Zp))) (Zi ?_)
    repeat' first | refine Z1 rfl ?_ | refine Z6v rfl rfl (fun _ => ?_) (fun _ => ?_) | refine Z0 rfl ?_ | refine Z2 ?_ | refine out _ _ _ rfl rfl rfl
    all_goals (exfalso; clear out; simp at *; omega)
  | succ j ih =>
    intro pre e hl hb h2 h3 h4 h9
    have hw1 : IntKind.i64.wrap (8 * (pre.length : Int)) = 8 * pre.length := by rw [Z03]; omega
    have hw2 : IntKind.i64.wrap (56 - IntKind.i64.wrap (8 * (pre.length : Int))) = ((8 * j : Nat) : Int) := by rw [hw1, Z03]; omega
    have hsh : Int.fdiv (m : Int) (2 ^ (min (IntKind.i64.wrap (56 - IntKind.i64.wrap (8 * (pre.length : Int)))).toNat IntKind.u64.bits)) = Int.fdiv (m : Int) (2 ^ (8 * j)) := by
      rw [hw2, show IntKind.u64.bits = 64 from rfl, Nat.min_eq_left (by omega), show ((8 * j : Nat) : Int).toNat = 8 * j by omega]
    have hd : (pre.map Zhe ++ zer (j + 1)).take (0 + (pre.length : Int).toNat * 1) ++ PV.int .u8 (IntKind.u8.wrap (Int.fdiv (m : Int) (2 ^ (min (IntKind.i64.wrap (56 - IntKind.i64.wrap (8 * (pre.length : Int)))).toNat IntKind.u64.bits)))) :: (pre.map Zhe ++ zer (j + 1)).drop (0 + (pre.length : Int).toNat * 1 + 1) = (pre ++ [UInt8.ofNat (m / 256 ^ j)]).map Zhe ++ zer j := by
      rw [hsh, shr8, show 0 + (pre.length : Int).toNat * 1 = (pre.map Zhe).length by simp]
      rw [List.take_left, ← List.drop_drop, List.drop_left]
      simp [zer, Zhe, List.replicate_succ]
    have hln : 0 + (pre.length : Int).toNat * 1 + 1 ≤ (pre.map Zhe ++ zer (j + 1)).length := by simp [zer]
    have hnb : ¬ IntKind.i64.wrap (56 - IntKind.i64.wrap (8 * (pre.length : Int))) < 0 := by rw [hw2]; omega
    have hix : 0 ≤ (pre.length : Int) ∧ (pre.length : Int) < (8 : Nat) := by omega
    have fin : ∀ (fr : List Fr) (x : EX) (e' : EC), Zm 200 fr x = ([.code (.loop Z4z)], .normal) → e'.get 2 = some (.ptr 0 0) → e'.get 3 = some (.ptr 1 0) → e'.get 4 = some (.int .u64 m) → e'.get 9 = some (.int .i64 (IntKind.i64.wrap (pre.length + 1))) → V T (PE fun x e' st' => x = .exit 0 ∧ e' = .put 2 (.ptr 0 0) (.put 3 (.ptr 1 0) .nil) ∧ st' = stE (zer 8) ((be 8 m).map Zhe)) fr x e' (stE (zer 8) ((pre ++ [UInt8.ofNat (m / 256 ^ j)]).map Zhe ++ zer j)) := fun fr x e' hadv g2 g3 g4 g9 => Z34 hadv (by
      have hw : IntKind.i64.wrap (pre.length + 1) = ((pre ++ [UInt8.ofNat (m / 256 ^ j)]).length : Int) := by rw [Z03]; simp; omega
      rw [hw] at g9
      exact ih _ e' (by simp; omega) (by rw [← hb]; simp [be]) g2 g3 g4 g9)
    refine Zn (.put 2 _ (.put 3 _ (.put 4 _ (.put 9 _ .nil)))) (Z3 h2 (Z3 h3 (Z3 h4 (Z3 h9 Zp)))) (Zi ?_)
    repeat' first | refine Z1 rfl ?_ | refine Z6v rfl rfl (fun _ => ?_) (fun _ => ?_) | ((with_reducible show VO _ _ _ _ _ _ _); first | refine O_shr rfl rfl hnb ?_ | refine O_idxA rfl rfl hix ?_ | refine O_storeP rfl rfl rfl rfl rfl hln hd ?_ | refine Z0 rfl ?_ | refine Z2 ?_) | refine fin _ _ _ rfl rfl rfl rfl rfl
    all_goals (exfalso; clear fin ih hd hln hnb hsh hw1 hw2; simp at *; omega)
theorem run_eight {n : Int} (hn : I64 n) : T.R (.call n_codec_eight [.int .i64 n] (.agg ((be 8 (Z1y n)).map Zhe))) := by
  have hu := flip64 hn
  generalize Z1y n = m at hu ⊢
  have hlen : ((be 8 m).map Zhe).length = 8 := by simp [Z26]
  have hl := fun e h2 h3 h4 h9 => eight_loop m 8 [] e rfl rfl h2 h3 h4 h9
  have hplc : ∀ c ∈ (be 8 m).map Zhe, Pl c := fun c hc => by
    obtain ⟨b, _, rfl⟩ := List.mem_map.1 hc
    exact .int _ _
  have hone : ((be 8 m).map Zhe).all PV.one = true := by
    simp [Zhe, PV.one]
  refine Zd rfl rfl ?_
  repeat' first | refine Z3r rfl (hl _ rfl rfl (by rw [← hu]; rfl) rfl) ?_ | refine Z1 rfl ?_ | ((with_reducible show VO _ _ _ _ _ _ _); first | refine Z8 rfl ?_ | refine Z0 rfl ?_ | refine Z2 ?_)
  rintro x e' st' ⟨rfl, rfl, rfl⟩
  generalize (be 8 m).map Zhe = cs at hlen hplc hone ⊢
  have hs : storeAt (stE (zer 8) cs) (.ptr 0 0) (.agg cs) = some (stE cs cs) := by
    simp only [storeAt, stE, St.get, Z9]
    simp [zer, hlen, Z5t, St.put, putA, PV.cells]
  repeat' first | refine Z1 rfl ?_ | ((with_reducible show VO _ _ _ _ _ _ _); first | refine Z0e rfl rfl hlen ?_ | refine Ze rfl rfl hone hlen rfl hs ?_ | refine Z2 ?_)
  have hrr : loadAt (stE cs cs).get 8 true (.ptr 0 0) = some (.agg cs) := by
    simp only [loadAt, behind, stE, St.get, Z9, Option.bind_some]
    simp only [slice?, if_true]
    rw [← hlen]
    simp
  exact Z3t (r0 := .agg cs) rfl (resG_cell rfl hrr) (Pl.view (.agg _ hplc)) rfl
end Go.Proofs.YtgdjnlopdpjnaaaGreatDoor
namespace Go.Proofs.YtgdjnlopdpjnaaaGreatDoor
open Go Go.AM Go.RowKit
theorem i64_len {α : Type} {l : List α} (h : l.length ≤ 140737488355328) : I64 l.length := by unfold I64; omega
def stV (ca cb : List PV) : St := ⟨0, 2, [(0, .var ca), (1, .var cb)]⟩
def cmpP (S : St) (la lb : List Val) : EX → EC → St → Prop := fun x e' st' => st' = S ∧ ((x = .exit 0 ∧ e' = .put 2 (.ptr 0 0) (.put 3 (.ptr 1 0) .nil) ∧ Zj4 la.length lb.length = Z3h la lb) ∨ (x = .ret ∧ e' = .put 4 (.int .i64 (Z3h la lb)) .nil ∧ Z3h la lb ≠ 0))
theorem cmp_loop (k n k' n' : Int) (s s' : List UInt8) (la lb : List Val) (p q : PV) (hp : LC la p) (hq : LC lb q)
    (ih : ∀ (j : Nat) (v : Val) (cs : List PV), la[j]? = some v → At 4 p j cs → ∀ (w : Val) (ds : List PV), VC w ds → T.R (.call Z2h [.agg cs, .agg ds] (.int .i64 (Zd0 v w)))) :
    ∀ (ra rb pre : List Val) (e : EC), la = pre ++ ra → lb = pre ++ rb → e.get 2 = some (.ptr 0 0) → e.get 3 = some (.ptr 1 0) → e.get 8 = some (.int .i64 pre.length) →
    V T (PE (cmpP (stV [.int .i64 k, .int .i64 n, .str s, p] [.int .i64 k', .int .i64 n', .str s', q]) la lb)) [.code (.loop Z1t)] .normal e (stV [.int .i64 k, .int .i64 n, .str s, p] [.int .i64 k', .int .i64 n', .str s', q]) := by
  obtain ⟨lp1, lp2, lp3⟩ := hp.len
  obtain ⟨lq1, lq2, lq3⟩ := hq.len
  have out : ∀ (ra rb pre : List Val) (fr : List Fr) (x : EX) (e' : EC), la = pre ++ ra → lb = pre ++ rb → ra = [] ∨ rb = [] → Zm 200 fr x = ([], .exit 0) → e'.get 2 = some (.ptr 0 0) → e'.get 3 = some (.ptr 1 0) → V T (PE (cmpP (stV [.int .i64 k, .int .i64 n, .str s, p] [.int .i64 k', .int .i64 n', .str s', q]) la lb)) fr x e' (stV [.int .i64 k, .int .i64 n, .str s, p] [.int .i64 k', .int .i64 n', .str s', q]) := fun ra rb pre fr x e' ha hb hn hadv g0 g1 =>
    Zn (.put 2 (.ptr 0 0) (.put 3 (.ptr 1 0) .nil)) (Z3 g0 (Z3 g1 Zp)) (Z18 hadv ⟨rfl, .inl ⟨rfl, rfl, by
      rw [ha, hb, Z83]
      rcases hn with rfl | rfl
      · cases rb <;> simp [Z3h, Zj4] <;> omega
      · cases ra <;> simp [Z3h, Zj4] <;> omega⟩⟩)
  intro ra
  induction ra with
  | nil =>
    intro rb pre e ha hb h0 h1 h5
    refine Zn (.put 2 (.ptr 0 0) (.put 3 (.ptr 1 0) (.put 8 _ .nil))) (Z3 h0 (Z3 h1 (Z3 h5 Zp))) (Zi ?_)
    repeat' first | ((with_reducible show V _ _ _ _ _ _); first | refine Z1 rfl ?_ | refine Zb rfl rfl ?_ | refine Z6v rfl rfl (fun _ => ?_) (fun _ => ?_) | refine V_D rfl ?_) | ((with_reducible show VO _ _ _ _ _ _ _); first | refine Z07 rfl lp1 lp2 ?_ | refine Z07 rfl lq1 lq2 ?_ | refine Z0 rfl ?_ | refine Z2 ?_ | refine Zf rfl ?_ | refine Z0s rfl rfl ?_ | refine Zer rfl (fun _ => ?_) (fun _ => ?_)) | refine Z0h rfl ?_ | refine out [] rb pre _ _ _ ha hb (.inl rfl) rfl rfl rfl
    all_goals (exfalso; subst ha; simp at *)
  | cons y ra ihr =>
    intro rb pre e ha hb h0 h1 h5
    refine Zn (.put 2 (.ptr 0 0) (.put 3 (.ptr 1 0) (.put 8 _ .nil))) (Z3 h0 (Z3 h1 (Z3 h5 Zp))) (Zi ?_)
    cases rb with
    | nil =>
      repeat' first | ((with_reducible show V _ _ _ _ _ _); first | refine Z1 rfl ?_ | refine Zb rfl rfl ?_ | refine Z6v rfl rfl (fun _ => ?_) (fun _ => ?_) | refine V_D rfl ?_) | ((with_reducible show VO _ _ _ _ _ _ _); first | refine Z07 rfl lp1 lp2 ?_ | refine Z07 rfl lq1 lq2 ?_ | refine Z0 rfl ?_ | refine Z2 ?_ | refine Zf rfl ?_ | refine Z0s rfl rfl ?_ | refine Zer rfl (fun _ => ?_) (fun _ => ?_)) | refine Z0h rfl ?_ | refine out (y :: ra) [] pre _ _ _ ha hb (.inr rfl) rfl rfl rfl
      all_goals (exfalso; subst hb; simp at *)
    | cons z rb =>
      have hy : la[pre.length]? = some y := by subst ha; simp
      have hz : lb[pre.length]? = some z := by subst hb; simp
      obtain ⟨cy, ay, vy⟩ := hp.at hy
      obtain ⟨cz, az, vz⟩ := hq.at hz
      have ply := vy.pl
      have plz := vz.pl
      have hcall := ih _ y cy hy ay z cz vz
      have hcm : Z3h la lb = orI (Zd0 y z) (Z3h ra rb) := by rw [ha, hb, Z83]; rfl
      by_cases hyz : Zd0 y z = 0
      · have hyz' := cmpV_zero.1 hyz
        subst hyz'
        have fin : ∀ (fr : List Fr) (x : EX) (e' : EC), Zm 200 fr x = ([.code (.loop Z1t)], .normal) → e'.get 2 = some (.ptr 0 0) → e'.get 3 = some (.ptr 1 0) → e'.get 8 = some (.int .i64 (IntKind.i64.wrap (pre.length + 1))) → V T (PE (cmpP (stV [.int .i64 k, .int .i64 n, .str s, p] [.int .i64 k', .int .i64 n', .str s', q]) la lb)) fr x e' (stV [.int .i64 k, .int .i64 n, .str s, p] [.int .i64 k', .int .i64 n', .str s', q]) := fun fr x e' hadv g0 g1 g5 => Z34 hadv (by
          have hlt : pre.length < la.length := by subst ha; simp
          have hw : IntKind.i64.wrap (pre.length + 1) = ((pre ++ [y]).length : Int) := by rw [Z03]; simp; omega
          rw [hw] at g5
          exact ihr rb (pre ++ [y]) e' (by rw [ha]; simp) (by rw [hb]; simp) g0 g1 g5)
        rw [hyz] at hcall
        repeat' first | ((with_reducible show V _ _ _ _ _ _); first | refine Z1 rfl ?_ | refine Zb rfl rfl ?_ | refine Z6v rfl rfl (fun _ => ?_) (fun _ => ?_) | refine V_D rfl ?_) | ((with_reducible show VO _ _ _ _ _ _ _); first | refine Z07 rfl lp1 lp2 ?_ | refine Z07 rfl lq1 lq2 ?_ | refine Z0 rfl ?_ | refine Z2 ?_ | refine Zf rfl ?_ | refine Z0s rfl rfl ?_ | refine Zer rfl (fun _ => ?_) (fun _ => ?_)) | ((with_reducible show VD _ _ _ _ _ _ _); first | refine Zh3 rfl rfl ay ?_ | refine Zh3 rfl rfl az ?_ | refine Z53 rfl vy.len4 ?_ | refine Z53 rfl vz.len4 ?_ | refine Z4a rfl rfl hcall ?_ | refine Z0h rfl ?_ | refine Z1k ?_) | refine fin _ _ _ rfl rfl rfl rfl
        all_goals (exfalso; subst ha hb; simp at *; try omega)
      · have ret : ∀ (fr : List Fr) (x : EX) (e' : EC), Zm 200 fr x = ([], .ret) → e'.get 4 = some (.int .i64 (Zd0 y z)) → V T (PE (cmpP (stV [.int .i64 k, .int .i64 n, .str s, p] [.int .i64 k', .int .i64 n', .str s', q]) la lb)) fr x e' (stV [.int .i64 k, .int .i64 n, .str s, p] [.int .i64 k', .int .i64 n', .str s', q]) := fun fr x e' hadv g0 => by
          have he : Z3h la lb = Zd0 y z := by rw [hcm]; exact if_neg hyz
          exact Zn (.put 4 _ .nil) (Z3 g0 Zp) (Z18 hadv ⟨rfl, .inr ⟨rfl, by rw [he], by rw [he]; exact hyz⟩⟩)
        generalize hcr : Zd0 y z = r at hcall ret hyz
        repeat' first | ((with_reducible show V _ _ _ _ _ _); first | refine Z1 rfl ?_ | refine Zb rfl rfl ?_ | refine Z6v rfl rfl (fun _ => ?_) (fun _ => ?_) | refine V_D rfl ?_) | ((with_reducible show VO _ _ _ _ _ _ _); first | refine Z07 rfl lp1 lp2 ?_ | refine Z07 rfl lq1 lq2 ?_ | refine Z0 rfl ?_ | refine Z2 ?_ | refine Zf rfl ?_ | refine Z0s rfl rfl ?_ | refine Zer rfl (fun _ => ?_) (fun _ => ?_)) | ((with_reducible show VD _ _ _ _ _ _ _); first | refine Zh3 rfl rfl ay ?_ | refine Zh3 rfl rfl az ?_ | refine Z53 rfl vy.len4 ?_ | refine Z53 rfl vz.len4 ?_ | refine Z4a rfl rfl hcall ?_ | refine Z0h rfl ?_ | refine Z1k ?_) | refine ret _ _ _ rfl rfl
        all_goals clear ihr ret out hcall ih
        all_goals (exfalso; first | (subst ha hb; simp at *; omega) | (refine hyz ?_; simp_all; done))
theorem Zff {a : Val} {ca : List PV} (ha : VC a ca) : ∀ (b : Val) (cb : List PV), VC b cb → T.R (.call Z2h [.agg ca, .agg cb] (.int .i64 (Zd0 a b))) := by
  refine VC.ind (M := fun a ca => ∀ (b : Val) (cb : List PV), VC b cb → T.R (.call Z2h [.agg ca, .agg cb] (.int .i64 (Zd0 a b)))) ?_ ha
  rintro k n s l p hk hn hs hp ih ⟨k', n', s', l'⟩ cb hb
  obtain ⟨hk', hn', hs', q, rfl, hq⟩ := hb.open
  have h1 := Zdd k k'
  have h2 := Zdd n n'
  have h3 := run_text2 s s' (by omega)
  have h4 := Zdd l.length l'.length
  have plp := hp.pl
  have plq := hq.pl
  obtain ⟨lp1, lp2, lp3⟩ := hp.len
  obtain ⟨lq1, lq2, lq3⟩ := hq.len
  have hl := fun e h0 h1 h2 => cmp_loop k n k' n' s s' l l' p q hp hq ih l l' [] e rfl rfl h0 h1 h2
  unfold Zd0 orI
  generalize Zj4 k k' = r1 at h1 ⊢
  generalize Zj4 n n' = r2 at h2 ⊢
  generalize Zg4 s s' = r3 at h3 ⊢
  refine Zd rfl rfl ?_
  repeat' first | ((with_reducible show V _ _ _ _ _ _); first | refine Z3r rfl (hl _ rfl rfl rfl) ?_ | refine Z1 rfl ?_ | refine Z6v rfl rfl (fun _ => ?_) (fun _ => ?_) | refine Zc rfl rfl ?_) | ((with_reducible show VO _ _ _ _ _ _ _); first | refine Z8 rfl ?_ | refine Z7 rfl rfl h1 ?_ | refine Z7 rfl rfl h2 ?_ | refine Z7 rfl rfl h3 ?_ | refine Z0 rfl ?_ | refine Z2 ?_)
  all_goals simp only [Bool.not_eq_true', Bool.not_eq_false', decide_eq_true_eq, decide_eq_false_iff_not] at *
  · rw [if_neg ‹_›]
  · rw [if_pos ‹_›, if_neg ‹_›]
  · rw [if_pos ‹_›, if_pos ‹_›, if_neg ‹_›]
  · rw [if_pos ‹_›, if_pos ‹_›, if_pos ‹_›]
    rintro x e' st' ⟨rfl, ⟨rfl, rfl, hc⟩ | ⟨rfl, rfl, hc⟩⟩
    · rw [hc] at h4
      repeat' first | refine Z1 rfl ?_ | refine Zc rfl rfl ?_ | ((with_reducible show VO _ _ _ _ _ _ _); first | refine Z07 rfl lp1 lp2 ?_ | refine Z07 rfl lq1 lq2 ?_ | refine Z7 rfl rfl h4 ?_ | refine Z0 rfl ?_ | refine Z2 ?_)
      all_goals rfl
    · repeat' first | refine Zc rfl rfl ?_
      all_goals rfl
theorem run_isNaN (a : Int) : T.R (.call Zi9 [.int .i64 a] (.bool false)) := by
  refine Zd rfl rfl ?_
  repeat' first | refine Z1 rfl ?_ | refine Zc rfl rfl ?_ | refine Z0 rfl ?_ | refine Z2 ?_
  all_goals simp
theorem run_isNaN64 (a : Int) : T.R (.call Zez [.int .i64 a] (.bool false)) := by
  refine Zd rfl rfl ?_
  repeat' first | refine Z1 rfl ?_ | refine Zc rfl rfl ?_ | refine Z0 rfl ?_ | refine Z2 ?_
  all_goals simp
theorem run_cmpInt (a b : Int) : T.R (.call Zf0 [.int .i64 a, .int .i64 b] (.int .i64 (Zj4 a b))) := by
  refine Zd rfl rfl ?_
  repeat' first | ((with_reducible show V _ _ _ _ _ _); first | refine Z1 rfl ?_ | refine Zb rfl rfl ?_ | refine Z6v rfl rfl (fun _ => ?_) (fun _ => ?_) | refine Zc rfl rfl ?_) | ((with_reducible show VO _ _ _ _ _ _ _); first | refine Z7 rfl rfl (run_isNaN _) ?_ | refine Z0 rfl ?_ | refine Z2 ?_)
  all_goals simp only [decide_eq_true_eq, decide_eq_false_iff_not] at *
  all_goals unfold Zj4
  all_goals simp [*]
theorem run_cmpInt64 (a b : Int) : T.R (.call Zco [.int .i64 a, .int .i64 b] (.int .i64 (Zj4 a b))) := by
  refine Zd rfl rfl ?_
  repeat' first | ((with_reducible show V _ _ _ _ _ _); first | refine Z1 rfl ?_ | refine Zb rfl rfl ?_ | refine Z6v rfl rfl (fun _ => ?_) (fun _ => ?_) | refine Zc rfl rfl ?_) | ((with_reducible show VO _ _ _ _ _ _ _); first | refine Z7 rfl rfl (run_isNaN64 _) ?_ | refine Z0 rfl ?_ | refine Z2 ?_)
  all_goals simp only [decide_eq_true_eq, decide_eq_false_iff_not] at *
  all_goals unfold Zj4
  all_goals simp [*]
theorem cmpS_lib : ∀ a b : List UInt8, Lib.compareBytes a b = Zg4 a b
  | [], [] => rfl
  | [], _ :: _ => rfl
  | _ :: _, [] => rfl
  | a :: x, b :: y => by
    unfold Lib.compareBytes Zg4 Zj4
    rw [cmpS_lib x y]
    by_cases h : a = b
    · subst h; simp
    · rw [if_neg h]
      by_cases h2 : a < b
      · rw [if_pos h2, if_pos (by have := UInt8.lt_iff_toNat_lt.1 h2; omega)]
      · have h3 : b < a := by
          rcases UInt8.lt_or_lt_of_ne h with h3 | h3
          · exact absurd h3 h2
          · exact h3
        rw [if_neg h2, if_pos h3, if_neg (by have := UInt8.lt_iff_toNat_lt.1 h3; omega), if_pos (by have := UInt8.lt_iff_toNat_lt.1 h3; omega)]
theorem Zeu (a b : List UInt8) : T.R (.call Z8i [.str a, .str b] (.int .i64 (Zg4 a b))) := by
  have hx : T.ext Z0u [.str a, .str b] (.int .i64 (Zg4 a b)) := X_cmp ⟨rfl, a, b, rfl, by rw [cmpS_lib]⟩
  refine Zd rfl rfl ?_
  repeat' first | refine Z1 rfl ?_ | refine Zc rfl rfl ?_ | ((with_reducible show VO _ _ _ _ _ _ _); first | refine O_extP rfl rfl (Z1h) rfl hx ?_ | refine Z0 rfl ?_ | refine Z2 ?_)
  all_goals rfl
theorem Zjh (a b : List UInt8) : T.R (.call Zex [.str a, .str b] (.int .i64 (Zg4 a b))) := by
  have hx := Zeu a b
  refine Zd rfl rfl ?_
  repeat' first | refine Z1 rfl ?_ | refine Zc rfl rfl ?_ | ((with_reducible show VO _ _ _ _ _ _ _); first | refine Z7 rfl rfl hx ?_ | refine Z0 rfl ?_ | refine Z2 ?_)
  all_goals rfl
theorem run_Or4 (a b c d : Int) (f : Bool) : T.R (.call n_cmp_Or_int [.sl [[.int .i64 a], [.int .i64 b], [.int .i64 c], [.int .i64 d]] f] (.int .i64 (orI a (orI b (orI c d))))) := by
  unfold orI
  refine Zd rfl rfl ?_
  repeat' first | ((with_reducible show V _ _ _ _ _ _); first | refine Z40 rfl (Zi ?_) | refine Z1 rfl ?_ | refine Za rfl rfl ?_ | refine Zb rfl rfl ?_ | refine Z6v rfl rfl (fun _ => ?_) (fun _ => ?_) | refine Zc rfl rfl ?_) | refine Z0 rfl ?_ | refine Z2 ?_
  all_goals simp only [Bool.not_eq_true', Bool.not_eq_false', decide_eq_true_eq, decide_eq_false_iff_not] at *
  all_goals simp [*]
def cmpF (p q : PV) (la lb : List Val) : EX → EC → St → Prop := fun x e' st' => (x = .exit 0 ∧ st' = emptySt ∧ e' = .put 0 p (.put 1 q .nil) ∧ Z3h la lb = if la.length < lb.length then -1 else 0) ∨ (x = .ret ∧ e' = .put 6 (.int .i64 (Z3h la lb)) .nil)
theorem cmpf_loop (la lb : List Val) (p q : PV) (hp : LC la p) (hq : LC lb q)
    (ih : ∀ (j : Nat) (v : Val) (cs : List PV), la[j]? = some v → At 4 p j cs → ∀ (w : Val) (ds : List PV), VC w ds → T.R (.call Z0p [.agg cs, .agg ds] (.int .i64 (Zd0 v w)))) :
    ∀ (ra rb pre : List Val) (e : EC), la = pre ++ ra → lb = pre ++ rb → e.get 0 = some p → e.get 1 = some q → e.get 2 = some (.func Z0p []) → e.get 11 = some p → e.get 12 = some (.int .i64 la.length) → e.get 13 = some (.int .i64 pre.length) →
    V T (PE (cmpF p q la lb)) [.code (.loop Z0g)] .normal e emptySt := by
  obtain ⟨lp1, lp2, lp3⟩ := hp.len
  obtain ⟨lq1, lq2, lq3⟩ := hq.len
  intro ra
  induction ra with
  | nil =>
    intro rb pre e ha hb h0 h1 h2 h11 h12 h13
    refine Zn (.put 0 p (.put 1 q (.put 2 (.func Z0p []) (.put 11 p (.put 12 (.int .i64 la.length) (.put 13 (.int .i64 pre.length) .nil)))))) (Z3 h0 (Z3 h1 (Z3 h2 (Z3 h11 (Z3 h12 (Z3 h13 Zp)))))) (Zi ?_)
    have hc : Z3h la lb = if la.length < lb.length then -1 else 0 := by
      rw [ha, hb, Z83]
      cases rb with
      | nil => simp [Z3h]
      | cons z rb => rw [if_pos (by simp)]; rfl
    have out : ∀ (fr : List Fr) (x : EX) (e' : EC), Zm 200 fr x = ([], .exit 0) → e'.get 0 = some p → e'.get 1 = some q → V T (PE (cmpF p q la lb)) fr x e' emptySt := fun fr x e' hadv g0 g1 =>
      Zn (.put 0 p (.put 1 q .nil)) (Z3 g0 (Z3 g1 Zp)) (Z18 hadv (.inl ⟨rfl, rfl, rfl, hc⟩))
    repeat' first | refine Z1 rfl ?_ | refine Z6v rfl rfl (fun _ => ?_) (fun _ => ?_) | refine Z0 rfl ?_ | refine Z2 ?_ | refine out _ _ _ rfl rfl rfl
    all_goals (exfalso; subst ha; simp at *)
  | cons y ra ihr =>
    intro rb pre e ha hb h0 h1 h2 h11 h12 h13
    refine Zn (.put 0 p (.put 1 q (.put 2 (.func Z0p []) (.put 11 p (.put 12 (.int .i64 la.length) (.put 13 (.int .i64 pre.length) .nil)))))) (Z3 h0 (Z3 h1 (Z3 h2 (Z3 h11 (Z3 h12 (Z3 h13 Zp)))))) (Zi ?_)
    have hy : la[pre.length]? = some y := by subst ha; simp
    obtain ⟨cy, ay, vy⟩ := hp.at hy
    have hih := ih _ y cy hy ay
    obtain ⟨ky, ny, sy, ly⟩ := y
    obtain ⟨hk1, hn1, hs1, py, rfl, hpy⟩ := vy.open
    have ply := hpy.pl
    have ret : ∀ (fr : List Fr) (x : EX) (e' : EC) (st' : St) (r : Int), Zm 200 fr x = ([], .ret) → e'.get 6 = some (.int .i64 r) → r = Z3h la lb → V T (PE (cmpF p q la lb)) fr x e' st' := fun fr x e' st' r hadv g0 hr => by
      subst hr
      exact Zn (.put 6 _ .nil) (Z3 g0 Zp) (Z18 hadv (.inr ⟨rfl, rfl⟩))
    cases rb with
    | nil =>
      have hc : 1 = Z3h la lb := by rw [ha, hb, Z83]; rfl
      repeat' first | refine Z1 rfl ?_ | refine Z6v rfl rfl (fun _ => ?_) (fun _ => ?_) | ((with_reducible show VO _ _ _ _ _ _ _); first | refine Z8 rfl ?_ | refine Ze rfl rfl vy.one rfl rfl rfl ?_ | refine Zq rfl rfl ay ?_ | refine Z07 rfl lq1 lq2 ?_ | refine Z0 rfl ?_ | refine Z2 ?_) | refine ret _ _ _ _ 1 rfl rfl hc
      all_goals (exfalso; clear ret hih ihr ih hc; subst ha hb; simp at *; try omega)
    | cons z rb =>
      have hz : lb[pre.length]? = some z := by subst hb; simp
      obtain ⟨cz, az, vz⟩ := hq.at hz
      have hcall := hih z cz vz
      have hcm : Z3h la lb = orI (Zd0 (.mk ky ny sy ly) z) (Z3h ra rb) := by rw [ha, hb, Z83]; rfl
      have hz0 : Zd0 (.mk ky ny sy ly) z = 0 → (.mk ky ny sy ly) = z := cmpV_zero.1
      generalize hr : Zd0 (.mk ky ny sy ly) z = r at hcall hcm hz0
      obtain ⟨kz, nz, sz, lz⟩ := z
      obtain ⟨hk2, hn2, hs2, pz, rfl, hpz⟩ := vz.open
      have plz := hpz.pl
      by_cases hyz : r = 0
      · have hyz' := hz0 hyz
        have fin : ∀ (fr : List Fr) (x : EX) (e' : EC) (st' : St), Zm 200 fr x = ([.code (.loop Z0g)], .normal) → e'.get 0 = some p → e'.get 1 = some q → e'.get 2 = some (.func Z0p []) → e'.get 11 = some p → e'.get 12 = some (.int .i64 la.length) → e'.get 13 = some (.int .i64 (IntKind.i64.wrap (pre.length + 1))) → st'.base = 0 → V T (PE (cmpF p q la lb)) fr x e' st' := fun fr x e' st' hadv g0 g1 g2 g11 g12 g13 hb0 => Z34 hadv (by
          have hlt : pre.length < la.length := by subst ha; simp
          have hw : IntKind.i64.wrap (pre.length + 1) = ((pre ++ [Val.mk ky ny sy ly]).length : Int) := by rw [Z03]; simp; omega
          rw [hw] at g13
          have := V_forgetAll (st := st') [(0, p), (1, q), (2, .func Z0p []), (11, p), (12, .int .i64 la.length), (13, .int .i64 ((pre ++ [Val.mk ky ny sy ly]).length : Int))]
            (Z7n g0 hp.pl.bel (Z7n g1 hq.pl.bel (Z7n g2 (.func _ _ (by simp)) (Z7n g11 hp.pl.bel (Z7n g12 (.int _ _) (Z7n g13 (.int _ _) fg_nil)))))) (by omega)
            (T := T) (Q := PE (cmpF p q la lb)) (c := .loop Z0g) (k := [])
          rw [hb0] at this
          exact this (ihr rb (pre ++ [Val.mk ky ny sy ly]) _ (by rw [ha]; simp) (by rw [hb, hyz']; simp) rfl rfl rfl rfl rfl rfl))
        subst hyz
        repeat' first | ((with_reducible show V _ _ _ _ _ _); first | refine Z1 rfl ?_ | refine Zb rfl rfl ?_ | refine Z6v rfl rfl (fun _ => ?_) (fun _ => ?_)) | ((with_reducible show VO _ _ _ _ _ _ _); first | refine Z8 rfl ?_ | refine Ze rfl rfl vy.one rfl rfl rfl ?_ | refine Zq rfl rfl ay ?_ | refine Zq rfl rfl az ?_ | refine Ze rfl rfl vz.one rfl rfl rfl ?_ | refine Z07 rfl lq1 lq2 ?_ | refine Z7 rfl rfl hcall ?_ | refine Z0 rfl ?_ | refine Z2 ?_) | refine fin _ _ _ _ rfl rfl rfl rfl rfl rfl rfl rfl
        all_goals (exfalso; clear ret hih ihr ih fin; subst ha hb; simp at *; try omega)
      · have hc : r = Z3h la lb := by rw [hcm]; exact (if_neg hyz).symm
        repeat' first | refine Z1 rfl ?_ | refine Z6v rfl rfl (fun _ => ?_) (fun _ => ?_) | ((with_reducible show VO _ _ _ _ _ _ _); first | refine Z8 rfl ?_ | refine Ze rfl rfl vy.one rfl rfl rfl ?_ | refine Zq rfl rfl ay ?_ | refine Zq rfl rfl az ?_ | refine Ze rfl rfl vz.one rfl rfl rfl ?_ | refine Z07 rfl lq1 lq2 ?_ | refine Z7 rfl rfl hcall ?_ | refine Z0 rfl ?_ | refine Z2 ?_) | refine ret _ _ _ _ r rfl rfl hc
        all_goals (exfalso; clear ret hih ihr ih hc hcall)
        all_goals first | (subst ha hb; simp at *; omega) | (refine hyz ?_; simp_all; done)
theorem Zhp (la lb : List Val) (p q : PV) (hp : LC la p) (hq : LC lb q)
    (ih : ∀ (j : Nat) (v : Val) (cs : List PV), la[j]? = some v → At 4 p j cs → ∀ (w : Val) (ds : List PV), VC w ds → T.R (.call Z0p [.agg cs, .agg ds] (.int .i64 (Zd0 v w)))) :
    T.R (.call Z4n [p, q, .func Z0p []] (.int .i64 (Z3h la lb))) := by
  obtain ⟨lp1, lp2, lp3⟩ := hp.len
  obtain ⟨lq1, lq2, lq3⟩ := hq.len
  have hl := fun e h0 h1 h2 h3 h4 h5 => cmpf_loop la lb p q hp hq ih la lb [] e rfl rfl h0 h1 h2 h3 h4 h5
  generalize hc : Z3h la lb = r at hl ⊢
  refine Zd rfl rfl ?_
  repeat' first | refine Z3r rfl (hl _ rfl rfl rfl rfl rfl rfl) ?_ | refine Z1 rfl ?_ | ((with_reducible show VO _ _ _ _ _ _ _); first | refine Z07 rfl lp1 lp2 ?_ | refine Z0 rfl ?_ | refine Z2 ?_)
  rintro x e' st' (⟨rfl, rfl, rfl, h⟩ | ⟨rfl, rfl⟩)
  · rw [hc] at h
    repeat' first | ((with_reducible show V _ _ _ _ _ _); first | refine Z1 rfl ?_ | refine Z6v rfl rfl (fun _ => ?_) (fun _ => ?_) | refine Zc rfl rfl ?_) | ((with_reducible show VO _ _ _ _ _ _ _); first | refine Z07 rfl lp1 lp2 ?_ | refine Z07 rfl lq1 lq2 ?_ | refine Z0 rfl ?_ | refine Z2 ?_)
    all_goals simp only [decide_eq_true_eq, decide_eq_false_iff_not] at *
    · rw [h, if_pos (by omega)]
    · rw [h, if_neg (by omega)]
  · rw [hc]
    repeat' first | refine Zc rfl rfl ?_
    all_goals rfl
theorem run_Compare {a : Val} {ca : List PV} (ha : VC a ca) : ∀ (b : Val) (cb : List PV), VC b cb → T.R (.call Z0p [.agg ca, .agg cb] (.int .i64 (Zd0 a b))) := by
  refine VC.ind (M := fun a ca => ∀ (b : Val) (cb : List PV), VC b cb → T.R (.call Z0p [.agg ca, .agg cb] (.int .i64 (Zd0 a b)))) ?_ ha
  rintro k n s l p hk hn hs hp ih ⟨k', n', s', l'⟩ cb hb
  obtain ⟨hk', hn', hs', q, rfl, hq⟩ := hb.open
  have h1 := run_cmpInt k k'
  have h2 := run_cmpInt64 n n'
  have h3 := Zjh s s'
  have h4 := Zhp l l' p q hp hq ih
  have plp := hp.pl
  have plq := hq.pl
  have h5 := run_Or4 (Zj4 k k') (Zj4 n n') (Zg4 s s') (Z3h l l') true
  refine Zd rfl rfl ?_
  repeat' first | ((with_reducible show V _ _ _ _ _ _); first | refine Z1 rfl ?_ | refine Zc rfl rfl ?_ | refine V_D rfl ?_) | ((with_reducible show VO _ _ _ _ _ _ _); first | refine Z8 rfl ?_ | refine Z0 rfl ?_ | refine Z2 ?_) | ((with_reducible show VD _ _ _ _ _ _ _); first | refine Z4a rfl rfl h1 ?_ | refine Z4a rfl rfl h2 ?_ | refine Z4a rfl rfl h3 ?_ | refine Z4a rfl rfl h4 ?_ | refine Z4a rfl rfl h5 ?_ | refine Z0h rfl ?_ | refine Z1k ?_)
  all_goals (unfold Zd0; rfl)
theorem run_Same {a b : Val} {ca cb : List PV} (ha : VC a ca) (hb : VC b cb) : T.R (.call Ze7 [.agg ca, .agg cb] (.bool (decide (Zd0 a b = 0)))) := by
  have h := Zff ha b cb hb
  generalize Zd0 a b = r at h ⊢
  obtain ⟨k, n, s, l⟩ := a
  obtain ⟨k', n', s', l'⟩ := b
  obtain ⟨hk, hn, hs, p, rfl, hp⟩ := ha.open
  obtain ⟨hk', hn', hs', q, rfl, hq⟩ := hb.open
  have plp := hp.pl
  have plq := hq.pl
  refine Zd rfl rfl ?_
  repeat' first | refine Z1 rfl ?_ | refine Zc rfl rfl ?_ | ((with_reducible show VO _ _ _ _ _ _ _); first | refine Z8 rfl ?_ | refine Z7 rfl rfl h ?_ | refine Z0 rfl ?_ | refine Z2 ?_)
  all_goals rfl
def Z1p : List Val → Bool
  | a :: _ :: c :: r => decide (Zd0 a c < 0) && Z1p (c :: r)
  | _ => true
def Zg : Nat → Val → Bool
  | 0, _ => false
  | f + 1, .mk k n s l =>
    if k = 1 then decide (s = []) && decide ((l.length : Int) = 0)
    else if k = 3 then decide (s = []) && decide ((l.length : Int) = 0) && (decide (n = 0) || decide (n = 1))
    else if k = 6 then decide (s = []) && decide ((l.length : Int) = 0) && decide (1 ≤ n) && decide (n ≤ 281474976710656)
    else if k = 7 then decide (s = []) && decide ((l.length : Int) = 0) && decide (1 ≤ n) && decide (n ≤ 281474976710656)
    else if k = 2 then decide (n = 0) && decide ((l.length : Int) = 0) && decide ((s.length : Int) ≤ 128)
    else if k = 4 then decide (n = 0) && decide (s = []) && decide ((l.length : Int) ≤ 256) && l.all (Zg f)
    else if k = 5 then decide (n = 0) && decide (s = []) && decide ((l.length : Int) ≤ 512) && decide ((l.length : Int).tmod 2 = 0) && l.all (Zg f) && Z1p l
    else false
inductive NT where
  | ends
  | form
  | ok (u n : Nat)
def NT.up (c : Nat) : NT → NT
  | .ok u n => .ok (c + 128 * u) (n + 1)
  | t => t
def NT.at (u i : Nat) : NT → NT
  | .ok v n => .ok (u + 128 ^ i * v) (i + n)
  | t => t
theorem NT.at_up (u i c : Nat) (t : NT) : NT.at u i (NT.up c t) = NT.at (u + 128 ^ i * c) (i + 1) t := by
  cases t with
  | ends => rfl
  | form => rfl
  | ok v n =>
    simp only [NT.at, NT.up, Nat.pow_succ, Nat.mul_add, Nat.mul_assoc, NT.ok.injEq]
    exact ⟨by omega, by omega⟩
def Zcu : Nat → Nat → List UInt8 → NT
  | 0, _, _ => .form
  | _ + 1, _, [] => .ends
  | m + 1, i, c :: r => if 127 < c.toNat then NT.up (c.toNat % 128) (Zcu m (i + 1) r) else if (0 < i ∧ c.toNat = 0) ∨ (i = 9 ∧ 1 < c.toNat) then .form else .ok c.toNat 1
def ntPV : NT → PV
  | .ends => .tuple [.int .u64 0, .int .i64 0, .int .i64 11]
  | .form => .tuple [.int .u64 0, .int .i64 0, .int .i64 12]
  | .ok u n => .tuple [.int .u64 u, .int .i64 n, .int .i64 0]
def ntP (t : NT) : EX → EC → St → Prop := fun x e' st' => st' = emptySt ∧ ((x = .exit 0 ∧ t = .form ∧ e' = .nil) ∨ (x = .ret ∧ ∃ u n e : Int, ntPV t = .tuple [.int .u64 u, .int .i64 n, .int .i64 e] ∧ e' = .put 2 (.int .u64 u) (.put 3 (.int .i64 n) (.put 4 (.int .i64 e) .nil))))
theorem and127 (c : UInt8) : IntKind.u8.wrap ((BitVec.ofInt 8 (c.toNat : Int) &&& BitVec.ofInt 8 127).toNat : Int) = ((c.toNat % 128 : Nat) : Int) := by
  have h2 : ∀ b : BitVec 8, (b &&& 127#8).toNat = b.toNat % 128 := by decide
  have h3 : BitVec.ofInt 8 (c.toNat : Int) = BitVec.ofNat 8 c.toNat := by rw [BitVec.ofInt_natCast]
  have h4 : BitVec.ofInt 8 127 = 127#8 := rfl
  have hc := c.toNat_lt
  rw [h3, h4, h2, Zc0, BitVec.toNat_ofNat]
  omega
theorem pow27 (i : Nat) : 2 ^ (7 * i) = 128 ^ i := by rw [Nat.pow_mul]
theorem or_at {u c i : Nat} (hi : i ≤ 9) (hc : c < 128) : ∃ u' : Nat, IntKind.u64.wrap ((BitVec.ofInt 64 (u : Int) ||| BitVec.ofInt 64 (IntKind.u64.wrap ((c : Int) * 2 ^ (min ((7 * i : Nat) : Int).toNat IntKind.u64.bits)))).toNat : Int) = (u' : Int) ∧ (u < 128 ^ i → i ≤ 8 ∨ c ≤ 1 → u' = u + 128 ^ i * c) := by
  have hm : min ((7 * i : Nat) : Int).toNat IntKind.u64.bits = 7 * i := by
    show min ((7 * i : Nat) : Int).toNat 64 = 7 * i
    omega
  rw [hm]
  refine ⟨(BitVec.ofInt 64 (u : Int) ||| BitVec.ofInt 64 (IntKind.u64.wrap ((c : Int) * 2 ^ (7 * i)))).toNat, ?_, ?_⟩
  · rw [Z0t]
    have := (BitVec.ofInt 64 (u : Int) ||| BitVec.ofInt 64 (IntKind.u64.wrap ((c : Int) * 2 ^ (7 * i)))).isLt
    omega
  · intro hu hic
    have hcm : ((c : Int) * 2 ^ (7 * i)) = ((c * 128 ^ i : Nat) : Int) := by rw [← pow27]; push_cast; rfl
    have hle : 128 ^ i ≤ 128 ^ 9 := Nat.pow_le_pow_right (by omega) hi
    have h9 : (128 : Nat) ^ 9 = 9223372036854775808 := by decide
    have h8 : (128 : Nat) ^ 8 = 72057594037927936 := by decide
    have hlt : c * 128 ^ i < 18446744073709551616 := by
      rcases hic with h | h
      · have : 128 ^ i ≤ 128 ^ 8 := Nat.pow_le_pow_right (by omega) h
        have : c * 128 ^ i ≤ 127 * 72057594037927936 := Nat.mul_le_mul (by omega) (by omega)
        omega
      · have : c * 128 ^ i ≤ 1 * 9223372036854775808 := Nat.mul_le_mul h (by omega)
        omega
    have hw : IntKind.u64.wrap ((c * 128 ^ i : Nat) : Int) = ((c * 128 ^ i : Nat) : Int) := by rw [Z0t]; omega
    rw [hcm, hw, BitVec.toNat_or, BitVec.ofInt_natCast, BitVec.ofInt_natCast, BitVec.toNat_ofNat, BitVec.toNat_ofNat, Nat.mod_eq_of_lt (by omega), Nat.mod_eq_of_lt hlt, ← pow27, Nat.or_comm, ← Nat.shiftLeft_eq]
    rw [← Nat.shiftLeft_add_eq_or_of_lt (by rw [pow27]; exact hu), Nat.shiftLeft_eq]
    rw [Nat.mul_comm c]
    omega
set_option maxHeartbeats 4000000 in
theorem ntake_loop (p : PV) (b0 : List UInt8) (hp : BV p b0) : ∀ (m i u : Nat) (rest pre : List UInt8) (e : EC), m + i = 10 → b0 = pre ++ rest → pre.length = i → (m ≠ 0 → u < 128 ^ i) → e.get 0 = some p → e.get 5 = some (.int .u64 u) → e.get 7 = some (.int .i64 i) →
    V T (PE (ntP (NT.at u i (Zcu m i rest)))) [.code (.loop Z8j)] .normal e emptySt := by
  intro m
  have out : ∀ (t : NT) (fr : List Fr) (x : EX) (e' : EC), t = .form → Zm 200 fr x = ([], .exit 0) → V T (PE (ntP t)) fr x e' emptySt := fun t fr x e' ht hadv =>
    Zn .nil Zp (Z18 hadv ⟨rfl, .inl ⟨rfl, ht, rfl⟩⟩)
  have ret : ∀ (t : NT) (fr : List Fr) (x : EX) (e' : EC) (u n e : Int), ntPV t = .tuple [.int .u64 u, .int .i64 n, .int .i64 e] → Zm 200 fr x = ([], .ret) → e'.get 2 = some (.int .u64 u) → e'.get 3 = some (.int .i64 n) → e'.get 4 = some (.int .i64 e) → V T (PE (ntP t)) fr x e' emptySt := fun t fr x e' u n e ht hadv g2 g3 g4 =>
    Zn (.put 2 _ (.put 3 _ (.put 4 _ .nil))) (Z3 g2 (Z3 g3 (Z3 g4 Zp))) (Z18 hadv ⟨rfl, .inr ⟨rfl, u, n, e, ht, rfl⟩⟩)
  induction m with
  | zero =>
    intro i u rest pre e hmi hb hi hu h0 h5 h7
    have hlt : ¬ ((i : Int) < 10) := by omega
    refine Zn (.put 0 p (.put 5 _ (.put 7 _ .nil))) (Z3 h0 (Z3 h5 (Z3 h7 Zp))) (Zi ?_)
    repeat' first | refine Z1 rfl ?_ | refine Zb rfl rfl ?_ | refine Z4 (Zh hlt) rfl ?_ | refine Z2 ?_ | refine out _ _ _ _ rfl rfl
  | succ m ih =>
    intro i u rest pre e hmi hb hi hu h0 h5 h7
    have hlt : (i : Int) < 10 := by omega
    cases rest with
    | nil =>
      have heq : (i : Int) = (b0.length : Int) := by subst hb; simp; omega
      refine Zn (.put 0 p (.put 5 _ (.put 7 _ .nil))) (Z3 h0 (Z3 h5 (Z3 h7 Zp))) (Zi ?_)
      clear ih
      repeat' first | refine Z1 rfl ?_ | refine Za rfl rfl ?_ | ((with_reducible show VO _ _ _ _ _ _ _); first | refine Z0a rfl hp ?_ | refine Z4 (Zs hlt) rfl ?_ | refine Z4 (Zs heq) rfl ?_ | refine Z0 rfl ?_ | refine Z2 ?_) | refine ret .ends _ _ _ _ _ _ rfl rfl rfl rfl rfl
    | cons c rest =>
      have heq : ¬ (i : Int) = (b0.length : Int) := by subst hb; simp; omega
      have hc := c.toNat_lt
      have hat := hp.at (n := (i : Int)) (b := c) (by omega) (by subst hb; simp [hi])
      have hand := Z1u (k := .u8) (and127 c)
      have hcv : PV.int .u64 (IntKind.u64.wrap ((c.toNat % 128 : Nat) : Int)) = PV.int .u64 ((c.toNat % 128 : Nat) : Int) := Z1u (by rw [Z0t]; omega)
      have h7i : PV.int .i64 (IntKind.i64.wrap (7 * (i : Int))) = PV.int .i64 ((7 * i : Nat) : Int) := Z1u (by rw [Z03]; omega)
      obtain ⟨u', hu', hu2⟩ := or_at (u := u) (c := c.toNat % 128) (i := i) (by omega) (by omega)
      have hor := Z1u (k := .u64) hu'
      have hw : PV.int .i64 (IntKind.i64.wrap ((i : Int) + 1)) = PV.int .i64 ((i + 1 : Nat) : Int) := Z1u (by rw [Z03]; omega)
      have h70 : ¬ ((7 * i : Nat) : Int) < 0 := by omega
      by_cases hgt : 127 < c.toNat
      · have hd : Zcu (m + 1) i (c :: rest) = NT.up (c.toNat % 128) (Zcu m (i + 1) rest) := by simp only [Zcu]; rw [if_pos hgt]
        have hgt' : (127 : Int) < (c.toNat : Int) := by omega
        have fin : ∀ (fr : List Fr) (x : EX) (e' : EC), Zm 200 fr x = ([.code (.loop Z8j)], .normal) → e'.get 0 = some p → e'.get 5 = some (.int .u64 u') → e'.get 7 = some (.int .i64 ((i + 1 : Nat) : Int)) → V T (PE (ntP (NT.at u i (Zcu (m + 1) i (c :: rest))))) fr x e' emptySt := fun fr x e' hadv g0 g5 g7 => Z34 hadv (by
          rw [hd, NT.at_up]
          by_cases hm0 : m = 0
          · subst hm0
            have ha : NT.at (u + 128 ^ i * (c.toNat % 128)) (i + 1) (Zcu 0 (i + 1) rest) = NT.at u' (i + 1) (Zcu 0 (i + 1) rest) := rfl
            rw [ha]
            exact ih (i + 1) u' rest (pre ++ [c]) e' (by omega) (by rw [hb]; simp) (by simp [hi]) (fun h => absurd rfl h) g0 g5 g7
          · have hu3 := hu2 (hu (by omega)) (.inl (by omega))
            rw [← hu3]
            refine ih (i + 1) u' rest (pre ++ [c]) e' (by omega) (by rw [hb]; simp) (by simp [hi]) (fun _ => ?_) g0 g5 g7
            have hui := hu (by omega)
            have h3 : 128 ^ i * (c.toNat % 128) ≤ 128 ^ i * 127 := Nat.mul_le_mul_left _ (by omega)
            rw [hu3, Nat.pow_succ]
            omega)
        refine Zn (.put 0 p (.put 5 _ (.put 7 _ .nil))) (Z3 h0 (Z3 h5 (Z3 h7 Zp))) (Zi ?_)
        clear ih out ret
        repeat' first | ((with_reducible show V _ _ _ _ _ _); first | refine Z1 rfl ?_ | refine Za rfl rfl ?_ | refine Zb rfl rfl ?_) | ((with_reducible show VO _ _ _ _ _ _ _); first | refine Z0a rfl hp ?_ | refine Zq rfl rfl hat ?_ | refine Z4 (Zs hlt) rfl ?_ | refine Z4 (Zh heq) rfl ?_ | refine Z4 hand rfl ?_ | refine Z4 hcv rfl ?_ | refine Z4 h7i rfl ?_ | refine O_shl rfl rfl h70 ?_ | refine Z4 hor rfl ?_ | refine Z4 (Zs hgt') rfl ?_ | refine Z4 hw rfl ?_ | refine Z0 rfl ?_ | refine Z2 ?_) | refine fin _ _ _ rfl rfl rfl rfl
      · have hgt' : ¬ (127 : Int) < (c.toNat : Int) := by omega
        clear ih
        have hmod : c.toNat % 128 = c.toNat := by omega
        have okr : ¬ ((0 < i ∧ c.toNat = 0) ∨ (i = 9 ∧ 1 < c.toNat)) → NT.at u i (Zcu (m + 1) i (c :: rest)) = .ok u' (i + 1) := fun h => by
          simp only [Zcu]
          rw [if_neg hgt, if_neg h]
          simp only [NT.at]
          rw [hu2 (hu (by omega)) (by omega), hmod]
        have fo : ((0 < i ∧ c.toNat = 0) ∨ (i = 9 ∧ 1 < c.toNat)) → NT.at u i (Zcu (m + 1) i (c :: rest)) = .form := fun h => by
          simp only [Zcu]
          rw [if_neg hgt, if_pos h]
          rfl
        by_cases i0 : 0 < i
        · have i0' : (0 : Int) < (i : Int) := by omega
          by_cases c0 : c.toNat = 0
          · have c0' : (c.toNat : Int) = 0 := by omega
            have t0 := fo (.inl ⟨i0, c0⟩)
            refine Zn (.put 0 p (.put 5 _ (.put 7 _ .nil))) (Z3 h0 (Z3 h5 (Z3 h7 Zp))) (Zi ?_)
            repeat' first | ((with_reducible show V _ _ _ _ _ _); first | refine Z1 rfl ?_ | refine Za rfl rfl ?_ | refine Zb rfl rfl ?_) | ((with_reducible show VO _ _ _ _ _ _ _); first | refine Z0a rfl hp ?_ | refine Zq rfl rfl hat ?_ | refine Z4 (Zs hlt) rfl ?_ | refine Z4 (Zh heq) rfl ?_ | refine Z4 hand rfl ?_ | refine Z4 hcv rfl ?_ | refine Z4 h7i rfl ?_ | refine O_shl rfl rfl h70 ?_ | refine Z4 hor rfl ?_ | refine Z4 (Zh hgt') rfl ?_ | refine Z4 (Zs i0') rfl ?_ | refine Z4 (Zs c0') rfl ?_ | refine Z0 rfl ?_ | refine Z2 ?_ | refine Zf rfl ?_ | refine Zjd rfl ?_ | refine Z0s rfl rfl ?_) | refine out _ _ _ _ t0 rfl
          · have c0' : ¬ (c.toNat : Int) = 0 := by omega
            by_cases i9 : i = 9
            · have i9' : (i : Int) = 9 := by omega
              by_cases c1 : 1 < c.toNat
              · have c1' : (1 : Int) < (c.toNat : Int) := by omega
                have t0 := fo (.inr ⟨i9, c1⟩)
                refine Zn (.put 0 p (.put 5 _ (.put 7 _ .nil))) (Z3 h0 (Z3 h5 (Z3 h7 Zp))) (Zi ?_)
                repeat' first | ((with_reducible show V _ _ _ _ _ _); first | refine Z1 rfl ?_ | refine Za rfl rfl ?_ | refine Zb rfl rfl ?_) | ((with_reducible show VO _ _ _ _ _ _ _); first | refine Z0a rfl hp ?_ | refine Zq rfl rfl hat ?_ | refine Z4 (Zs hlt) rfl ?_ | refine Z4 (Zh heq) rfl ?_ | refine Z4 hand rfl ?_ | refine Z4 hcv rfl ?_ | refine Z4 h7i rfl ?_ | refine O_shl rfl rfl h70 ?_ | refine Z4 hor rfl ?_ | refine Z4 (Zh hgt') rfl ?_ | refine Z4 (Zs i0') rfl ?_ | refine Z4 (Zh c0') rfl ?_ | refine Z4 (Zs i9') rfl ?_ | refine Z4 (Zs c1') rfl ?_ | refine Z0 rfl ?_ | refine Z2 ?_ | refine Zf rfl ?_) | refine out _ _ _ _ t0 rfl
              · have c1' : ¬ (1 : Int) < (c.toNat : Int) := by omega
                have t0 := okr (by omega)
                rw [t0]
                refine Zn (.put 0 p (.put 5 _ (.put 7 _ .nil))) (Z3 h0 (Z3 h5 (Z3 h7 Zp))) (Zi ?_)
                repeat' first | ((with_reducible show V _ _ _ _ _ _); first | refine Z1 rfl ?_ | refine Za rfl rfl ?_ | refine Zb rfl rfl ?_) | ((with_reducible show VO _ _ _ _ _ _ _); first | refine Z0a rfl hp ?_ | refine Zq rfl rfl hat ?_ | refine Z4 (Zs hlt) rfl ?_ | refine Z4 (Zh heq) rfl ?_ | refine Z4 hand rfl ?_ | refine Z4 hcv rfl ?_ | refine Z4 h7i rfl ?_ | refine O_shl rfl rfl h70 ?_ | refine Z4 hor rfl ?_ | refine Z4 (Zh hgt') rfl ?_ | refine Z4 hw rfl ?_ | refine Z4 (Zs i0') rfl ?_ | refine Z4 (Zh c0') rfl ?_ | refine Z4 (Zs i9') rfl ?_ | refine Z4 (Zh c1') rfl ?_ | refine Z0 rfl ?_ | refine Z2 ?_ | refine Zf rfl ?_) | refine ret (.ok u' (i + 1)) _ _ _ _ _ _ rfl rfl rfl rfl rfl
            · have i9' : ¬ (i : Int) = 9 := by omega
              have t0 := okr (by omega)
              rw [t0]
              refine Zn (.put 0 p (.put 5 _ (.put 7 _ .nil))) (Z3 h0 (Z3 h5 (Z3 h7 Zp))) (Zi ?_)
              repeat' first | ((with_reducible show V _ _ _ _ _ _); first | refine Z1 rfl ?_ | refine Za rfl rfl ?_ | refine Zb rfl rfl ?_) | ((with_reducible show VO _ _ _ _ _ _ _); first | refine Z0a rfl hp ?_ | refine Zq rfl rfl hat ?_ | refine Z4 (Zs hlt) rfl ?_ | refine Z4 (Zh heq) rfl ?_ | refine Z4 hand rfl ?_ | refine Z4 hcv rfl ?_ | refine Z4 h7i rfl ?_ | refine O_shl rfl rfl h70 ?_ | refine Z4 hor rfl ?_ | refine Z4 (Zh hgt') rfl ?_ | refine Z4 hw rfl ?_ | refine Z4 (Zs i0') rfl ?_ | refine Z4 (Zh c0') rfl ?_ | refine Z4 (Zh i9') rfl ?_ | refine Z0 rfl ?_ | refine Z2 ?_ | refine Zf rfl ?_ | refine Z0s rfl rfl ?_) | refine ret (.ok u' (i + 1)) _ _ _ _ _ _ rfl rfl rfl rfl rfl
        · have i0' : ¬ (0 : Int) < (i : Int) := by omega
          have i9' : ¬ (i : Int) = 9 := by omega
          have t0 := okr (by omega)
          rw [t0]
          refine Zn (.put 0 p (.put 5 _ (.put 7 _ .nil))) (Z3 h0 (Z3 h5 (Z3 h7 Zp))) (Zi ?_)
          repeat' first | ((with_reducible show V _ _ _ _ _ _); first | refine Z1 rfl ?_ | refine Za rfl rfl ?_ | refine Zb rfl rfl ?_) | ((with_reducible show VO _ _ _ _ _ _ _); first | refine Z0a rfl hp ?_ | refine Zq rfl rfl hat ?_ | refine Z4 (Zs hlt) rfl ?_ | refine Z4 (Zh heq) rfl ?_ | refine Z4 hand rfl ?_ | refine Z4 hcv rfl ?_ | refine Z4 h7i rfl ?_ | refine O_shl rfl rfl h70 ?_ | refine Z4 hor rfl ?_ | refine Z4 (Zh hgt') rfl ?_ | refine Z4 hw rfl ?_ | refine Z4 (Zh i0') rfl ?_ | refine Z4 (Zh i9') rfl ?_ | refine Z0 rfl ?_ | refine Z2 ?_ | refine Zf rfl ?_ | refine Z0s rfl rfl ?_) | refine ret (.ok u' (i + 1)) _ _ _ _ _ _ rfl rfl rfl rfl rfl
theorem NT.at_zero (t : NT) : NT.at 0 0 t = t := by cases t <;> simp [NT.at]
theorem run_NTake {p : PV} {b : List UInt8} (hp : BV p b) : T.R (.call Zam [p] (ntPV (Zcu 10 0 b))) := by
  have hl := fun e h0 h5 h7 => ntake_loop p b hp 10 0 0 b [] e rfl rfl rfl (fun _ => by omega) h0 h5 h7
  rw [NT.at_zero] at hl
  have plp := hp.pl
  refine Zd rfl rfl ?_
  repeat' first | refine Z3r rfl (hl _ rfl rfl rfl) ?_ | refine Z1 rfl ?_ | refine Z0 rfl ?_ | refine Z2 ?_
  rintro x e' st' ⟨rfl, ⟨rfl, ht, rfl⟩ | ⟨rfl, u, n, e, ht, rfl⟩⟩
  · rw [ht]
    repeat' first | refine Z1 rfl ?_ | refine Zc rfl rfl ?_ | refine Z0 rfl ?_ | refine Z2 ?_
    rfl
  · rw [ht]
    exact Z3t rfl rfl (Pl.view (by (repeat' (first | exact Pl.int _ _ | exact Pl.bool _ | exact Pl.str _ | exact Pl.nilSl | exact Z2u | refine Z0b ?_ ?_ | refine Pl.tuple _ ?_ | refine Pl.agg _ ?_ | refine Pl.func _ _ ?_ | assumption | refine Pl.iptr _ _ ?_ | exact Z5y | refine Z3i ?_ ?_ | refine Pl.sl _ _ ?_)); first | done | fail)) rfl
def stM (cs : List PV) (d : Int) : St := ⟨0, 2, [(0, .var cs), (1, .var [.int .i64 d])]⟩
def riseP (S : St) (l : List Val) : EX → EC → St → Prop := fun x e' st' => st' = S ∧ ((x = .exit 1 ∧ e' = .put 2 (.ptr 0 0) (.put 3 (.ptr 1 0) .nil) ∧ Z1p l = true) ∨ (x = .ret ∧ e' = .put 4 (.bool false) .nil ∧ Z1p l = false))
theorem rise_loop (k n d : Int) (s : List UInt8) (l : List Val) (p : PV) (hp : LC l p) :
    ∀ (m : Nat) (ra pre : List Val) (e : EC), ra.length ≤ m → l = pre ++ ra → Z1p l = Z1p ra → (ra ≠ [] ∨ l = []) → e.get 2 = some (.ptr 0 0) → e.get 3 = some (.ptr 1 0) → e.get 6 = some (.int .i64 (pre.length + 2)) →
    V T (PE (riseP (stM [.int .i64 k, .int .i64 n, .str s, p] d) l)) [.code (.loop Z7h)] .normal e (stM [.int .i64 k, .int .i64 n, .str s, p] d) := by
  obtain ⟨lp1, lp2, lp3⟩ := hp.len
  intro m
  induction m with
  | zero =>
    intro ra pre e hm hl hr hne h2 h3 h6
    have hra : ra = [] := by cases ra with
      | nil => rfl
      | cons y ra => simp at hm
    have hl0 : l = [] := by rcases hne with h | h
                            · exact absurd hra h
                            · exact h
    have hpre : pre = [] := by rw [hl0] at hl; simp at hl; exact hl.1
    have out : ∀ (fr : List Fr) (x : EX) (e' : EC), Zm 200 fr x = ([], .exit 1) → e'.get 2 = some (.ptr 0 0) → e'.get 3 = some (.ptr 1 0) → V T (PE (riseP (stM [.int .i64 k, .int .i64 n, .str s, p] d) l)) fr x e' (stM [.int .i64 k, .int .i64 n, .str s, p] d) := fun fr x e' hadv g2 g3 =>
      Zn (.put 2 _ (.put 3 _ .nil)) (Z3 g2 (Z3 g3 Zp)) (Z18 hadv ⟨rfl, .inl ⟨rfl, rfl, by rw [hl0]; rfl⟩⟩)
    refine Zn (.put 2 _ (.put 3 _ (.put 6 _ .nil))) (Z3 h2 (Z3 h3 (Z3 h6 Zp))) (Zi ?_)
    repeat' first | ((with_reducible show V _ _ _ _ _ _); first | refine Z1 rfl ?_ | refine Z6v rfl rfl (fun _ => ?_) (fun _ => ?_) | refine V_D rfl ?_) | ((with_reducible show VO _ _ _ _ _ _ _); first | refine Z07 rfl lp1 lp2 ?_ | refine Z0 rfl ?_ | refine Z2 ?_) | refine Z0h rfl ?_ | refine out _ _ _ rfl rfl rfl
    all_goals (exfalso; clear out; subst hl0 hpre; simp at *)
  | succ m ihr =>
    intro ra pre e hm hl hr hne h2 h3 h6
    match ra, hm, hl, hr, hne with
    | [], hm, hl, hr, hne => exact ihr [] pre e (by simp) hl hr hne h2 h3 h6
    | [y], hm, hl, hr, hne =>
      have out : ∀ (fr : List Fr) (x : EX) (e' : EC), Zm 200 fr x = ([], .exit 1) → e'.get 2 = some (.ptr 0 0) → e'.get 3 = some (.ptr 1 0) → V T (PE (riseP (stM [.int .i64 k, .int .i64 n, .str s, p] d) l)) fr x e' (stM [.int .i64 k, .int .i64 n, .str s, p] d) := fun fr x e' hadv g2 g3 =>
        Zn (.put 2 _ (.put 3 _ .nil)) (Z3 g2 (Z3 g3 Zp)) (Z18 hadv ⟨rfl, .inl ⟨rfl, rfl, by rw [hr]; rfl⟩⟩)
      refine Zn (.put 2 _ (.put 3 _ (.put 6 _ .nil))) (Z3 h2 (Z3 h3 (Z3 h6 Zp))) (Zi ?_)
      repeat' first | ((with_reducible show V _ _ _ _ _ _); first | refine Z1 rfl ?_ | refine Z6v rfl rfl (fun _ => ?_) (fun _ => ?_) | refine V_D rfl ?_) | ((with_reducible show VO _ _ _ _ _ _ _); first | refine Z07 rfl lp1 lp2 ?_ | refine Z0 rfl ?_ | refine Z2 ?_) | refine Z0h rfl ?_ | refine out _ _ _ rfl rfl rfl
      all_goals (exfalso; clear out; subst hl; simp at *; try omega)
    | [y, z], hm, hl, hr, hne =>
      have out : ∀ (fr : List Fr) (x : EX) (e' : EC), Zm 200 fr x = ([], .exit 1) → e'.get 2 = some (.ptr 0 0) → e'.get 3 = some (.ptr 1 0) → V T (PE (riseP (stM [.int .i64 k, .int .i64 n, .str s, p] d) l)) fr x e' (stM [.int .i64 k, .int .i64 n, .str s, p] d) := fun fr x e' hadv g2 g3 =>
        Zn (.put 2 _ (.put 3 _ .nil)) (Z3 g2 (Z3 g3 Zp)) (Z18 hadv ⟨rfl, .inl ⟨rfl, rfl, by rw [hr]; rfl⟩⟩)
      refine Zn (.put 2 _ (.put 3 _ (.put 6 _ .nil))) (Z3 h2 (Z3 h3 (Z3 h6 Zp))) (Zi ?_)
      repeat' first | ((with_reducible show V _ _ _ _ _ _); first | refine Z1 rfl ?_ | refine Z6v rfl rfl (fun _ => ?_) (fun _ => ?_) | refine V_D rfl ?_) | ((with_reducible show VO _ _ _ _ _ _ _); first | refine Z07 rfl lp1 lp2 ?_ | refine Z0 rfl ?_ | refine Z2 ?_) | refine Z0h rfl ?_ | refine out _ _ _ rfl rfl rfl
      all_goals (exfalso; clear out; subst hl; simp at *)
    | y :: z :: w :: ra, hm, hl, hr, hne =>
      have hlt : pre.length + 2 < l.length := by subst hl; simp
      have hy : l[pre.length]? = some y := by subst hl; simp
      have hw : l[pre.length + 2]? = some w := by subst hl; simp
      obtain ⟨cy, ay, vy⟩ := hp.at hy
      obtain ⟨cw, aw, vw⟩ := hp.at hw
      have ply := vy.pl
      have plw := vw.pl
      have hcall := run_Compare vy w cw vw
      have ay' : At 4 p (IntKind.i64.wrap ((pre.length : Int) + 2 - 2)) cy := by
        have : IntKind.i64.wrap ((pre.length : Int) + 2 - 2) = (pre.length : Int) := by rw [Z03]; omega
        rw [this]; exact ay
      have aw' : At 4 p ((pre.length : Int) + 2) cw := by
        have : ((pre.length + 2 : Nat) : Int) = (pre.length : Int) + 2 := by omega
        rw [← this]; exact aw
      have hr' : Z1p l = (decide (Zd0 y w < 0) && Z1p (w :: ra)) := by rw [hr]; rfl
      generalize Zd0 y w = r at hcall hr'
      by_cases hrr : r < 0
      · have fin : ∀ (fr : List Fr) (x : EX) (e' : EC), Zm 200 fr x = ([.code (.loop Z7h)], .normal) → e'.get 2 = some (.ptr 0 0) → e'.get 3 = some (.ptr 1 0) → e'.get 6 = some (.int .i64 (IntKind.i64.wrap ((pre.length : Int) + 2 + 2))) → V T (PE (riseP (stM [.int .i64 k, .int .i64 n, .str s, p] d) l)) fr x e' (stM [.int .i64 k, .int .i64 n, .str s, p] d) := fun fr x e' hadv g2 g3 g6 => Z34 hadv (by
          have hw : IntKind.i64.wrap ((pre.length : Int) + 2 + 2) = ((pre ++ [y, z]).length : Int) + 2 := by rw [Z03]; simp; omega
          rw [hw] at g6
          exact ihr (w :: ra) (pre ++ [y, z]) e' (by simp at hm ⊢; omega) (by rw [hl]; simp) (by rw [hr', decide_eq_true hrr]; rfl) (.inl (by simp)) g2 g3 g6)
        refine Zn (.put 2 _ (.put 3 _ (.put 6 _ .nil))) (Z3 h2 (Z3 h3 (Z3 h6 Zp))) (Zi ?_)
        repeat' first | ((with_reducible show V _ _ _ _ _ _); first | refine Z1 rfl ?_ | refine Z6v rfl rfl (fun _ => ?_) (fun _ => ?_) | refine V_D rfl ?_) | ((with_reducible show VO _ _ _ _ _ _ _); first | refine Z07 rfl lp1 lp2 ?_ | refine Z0 rfl ?_ | refine Z2 ?_) | ((with_reducible show VD _ _ _ _ _ _ _); first | refine Zh3 rfl rfl ay' ?_ | refine Zh3 rfl rfl aw' ?_ | refine Z53 rfl vy.len4 ?_ | refine Z53 rfl vw.len4 ?_ | refine Z4a rfl rfl hcall ?_ | refine Z0h rfl ?_ | refine Z1k ?_) | refine fin _ _ _ rfl rfl rfl rfl
        all_goals (exfalso; clear fin ihr hcall; simp at *; try omega)
      · have ret : ∀ (fr : List Fr) (x : EX) (e' : EC), Zm 200 fr x = ([], .ret) → e'.get 4 = some (.bool false) → V T (PE (riseP (stM [.int .i64 k, .int .i64 n, .str s, p] d) l)) fr x e' (stM [.int .i64 k, .int .i64 n, .str s, p] d) := fun fr x e' hadv g0 =>
          Zn (.put 4 _ .nil) (Z3 g0 Zp) (Z18 hadv ⟨rfl, .inr ⟨rfl, rfl, by rw [hr', decide_eq_false hrr]; rfl⟩⟩)
        refine Zn (.put 2 _ (.put 3 _ (.put 6 _ .nil))) (Z3 h2 (Z3 h3 (Z3 h6 Zp))) (Zi ?_)
        repeat' first | ((with_reducible show V _ _ _ _ _ _); first | refine Z1 rfl ?_ | refine Z6v rfl rfl (fun _ => ?_) (fun _ => ?_) | refine V_D rfl ?_) | ((with_reducible show VO _ _ _ _ _ _ _); first | refine Z07 rfl lp1 lp2 ?_ | refine Z0 rfl ?_ | refine Z2 ?_) | ((with_reducible show VD _ _ _ _ _ _ _); first | refine Zh3 rfl rfl ay' ?_ | refine Zh3 rfl rfl aw' ?_ | refine Z53 rfl vy.len4 ?_ | refine Z53 rfl vw.len4 ?_ | refine Z4a rfl rfl hcall ?_ | refine Z0h rfl ?_ | refine Z1k ?_) | refine ret _ _ _ rfl rfl
        all_goals (exfalso; clear ihr ret hcall; simp at *; try omega)
end Go.Proofs.YtgdjnlopdpjnaaaGreatDoor
