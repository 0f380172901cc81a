/- value.may, one step. · rambleref02.all, rises; both may, both Check. · A value out of a key's bytes: what is told; codec.made, codec.none, rambleref03.checked. · codec.Take and rambleref03.Take, but for texts: the numbers' loops. · rambleref03.takeStr. · codec.put, codec.Put. · codec.put, texts too. -/
import Derived.Test.YtgdjnlopdpjnaaaDoorValBToValF
import Derived.Test.YtgdjnlopdpjnaaaDoorAmZ
import Derived.Test.YtgdjnlopdpjnaaaDoorBytesToCodC
set_option linter.unusedVariables false
set_option linter.unusedSimpArgs false
namespace Go.Proofs.YtgdjnlopdpjnaaaDoor
open Go Go.AM Go.RowKit
set_option maxHeartbeats 4000000 in
theorem run_may_step (f : Nat) (d : Int) (hd : d + f = 8 ∧ 0 ≤ d) (k n : Int) (s : List UInt8) (l : List Val) (p : PV) (hp : LC l p)
    (hall : T.R (.call Z1f [p, .func Z2z [.iptr [.int .i64 d] 0]] (.bool (!l.all (Zr f))))) :
    T.R (.call Z9t [.agg [.int .i64 k, .int .i64 n, .str s, p], .int .i64 d] (.bool (Zr (f + 1) (.mk k n s l)))) := by
  obtain ⟨lp1, lp2, lp3⟩ := hp.len
  have plp := hp.pl
  have hl := fun e h0 h1 h2 => rise_loop k n d s l p hp l.length l [] e (Nat.le_refl _) rfl rfl (by cases l <;> simp) h0 h1 h2
  have hvl : Z1z true (stM [.int .i64 k, .int .i64 n, .str s, p] d).get [p, .func Z2z [.ptr 1 0]] [p, .func Z2z [.iptr [.int .i64 d] 0]] :=
    Z63 plp.view (Z63 (view_func (Z63 (view_ptr rfl (Z0k (.int _ _) Z45)) Ze8)) Ze8)
  have hd8 : decide (8 < d) = false := decide_eq_false (by omega)
  have e256 : decide ((l.length : Int) ≤ 256) = !decide (256 < (l.length : Int)) := by by_cases h : 256 < (l.length : Int) <;> simp [h] <;> omega
  have e512 : decide ((l.length : Int) ≤ 512) = !decide (512 < (l.length : Int)) := by by_cases h : 512 < (l.length : Int) <;> simp [h] <;> omega
  have epar : decide ((l.length : Int).tmod 2 = 0) = !decide ((l.length : Int).tmod 2 = 1) := by
    rw [Int.tmod_eq_emod_of_nonneg (by omega)]
    by_cases h : (l.length : Int) % 2 = 1 <;> simp [h] <;> omega
  by_cases h1 : k = 1
  · subst h1
    clear hl
    have hm : Zr (f + 1) (.mk 1 n s l) = (decide (s = []) && decide ((l.length : Int) = 0)) := by simp [Zr]
    rw [hm]
    generalize l.all (Zr f) = a at hall ⊢
    refine Zo rfl rfl ?_
    repeat' first | ((with_reducible show V _ _ _ _ _ _); first | refine Z3v hd8 rfl rfl ?_ | refine Z3 rfl ?_ | refine Zb rfl rfl ?_ | refine Zl rfl rfl ?_) | ((with_reducible show VO _ _ _ _ _ _ _); first | refine Z9 rfl ?_ | refine Z0r rfl lp1 lp2 ?_ | refine Z0 rfl ?_ | refine Z4 ?_ | refine Zq rfl ?_ | refine Z19 rfl rfl ?_ | refine O_gS rfl (fun _ => ?_) (fun _ => ?_))
    all_goals clear hall hvl hm e256 e512 epar
    all_goals first | (simp only [*, Bool.true_and, Bool.and_true, Bool.false_and, Bool.and_false, Bool.true_or, Bool.or_true, Bool.false_or, Bool.or_false, Bool.not_true, Bool.not_false, Bool.not_not]; done) | (exfalso; simp_all; done)
  by_cases h3 : k = 3
  · subst h3
    clear hl
    have hm : Zr (f + 1) (.mk 3 n s l) = (decide (s = []) && decide ((l.length : Int) = 0) && (decide (n = 0) || decide (n = 1))) := by simp [Zr]
    rw [hm]
    generalize l.all (Zr f) = a at hall ⊢
    refine Zo rfl rfl ?_
    repeat' first | ((with_reducible show V _ _ _ _ _ _); first | refine Z3v hd8 rfl rfl ?_ | refine Z3 rfl ?_ | refine Zb rfl rfl ?_ | refine Ze rfl rfl ?_ | refine Zl rfl rfl ?_) | ((with_reducible show VO _ _ _ _ _ _ _); first | refine Z9 rfl ?_ | refine Z0r rfl lp1 lp2 ?_ | refine Z0 rfl ?_ | refine Z4 ?_ | refine Zq rfl ?_ | refine O_gU' rfl ?_ | refine Z19 rfl rfl ?_ | refine O_gS rfl (fun _ => ?_) (fun _ => ?_))
    all_goals clear hall hvl hm e256 e512 epar
    all_goals first | (simp only [*, Bool.true_and, Bool.and_true, Bool.false_and, Bool.and_false, Bool.true_or, Bool.or_true, Bool.false_or, Bool.or_false, Bool.not_true, Bool.not_false, Bool.not_not]; done) | (exfalso; simp_all; done)
  by_cases h6 : k = 6
  · subst h6
    clear hl
    have hm : Zr (f + 1) (.mk 6 n s l) = (decide (s = []) && decide ((l.length : Int) = 0) && decide (1 ≤ n) && decide (n ≤ 281474976710656)) := by simp [Zr]
    rw [hm]
    generalize l.all (Zr f) = a at hall ⊢
    refine Zo rfl rfl ?_
    repeat' first | ((with_reducible show V _ _ _ _ _ _); first | refine Z3v hd8 rfl rfl ?_ | refine Z3 rfl ?_ | refine Zb rfl rfl ?_ | refine Ze rfl rfl ?_ | refine Zl rfl rfl ?_) | ((with_reducible show VO _ _ _ _ _ _ _); first | refine Z9 rfl ?_ | refine Z0r rfl lp1 lp2 ?_ | refine Z0 rfl ?_ | refine Z4 ?_ | refine Zq rfl ?_ | refine Z19 rfl rfl ?_ | refine O_gS rfl (fun _ => ?_) (fun _ => ?_))
    all_goals clear hall hvl hm e256 e512 epar
    all_goals first | (simp only [*, Bool.true_and, Bool.and_true, Bool.false_and, Bool.and_false, Bool.true_or, Bool.or_true, Bool.false_or, Bool.or_false, Bool.not_true, Bool.not_false, Bool.not_not]; done) | (exfalso; simp_all; done)
  by_cases h7 : k = 7
  · subst h7
    clear hl
    have hm : Zr (f + 1) (.mk 7 n s l) = (decide (s = []) && decide ((l.length : Int) = 0) && decide (1 ≤ n) && decide (n ≤ 281474976710656)) := by simp [Zr]
    rw [hm]
    generalize l.all (Zr f) = a at hall ⊢
    refine Zo rfl rfl ?_
    repeat' first | ((with_reducible show V _ _ _ _ _ _); first | refine Z3v hd8 rfl rfl ?_ | refine Z3 rfl ?_ | refine Zb rfl rfl ?_ | refine Ze rfl rfl ?_ | refine Zl rfl rfl ?_) | ((with_reducible show VO _ _ _ _ _ _ _); first | refine Z9 rfl ?_ | refine Z0r rfl lp1 lp2 ?_ | refine Z0 rfl ?_ | refine Z4 ?_ | refine Zq rfl ?_ | refine Z19 rfl rfl ?_ | refine O_gS rfl (fun _ => ?_) (fun _ => ?_))
    all_goals clear hall hvl hm e256 e512 epar
    all_goals first | (simp only [*, Bool.true_and, Bool.and_true, Bool.false_and, Bool.and_false, Bool.true_or, Bool.or_true, Bool.false_or, Bool.or_false, Bool.not_true, Bool.not_false, Bool.not_not]; done) | (exfalso; simp_all; done)
  by_cases h2 : k = 2
  · subst h2
    clear hl
    have hm : Zr (f + 1) (.mk 2 n s l) = (decide (n = 0) && decide ((l.length : Int) = 0) && decide ((s.length : Int) ≤ 128)) := by simp [Zr]
    rw [hm]
    generalize l.all (Zr f) = a at hall ⊢
    refine Zo rfl rfl ?_
    repeat' first | ((with_reducible show V _ _ _ _ _ _); first | refine Z3v hd8 rfl rfl ?_ | refine Z3 rfl ?_ | refine Zb rfl rfl ?_ | refine Ze rfl rfl ?_ | refine Zl rfl rfl ?_) | ((with_reducible show VO _ _ _ _ _ _ _); first | refine Z9 rfl ?_ | refine Z0r rfl lp1 lp2 ?_ | refine Z0 rfl ?_ | refine Z4 ?_ | refine Zq rfl ?_ | refine Z19 rfl rfl ?_ | refine O_gS rfl (fun _ => ?_) (fun _ => ?_))
    all_goals clear hall hvl hm e256 e512 epar
    all_goals first | (simp only [*, Bool.true_and, Bool.and_true, Bool.false_and, Bool.and_false, Bool.true_or, Bool.or_true, Bool.false_or, Bool.or_false, Bool.not_true, Bool.not_false, Bool.not_not]; done) | (exfalso; simp_all; done)
  by_cases h4 : k = 4
  · subst h4
    clear hl
    have hm : Zr (f + 1) (.mk 4 n s l) = (decide (n = 0) && decide (s = []) && decide ((l.length : Int) ≤ 256) && l.all (Zr f)) := by simp [Zr]
    rw [hm]
    rw [e256]
    generalize l.all (Zr f) = a at hall ⊢
    refine Zo rfl rfl ?_
    repeat' first | ((with_reducible show V _ _ _ _ _ _); first | refine Z3v hd8 rfl rfl ?_ | refine Z3 rfl ?_ | refine Zb rfl rfl ?_ | refine Ze rfl rfl ?_ | refine Z86 rfl rfl (fun _ => ?_) (fun _ => ?_) | refine Zl rfl rfl ?_) | ((with_reducible show VO _ _ _ _ _ _ _); first | refine Z9 rfl ?_ | refine Z0r rfl lp1 lp2 ?_ | refine O_callSP rfl rfl hvl rfl hall ?_ | refine Z0 rfl ?_ | refine Z4 ?_ | refine Zq rfl ?_ | refine Z19 rfl rfl ?_ | refine O_gS rfl (fun _ => ?_) (fun _ => ?_))
    all_goals clear hall hvl hm e256 e512 epar
    all_goals first | (simp only [*, Bool.true_and, Bool.and_true, Bool.false_and, Bool.and_false, Bool.true_or, Bool.or_true, Bool.false_or, Bool.or_false, Bool.not_true, Bool.not_false, Bool.not_not]; done) | (exfalso; simp_all; done)
  by_cases h5 : k = 5
  · subst h5
    have hm : Zr (f + 1) (.mk 5 n s l) = (decide (n = 0) && decide (s = []) && decide ((l.length : Int) ≤ 512) && decide ((l.length : Int).tmod 2 = 0) && l.all (Zr f) && Z8s l) := by simp [Zr]
    rw [hm, e512, epar]
    generalize l.all (Zr f) = a at hall ⊢
    generalize hrr : Z8s l = r
    refine Zo rfl rfl ?_
    repeat' first | ((with_reducible show V _ _ _ _ _ _); first | refine Z3v hd8 rfl rfl ?_ | refine Z55 rfl (hl _ rfl rfl rfl) ?_ | refine Z3 rfl ?_ | refine Zb rfl rfl ?_ | refine Ze rfl rfl ?_ | refine Z86 rfl rfl (fun _ => ?_) (fun _ => ?_) | refine Zl rfl rfl ?_) | ((with_reducible show VO _ _ _ _ _ _ _); first | refine Z9 rfl ?_ | refine Z0r rfl lp1 lp2 ?_ | refine O_rem rfl rfl rfl ?_ | refine Z0 rfl ?_ | refine Z4 ?_ | refine Zq rfl ?_ | refine Z19 rfl rfl ?_ | refine O_gS rfl (fun _ => ?_) (fun _ => ?_))
    all_goals clear hl hm e256 e512 epar
    all_goals try (rintro x e' st' ⟨rfl, ⟨rfl, rfl, hrv⟩ | ⟨rfl, rfl, hrv⟩⟩; all_goals rw [hrr] at hrv)
    all_goals repeat' first | refine Z3 rfl ?_ | refine Zl rfl rfl ?_ | ((with_reducible show VO _ _ _ _ _ _ _); first | refine O_callSP rfl rfl hvl rfl hall ?_ | refine Z0 rfl ?_ | refine Z4 ?_ | refine Zq rfl ?_ | refine Z19 rfl rfl ?_ | refine O_gS rfl (fun _ => ?_) (fun _ => ?_))
    all_goals clear hall hvl
    all_goals first | (simp only [*, Bool.true_and, Bool.and_true, Bool.false_and, Bool.and_false, Bool.true_or, Bool.or_true, Bool.false_or, Bool.or_false, Bool.not_true, Bool.not_false, Bool.not_not]; done) | (exfalso; simp_all; done)
  · clear hl
    have hm : Zr (f + 1) (.mk k n s l) = false := by simp [Zr, *]
    rw [hm]
    refine Zo rfl rfl ?_
    repeat' first | ((with_reducible show V _ _ _ _ _ _); first | refine Z3v hd8 rfl rfl ?_ | refine Z3v (decide_eq_false h1) rfl rfl ?_ | refine Z3v (decide_eq_false h3) rfl rfl ?_ | refine Z3v (decide_eq_false h6) rfl rfl ?_ | refine Z3v (decide_eq_false h7) rfl rfl ?_ | refine Z3v (decide_eq_false h2) rfl rfl ?_ | refine Z3v (decide_eq_false h4) rfl rfl ?_ | refine Z3v (decide_eq_false h5) rfl rfl ?_ | refine Z3 rfl ?_ | refine Zl rfl rfl ?_) | ((with_reducible show VO _ _ _ _ _ _ _); first | refine Z9 rfl ?_ | refine Z0r rfl lp1 lp2 ?_ | refine Z0 rfl ?_ | refine Z4 ?_ | refine Zq rfl ?_ | refine Z19 rfl rfl ?_ | refine O_gS rfl (fun _ => ?_) (fun _ => ?_))
    all_goals rfl
theorem LC.el {l : List Val} {p : PV} (h : LC l p) {j : Nat} {v : Val} {cs : List PV} (hv : l[j]? = some v) (ha : At 4 p j cs) : VC v cs := by
  obtain ⟨cs', ha', hc⟩ := h.at hv
  obtain ⟨_, _, xs, f, rfl, h1⟩ := ha
  obtain ⟨_, _, ys, g, he, h2⟩ := ha'
  injection he with he1 he2
  subst he1
  rw [h1] at h2
  injection h2 with h2
  subst h2
  exact hc
theorem all_any (P : Val → Bool) (l : List Val) : (l.any fun v => !P v) = !l.all P := by
  induction l with
  | nil => rfl
  | cons v l ih => simp [ih]
theorem run_may : ∀ (f : Nat) (d : Int), d + f = 9 → 0 ≤ d → ∀ (v : Val) (cs : List PV), VC v cs → T.R (.call Z9t [.agg cs, .int .i64 d] (.bool (Zr f v))) := by
  intro f
  induction f with
  | zero =>
    intro d hd h0 v cs hv
    obtain ⟨k, n, s, l⟩ := v
    obtain ⟨hk, hn, hs, p, rfl, hp⟩ := hv.open
    have plp := hp.pl
    refine Zo rfl rfl ?_
    repeat' first | ((with_reducible show V _ _ _ _ _ _); first | refine Z3 rfl ?_ | refine Z86 rfl rfl (fun _ => ?_) (fun _ => ?_) | refine Zl rfl rfl ?_) | ((with_reducible show VO _ _ _ _ _ _ _); first | refine Z9 rfl ?_ | refine Z0 rfl ?_ | refine Z4 ?_ | refine Zq rfl ?_ | refine O_gU' rfl ?_ | refine Z19 rfl rfl ?_ | refine O_gS rfl (fun _ => ?_) (fun _ => ?_))
    · rfl
    all_goals (exfalso; simp at *; omega)
  | succ f ih =>
    intro d hd h0 v cs hv
    obtain ⟨k, n, s, l⟩ := v
    obtain ⟨hk, hn, hs, p, rfl, hp⟩ := hv.open
    have h := Zd8 (fun v => !Zr f v) Z2z [.iptr [.int .i64 d] 0] (Z0k (.iptr _ _ (Z0k (.int _ _) Z45)) Z45) l p hp (fun j v cs hj ha =>
      run_may1 f d ⟨by omega, h0⟩ v cs (hp.el hj ha) (ih (d + 1) (by omega) (by omega) v cs (hp.el hj ha)))
    rw [all_any] at h
    exact run_may_step f d ⟨by omega, h0⟩ k n s l p hp h
def chk (v : Val) : Int := if Zr 8 v then 0 else 20
theorem Z7j {v : Val} {cs : List PV} (hv : VC v cs) : T.R (.call n_value_Check [.agg cs] (.int .i64 (chk v))) := by
  have h := run_may 8 1 (by omega) (by omega) v cs hv
  unfold chk
  generalize Zr 8 v = r at h ⊢
  obtain ⟨k, n, s, l⟩ := v
  obtain ⟨hk, hn, hs, p, rfl, hp⟩ := hv.open
  have plp := hp.pl
  refine Zo rfl rfl ?_
  repeat' first | ((with_reducible show V _ _ _ _ _ _); first | refine Z3 rfl ?_ | refine Z86 rfl rfl (fun _ => ?_) (fun _ => ?_) | refine Zl rfl rfl ?_) | ((with_reducible show VO _ _ _ _ _ _ _); first | refine Z9 rfl ?_ | refine Z8 rfl rfl h ?_ | refine Z0 rfl ?_ | refine Z4 ?_)
  all_goals simp_all
inductive TR where
  | err (e : Int)
  | ok (v : Val) (n : Nat)
def made (v : Val) (n : Nat) : TR := if Zr 8 v then .ok v n else .err 30
def Z7h : List UInt8 → List UInt8 → Nat → TR
  | [], _, _ => .err 11
  | [b], acc, n => if b = 0 then .err 11 else .err 11
  | b :: c :: r, acc, n => if b = 0 then (if c = 1 then made (.mk 2 0 acc []) (n + 2) else if c = 255 then Z7h r (acc ++ [0]) (n + 2) else .err 30) else Z7h (c :: r) (acc ++ [b]) (n + 1)
def un8 (l : List UInt8) : Nat := l.foldl (fun u c => u * 256 + c.toNat) 0
def Z7g (u : Nat) : Int := (u : Int) - 9223372036854775808
def Z64 : List UInt8 → TR
  | [] => .err 11
  | c :: r => if c = 1 ∨ c = 6 ∨ c = 7 then (if r.length < 8 then .err 11 else made (.mk c.toNat (Z7g (un8 (r.take 8))) [] []) 9)
    else if c = 3 then (match r with
      | [] => .err 11
      | d :: _ => made (.mk 3 d.toNat [] []) 2)
    else if c = 2 then Z7h r [] 1 else .err 30
def trPV : TR → PV
  | .err e => .tuple [.agg [.int .i64 0, .int .i64 0, .str [], .nilSl], .int .i64 0, .int .i64 e]
  | .ok (.mk k n s _) m => .tuple [.agg [.int .i64 k, .int .i64 n, .str s, .nilSl], .int .i64 m, .int .i64 0]
theorem un8_snoc (l : List UInt8) (c : UInt8) : un8 (l ++ [c]) = un8 l * 256 + c.toNat := by simp [un8, List.foldl_append]
theorem foldl_lt : ∀ (l : List UInt8) (u m : Nat), u < 256 ^ m → l.foldl (fun u c => u * 256 + c.toNat) u < 256 ^ (m + l.length)
  | [], u, m, h => h
  | c :: l, u, m, h => by
    have hc := c.toNat_lt
    have h1 : u * 256 + c.toNat < 256 ^ (m + 1) := by rw [Nat.pow_succ]; omega
    have := foldl_lt l (u * 256 + c.toNat) (m + 1) h1
    simp only [List.foldl_cons, List.length_cons]
    rw [show m + (l.length + 1) = m + 1 + l.length by omega]
    exact this
theorem un8_lt (l : List UInt8) : un8 l < 256 ^ l.length := by
  have := foldl_lt l 0 0 (by decide)
  simpa [un8] using this
theorem or8 (u c : Nat) (hu : u < 72057594037927936) (hc : c < 256) : IntKind.u64.wrap ((BitVec.ofInt 64 (IntKind.u64.wrap ((u : Int) * 2 ^ (min (8 : Int).toNat IntKind.u64.bits))) ||| BitVec.ofInt 64 (IntKind.u64.wrap (c : Int))).toNat : Int) = ((u * 256 + c : Nat) : Int) := by
  have e1 : (2 : Int) ^ (min (8 : Int).toNat IntKind.u64.bits) = 256 := rfl
  have a : IntKind.u64.wrap ((u : Int) * 256) = ((u * 256 : Nat) : Int) := by rw [Z0p]; omega
  have b : IntKind.u64.wrap (c : Int) = (c : Int) := by rw [Z0p]; omega
  rw [e1, a, b, BitVec.toNat_or, BitVec.ofInt_natCast, BitVec.ofInt_natCast, BitVec.toNat_ofNat, BitVec.toNat_ofNat, Nat.mod_eq_of_lt (by omega), Nat.mod_eq_of_lt (by omega)]
  have h := Nat.shiftLeft_add_eq_or_of_lt (i := 8) (b := c) (by simpa using hc) u
  rw [Nat.shiftLeft_eq] at h
  have e3 : (2 : Nat) ^ 8 = 256 := rfl
  rw [e3] at h
  rw [← h, Z0p]
  omega
theorem unflip (u : Nat) (hu : u < 18446744073709551616) : IntKind.i64.wrap (IntKind.u64.wrap ((BitVec.ofInt 64 (u : Int) ^^^ BitVec.ofInt 64 9223372036854775808).toNat : Int)) = Z7g u := by
  rw [bv_top u hu, Z0p, Z06]
  unfold Z7g
  omega
theorem Z4c (e : Int) : T.R (.call n_codec_none [.int .i64 e] (trPV (.err e))) := by
  refine Zo rfl rfl ?_
  repeat' first | refine Z3 rfl ?_ | refine Zl rfl rfl ?_ | ((with_reducible show VO _ _ _ _ _ _ _); first | refine Z9 rfl ?_ | refine Z0 rfl ?_ | refine Z4 ?_)
  rfl
theorem run_made (k n : Int) (s : List UInt8) (m : Nat) (hk : I64 k) (hn : I64 n) (hs : s.length ≤ 140737488355328) : T.R (.call n_codec_made [.agg [.int .i64 k, .int .i64 n, .str s, .nilSl], .int .i64 m] (trPV (made (.mk k n s []) m))) := by
  have hchk := Z7j (VC.nil k n s hk hn hs)
  unfold made
  by_cases hm : Zr 8 (.mk k n s []) = true
  · have hc : chk (.mk k n s []) = 0 := by simp [chk, hm]
    rw [hc] at hchk
    rw [if_pos hm]
    refine Zo rfl rfl ?_
    repeat' first | ((with_reducible show V _ _ _ _ _ _); first | refine Z3 rfl ?_ | refine Ze rfl rfl ?_ | refine Zl rfl rfl ?_) | ((with_reducible show VO _ _ _ _ _ _ _); first | refine Z8 rfl rfl hchk ?_ | refine Z0 rfl ?_ | refine Z9 rfl ?_ | refine Z4 ?_)
    rfl
  · have hc : chk (.mk k n s []) = 20 := by simp [chk, hm]
    rw [hc] at hchk
    rw [if_neg hm]
    refine Zo rfl rfl ?_
    repeat' first | ((with_reducible show V _ _ _ _ _ _); first | refine Z3 rfl ?_ | refine Zb rfl rfl ?_ | refine Zl rfl rfl ?_) | ((with_reducible show VO _ _ _ _ _ _ _); first | refine Z8 rfl rfl hchk ?_ | refine Z0 rfl ?_ | refine Z9 rfl ?_ | refine Z4 ?_)
    rfl
theorem run_Str (s : List UInt8) : T.R (.call Zeu [.str s] (.agg [.int .i64 2, .int .i64 0, .str s, .nilSl])) := by
  refine Zo rfl rfl ?_
  repeat' first | refine Z3 rfl ?_ | refine Zl rfl rfl ?_ | ((with_reducible show VO _ _ _ _ _ _ _); first | refine Z9 rfl ?_ | refine Z0 rfl ?_ | refine Z4 ?_)
  rfl
theorem Zac : ∀ t : TR, ∃ (a b : Int) (s : List UInt8) (c d : Int), trPV t = .tuple [.agg [.int .i64 a, .int .i64 b, .str s, .nilSl], .int .i64 c, .int .i64 d]
  | .err e => ⟨_, _, _, _, _, rfl⟩
  | .ok (.mk k n s l) m => ⟨_, _, _, _, _, rfl⟩
theorem take_loop (q : PV) (l : List UInt8) (hq : BV q l) (hl8 : l.length = 8) (a b : PV) : ∀ (rest pre : List UInt8) (e : EC) (st : St), l = pre ++ rest → e.get 2 = some a → e.get 5 = some b → e.get 6 = some (.int .u64 (un8 pre : Nat)) → e.get 35 = some q → e.get 36 = some (.int .i64 8) → e.get 37 = some (.int .i64 pre.length) →
    V T (PE fun x e' st' => x = .exit 1 ∧ st' = st ∧ e' = .put 2 a (.put 5 b (.put 6 (.int .u64 (un8 l : Nat)) .nil))) [.code (.loop Z50)] .normal e st := by
  intro rest
  induction rest with
  | nil =>
    intro pre e st hl h2 h5 h6 h35 h36 h37
    have hp8 : pre = l := by rw [hl]; simp
    have hlt : decide ((pre.length : Int) < 8) = false := decide_eq_false (by rw [hp8, hl8]; decide)
    rw [hp8] at h6
    have out : ∀ (fr : List Fr) (x : EX) (e' : EC), Zi 200 fr x = ([], .exit 1) → e'.get 2 = some a → e'.get 5 = some b → e'.get 6 = some (.int .u64 (un8 l : Nat)) → V T (PE fun x e' st' => x = .exit 1 ∧ st' = st ∧ e' = .put 2 a (.put 5 b (.put 6 (.int .u64 (un8 l : Nat)) .nil))) fr x e' st := fun fr x e' hadv g2 g5 g6 =>
      Zj (.put 2 a (.put 5 b (.put 6 _ .nil))) (Z2 g2 (Z2 g5 (Z2 g6 Zk))) (Z1y hadv ⟨rfl, rfl, rfl⟩)
    refine Zj (.put 2 a (.put 5 b (.put 6 _ (.put 36 _ (.put 37 _ .nil))))) (Z2 h2 (Z2 h5 (Z2 h6 (Z2 h36 (Z2 h37 Zk))))) (Zn ?_)
    repeat' first | refine Z3v hlt rfl rfl ?_ | refine Z3 rfl ?_ | refine Z0 rfl ?_ | refine Z4 ?_ | refine out _ _ _ rfl rfl rfl rfl
  | cons c rest ih =>
    intro pre e st hl h2 h5 h6 h35 h36 h37
    have hpl : pre.length + 1 ≤ 8 := by rw [← hl8, hl]; simp
    have hlt : decide ((pre.length : Int) < 8) = true := decide_eq_true (by omega)
    have hat := hq.at (n := (pre.length : Int)) (b := c) (by omega) (by rw [hl]; simp)
    have hw : IntKind.i64.wrap ((pre.length : Int) + 1) = ((pre ++ [c]).length : Int) := by rw [Z06]; simp; omega
    have hu : un8 pre < 72057594037927936 := by
      have h1 := un8_lt pre
      have h2 : (256 : Nat) ^ pre.length ≤ 256 ^ 7 := Nat.pow_le_pow_right (by omega) (by omega)
      have h3 : (256 : Nat) ^ 7 = 72057594037927936 := by decide
      omega
    have ho := or8 (un8 pre) c.toNat hu c.toNat_lt
    rw [← un8_snoc] at ho
    have fin : ∀ (fr : List Fr) (x : EX) (e' : EC), Zi 200 fr x = ([.code (.loop Z50)], .normal) → e'.get 2 = some a → e'.get 5 = some b → e'.get 6 = some (.int .u64 (IntKind.u64.wrap ((BitVec.ofInt 64 (IntKind.u64.wrap (((un8 pre : Nat) : Int) * 2 ^ (min (8 : Int).toNat IntKind.u64.bits))) ||| BitVec.ofInt 64 (IntKind.u64.wrap (c.toNat : Int))).toNat : Int))) → e'.get 35 = some q → e'.get 36 = some (.int .i64 8) → e'.get 37 = some (.int .i64 (IntKind.i64.wrap ((pre.length : Int) + 1))) → V T (PE fun x e' st' => x = .exit 1 ∧ st' = st ∧ e' = .put 2 a (.put 5 b (.put 6 (.int .u64 (un8 l : Nat)) .nil))) fr x e' st := fun fr x e' hadv g2 g5 g6 g35 g36 g37 => Z38 hadv (by
      rw [hw] at g37
      rw [ho] at g6
      exact ih (pre ++ [c]) e' st (by rw [hl]; simp) g2 g5 g6 g35 g36 g37)
    refine Zj (.put 2 a (.put 5 b (.put 6 _ (.put 35 q (.put 36 _ (.put 37 _ .nil)))))) (Z2 h2 (Z2 h5 (Z2 h6 (Z2 h35 (Z2 h36 (Z2 h37 Zk)))))) (Zn ?_)
    clear ih
    repeat' first | refine Z27 hlt rfl rfl ?_ | refine Z3 rfl ?_ | ((with_reducible show VO _ _ _ _ _ _ _); first | refine Zh rfl rfl hat ?_ | refine Z0 rfl ?_ | refine Z4 ?_) | refine fin _ _ _ rfl rfl rfl rfl rfl rfl rfl
theorem strR_ne {b : UInt8} (hb : b ≠ 0) (r acc : List UInt8) (n : Nat) : Z7h (b :: r) acc n = Z7h r (acc ++ [b]) (n + 1) := by
  cases r with
  | nil => simp [Z7h]
  | cons c r => simp only [Z7h]; rw [if_neg hb]
theorem strR_app : ∀ (x y acc : List UInt8) (n : Nat), x.count 0 = 0 → Z7h (x ++ y) acc n = Z7h y (acc ++ x) (n + x.length)
  | [], y, acc, n, _ => by simp
  | b :: x, y, acc, n, h => by
    rw [List.count_cons] at h
    have hb : b ≠ 0 := by rintro rfl; simp at h
    rw [List.cons_append, strR_ne hb, strR_app x y _ _ (by omega)]
    simp only [List.append_assoc, List.cons_append, List.nil_append, List.length_cons]
    congr 1
    omega
theorem RB.elems {st : St} {v : PV} {s : List UInt8} (h : RB st v s) : Z16 st.get v = some (Z1 s) := by
  have := h.src
  rcases h with ⟨rfl, _⟩ | ⟨f, rfl⟩ | ⟨t, g, lv, rfl, _⟩ <;> exact this
theorem O_toStrA {T : Tb} {Q : Z59} {k : List Fr} {ρ : EC} {st : St} {l : List POp} {kill : List Nat} {d : Option Nat} {x : Opd} {v : PV} {s : List UInt8} (hx : x.get ρ = some v) (hv : Z16 st.get v = some (Z1 s)) (h : VO T Q l kill k (ρ.sets d (.str s)) st) : VO T Q (⟨d, none, .toStr x⟩ :: l) kill k ρ st :=
  Z0 (by simp only [Zg, Z62, hx, hv, Option.bind_some, Z4i, Option.map_some]) h
def AccR (st : St) (v : PV) (b : List UInt8) : Prop := AccT 1 st v (Z1 b) ∧ 0 < st.next ∧ Z0n v ≠ some 0 ∧ ∃ c0 c1 c2 c3, st.get 0 = some (.var [c0, c1, c2, c3])
theorem AccR.grow {st : St} {v : PV} {b : List UInt8} (h : AccR st v b) (c : List UInt8) (hne : c ≠ []) (hr : b.length + c.length ≤ 140737488355328) : ∃ v' st', Z0b st 1 1 v (Z1 c) = some (v', st') ∧ AccR st' v' (b ++ c) := by
  obtain ⟨hA, hn, ht, c0, c1, c2, c3, hg⟩ := h
  obtain ⟨v', st', k1, k2, k3⟩ := hA.grow (bytes := 1) (src := Z1 c) (by simpa [Z1] using hne) (by simp only [Z01, Zs]; omega)
  rw [← Z09] at k2
  refine ⟨v', st', k1, k2, by have := k3.2.1; omega, ?_, c0, c1, c2, c3, by rw [k3.2.2.2 0 hn ht]; exact hg⟩
  rcases k3.2.2.1 with h | ⟨m, h, hm⟩
  · rw [h]; exact ht
  · rw [h]; intro e; injection e; omega
def zigN (n : Int) : Nat := if n < 0 then (-2 * n - 1).toNat else (2 * n).toNat
mutual
def Zbo : Val → List UInt8
  | .mk k n s l => UInt8.ofNat (k % 256).toNat :: (if k = 1 then Zbp 9 (zigN n) else if k = 6 ∨ k = 7 then Zbp 9 (n % 18446744073709551616).toNat else if k = 3 then [UInt8.ofNat (n % 256).toNat] else if k = 2 then Zbp 9 s.length ++ s else Zbp 9 l.length ++ Z9j l)
def Z9j : List Val → List UInt8
  | [] => []
  | v :: l => Zbo v ++ Z9j l
end
theorem zig_val {n : Int} (h : I64 n) : IntKind.u64.wrap ((BitVec.ofInt 64 (IntKind.u64.wrap (IntKind.u64.wrap n * 2 ^ (min (1 : Int).toNat IntKind.u64.bits))) ^^^ BitVec.ofInt 64 (IntKind.u64.wrap (n.fdiv (2 ^ (min (63 : Int).toNat IntKind.i64.bits))))).toNat : Int) = (zigN n : Int) := by
  obtain ⟨h1, h2⟩ := h
  have e1 : (2 : Int) ^ (min (1 : Int).toNat IntKind.u64.bits) = 2 := rfl
  have e2 : (2 : Int) ^ (min (63 : Int).toNat IntKind.i64.bits) = 9223372036854775808 := rfl
  rw [e1, e2]
  by_cases hn : n < 0
  · have a : IntKind.u64.wrap (IntKind.u64.wrap n * 2) = ((2 * n + 18446744073709551616).toNat : Int) := by rw [Z0p, Z0p]; omega
    have b : IntKind.u64.wrap (n.fdiv 9223372036854775808) = 18446744073709551615 := by rw [Z0p, Int.fdiv_eq_ediv_of_nonneg _ (by omega)]; omega
    rw [a, b]
    have c : BitVec.ofInt 64 18446744073709551615 = BitVec.allOnes 64 := rfl
    rw [c, BitVec.xor_allOnes, BitVec.toNat_not, BitVec.ofInt_natCast, BitVec.toNat_ofNat, Z0p]
    unfold zigN
    rw [if_pos hn]
    omega
  · have a : IntKind.u64.wrap (IntKind.u64.wrap n * 2) = ((2 * n).toNat : Int) := by rw [Z0p, Z0p]; omega
    have b : IntKind.u64.wrap (n.fdiv 9223372036854775808) = 0 := by rw [Z0p, Int.fdiv_eq_ediv_of_nonneg _ (by omega)]; omega
    rw [a, b]
    have c : BitVec.ofInt 64 0 = 0#64 := rfl
    rw [c, BitVec.xor_zero, BitVec.ofInt_natCast, BitVec.toNat_ofNat, Z0p]
    unfold zigN
    rw [if_neg hn]
    omega
theorem run_Zig {n : Int} (h : I64 n) : T.R (.call n_num_Zig [.int .i64 n] (.int .u64 (zigN n))) := by
  have hz := zig_val h
  refine Zo rfl rfl ?_
  repeat' first | refine Z3 rfl ?_ | refine Zl rfl rfl ?_ | refine Z0 rfl ?_ | refine Z4 ?_
  rw [← hz]
  rfl
theorem AccT_new {sz : Nat} {st : St} {v : PV} {es : List (List PV)} (h : AccT sz st v es) (k : Tok) : AccT sz (st.new k) v es := by
  rcases h with h | ⟨t, g, rfl, hg, hlt⟩
  · exact .inl h
  · exact .inr ⟨t, g, rfl, by rw [St.get_new_old hlt]; exact hg, by simp [St.new]; omega⟩
theorem Ze4 (st : St) (v : PV) (k : Tok) : Grow st v (st.new k) v := ⟨rfl, by simp [St.new], .inl rfl, fun u hu _ => St.get_new_old hu⟩
theorem AccT_lt {sz : Nat} {st : St} {v : PV} {es : List (List PV)} (h : AccT sz st v es) {t : Nat} (ht : Z0n v = some t) : t < st.next := by
  rcases h with ⟨rfl, _⟩ | ⟨t, g, rfl, hg, hlt⟩
  · cases ht
  · injection ht with ht; omega
theorem Grow_nil {st st' : St} {v v' : PV} {es : List (List PV)} (h : Grow st .nilSl st' v') (ha : AccT 1 st' v' es) (hne : es ≠ []) : Grow st v st' v' := by
  obtain ⟨n, h1, h2⟩ := AccT.none_fresh h ha hne
  exact ⟨h.1, h.2.1, .inr ⟨n, h1, h2⟩, fun u hu _ => h.2.2.2 u hu (by simp [Z0n])⟩
theorem putL_ne : ∀ n u, Zbp n u ≠ []
  | 0, u => by simp [Zbp]
  | n + 1, u => by unfold Zbp; split <;> simp
theorem putV_pos (v : Val) : Zbo v ≠ [] := by obtain ⟨k, n, s, l⟩ := v; simp [Zbo]
def PutOk (v : Val) (cs : List PV) : Prop := ∀ (st : St) (b : PV) (s : List UInt8), st.base = st.next → AccT 1 st b (Z1 s) → s.length + (Zbo v).length ≤ 100000000000000 → ∃ b' st', T.R (.raw n_codec_put [b, .agg cs] st b' st') ∧ AccT 1 st' b' (Z1 (s ++ Zbo v)) ∧ Grow st b st' b'
def putsP (st : St) (v : PV) (bs : List UInt8) : EX → EC → St → Prop := fun x e' st' => x = .exit 1 ∧ ∃ v', e' = .put 0 v' .nil ∧ AccT 1 st' v' (Z1 bs) ∧ Grow st v st' v'
theorem puts_loop (l : List Val) (p : PV) (hp : LC l p) (ih : ∀ (j : Nat) (v : Val) (cs : List PV), l[j]? = some v → At 4 p j cs → PutOk v cs) :
    ∀ (rest pre : List Val) (e : EC) (st : St) (v : PV) (s : List UInt8), l = pre ++ rest → AccT 1 st v (Z1 s) → s.length + (Z9j rest).length ≤ 100000000000000 → e.get 0 = some v → e.get 56 = some p → e.get 57 = some (.int .i64 l.length) → e.get 58 = some (.int .i64 pre.length) →
    V T (PE (putsP st v (s ++ Z9j rest))) [.code (.loop Z5s)] .normal e st := by
  obtain ⟨lp1, lp2, lp3⟩ := hp.len
  intro rest
  induction rest with
  | nil =>
    intro pre e st v s hl hA hs h0 h56 h57 h58
    have hlt : decide ((pre.length : Int) < l.length) = false := decide_eq_false (by subst hl; simp)
    have out : ∀ (fr : List Fr) (x : EX) (e' : EC), Zi 200 fr x = ([], .exit 1) → e'.get 0 = some v → V T (PE (putsP st v (s ++ Z9j []))) fr x e' st := fun fr x e' hadv g0 =>
      Zj (.put 0 v .nil) (Z2 g0 Zk) (Z1y hadv ⟨rfl, v, rfl, by simpa [Z9j] using hA, .refl _ _⟩)
    refine Zj (.put 0 _ (.put 56 p (.put 57 _ (.put 58 _ .nil)))) (Z2 h0 (Z2 h56 (Z2 h57 (Z2 h58 Zk)))) (Zn ?_)
    repeat' first | refine Z3v hlt rfl rfl ?_ | refine Z3 rfl ?_ | refine Z0 rfl ?_ | refine Z4 ?_ | refine out _ _ _ rfl rfl
  | cons v0 rest ihr =>
    intro pre e st v s hl hA hs h0 h56 h57 h58
    have hlt : decide ((pre.length : Int) < l.length) = true := decide_eq_true (by subst hl; simp; omega)
    have hpl : pre.length + 1 ≤ l.length := by subst hl; simp
    have hv0 : l[pre.length]? = some v0 := by subst hl; simp
    obtain ⟨cs, hat, vc⟩ := hp.at hv0
    have hok := ih _ v0 cs hv0 hat
    have hsum : Z9j (v0 :: rest) = Zbo v0 ++ Z9j rest := rfl
    have hz : ([.int .i64 0, .int .i64 0, .str [], .nilSl] : List PV).length = cs.length := by rw [vc.len4]; rfl
    have hA1 : AccT 1 ((st.new (.var [.int .i64 0, .int .i64 0, .str [], .nilSl])).put st.next (.var cs)) v (Z1 s) := by
      rcases hA with h | ⟨t, g, rfl, hg, hlt⟩
      · exact .inl h
      · exact .inr ⟨t, g, rfl, by rw [St.get_put_old (by omega), St.get_new_old hlt]; exact hg, by simp [St.new, St.put]; omega⟩
    have hG1 : Grow st v ((st.new (.var [.int .i64 0, .int .i64 0, .str [], .nilSl])).put st.next (.var cs)) v := ⟨rfl, by simp [St.new, St.put], .inl rfl, fun u hu _ => by rw [St.get_put_old (by omega), St.get_new_old hu]⟩
    generalize hS : (st.new (.var [.int .i64 0, .int .i64 0, .str [], .nilSl])).put st.next (.var cs) = S at hA1 hG1
    have hgS : S.get st.next = some (.var cs) := by rw [← hS]; exact St.get_put
    obtain ⟨b', st', k1, k2, k3⟩ := hok ⟨S.next, S.next, S.toks⟩ v s rfl hA1 (by rw [hsum, List.length_append] at hs; omega)
    have hA2 : AccT 1 ⟨S.base, st'.next, st'.toks⟩ b' (Z1 (s ++ Zbo v0)) := k2
    have hG2 : Grow S v ⟨S.base, st'.next, st'.toks⟩ b' := ⟨rfl, k3.2.1, k3.2.2.1, k3.2.2.2⟩
    have hw : IntKind.i64.wrap ((pre.length : Int) + 1) = ((pre ++ [v0]).length : Int) := by rw [Z06]; simp; omega
    have fin : ∀ (fr : List Fr) (x : EX) (e' : EC), Zi 200 fr x = ([.code (.loop Z5s)], .normal) → e'.get 0 = some b' → e'.get 56 = some p → e'.get 57 = some (.int .i64 l.length) → e'.get 58 = some (.int .i64 (IntKind.i64.wrap ((pre.length : Int) + 1))) → V T (PE (putsP st v (s ++ Z9j (v0 :: rest)))) fr x e' ⟨S.base, st'.next, st'.toks⟩ := fun fr x e' hadv g0 g56 g57 g58 => Z38 hadv (by
      rw [hw] at g58
      refine Zcb (ihr (pre ++ [v0]) e' _ b' (s ++ Zbo v0) (by rw [hl]; simp) hA2 (by rw [hsum, List.length_append] at hs; simp; omega) g0 g56 g57 g58) ?_
      rintro x e2 st2 ⟨hx, v2, he, hA3, hG3⟩
      refine ⟨hx, v2, he, ?_, hG1.trans (hG2.trans hG3)⟩
      rw [hsum, ← List.append_assoc]
      exact hA3)
    refine Zj (.put 0 _ (.put 56 p (.put 57 _ (.put 58 _ .nil)))) (Z2 h0 (Z2 h56 (Z2 h57 (Z2 h58 Zk)))) (Zn ?_)
    clear ihr ih
    repeat' first | refine Z27 hlt rfl rfl ?_ | refine Z3 rfl ?_ | ((with_reducible show VO _ _ _ _ _ _ _); first | refine Zh rfl rfl hat ?_ | refine O_loadA rfl vc.len4 ?_ | refine Zp (st' := S) rfl rfl vc.one vc.len4 rfl (by rw [← hS]; exact Z03 St.get_new hz) ?_ | refine Z2m rfl hgS vc.len4 ?_ | refine Z0d k1 k3.1 rfl rfl ?_ | refine Z0 rfl ?_ | refine Z9 rfl ?_ | refine Z4 ?_) | refine fin _ _ _ rfl rfl rfl rfl rfl
theorem wrap8' (n : Int) : [[PV.int .u8 (IntKind.u8.wrap n)]] = Z1 [UInt8.ofNat (n % 256).toNat] := by
  rw [Z9b]
  have h1 : n % 256 = (((n % 256).toNat : Nat) : Int) := by omega
  have h2 : (n % 256).toNat < 256 := by omega
  simp [Z1]
  omega
theorem I64.nat {n : Int} (h : I64 n) : IntKind.u64.wrap n = ((n % 18446744073709551616).toNat : Int) := by rw [Z0p]; omega
set_option maxHeartbeats 4000000 in
theorem put_step (k n : Int) (s : List UInt8) (l : List Val) (p : PV) (hk : I64 k) (hn : I64 n) (hs : s.length ≤ 140737488355328) (hp : LC l p) (hk2 : k ≠ 2) (ih : ∀ (j : Nat) (v : Val) (cs : List PV), l[j]? = some v → At 4 p j cs → PutOk v cs) : PutOk (.mk k n s l) [.int .i64 k, .int .i64 n, .str s, p] := by
  intro st b bs hbn hA hlen
  obtain ⟨lp1, lp2, lp3⟩ := hp.len
  have plp := hp.pl
  obtain ⟨kb, hkd⟩ : ∃ kb, UInt8.ofNat (k % 256).toNat = kb := ⟨_, rfl⟩
  have hkb := wrap8' k
  rw [hkd] at hkb
  have hA1 := AccT_new hA (.var [.int .i64 k, .int .i64 n, .str s, p])
  have hG1 := Ze4 st b (.var [.int .i64 k, .int .i64 n, .str s, p])
  have hg1 : (st.new (.var [.int .i64 k, .int .i64 n, .str s, p])).get st.next = some (.var [.int .i64 k, .int .i64 n, .str s, p]) := St.get_new
  have hnx : (st.new (.var [.int .i64 k, .int .i64 n, .str s, p])).next = st.next + 1 := rfl
  have hbt : Z0n b ≠ some st.next := fun h => by have := AccT_lt hA h; omega
  generalize hS : st.new (.var [.int .i64 k, .int .i64 n, .str s, p]) = S1 at hA1 hG1 hg1 hnx
  have hl1 : bs.length + 1 ≤ 100000000000000 := by simp [Zbo] at hlen; omega
  obtain ⟨v2, S2, k1, hA2, hG2⟩ := hA1.grow (bytes := 1) (src := Z1 [kb]) (by simp [Z1]) (by simp only [Z01, Zs]; simp; omega)
  rw [← Z09] at hA2
  have hg2 : S2.get st.next = some (.var [.int .i64 k, .int .i64 n, .str s, p]) := by rw [hG2.2.2.2 st.next (by omega) hbt]; exact hg1
  have hG02 := hG1.trans hG2
  have hrb2 : RB ⟨S2.next, S2.next, S2.toks⟩ v2 (bs ++ [kb]) := (AccT.rb (st := S2) hA2).keep (Nat.le_refl _) (fun _ _ => rfl)
  have num : ∀ u : Nat, u < 18446744073709551616 → ∃ v3 S3, T.R (.raw n_num_Put [v2, .int .u64 u] ⟨S2.next, S2.next, S2.toks⟩ v3 S3) ∧ S3.base = S2.next ∧ AccT 1 ⟨S2.base, S3.next, S3.toks⟩ v3 (Z1 (bs ++ [kb] ++ Zbp 9 u)) ∧ Grow st b ⟨S2.base, S3.next, S3.toks⟩ v3 ∧ (∀ t, t < S2.next → (⟨S2.base, S3.next, S3.toks⟩ : St).get t = S2.get t) := fun u hu => by
    obtain ⟨v3, S3, h1, h2, h3⟩ := putG (st := ⟨S2.next, S2.next, S2.toks⟩) rfl hrb2 (by simp; omega) u hu
    refine ⟨v3, S3, h1, h3.1, h2, hG02.trans (Grow_nil (st' := ⟨S2.base, S3.next, S3.toks⟩) ⟨rfl, h3.2.1, h3.2.2.1, h3.2.2.2⟩ h2 ?_), fun t ht => h3.2.2.2 t ht (by simp [Z0n])⟩
    simp [Z1, putL_ne]
  by_cases hk1 : k = 1
  · subst hk1
    obtain ⟨v3, S3, h1, h2, h3, h4, h5⟩ := num (zigN n) (by unfold zigN; obtain ⟨a, b⟩ := hn; split <;> omega)
    have hz := run_Zig hn
    have hpv : Zbo (.mk 1 n s l) = kb :: Zbp 9 (zigN n) := by simp only [Zbo, hkd]; simp
    refine Z1c rfl rfl ?_
    repeat' first | ((with_reducible show V _ _ _ _ _ _); first | refine Z05 rfl rfl ?_ | refine Z3 rfl ?_ | refine Zb rfl rfl ?_) | ((with_reducible show VO _ _ _ _ _ _ _); first | refine Z02 (src := Z1 [kb]) rfl rfl (by rw [← hkb]; rfl) (Z00 _) (by decide) (by decide) (by subst hS; exact k1) ?_ | refine Zf rfl St.get_new rfl ?_ | refine Zf rfl hg2 rfl ?_ | refine Z8 rfl rfl hz ?_ | refine Z0d h1 h2 rfl rfl ?_ | refine Z0 rfl ?_ | refine Z9 rfl ?_ | refine Z4 ?_)
    rw [hpv, List.append_cons]
    exact ⟨h3, h4⟩
  by_cases hk6 : k = 6
  · subst hk6
    obtain ⟨v3, S3, h1, h2, h3, h4, h5⟩ := num (n % 18446744073709551616).toNat (by omega)
    rw [← hn.nat] at h1
    have hpv : Zbo (.mk 6 n s l) = kb :: Zbp 9 (n % 18446744073709551616).toNat := by simp only [Zbo, hkd]; simp
    refine Z1c rfl rfl ?_
    repeat' first | ((with_reducible show V _ _ _ _ _ _); first | refine Z05 rfl rfl ?_ | refine Z3 rfl ?_ | refine Zb rfl rfl ?_ | refine Ze rfl rfl ?_) | ((with_reducible show VO _ _ _ _ _ _ _); first | refine Z02 (src := Z1 [kb]) rfl rfl (by rw [← hkb]; rfl) (Z00 _) (by decide) (by decide) (by subst hS; exact k1) ?_ | refine Zf rfl St.get_new rfl ?_ | refine Zf rfl hg2 rfl ?_ | refine Z0d h1 h2 rfl rfl ?_ | refine Z0 rfl ?_ | refine Z9 rfl ?_ | refine Z4 ?_)
    rw [hpv, List.append_cons]
    exact ⟨h3, h4⟩
  by_cases hk7 : k = 7
  · subst hk7
    obtain ⟨v3, S3, h1, h2, h3, h4, h5⟩ := num (n % 18446744073709551616).toNat (by omega)
    rw [← hn.nat] at h1
    have hpv : Zbo (.mk 7 n s l) = kb :: Zbp 9 (n % 18446744073709551616).toNat := by simp only [Zbo, hkd]; simp
    refine Z1c rfl rfl ?_
    repeat' first | ((with_reducible show V _ _ _ _ _ _); first | refine Z05 rfl rfl ?_ | refine Z3 rfl ?_ | refine Zb rfl rfl ?_ | refine Ze rfl rfl ?_) | ((with_reducible show VO _ _ _ _ _ _ _); first | refine Z02 (src := Z1 [kb]) rfl rfl (by rw [← hkb]; rfl) (Z00 _) (by decide) (by decide) (by subst hS; exact k1) ?_ | refine Zf rfl St.get_new rfl ?_ | refine Zf rfl hg2 rfl ?_ | refine Z0d h1 h2 rfl rfl ?_ | refine Z0 rfl ?_ | refine Z9 rfl ?_ | refine Z4 ?_)
    rw [hpv, List.append_cons]
    exact ⟨h3, h4⟩
  by_cases hk3 : k = 3
  · subst hk3
    obtain ⟨v3, S3, k4, h3, h4⟩ := hA2.grow (bytes := 1) (src := Z1 [UInt8.ofNat (n % 256).toNat]) (by simp [Z1]) (by simp only [Z01, Zs]; simp; omega)
    rw [← Z09] at h3
    have hpv : Zbo (.mk 3 n s l) = kb :: [UInt8.ofNat (n % 256).toNat] := by simp only [Zbo, hkd]; simp
    refine Z1c rfl rfl ?_
    repeat' first | ((with_reducible show V _ _ _ _ _ _); first | refine Z05 rfl rfl ?_ | refine Z3 rfl ?_ | refine Zb rfl rfl ?_ | refine Ze rfl rfl ?_) | ((with_reducible show VO _ _ _ _ _ _ _); first | refine Z02 (src := Z1 [kb]) rfl rfl (by rw [← hkb]; rfl) (Z00 _) (by decide) (by decide) (by subst hS; exact k1) ?_ | refine Zf rfl St.get_new rfl ?_ | refine Zf rfl hg2 rfl ?_ | refine Z02 (src := Z1 [UInt8.ofNat (n % 256).toNat]) rfl rfl (by rw [← wrap8' n]; rfl) (Z00 _) (by decide) (by decide) k4 ?_ | refine Z0 rfl ?_ | refine Z9 rfl ?_ | refine Z4 ?_)
    rw [hpv, List.append_cons]
    exact ⟨h3, hG02.trans h4⟩
  · obtain ⟨v3, S3, h1, h2, h3, h4, h5⟩ := num l.length (by omega)
    have hwl : IntKind.u64.wrap (l.length : Int) = (l.length : Int) := by rw [Z0p]; omega
    rw [← hwl] at h1
    have hpv : Zbo (.mk k n s l) = kb :: (Zbp 9 l.length ++ Z9j l) := by simp only [Zbo, hkd]; simp [hk1, hk6, hk7, hk3, hk2]
    have hg3 : (⟨S2.base, S3.next, S3.toks⟩ : St).get st.next = some (.var [.int .i64 k, .int .i64 n, .str s, p]) := by
      have hlt2 : st.next < S2.next := by have := hG2.2.1; omega
      rw [h5 st.next hlt2]
      exact hg2
    have hloop := fun e h0 h56 h57 h58 => puts_loop l p hp ih l [] e ⟨S2.base, S3.next, S3.toks⟩ v3 (bs ++ [kb] ++ Zbp 9 l.length) rfl h3 (by rw [hpv] at hlen; simp at hlen ⊢; omega) h0 h56 h57 h58
    refine Z1c rfl rfl ?_
    repeat' first | ((with_reducible show V _ _ _ _ _ _); first | refine Z3v (decide_eq_false hk1) rfl rfl ?_ | refine Z3v (decide_eq_false hk6) rfl rfl ?_ | refine Z3v (decide_eq_false hk7) rfl rfl ?_ | refine Z3v (decide_eq_false hk3) rfl rfl ?_ | refine Z3v (decide_eq_false hk2) rfl rfl ?_ | refine Z55 rfl (hloop _ rfl rfl rfl rfl) ?_ | refine Z3 rfl ?_) | ((with_reducible show VO _ _ _ _ _ _ _); first | refine Z02 (src := Z1 [kb]) rfl rfl (by rw [← hkb]; rfl) (Z00 _) (by decide) (by decide) (by subst hS; exact k1) ?_ | refine Zf rfl St.get_new rfl ?_ | refine Zf rfl hg2 rfl ?_ | refine Zf rfl hg3 rfl ?_ | refine Z0r rfl lp1 lp2 ?_ | refine Z0d h1 h2 rfl rfl ?_ | refine Z0 rfl ?_ | refine Z9 rfl ?_ | refine Z4 ?_)
    rintro x e' st' ⟨rfl, v', rfl, hA5, hG5⟩
    repeat' first | refine Z05 rfl rfl ?_ | refine Z3 rfl ?_ | refine Z0 rfl ?_ | refine Z4 ?_
    rw [hpv]
    refine ⟨?_, h4.trans hG5⟩
    have : bs ++ kb :: (Zbp 9 l.length ++ Z9j l) = bs ++ [kb] ++ Zbp 9 l.length ++ Z9j l := by simp
    rw [this]
    exact hA5
theorem Z3m {st : St} {v : PV} {b : List UInt8} (h : AccT 1 st v (Z1 b)) (c : List UInt8) (hr : b.length + c.length ≤ 140737488355328) : ∃ v' st', Z0b st 1 1 v (Z1 c) = some (v', st') ∧ AccT 1 st' v' (Z1 (b ++ c)) ∧ Grow st v st' v' := by
  by_cases hc : c = []
  · subst hc
    refine ⟨v, st, Z2a ?_, by rw [List.append_nil]; exact h, .refl _ _⟩
    rcases h with ⟨rfl, _⟩ | ⟨t, g, rfl, _, _⟩
    · exact .inl rfl
    · exact .inr (.inr ⟨_, _, _, _, _, rfl⟩)
  · obtain ⟨v', st', k1, k2, k3⟩ := h.grow (bytes := 1) (src := Z1 c) (by simpa [Z1] using hc) (by simp only [Z01, Zs]; omega)
    exact ⟨v', st', k1, by rw [Z09]; exact k2, k3⟩
set_option maxHeartbeats 4000000 in
theorem put_text (n : Int) (s : List UInt8) (l : List Val) (p : PV) (hn : I64 n) (hs : s.length ≤ 140737488355328) (hp : LC l p) : PutOk (.mk 2 n s l) [.int .i64 2, .int .i64 n, .str s, p] := by
  intro st b bs hbn hA hlen
  obtain ⟨kb, hkd⟩ : ∃ kb, UInt8.ofNat ((2 : Int) % 256).toNat = kb := ⟨_, rfl⟩
  have hkb := wrap8' 2
  rw [hkd] at hkb
  have hpv : Zbo (.mk 2 n s l) = kb :: (Zbp 9 s.length ++ s) := by simp only [Zbo, hkd]; simp
  rw [hpv] at hlen ⊢
  simp only [List.length_cons, List.length_append] at hlen
  have hA1 := AccT_new hA (.var [.int .i64 2, .int .i64 n, .str s, p])
  have hG1 := Ze4 st b (.var [.int .i64 2, .int .i64 n, .str s, p])
  have hg1 : (st.new (.var [.int .i64 2, .int .i64 n, .str s, p])).get st.next = some (.var [.int .i64 2, .int .i64 n, .str s, p]) := St.get_new
  have hnx : (st.new (.var [.int .i64 2, .int .i64 n, .str s, p])).next = st.next + 1 := rfl
  have hbt : Z0n b ≠ some st.next := fun h => by have := AccT_lt hA h; omega
  generalize hS : st.new (.var [.int .i64 2, .int .i64 n, .str s, p]) = S1 at hA1 hG1 hg1 hnx
  obtain ⟨v2, S2, k1, hA2, hG2⟩ := Z3m hA1 [kb] (by simp; omega)
  have hg2 : S2.get st.next = some (.var [.int .i64 2, .int .i64 n, .str s, p]) := by rw [hG2.2.2.2 st.next (by omega) hbt]; exact hg1
  have hG02 := hG1.trans hG2
  have hrb2 : RB ⟨S2.next, S2.next, S2.toks⟩ v2 (bs ++ [kb]) := (AccT.rb (st := S2) hA2).keep (Nat.le_refl _) (fun _ _ => rfl)
  obtain ⟨v3, S3, h1, h2, h3⟩ := putG (st := ⟨S2.next, S2.next, S2.toks⟩) rfl hrb2 (by simp; omega) s.length (by omega)
  have hlt2 : st.next < S2.next := by have := hG2.2.1; omega
  have hA3 : AccT 1 ⟨S2.base, S3.next, S3.toks⟩ v3 (Z1 (bs ++ [kb] ++ Zbp 9 s.length)) := h2
  have hG3 : Grow S2 v2 ⟨S2.base, S3.next, S3.toks⟩ v3 := Grow_nil (st' := ⟨S2.base, S3.next, S3.toks⟩) ⟨rfl, h3.2.1, h3.2.2.1, h3.2.2.2⟩ h2 (by simp [Z1, putL_ne])
  have hgB : (⟨S2.base, S3.next, S3.toks⟩ : St).get st.next = some (.var [.int .i64 2, .int .i64 n, .str s, p]) := (h3.2.2.2 st.next hlt2 (by simp [Z0n])).trans hg2
  have hnt3 : Z0n v3 ≠ some st.next := fun h => by
    obtain ⟨m, e1, e2⟩ := AccT.none_fresh (st := ⟨S2.next, S2.next, S2.toks⟩) (st' := S3) h3 h2 (by simp [Z1, putL_ne])
    rw [h] at e1
    injection e1 with e1
    have : S2.next ≤ m := e2
    omega
  generalize hB : (⟨S2.base, S3.next, S3.toks⟩ : St) = SB at hA3 hG3 hgB
  have hSBn : st.next < SB.next := by have := hG3.2.1; omega
  obtain ⟨v4, SC, q1, q2, q3⟩ := Z3m hA3 s (by simp; omega)
  have hgC : SC.get st.next = some (.var [.int .i64 2, .int .i64 n, .str s, p]) := by rw [q3.2.2.2 st.next hSBn hnt3]; exact hgB
  have hall : ∀ t, t = S2 ∨ t = SB ∨ t = SC → t.get st.next = some (.var [.int .i64 2, .int .i64 n, .str s, p]) := fun t ht => by
    rcases ht with rfl | rfl | rfl
    · exact hg2
    · exact hgB
    · exact hgC
  have hwl : IntKind.u64.wrap (s.length : Int) = (s.length : Int) := by rw [Z0p]; omega
  rw [← hwl] at h1
  refine Z1c rfl rfl ?_
  repeat' first | ((with_reducible show V _ _ _ _ _ _); first | refine V_M2 5 8 45 SB SC rfl rfl ?_ | refine Z05 rfl rfl ?_ | refine Z3 rfl ?_ | refine Zb rfl rfl ?_ | refine Ze rfl rfl ?_) | ((with_reducible show VO _ _ _ _ _ _ _); first | refine Z02 (src := Z1 [kb]) rfl rfl (by rw [← hkb]; rfl) (Z00 _) (by decide) (by decide) (by subst hS; exact k1) ?_ | refine Zf rfl St.get_new rfl ?_ | refine Zf rfl hg2 rfl ?_ | refine Z0 rfl ?_ | refine Z9 rfl ?_ | refine Z4 ?_) | refine M2_raw1 h1 h3.1 rfl rfl rfl hB ?_ | refine M2_append2 rfl (by decide) rfl rfl rfl (Z00 _) (by decide) (by decide) q1 ?_ | refine M2_loadV rfl rfl (.inl rfl) rfl hall rfl ?_ | refine M2_loadV rfl rfl (.inr (.inl rfl)) rfl hall rfl ?_ | refine M2_step rfl rfl (.inl rfl) rfl rfl rfl ?_ | refine M2_step rfl rfl (.inr (.inl rfl)) rfl rfl rfl ?_ | refine M2_step rfl rfl (.inr (.inr rfl)) rfl rfl rfl ?_ | refine M2_nil ?_
  refine ⟨?_, hG02.trans (hG3.trans q3)⟩
  have : bs ++ kb :: (Zbp 9 s.length ++ s) = bs ++ [kb] ++ Zbp 9 s.length ++ s := by simp
  rw [this]
  exact q2
theorem put_all {v : Val} {cs : List PV} (hv : VC v cs) : PutOk v cs := by
  refine VC.ind (M := fun v cs => PutOk v cs) ?_ hv
  intro k n s l p hk hn hs hp ih
  by_cases h2 : k = 2
  · subst h2
    exact put_text n s l p hn hs hp
  · exact put_step k n s l p hk hn hs hp h2 ih
end Go.Proofs.YtgdjnlopdpjnaaaDoor
