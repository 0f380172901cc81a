/- value.may, one step; slices.ContainsFunc over it. · rambleref02.may, one step. · value.may, one step. · rambleref02.all, rises; both may, both Check. · A value out of a key's bytes: what is told; codec.made, codec.none, rambleref03.checked. · codec.Take and rambleref03.Take, but for texts: the numbers' loops. · rambleref03.takeStr. -/
import Derived.Test.YtgdjnlopdpjnaaaGreatDoorCodBToValG
import Derived.Test.YtgdjnlopdpjnaaaGreatDoorAmZ
import Derived.Test.YtgdjnlopdpjnaaaGreatDoorBytesToOrd
set_option linter.unusedVariables false
set_option linter.unusedSimpArgs false
namespace Go.Proofs.YtgdjnlopdpjnaaaGreatDoor
open Go Go.AM Go.RowKit
def idxV (P : Val → Bool) : List Val → Nat → Int
  | [], _ => -1
  | v :: r, i => if P v then i else idxV P r (i + 1)
theorem idxV_any (P : Val → Bool) : ∀ (l : List Val) (i : Nat), decide (0 ≤ idxV P l i) = l.any P
  | [], i => by simp [idxV]
  | v :: r, i => by
    unfold idxV
    have := idxV_any P r (i + 1)
    cases h : P v with
    | true => simp [h]
    | false => simp [h, this]
theorem run_may1 (f : Nat) (d : Int) (hd : d + f = 8 ∧ 0 ≤ d) (v : Val) (cs : List PV) (hv : VC v cs) (hm : T.R (.call Zch [.agg cs, .int .i64 (d + 1)] (.bool (Zg f v)))) :
    T.R (.call Z3l [.agg cs, .iptr [.int .i64 d] 0] (.bool (!Zg f v))) := by
  have hw : IntKind.i64.wrap (d + 1) = d + 1 := by rw [Z03]; omega
  rw [← hw] at hm
  obtain ⟨k, n, s, l⟩ := v
  generalize Zg f _ = r at hm ⊢
  obtain ⟨hk, hn, hs, p, rfl, hp⟩ := hv.open
  have plp := hp.pl
  refine Zd rfl rfl ?_
  repeat' first | refine Z1 rfl ?_ | refine Zc rfl rfl ?_ | ((with_reducible show VO _ _ _ _ _ _ _); first | refine Z8 rfl ?_ | refine Z7 rfl rfl hm ?_ | refine Z0 rfl ?_ | refine Z2 ?_)
  all_goals rfl
def idxP (P : Val → Bool) (l : List Val) : EX → EC → St → Prop := fun x e' st' => st' = emptySt ∧ ((x = .exit 0 ∧ idxV P l 0 = -1) ∨ (x = .ret ∧ e' = .put 4 (.int .i64 (idxV P l 0)) .nil))
theorem idx_loop (P : Val → Bool) (g : Nat) (caps : List PV) (plc : ∀ c ∈ caps, Pl c) (l : List Val) (p : PV) (hp : LC l p)
    (hm : ∀ (j : Nat) (v : Val) (cs : List PV), l[j]? = some v → At 4 p j cs → T.R (.call g (.agg cs :: caps) (.bool (P v)))) :
    ∀ (ra pre : List Val) (e : EC), l = pre ++ ra → idxV P l 0 = idxV P ra pre.length → e.get 0 = some p → e.get 1 = some (.func g caps) → e.get 7 = some (.int .i64 l.length) → e.get 8 = some (.int .i64 pre.length) →
    V T (PE (idxP P l)) [.code (.loop Z11)] .normal e emptySt := by
  obtain ⟨lp1, lp2, lp3⟩ := hp.len
  intro ra
  induction ra with
  | nil =>
    intro pre e ha hi h0 h1 h7 h8
    have out : ∀ (fr : List Fr) (x : EX) (e' : EC), Zm 200 fr x = ([], .exit 0) → V T (PE (idxP P l)) fr x e' emptySt := fun fr x e' hadv => Z18 hadv ⟨rfl, .inl ⟨rfl, by rw [hi]; rfl⟩⟩
    refine Zn (.put 0 p (.put 1 (.func g caps) (.put 7 _ (.put 8 _ .nil)))) (Z3 h0 (Z3 h1 (Z3 h7 (Z3 h8 Zp)))) (Zi ?_)
    repeat' first | refine Z1 rfl ?_ | refine Z6v rfl rfl (fun _ => ?_) (fun _ => ?_) | refine Z0 rfl ?_ | refine Z2 ?_ | refine out _ _ _ rfl
    all_goals (exfalso; clear out; subst ha; simp at *)
  | cons y ra ihr =>
    intro pre e ha hi h0 h1 h7 h8
    refine Zn (.put 0 p (.put 1 (.func g caps) (.put 7 _ (.put 8 _ .nil)))) (Z3 h0 (Z3 h1 (Z3 h7 (Z3 h8 Zp)))) (Zi ?_)
    have hy : l[pre.length]? = some y := by subst ha; simp
    obtain ⟨cy, ay, vy⟩ := hp.at hy
    have ply := vy.pl
    have hcall := hm _ y cy hy ay
    have hvl : Z2a false emptySt.get ([PV.agg cy] ++ caps) (.agg cy :: caps) := Zh5 (Z0b (.agg _ ply) plc)
    cases hyP : P y with
    | false =>
      rw [hyP] at hcall
      have fin : ∀ (fr : List Fr) (x : EX) (e' : EC), Zm 200 fr x = ([.code (.loop Z11)], .normal) → e'.get 0 = some p → e'.get 1 = some (.func g caps) → e'.get 7 = some (.int .i64 l.length) → e'.get 8 = some (.int .i64 (IntKind.i64.wrap (pre.length + 1))) → V T (PE (idxP P l)) fr x e' emptySt := fun fr x e' hadv g0 g1 g7 g8 => Z34 hadv (by
        have hlt : pre.length < l.length := by subst ha; simp
        have hw : IntKind.i64.wrap (pre.length + 1) = ((pre ++ [y]).length : Int) := by rw [Z03]; simp; omega
        rw [hw] at g8
        exact ihr (pre ++ [y]) e' (by rw [ha]; simp) (by rw [hi]; simp [idxV, hyP]) g0 g1 g7 g8)
      repeat' first | ((with_reducible show V _ _ _ _ _ _); first | refine Z1 rfl ?_ | refine Zb rfl rfl ?_ | refine Z6v rfl rfl (fun _ => ?_) (fun _ => ?_)) | ((with_reducible show VO _ _ _ _ _ _ _); first | refine Zq rfl rfl ay ?_ | refine Zjc rfl vy.len4 ?_ | refine O_callP rfl rfl hvl hcall ?_ | refine Z0 rfl ?_ | refine Z2 ?_) | refine fin _ _ _ rfl rfl rfl rfl rfl
      all_goals (exfalso; clear fin ihr hcall hm; subst ha; simp at *; try omega)
    | true =>
      rw [hyP] at hcall
      have ret : ∀ (fr : List Fr) (x : EX) (e' : EC), Zm 200 fr x = ([], .ret) → e'.get 4 = some (.int .i64 pre.length) → V T (PE (idxP P l)) fr x e' emptySt := fun fr x e' hadv g0 =>
        Zn (.put 4 _ .nil) (Z3 g0 Zp) (Z18 hadv ⟨rfl, .inr ⟨rfl, by rw [hi]; simp [idxV, hyP]⟩⟩)
      repeat' first | ((with_reducible show V _ _ _ _ _ _); first | refine Z1 rfl ?_ | refine Za rfl rfl ?_ | refine Z6v rfl rfl (fun _ => ?_) (fun _ => ?_)) | ((with_reducible show VO _ _ _ _ _ _ _); first | refine Zq rfl rfl ay ?_ | refine Zjc rfl vy.len4 ?_ | refine O_callP rfl rfl hvl hcall ?_ | refine Z0 rfl ?_ | refine Z2 ?_) | refine ret _ _ _ rfl rfl
      all_goals (exfalso; clear ihr ret hcall hm; subst ha; simp at *; try omega)
theorem run_IndexFunc (P : Val → Bool) (g : Nat) (caps : List PV) (plc : ∀ c ∈ caps, Pl c) (l : List Val) (p : PV) (hp : LC l p)
    (hm : ∀ (j : Nat) (v : Val) (cs : List PV), l[j]? = some v → At 4 p j cs → T.R (.call g (.agg cs :: caps) (.bool (P v)))) :
    T.R (.call Z5j [p, .func g caps] (.int .i64 (idxV P l 0))) := by
  obtain ⟨lp1, lp2, lp3⟩ := hp.len
  have hl := fun e h0 h1 h2 h3 => idx_loop P g caps plc l p hp hm l [] e rfl rfl h0 h1 h2 h3
  refine Zd rfl rfl ?_
  repeat' first | refine Z3r rfl (hl _ rfl rfl rfl rfl) ?_ | refine Z1 rfl ?_ | ((with_reducible show VO _ _ _ _ _ _ _); first | refine Z07 rfl lp1 lp2 ?_ | refine Z0 rfl ?_ | refine Z2 ?_)
  rintro x e' st' ⟨rfl, ⟨rfl, h⟩ | ⟨rfl, rfl⟩⟩
  · repeat' first | refine Z1 rfl ?_ | refine Zc rfl rfl ?_ | refine Z0 rfl ?_ | refine Z2 ?_
    rw [h]
  · repeat' first | refine Zc rfl rfl ?_
    rfl
theorem Zgf (P : Val → Bool) (g : Nat) (caps : List PV) (plc : ∀ c ∈ caps, Pl c) (l : List Val) (p : PV) (hp : LC l p)
    (hm : ∀ (j : Nat) (v : Val) (cs : List PV), l[j]? = some v → At 4 p j cs → T.R (.call g (.agg cs :: caps) (.bool (P v)))) :
    T.R (.call Z1r [p, .func g caps] (.bool (l.any P))) := by
  have h := run_IndexFunc P g caps plc l p hp hm
  have plp := hp.pl
  rw [← idxV_any P l 0]
  generalize idxV P l 0 = r at h ⊢
  refine Zd rfl rfl ?_
  repeat' first | refine Z1 rfl ?_ | refine Zc rfl rfl ?_ | ((with_reducible show VO _ _ _ _ _ _ _); first | refine Z7 rfl rfl h ?_ | refine Z0 rfl ?_ | refine Z2 ?_)
  all_goals rfl
set_option maxHeartbeats 4000000 in
theorem run_may2_step (f : Nat) (d : Int) (hd : d + f = 7 ∧ 0 ≤ d) (k n : Int) (s : List UInt8) (l : List Val) (p : PV) (hp : LC l p)
    (hall : T.R (.call Z7z [p, .int .i64 d] (.bool (l.all (Zg f))))) (hri : T.R (.call Z6b [p] (.bool (Z1p l)))) :
    T.R (.call Z2p [.agg [.int .i64 k, .int .i64 n, .str s, p], .int .i64 d] (.bool (Zg (f + 1) (.mk k n s l)))) := by
  obtain ⟨lp1, lp2, lp3⟩ := hp.len
  have plp := hp.pl
  have hd8 : decide (8 ≤ d) = false := decide_eq_false (by omega)
  by_cases h1 : k = 1
  · subst h1
    have hm : Zg (f + 1) (.mk 1 n s l) = (decide (s = []) && decide ((l.length : Int) = 0)) := by simp [Zg]
    rw [hm]
    generalize l.all (Zg f) = a at hall ⊢
    generalize Z1p l = r at hri ⊢
    refine Zd rfl rfl ?_
    repeat' first | ((with_reducible show V _ _ _ _ _ _); first | refine Z2t hd8 rfl rfl ?_ | refine Z1 rfl ?_ | refine Za rfl rfl ?_ | refine Zc rfl rfl ?_) | ((with_reducible show VO _ _ _ _ _ _ _); first | refine Z8 rfl ?_ | refine Z07 rfl lp1 lp2 ?_ | refine Z0 rfl ?_ | refine Z2 ?_ | refine Zf rfl ?_ | refine Z0s rfl rfl ?_ | refine Zer rfl (fun _ => ?_) (fun _ => ?_))
    all_goals (clear hall hri hm; simp only [*, Bool.true_and, Bool.and_true, Bool.false_and, Bool.and_false, Bool.true_or, Bool.or_true, Bool.false_or, Bool.or_false, Bool.not_true, Bool.not_false])
  by_cases h3 : k = 3
  · subst h3
    have hm : Zg (f + 1) (.mk 3 n s l) = (decide (s = []) && decide ((l.length : Int) = 0) && (decide (n = 0) || decide (n = 1))) := by simp [Zg]
    rw [hm]
    generalize l.all (Zg f) = a at hall ⊢
    generalize Z1p l = r at hri ⊢
    refine Zd rfl rfl ?_
    repeat' first | ((with_reducible show V _ _ _ _ _ _); first | refine Z2t hd8 rfl rfl ?_ | refine Z1 rfl ?_ | refine Za rfl rfl ?_ | refine Zb rfl rfl ?_ | refine Zc rfl rfl ?_) | ((with_reducible show VO _ _ _ _ _ _ _); first | refine Z8 rfl ?_ | refine Z07 rfl lp1 lp2 ?_ | refine Z0 rfl ?_ | refine Z2 ?_ | refine Zf rfl ?_ | refine Zjd rfl ?_ | refine Z0s rfl rfl ?_ | refine Zer rfl (fun _ => ?_) (fun _ => ?_))
    all_goals (clear hall hri hm; simp only [*, Bool.true_and, Bool.and_true, Bool.false_and, Bool.and_false, Bool.true_or, Bool.or_true, Bool.false_or, Bool.or_false, Bool.not_true, Bool.not_false])
  by_cases h6 : k = 6
  · subst h6
    have hm : Zg (f + 1) (.mk 6 n s l) = (decide (s = []) && decide ((l.length : Int) = 0) && decide (1 ≤ n) && decide (n ≤ 281474976710656)) := by simp [Zg]
    rw [hm]
    generalize l.all (Zg f) = a at hall ⊢
    generalize Z1p l = r at hri ⊢
    refine Zd rfl rfl ?_
    repeat' first | ((with_reducible show V _ _ _ _ _ _); first | refine Z2t hd8 rfl rfl ?_ | refine Z1 rfl ?_ | refine Za rfl rfl ?_ | refine Zb rfl rfl ?_ | refine Zc rfl rfl ?_) | ((with_reducible show VO _ _ _ _ _ _ _); first | refine Z8 rfl ?_ | refine Z07 rfl lp1 lp2 ?_ | refine Z0 rfl ?_ | refine Z2 ?_ | refine Zf rfl ?_ | refine Z0s rfl rfl ?_ | refine Zer rfl (fun _ => ?_) (fun _ => ?_))
    all_goals (clear hall hri hm; simp only [*, Bool.true_and, Bool.and_true, Bool.false_and, Bool.and_false, Bool.true_or, Bool.or_true, Bool.false_or, Bool.or_false, Bool.not_true, Bool.not_false])
  by_cases h7 : k = 7
  · subst h7
    have hm : Zg (f + 1) (.mk 7 n s l) = (decide (s = []) && decide ((l.length : Int) = 0) && decide (1 ≤ n) && decide (n ≤ 281474976710656)) := by simp [Zg]
    rw [hm]
    generalize l.all (Zg f) = a at hall ⊢
    generalize Z1p l = r at hri ⊢
    refine Zd rfl rfl ?_
    repeat' first | ((with_reducible show V _ _ _ _ _ _); first | refine Z2t hd8 rfl rfl ?_ | refine Z1 rfl ?_ | refine Za rfl rfl ?_ | refine Zb rfl rfl ?_ | refine Zc rfl rfl ?_) | ((with_reducible show VO _ _ _ _ _ _ _); first | refine Z8 rfl ?_ | refine Z07 rfl lp1 lp2 ?_ | refine Z0 rfl ?_ | refine Z2 ?_ | refine Zf rfl ?_ | refine Z0s rfl rfl ?_ | refine Zer rfl (fun _ => ?_) (fun _ => ?_))
    all_goals (clear hall hri hm; simp only [*, Bool.true_and, Bool.and_true, Bool.false_and, Bool.and_false, Bool.true_or, Bool.or_true, Bool.false_or, Bool.or_false, Bool.not_true, Bool.not_false])
  by_cases h2 : k = 2
  · subst h2
    have hm : Zg (f + 1) (.mk 2 n s l) = (decide (n = 0) && decide ((l.length : Int) = 0) && decide ((s.length : Int) ≤ 128)) := by simp [Zg]
    rw [hm]
    generalize l.all (Zg f) = a at hall ⊢
    generalize Z1p l = r at hri ⊢
    refine Zd rfl rfl ?_
    repeat' first | ((with_reducible show V _ _ _ _ _ _); first | refine Z2t hd8 rfl rfl ?_ | refine Z1 rfl ?_ | refine Za rfl rfl ?_ | refine Zb rfl rfl ?_ | refine Zc rfl rfl ?_) | ((with_reducible show VO _ _ _ _ _ _ _); first | refine Z8 rfl ?_ | refine Z07 rfl lp1 lp2 ?_ | refine Z0 rfl ?_ | refine Z2 ?_ | refine Zf rfl ?_ | refine Z0s rfl rfl ?_ | refine Zer rfl (fun _ => ?_) (fun _ => ?_))
    all_goals (clear hall hri hm; simp only [*, Bool.true_and, Bool.and_true, Bool.false_and, Bool.and_false, Bool.true_or, Bool.or_true, Bool.false_or, Bool.or_false, Bool.not_true, Bool.not_false])
  by_cases h4 : k = 4
  · subst h4
    have hm : Zg (f + 1) (.mk 4 n s l) = (decide (n = 0) && decide (s = []) && decide ((l.length : Int) ≤ 256) && l.all (Zg f)) := by simp [Zg]
    rw [hm]
    generalize l.all (Zg f) = a at hall ⊢
    generalize Z1p l = r at hri ⊢
    refine Zd rfl rfl ?_
    repeat' first | ((with_reducible show V _ _ _ _ _ _); first | refine Z2t hd8 rfl rfl ?_ | refine Z1 rfl ?_ | refine Za rfl rfl ?_ | refine Zb rfl rfl ?_ | refine Zc rfl rfl ?_) | ((with_reducible show VO _ _ _ _ _ _ _); first | refine Z8 rfl ?_ | refine Z07 rfl lp1 lp2 ?_ | refine Z7 rfl rfl hall ?_ | refine Z0 rfl ?_ | refine Z2 ?_ | refine Zf rfl ?_ | refine Z0s rfl rfl ?_ | refine Zer rfl (fun _ => ?_) (fun _ => ?_))
    all_goals (clear hall hri hm; simp only [*, Bool.true_and, Bool.and_true, Bool.false_and, Bool.and_false, Bool.true_or, Bool.or_true, Bool.false_or, Bool.or_false, Bool.not_true, Bool.not_false])
  by_cases h5 : k = 5
  · subst h5
    have hm : Zg (f + 1) (.mk 5 n s l) = (decide (n = 0) && decide (s = []) && decide ((l.length : Int) ≤ 512) && decide ((l.length : Int).tmod 2 = 0) && l.all (Zg f) && Z1p l) := by simp [Zg]
    rw [hm]
    generalize l.all (Zg f) = a at hall ⊢
    generalize Z1p l = r at hri ⊢
    refine Zd rfl rfl ?_
    repeat' first | ((with_reducible show V _ _ _ _ _ _); first | refine Z2t hd8 rfl rfl ?_ | refine Z1 rfl ?_ | refine Za rfl rfl ?_ | refine Zb rfl rfl ?_ | refine Zc rfl rfl ?_) | ((with_reducible show VO _ _ _ _ _ _ _); first | refine Z8 rfl ?_ | refine Z07 rfl lp1 lp2 ?_ | refine O_rem rfl rfl rfl ?_ | refine Z7 rfl rfl hall ?_ | refine Z7 rfl rfl hri ?_ | refine Z0 rfl ?_ | refine Z2 ?_ | refine Zf rfl ?_ | refine Z0s rfl rfl ?_ | refine Zer rfl (fun _ => ?_) (fun _ => ?_))
    all_goals (clear hall hri hm; simp only [*, Bool.true_and, Bool.and_true, Bool.false_and, Bool.and_false, Bool.true_or, Bool.or_true, Bool.false_or, Bool.or_false, Bool.not_true, Bool.not_false])
  · have hm : Zg (f + 1) (.mk k n s l) = false := by simp [Zg, *]
    rw [hm]
    refine Zd rfl rfl ?_
    repeat' first | ((with_reducible show V _ _ _ _ _ _); first | refine Z2t hd8 rfl rfl ?_ | refine Z2t (decide_eq_false h1) rfl rfl ?_ | refine Z2t (decide_eq_false h3) rfl rfl ?_ | refine Z2t (decide_eq_false h6) rfl rfl ?_ | refine Z2t (decide_eq_false h7) rfl rfl ?_ | refine Z2t (decide_eq_false h2) rfl rfl ?_ | refine Z2t (decide_eq_false h4) rfl rfl ?_ | refine Z2t (decide_eq_false h5) rfl rfl ?_ | refine Z1 rfl ?_ | refine Zc rfl rfl ?_) | ((with_reducible show VO _ _ _ _ _ _ _); first | refine Z8 rfl ?_ | refine Z0 rfl ?_ | refine Z2 ?_)
    all_goals rfl
set_option maxHeartbeats 4000000 in
theorem run_may_step (f : Nat) (d : Int) (hd : d + f = 8 ∧ 0 ≤ d) (k n : Int) (s : List UInt8) (l : List Val) (p : PV) (hp : LC l p)
    (hall : T.R (.call Z1r [p, .func Z3l [.iptr [.int .i64 d] 0]] (.bool (!l.all (Zg f))))) :
    T.R (.call Zch [.agg [.int .i64 k, .int .i64 n, .str s, p], .int .i64 d] (.bool (Zg (f + 1) (.mk k n s l)))) := by
  obtain ⟨lp1, lp2, lp3⟩ := hp.len
  have plp := hp.pl
  have hl := fun e h0 h1 h2 => rise_loop k n d s l p hp l.length l [] e (Nat.le_refl _) rfl rfl (by cases l <;> simp) h0 h1 h2
  have hvl : Z2a true (stM [.int .i64 k, .int .i64 n, .str s, p] d).get [p, .func Z3l [.ptr 1 0]] [p, .func Z3l [.iptr [.int .i64 d] 0]] :=
    Z0m plp.view (Z0m (view_func (Z0m (view_ptr rfl (Z0b (.int _ _) Z2u)) Z5q)) Z5q)
  have hd8 : decide (8 < d) = false := decide_eq_false (by omega)
  have e256 : decide ((l.length : Int) ≤ 256) = !decide (256 < (l.length : Int)) := by by_cases h : 256 < (l.length : Int) <;> simp [h] <;> omega
  have e512 : decide ((l.length : Int) ≤ 512) = !decide (512 < (l.length : Int)) := by by_cases h : 512 < (l.length : Int) <;> simp [h] <;> omega
  have epar : decide ((l.length : Int).tmod 2 = 0) = !decide ((l.length : Int).tmod 2 = 1) := by
    rw [Int.tmod_eq_emod_of_nonneg (by omega)]
    by_cases h : (l.length : Int) % 2 = 1 <;> simp [h] <;> omega
  by_cases h1 : k = 1
  · subst h1
    clear hl
    have hm : Zg (f + 1) (.mk 1 n s l) = (decide (s = []) && decide ((l.length : Int) = 0)) := by simp [Zg]
    rw [hm]
    generalize l.all (Zg f) = a at hall ⊢
    refine Zd rfl rfl ?_
    repeat' first | ((with_reducible show V _ _ _ _ _ _); first | refine Z2t hd8 rfl rfl ?_ | refine Z1 rfl ?_ | refine Za rfl rfl ?_ | refine Zc rfl rfl ?_) | ((with_reducible show VO _ _ _ _ _ _ _); first | refine Z8 rfl ?_ | refine Z07 rfl lp1 lp2 ?_ | refine Z0 rfl ?_ | refine Z2 ?_ | refine Zf rfl ?_ | refine Z0s rfl rfl ?_ | refine Zer rfl (fun _ => ?_) (fun _ => ?_))
    all_goals clear hall hvl hm e256 e512 epar
    all_goals first | (simp only [*, Bool.true_and, Bool.and_true, Bool.false_and, Bool.and_false, Bool.true_or, Bool.or_true, Bool.false_or, Bool.or_false, Bool.not_true, Bool.not_false, Bool.not_not]; done) | (exfalso; simp_all; done)
  by_cases h3 : k = 3
  · subst h3
    clear hl
    have hm : Zg (f + 1) (.mk 3 n s l) = (decide (s = []) && decide ((l.length : Int) = 0) && (decide (n = 0) || decide (n = 1))) := by simp [Zg]
    rw [hm]
    generalize l.all (Zg f) = a at hall ⊢
    refine Zd rfl rfl ?_
    repeat' first | ((with_reducible show V _ _ _ _ _ _); first | refine Z2t hd8 rfl rfl ?_ | refine Z1 rfl ?_ | refine Za rfl rfl ?_ | refine Zb rfl rfl ?_ | refine Zc rfl rfl ?_) | ((with_reducible show VO _ _ _ _ _ _ _); first | refine Z8 rfl ?_ | refine Z07 rfl lp1 lp2 ?_ | refine Z0 rfl ?_ | refine Z2 ?_ | refine Zf rfl ?_ | refine Zjd rfl ?_ | refine Z0s rfl rfl ?_ | refine Zer rfl (fun _ => ?_) (fun _ => ?_))
    all_goals clear hall hvl hm e256 e512 epar
    all_goals first | (simp only [*, Bool.true_and, Bool.and_true, Bool.false_and, Bool.and_false, Bool.true_or, Bool.or_true, Bool.false_or, Bool.or_false, Bool.not_true, Bool.not_false, Bool.not_not]; done) | (exfalso; simp_all; done)
  by_cases h6 : k = 6
  · subst h6
    clear hl
    have hm : Zg (f + 1) (.mk 6 n s l) = (decide (s = []) && decide ((l.length : Int) = 0) && decide (1 ≤ n) && decide (n ≤ 281474976710656)) := by simp [Zg]
    rw [hm]
    generalize l.all (Zg f) = a at hall ⊢
    refine Zd rfl rfl ?_
    repeat' first | ((with_reducible show V _ _ _ _ _ _); first | refine Z2t hd8 rfl rfl ?_ | refine Z1 rfl ?_ | refine Za rfl rfl ?_ | refine Zb rfl rfl ?_ | refine Zc rfl rfl ?_) | ((with_reducible show VO _ _ _ _ _ _ _); first | refine Z8 rfl ?_ | refine Z07 rfl lp1 lp2 ?_ | refine Z0 rfl ?_ | refine Z2 ?_ | refine Zf rfl ?_ | refine Z0s rfl rfl ?_ | refine Zer rfl (fun _ => ?_) (fun _ => ?_))
    all_goals clear hall hvl hm e256 e512 epar
    all_goals first | (simp only [*, Bool.true_and, Bool.and_true, Bool.false_and, Bool.and_false, Bool.true_or, Bool.or_true, Bool.false_or, Bool.or_false, Bool.not_true, Bool.not_false, Bool.not_not]; done) | (exfalso; simp_all; done)
  by_cases h7 : k = 7
  · subst h7
    clear hl
    have hm : Zg (f + 1) (.mk 7 n s l) = (decide (s = []) && decide ((l.length : Int) = 0) && decide (1 ≤ n) && decide (n ≤ 281474976710656)) := by simp [Zg]
    rw [hm]
    generalize l.all (Zg f) = a at hall ⊢
    refine Zd rfl rfl ?_
    repeat' first | ((with_reducible show V _ _ _ _ _ _); first | refine Z2t hd8 rfl rfl ?_ | refine Z1 rfl ?_ | refine Za rfl rfl ?_ | refine Zb rfl rfl ?_ | refine Zc rfl rfl ?_) | ((with_reducible show VO _ _ _ _ _ _ _); first | refine Z8 rfl ?_ | refine Z07 rfl lp1 lp2 ?_ | refine Z0 rfl ?_ | refine Z2 ?_ | refine Zf rfl ?_ | refine Z0s rfl rfl ?_ | refine Zer rfl (fun _ => ?_) (fun _ => ?_))
    all_goals clear hall hvl hm e256 e512 epar
    all_goals first | (simp only [*, Bool.true_and, Bool.and_true, Bool.false_and, Bool.and_false, Bool.true_or, Bool.or_true, Bool.false_or, Bool.or_false, Bool.not_true, Bool.not_false, Bool.not_not]; done) | (exfalso; simp_all; done)
  by_cases h2 : k = 2
  · subst h2
    clear hl
    have hm : Zg (f + 1) (.mk 2 n s l) = (decide (n = 0) && decide ((l.length : Int) = 0) && decide ((s.length : Int) ≤ 128)) := by simp [Zg]
    rw [hm]
    generalize l.all (Zg f) = a at hall ⊢
    refine Zd rfl rfl ?_
    repeat' first | ((with_reducible show V _ _ _ _ _ _); first | refine Z2t hd8 rfl rfl ?_ | refine Z1 rfl ?_ | refine Za rfl rfl ?_ | refine Zb rfl rfl ?_ | refine Zc rfl rfl ?_) | ((with_reducible show VO _ _ _ _ _ _ _); first | refine Z8 rfl ?_ | refine Z07 rfl lp1 lp2 ?_ | refine Z0 rfl ?_ | refine Z2 ?_ | refine Zf rfl ?_ | refine Z0s rfl rfl ?_ | refine Zer rfl (fun _ => ?_) (fun _ => ?_))
    all_goals clear hall hvl hm e256 e512 epar
    all_goals first | (simp only [*, Bool.true_and, Bool.and_true, Bool.false_and, Bool.and_false, Bool.true_or, Bool.or_true, Bool.false_or, Bool.or_false, Bool.not_true, Bool.not_false, Bool.not_not]; done) | (exfalso; simp_all; done)
  by_cases h4 : k = 4
  · subst h4
    clear hl
    have hm : Zg (f + 1) (.mk 4 n s l) = (decide (n = 0) && decide (s = []) && decide ((l.length : Int) ≤ 256) && l.all (Zg f)) := by simp [Zg]
    rw [hm]
    rw [e256]
    generalize l.all (Zg f) = a at hall ⊢
    refine Zd rfl rfl ?_
    repeat' first | ((with_reducible show V _ _ _ _ _ _); first | refine Z2t hd8 rfl rfl ?_ | refine Z1 rfl ?_ | refine Za rfl rfl ?_ | refine Zb rfl rfl ?_ | refine Z6v rfl rfl (fun _ => ?_) (fun _ => ?_) | refine Zc rfl rfl ?_) | ((with_reducible show VO _ _ _ _ _ _ _); first | refine Z8 rfl ?_ | refine Z07 rfl lp1 lp2 ?_ | refine O_callSP rfl rfl hvl rfl hall ?_ | refine Z0 rfl ?_ | refine Z2 ?_ | refine Zf rfl ?_ | refine Z0s rfl rfl ?_ | refine Zer rfl (fun _ => ?_) (fun _ => ?_))
    all_goals clear hall hvl hm e256 e512 epar
    all_goals first | (simp only [*, Bool.true_and, Bool.and_true, Bool.false_and, Bool.and_false, Bool.true_or, Bool.or_true, Bool.false_or, Bool.or_false, Bool.not_true, Bool.not_false, Bool.not_not]; done) | (exfalso; simp_all; done)
  by_cases h5 : k = 5
  · subst h5
    have hm : Zg (f + 1) (.mk 5 n s l) = (decide (n = 0) && decide (s = []) && decide ((l.length : Int) ≤ 512) && decide ((l.length : Int).tmod 2 = 0) && l.all (Zg f) && Z1p l) := by simp [Zg]
    rw [hm, e512, epar]
    generalize l.all (Zg f) = a at hall ⊢
    generalize hrr : Z1p l = r
    refine Zd rfl rfl ?_
    repeat' first | ((with_reducible show V _ _ _ _ _ _); first | refine Z2t hd8 rfl rfl ?_ | refine Z3r rfl (hl _ rfl rfl rfl) ?_ | refine Z1 rfl ?_ | refine Za rfl rfl ?_ | refine Zb rfl rfl ?_ | refine Z6v rfl rfl (fun _ => ?_) (fun _ => ?_) | refine Zc rfl rfl ?_) | ((with_reducible show VO _ _ _ _ _ _ _); first | refine Z8 rfl ?_ | refine Z07 rfl lp1 lp2 ?_ | refine O_rem rfl rfl rfl ?_ | refine Z0 rfl ?_ | refine Z2 ?_ | refine Zf rfl ?_ | refine Z0s rfl rfl ?_ | refine Zer rfl (fun _ => ?_) (fun _ => ?_))
    all_goals clear hl hm e256 e512 epar
    all_goals try (rintro x e' st' ⟨rfl, ⟨rfl, rfl, hrv⟩ | ⟨rfl, rfl, hrv⟩⟩; all_goals rw [hrr] at hrv)
    all_goals repeat' first | refine Z1 rfl ?_ | refine Zc rfl rfl ?_ | ((with_reducible show VO _ _ _ _ _ _ _); first | refine O_callSP rfl rfl hvl rfl hall ?_ | refine Z0 rfl ?_ | refine Z2 ?_ | refine Zf rfl ?_ | refine Z0s rfl rfl ?_ | refine Zer rfl (fun _ => ?_) (fun _ => ?_))
    all_goals clear hall hvl
    all_goals first | (simp only [*, Bool.true_and, Bool.and_true, Bool.false_and, Bool.and_false, Bool.true_or, Bool.or_true, Bool.false_or, Bool.or_false, Bool.not_true, Bool.not_false, Bool.not_not]; done) | (exfalso; simp_all; done)
  · clear hl
    have hm : Zg (f + 1) (.mk k n s l) = false := by simp [Zg, *]
    rw [hm]
    refine Zd rfl rfl ?_
    repeat' first | ((with_reducible show V _ _ _ _ _ _); first | refine Z2t hd8 rfl rfl ?_ | refine Z2t (decide_eq_false h1) rfl rfl ?_ | refine Z2t (decide_eq_false h3) rfl rfl ?_ | refine Z2t (decide_eq_false h6) rfl rfl ?_ | refine Z2t (decide_eq_false h7) rfl rfl ?_ | refine Z2t (decide_eq_false h2) rfl rfl ?_ | refine Z2t (decide_eq_false h4) rfl rfl ?_ | refine Z2t (decide_eq_false h5) rfl rfl ?_ | refine Z1 rfl ?_ | refine Zc rfl rfl ?_) | ((with_reducible show VO _ _ _ _ _ _ _); first | refine Z8 rfl ?_ | refine Z07 rfl lp1 lp2 ?_ | refine Z0 rfl ?_ | refine Z2 ?_ | refine Zf rfl ?_ | refine Z0s rfl rfl ?_ | refine Zer rfl (fun _ => ?_) (fun _ => ?_))
    all_goals rfl
def allP (P : Val → Bool) (l : List Val) : EX → EC → St → Prop := fun x e' st' => st' = emptySt ∧ ((x = .exit 0 ∧ l.all P = true) ∨ (x = .ret ∧ e' = .put 4 (.bool false) .nil ∧ l.all P = false))
theorem all2_loop (P : Val → Bool) (d : Int) (l : List Val) (p : PV) (hp : LC l p)
    (hm : ∀ (j : Nat) (v : Val) (cs : List PV), l[j]? = some v → At 4 p j cs → T.R (.call Z2p [.agg cs, .int .i64 (IntKind.i64.wrap (d + 1))] (.bool (P v)))) :
    ∀ (ra pre : List Val) (e : EC), l = pre ++ ra → l.all P = ra.all P → e.get 0 = some p → e.get 1 = some (.int .i64 d) → e.get 5 = some (.int .i64 pre.length) →
    V T (PE (allP P l)) [.code (.loop Z2y)] .normal e emptySt := by
  obtain ⟨lp1, lp2, lp3⟩ := hp.len
  intro ra
  induction ra with
  | nil =>
    intro pre e ha hi h0 h1 h5
    have out : ∀ (fr : List Fr) (x : EX) (e' : EC), Zm 200 fr x = ([], .exit 0) → V T (PE (allP P l)) fr x e' emptySt := fun fr x e' hadv => Z18 hadv ⟨rfl, .inl ⟨rfl, by rw [hi]; rfl⟩⟩
    refine Zn (.put 0 p (.put 1 _ (.put 5 _ .nil))) (Z3 h0 (Z3 h1 (Z3 h5 Zp))) (Zi ?_)
    repeat' first | refine Z1 rfl ?_ | refine Z6v rfl rfl (fun _ => ?_) (fun _ => ?_) | ((with_reducible show VO _ _ _ _ _ _ _); first | refine Z07 rfl lp1 lp2 ?_ | refine Z0 rfl ?_ | refine Z2 ?_) | refine out _ _ _ rfl
    all_goals (exfalso; clear out; subst ha; simp at *)
  | cons y ra ihr =>
    intro pre e ha hi h0 h1 h5
    refine Zn (.put 0 p (.put 1 _ (.put 5 _ .nil))) (Z3 h0 (Z3 h1 (Z3 h5 Zp))) (Zi ?_)
    have hy : l[pre.length]? = some y := by subst ha; simp
    obtain ⟨cy, ay, vy⟩ := hp.at hy
    have ply := vy.pl
    have hcall := hm _ y cy hy ay
    cases hyP : P y with
    | true =>
      rw [hyP] at hcall
      have fin : ∀ (fr : List Fr) (x : EX) (e' : EC), Zm 200 fr x = ([.code (.loop Z2y)], .normal) → e'.get 0 = some p → e'.get 1 = some (.int .i64 d) → e'.get 5 = some (.int .i64 (IntKind.i64.wrap (pre.length + 1))) → V T (PE (allP P l)) fr x e' emptySt := fun fr x e' hadv g0 g1 g5 => Z34 hadv (by
        have hlt : pre.length < l.length := by subst ha; simp
        have hw : IntKind.i64.wrap (pre.length + 1) = ((pre ++ [y]).length : Int) := by rw [Z03]; simp; omega
        rw [hw] at g5
        exact ihr (pre ++ [y]) e' (by rw [ha]; simp) (by rw [hi]; simp [hyP]) g0 g1 g5)
      repeat' first | ((with_reducible show V _ _ _ _ _ _); first | refine Z1 rfl ?_ | refine Zb rfl rfl ?_ | refine Z6v rfl rfl (fun _ => ?_) (fun _ => ?_)) | ((with_reducible show VO _ _ _ _ _ _ _); first | refine Z07 rfl lp1 lp2 ?_ | refine Zq rfl rfl ay ?_ | refine Zjc rfl vy.len4 ?_ | refine Z7 rfl rfl hcall ?_ | refine Z0 rfl ?_ | refine Z2 ?_) | refine fin _ _ _ rfl rfl rfl rfl
      all_goals (exfalso; clear fin ihr hcall hm; subst ha; simp at *; try omega)
    | false =>
      rw [hyP] at hcall
      have ret : ∀ (fr : List Fr) (x : EX) (e' : EC), Zm 200 fr x = ([], .ret) → e'.get 4 = some (.bool false) → V T (PE (allP P l)) fr x e' emptySt := fun fr x e' hadv g0 =>
        Zn (.put 4 _ .nil) (Z3 g0 Zp) (Z18 hadv ⟨rfl, .inr ⟨rfl, rfl, by rw [hi]; simp [hyP]⟩⟩)
      repeat' first | ((with_reducible show V _ _ _ _ _ _); first | refine Z1 rfl ?_ | refine Za rfl rfl ?_ | refine Z6v rfl rfl (fun _ => ?_) (fun _ => ?_)) | ((with_reducible show VO _ _ _ _ _ _ _); first | refine Z07 rfl lp1 lp2 ?_ | refine Zq rfl rfl ay ?_ | refine Zjc rfl vy.len4 ?_ | refine Z7 rfl rfl hcall ?_ | refine Z0 rfl ?_ | refine Z2 ?_) | refine ret _ _ _ rfl rfl
      all_goals (exfalso; clear ihr ret hcall hm; subst ha; simp at *; try omega)
theorem run_all2 (P : Val → Bool) (d : Int) (l : List Val) (p : PV) (hp : LC l p)
    (hm : ∀ (j : Nat) (v : Val) (cs : List PV), l[j]? = some v → At 4 p j cs → T.R (.call Z2p [.agg cs, .int .i64 (IntKind.i64.wrap (d + 1))] (.bool (P v)))) :
    T.R (.call Z7z [p, .int .i64 d] (.bool (l.all P))) := by
  have hl := fun e h0 h1 h2 => all2_loop P d l p hp hm l [] e rfl rfl h0 h1 h2
  generalize hr : l.all P = r at hl ⊢
  refine Zd rfl rfl ?_
  repeat' first | refine Z3r rfl (hl _ rfl rfl rfl) ?_ | refine Z1 rfl ?_ | refine Z0 rfl ?_ | refine Z2 ?_
  rintro x e' st' ⟨rfl, ⟨rfl, h⟩ | ⟨rfl, rfl, h⟩⟩
  · repeat' first | refine Z1 rfl ?_ | refine Zc rfl rfl ?_ | refine Z0 rfl ?_ | refine Z2 ?_
    rw [← hr, h]
  · repeat' first | refine Zc rfl rfl ?_
    rw [← hr, h]
def Zkg (l : List Val) : EX → EC → St → Prop := fun x e' st' => st' = emptySt ∧ ((x = .exit 0 ∧ Z1p l = true) ∨ (x = .ret ∧ e' = .put 2 (.bool false) .nil ∧ Z1p l = false))
theorem rise2_loop (l : List Val) (p : PV) (hp : LC l p) :
    ∀ (m : Nat) (ra pre : List Val) (e : EC), ra.length ≤ m → l = pre ++ ra → Z1p l = Z1p ra → (ra ≠ [] ∨ l = []) → e.get 0 = some p → e.get 3 = some (.int .i64 (pre.length + 2)) →
    V T (PE (Zkg l)) [.code (.loop Z28)] .normal e emptySt := by
  obtain ⟨lp1, lp2, lp3⟩ := hp.len
  intro m
  induction m with
  | zero =>
    intro ra pre e hm hl hr hne h0 h3
    have hra : ra = [] := by cases ra with
      | nil => rfl
      | cons y ra => simp at hm
    have hl0 : l = [] := by rcases hne with h | h
                            · exact absurd hra h
                            · exact h
    have hpre : pre = [] := by rw [hl0] at hl; simp at hl; exact hl.1
    have out : ∀ (fr : List Fr) (x : EX) (e' : EC), Zm 200 fr x = ([], .exit 0) → V T (PE (Zkg l)) fr x e' emptySt := fun fr x e' hadv => Z18 hadv ⟨rfl, .inl ⟨rfl, by rw [hl0]; rfl⟩⟩
    refine Zn (.put 0 p (.put 3 _ .nil)) (Z3 h0 (Z3 h3 Zp)) (Zi ?_)
    repeat' first | ((with_reducible show V _ _ _ _ _ _); first | refine Z1 rfl ?_ | refine Z6v rfl rfl (fun _ => ?_) (fun _ => ?_) | refine V_D rfl ?_) | ((with_reducible show VO _ _ _ _ _ _ _); first | refine Z07 rfl lp1 lp2 ?_ | refine Z0 rfl ?_ | refine Z2 ?_) | refine Z0h rfl ?_ | refine out _ _ _ rfl
    all_goals (exfalso; clear out; subst hl0 hpre; simp at *)
  | succ m ihr =>
    intro ra pre e hm hl hr hne h0 h3
    match ra, hm, hl, hr, hne with
    | [], hm, hl, hr, hne => exact ihr [] pre e (by simp) hl hr hne h0 h3
    | [y], hm, hl, hr, hne =>
      have out : ∀ (fr : List Fr) (x : EX) (e' : EC), Zm 200 fr x = ([], .exit 0) → V T (PE (Zkg l)) fr x e' emptySt := fun fr x e' hadv => Z18 hadv ⟨rfl, .inl ⟨rfl, by rw [hr]; rfl⟩⟩
      refine Zn (.put 0 p (.put 3 _ .nil)) (Z3 h0 (Z3 h3 Zp)) (Zi ?_)
      repeat' first | ((with_reducible show V _ _ _ _ _ _); first | refine Z1 rfl ?_ | refine Z6v rfl rfl (fun _ => ?_) (fun _ => ?_) | refine V_D rfl ?_) | ((with_reducible show VO _ _ _ _ _ _ _); first | refine Z07 rfl lp1 lp2 ?_ | refine Z0 rfl ?_ | refine Z2 ?_) | refine Z0h rfl ?_ | refine out _ _ _ rfl
      all_goals (exfalso; clear out; subst hl; simp at *; try omega)
    | [y, z], hm, hl, hr, hne =>
      have out : ∀ (fr : List Fr) (x : EX) (e' : EC), Zm 200 fr x = ([], .exit 0) → V T (PE (Zkg l)) fr x e' emptySt := fun fr x e' hadv => Z18 hadv ⟨rfl, .inl ⟨rfl, by rw [hr]; rfl⟩⟩
      refine Zn (.put 0 p (.put 3 _ .nil)) (Z3 h0 (Z3 h3 Zp)) (Zi ?_)
      repeat' first | ((with_reducible show V _ _ _ _ _ _); first | refine Z1 rfl ?_ | refine Z6v rfl rfl (fun _ => ?_) (fun _ => ?_) | refine V_D rfl ?_) | ((with_reducible show VO _ _ _ _ _ _ _); first | refine Z07 rfl lp1 lp2 ?_ | refine Z0 rfl ?_ | refine Z2 ?_) | refine Z0h rfl ?_ | refine out _ _ _ rfl
      all_goals (exfalso; clear out; subst hl; simp at *)
    | y :: z :: w :: ra, hm, hl, hr, hne =>
      have hlt : pre.length + 2 < l.length := by subst hl; simp
      have hy : l[pre.length]? = some y := by subst hl; simp
      have hw : l[pre.length + 2]? = some w := by subst hl; simp
      obtain ⟨cy, ay, vy⟩ := hp.at hy
      obtain ⟨cw, aw, vw⟩ := hp.at hw
      have ply := vy.pl
      have plw := vw.pl
      have hcall := Zff vy w cw vw
      have ay' : At 4 p (IntKind.i64.wrap ((pre.length : Int) + 2 - 2)) cy := by
        have : IntKind.i64.wrap ((pre.length : Int) + 2 - 2) = (pre.length : Int) := by rw [Z03]; omega
        rw [this]; exact ay
      have aw' : At 4 p ((pre.length : Int) + 2) cw := by
        have : ((pre.length + 2 : Nat) : Int) = (pre.length : Int) + 2 := by omega
        rw [← this]; exact aw
      have hr' : Z1p l = (decide (Zd0 y w < 0) && Z1p (w :: ra)) := by rw [hr]; rfl
      generalize Zd0 y w = r at hcall hr'
      by_cases hrr : r < 0
      · have fin : ∀ (fr : List Fr) (x : EX) (e' : EC), Zm 200 fr x = ([.code (.loop Z28)], .normal) → e'.get 0 = some p → e'.get 3 = some (.int .i64 (IntKind.i64.wrap ((pre.length : Int) + 2 + 2))) → V T (PE (Zkg l)) fr x e' emptySt := fun fr x e' hadv g0 g3 => Z34 hadv (by
          have hw : IntKind.i64.wrap ((pre.length : Int) + 2 + 2) = ((pre ++ [y, z]).length : Int) + 2 := by rw [Z03]; simp; omega
          rw [hw] at g3
          exact ihr (w :: ra) (pre ++ [y, z]) e' (by simp at hm ⊢; omega) (by rw [hl]; simp) (by rw [hr', decide_eq_true hrr]; rfl) (.inl (by simp)) g0 g3)
        refine Zn (.put 0 p (.put 3 _ .nil)) (Z3 h0 (Z3 h3 Zp)) (Zi ?_)
        repeat' first | ((with_reducible show V _ _ _ _ _ _); first | refine Z1 rfl ?_ | refine Z6v rfl rfl (fun _ => ?_) (fun _ => ?_) | refine V_D rfl ?_) | ((with_reducible show VO _ _ _ _ _ _ _); first | refine Z07 rfl lp1 lp2 ?_ | refine Z0 rfl ?_ | refine Z2 ?_) | ((with_reducible show VD _ _ _ _ _ _ _); first | refine Zh3 rfl rfl ay' ?_ | refine Zh3 rfl rfl aw' ?_ | refine Z53 rfl vy.len4 ?_ | refine Z53 rfl vw.len4 ?_ | refine Z4a rfl rfl hcall ?_ | refine Z0h rfl ?_ | refine Z1k ?_) | refine fin _ _ _ rfl rfl rfl
        all_goals (exfalso; clear fin ihr hcall; simp at *; try omega)
      · have ret : ∀ (fr : List Fr) (x : EX) (e' : EC), Zm 200 fr x = ([], .ret) → e'.get 2 = some (.bool false) → V T (PE (Zkg l)) fr x e' emptySt := fun fr x e' hadv g0 =>
          Zn (.put 2 _ .nil) (Z3 g0 Zp) (Z18 hadv ⟨rfl, .inr ⟨rfl, rfl, by rw [hr', decide_eq_false hrr]; rfl⟩⟩)
        refine Zn (.put 0 p (.put 3 _ .nil)) (Z3 h0 (Z3 h3 Zp)) (Zi ?_)
        repeat' first | ((with_reducible show V _ _ _ _ _ _); first | refine Z1 rfl ?_ | refine Z6v rfl rfl (fun _ => ?_) (fun _ => ?_) | refine V_D rfl ?_) | ((with_reducible show VO _ _ _ _ _ _ _); first | refine Z07 rfl lp1 lp2 ?_ | refine Z0 rfl ?_ | refine Z2 ?_) | ((with_reducible show VD _ _ _ _ _ _ _); first | refine Zh3 rfl rfl ay' ?_ | refine Zh3 rfl rfl aw' ?_ | refine Z53 rfl vy.len4 ?_ | refine Z53 rfl vw.len4 ?_ | refine Z4a rfl rfl hcall ?_ | refine Z0h rfl ?_ | refine Z1k ?_) | refine ret _ _ _ rfl rfl
        all_goals (exfalso; clear ihr ret hcall; simp at *; try omega)
theorem run_rises2 (l : List Val) (p : PV) (hp : LC l p) : T.R (.call Z6b [p] (.bool (Z1p l))) := by
  have hl := fun e h0 h1 => rise2_loop l p hp l.length l [] e (Nat.le_refl _) rfl rfl (by cases l <;> simp) h0 h1
  generalize hr : Z1p l = r at hl ⊢
  refine Zd rfl rfl ?_
  repeat' first | refine Z3r rfl (hl _ rfl rfl) ?_ | refine Z1 rfl ?_ | refine Z0 rfl ?_ | refine Z2 ?_
  rintro x e' st' ⟨rfl, ⟨rfl, h⟩ | ⟨rfl, rfl, h⟩⟩
  · repeat' first | refine Z1 rfl ?_ | refine Zc rfl rfl ?_ | refine Z0 rfl ?_ | refine Z2 ?_
    rw [← hr, h]
  · repeat' first | refine Zc rfl rfl ?_
    rw [← hr, h]
theorem LC.el {l : List Val} {p : PV} (h : LC l p) {j : Nat} {v : Val} {cs : List PV} (hv : l[j]? = some v) (ha : At 4 p j cs) : VC v cs := by
  obtain ⟨cs', ha', hc⟩ := h.at hv
  obtain ⟨_, _, xs, f, rfl, h1⟩ := ha
  obtain ⟨_, _, ys, g, he, h2⟩ := ha'
  injection he with he1 he2
  subst he1
  rw [h1] at h2
  injection h2 with h2
  subst h2
  exact hc
theorem run_may2 : ∀ (f : Nat) (d : Int), d + f = 8 → 0 ≤ d → ∀ (v : Val) (cs : List PV), VC v cs → T.R (.call Z2p [.agg cs, .int .i64 d] (.bool (Zg f v))) := by
  intro f
  induction f with
  | zero =>
    intro d hd h0 v cs hv
    obtain ⟨k, n, s, l⟩ := v
    obtain ⟨hk, hn, hs, p, rfl, hp⟩ := hv.open
    have plp := hp.pl
    refine Zd rfl rfl ?_
    repeat' first | ((with_reducible show V _ _ _ _ _ _); first | refine Z1 rfl ?_ | refine Z6v rfl rfl (fun _ => ?_) (fun _ => ?_) | refine Zc rfl rfl ?_) | ((with_reducible show VO _ _ _ _ _ _ _); first | refine Z8 rfl ?_ | refine Z0 rfl ?_ | refine Z2 ?_ | refine Zf rfl ?_ | refine Zjd rfl ?_ | refine Z0s rfl rfl ?_ | refine Zer rfl (fun _ => ?_) (fun _ => ?_))
    · rfl
    all_goals (exfalso; simp at *; omega)
  | succ f ih =>
    intro d hd h0 v cs hv
    obtain ⟨k, n, s, l⟩ := v
    obtain ⟨hk, hn, hs, p, rfl, hp⟩ := hv.open
    have hw : IntKind.i64.wrap (d + 1) = d + 1 := by rw [Z03]; omega
    exact run_may2_step f d ⟨by omega, h0⟩ k n s l p hp (run_all2 (Zg f) d l p hp (fun j v cs hj ha => by
      rw [hw]
      exact ih (d + 1) (by omega) (by omega) v cs (hp.el hj ha))) (run_rises2 l p hp)
theorem all_any (P : Val → Bool) (l : List Val) : (l.any fun v => !P v) = !l.all P := by
  induction l with
  | nil => rfl
  | cons v l ih => simp [ih]
theorem run_may : ∀ (f : Nat) (d : Int), d + f = 9 → 0 ≤ d → ∀ (v : Val) (cs : List PV), VC v cs → T.R (.call Zch [.agg cs, .int .i64 d] (.bool (Zg f v))) := by
  intro f
  induction f with
  | zero =>
    intro d hd h0 v cs hv
    obtain ⟨k, n, s, l⟩ := v
    obtain ⟨hk, hn, hs, p, rfl, hp⟩ := hv.open
    have plp := hp.pl
    refine Zd rfl rfl ?_
    repeat' first | ((with_reducible show V _ _ _ _ _ _); first | refine Z1 rfl ?_ | refine Z6v rfl rfl (fun _ => ?_) (fun _ => ?_) | refine Zc rfl rfl ?_) | ((with_reducible show VO _ _ _ _ _ _ _); first | refine Z8 rfl ?_ | refine Z0 rfl ?_ | refine Z2 ?_ | refine Zf rfl ?_ | refine Zjd rfl ?_ | refine Z0s rfl rfl ?_ | refine Zer rfl (fun _ => ?_) (fun _ => ?_))
    · rfl
    all_goals (exfalso; simp at *; omega)
  | succ f ih =>
    intro d hd h0 v cs hv
    obtain ⟨k, n, s, l⟩ := v
    obtain ⟨hk, hn, hs, p, rfl, hp⟩ := hv.open
    have h := Zgf (fun v => !Zg f v) Z3l [.iptr [.int .i64 d] 0] (Z0b (.iptr _ _ (Z0b (.int _ _) Z2u)) Z2u) l p hp (fun j v cs hj ha =>
      run_may1 f d ⟨by omega, h0⟩ v cs (hp.el hj ha) (ih (d + 1) (by omega) (by omega) v cs (hp.el hj ha)))
    rw [all_any] at h
    exact run_may_step f d ⟨by omega, h0⟩ k n s l p hp h
def chk (v : Val) : Int := if Zg 8 v then 0 else 20
theorem run_Check2 {v : Val} {cs : List PV} (hv : VC v cs) : T.R (.call Zcj [.agg cs] (.int .i64 (chk v))) := by
  have h := run_may2 8 0 (by omega) (by omega) v cs hv
  unfold chk
  generalize Zg 8 v = r at h ⊢
  obtain ⟨k, n, s, l⟩ := v
  obtain ⟨hk, hn, hs, p, rfl, hp⟩ := hv.open
  have plp := hp.pl
  refine Zd rfl rfl ?_
  repeat' first | ((with_reducible show V _ _ _ _ _ _); first | refine Z1 rfl ?_ | refine Z6v rfl rfl (fun _ => ?_) (fun _ => ?_) | refine Zc rfl rfl ?_) | ((with_reducible show VO _ _ _ _ _ _ _); first | refine Z8 rfl ?_ | refine Z7 rfl rfl h ?_ | refine Z0 rfl ?_ | refine Z2 ?_)
  all_goals simp_all
theorem Z7t {v : Val} {cs : List PV} (hv : VC v cs) : T.R (.call n_value_Check [.agg cs] (.int .i64 (chk v))) := by
  have h := run_may 8 1 (by omega) (by omega) v cs hv
  unfold chk
  generalize Zg 8 v = r at h ⊢
  obtain ⟨k, n, s, l⟩ := v
  obtain ⟨hk, hn, hs, p, rfl, hp⟩ := hv.open
  have plp := hp.pl
  refine Zd rfl rfl ?_
  repeat' first | ((with_reducible show V _ _ _ _ _ _); first | refine Z1 rfl ?_ | refine Z6v rfl rfl (fun _ => ?_) (fun _ => ?_) | refine Zc rfl rfl ?_) | ((with_reducible show VO _ _ _ _ _ _ _); first | refine Z8 rfl ?_ | refine Z7 rfl rfl h ?_ | refine Z0 rfl ?_ | refine Z2 ?_)
  all_goals simp_all
inductive TR where
  | err (e : Int)
  | ok (v : Val) (n : Nat)
def made (v : Val) (n : Nat) : TR := if Zg 8 v then .ok v n else .err 30
def Z9q : List UInt8 → List UInt8 → Nat → TR
  | [], _, _ => .err 11
  | [b], acc, n => if b = 0 then .err 11 else .err 11
  | b :: c :: r, acc, n => if b = 0 then (if c = 1 then made (.mk 2 0 acc []) (n + 2) else if c = 255 then Z9q r (acc ++ [0]) (n + 2) else .err 30) else Z9q (c :: r) (acc ++ [b]) (n + 1)
def un8 (l : List UInt8) : Nat := l.foldl (fun u c => u * 256 + c.toNat) 0
def Z9p (u : Nat) : Int := (u : Int) - 9223372036854775808
def Z7p : List UInt8 → TR
  | [] => .err 11
  | c :: r => if c = 1 ∨ c = 6 ∨ c = 7 then (if r.length < 8 then .err 11 else made (.mk c.toNat (Z9p (un8 (r.take 8))) [] []) 9)
    else if c = 3 then (match r with
      | [] => .err 11
      | d :: _ => made (.mk 3 d.toNat [] []) 2)
    else if c = 2 then Z9q r [] 1 else .err 30
def trPV : TR → PV
  | .err e => .tuple [.agg [.int .i64 0, .int .i64 0, .str [], .nilSl], .int .i64 0, .int .i64 e]
  | .ok (.mk k n s _) m => .tuple [.agg [.int .i64 k, .int .i64 n, .str s, .nilSl], .int .i64 m, .int .i64 0]
theorem un8_snoc (l : List UInt8) (c : UInt8) : un8 (l ++ [c]) = un8 l * 256 + c.toNat := by simp [un8, List.foldl_append]
theorem foldl_lt : ∀ (l : List UInt8) (u m : Nat), u < 256 ^ m → l.foldl (fun u c => u * 256 + c.toNat) u < 256 ^ (m + l.length)
  | [], u, m, h => h
  | c :: l, u, m, h => by
    have hc := c.toNat_lt
    have h1 : u * 256 + c.toNat < 256 ^ (m + 1) := by rw [Nat.pow_succ]; omega
    have := foldl_lt l (u * 256 + c.toNat) (m + 1) h1
    simp only [List.foldl_cons, List.length_cons]
    rw [show m + (l.length + 1) = m + 1 + l.length by omega]
    exact this
theorem un8_lt (l : List UInt8) : un8 l < 256 ^ l.length := by
  have := foldl_lt l 0 0 (by decide)
  simpa [un8] using this
theorem or8 (u c : Nat) (hu : u < 72057594037927936) (hc : c < 256) : IntKind.u64.wrap ((BitVec.ofInt 64 (IntKind.u64.wrap ((u : Int) * 2 ^ (min (8 : Int).toNat IntKind.u64.bits))) ||| BitVec.ofInt 64 (IntKind.u64.wrap (c : Int))).toNat : Int) = ((u * 256 + c : Nat) : Int) := by
  have e1 : (2 : Int) ^ (min (8 : Int).toNat IntKind.u64.bits) = 256 := rfl
  have a : IntKind.u64.wrap ((u : Int) * 256) = ((u * 256 : Nat) : Int) := by rw [Z0t]; omega
  have b : IntKind.u64.wrap (c : Int) = (c : Int) := by rw [Z0t]; omega
  rw [e1, a, b, BitVec.toNat_or, BitVec.ofInt_natCast, BitVec.ofInt_natCast, BitVec.toNat_ofNat, BitVec.toNat_ofNat, Nat.mod_eq_of_lt (by omega), Nat.mod_eq_of_lt (by omega)]
  have h := Nat.shiftLeft_add_eq_or_of_lt (i := 8) (b := c) (by simpa using hc) u
  rw [Nat.shiftLeft_eq] at h
  have e3 : (2 : Nat) ^ 8 = 256 := rfl
  rw [e3] at h
  rw [← h, Z0t]
  omega
theorem unflip (u : Nat) (hu : u < 18446744073709551616) : IntKind.i64.wrap (IntKind.u64.wrap ((BitVec.ofInt 64 (u : Int) ^^^ BitVec.ofInt 64 9223372036854775808).toNat : Int)) = Z9p u := by
  rw [bv_top u hu, Z0t, Z03]
  unfold Z9p
  omega
theorem Z0v (e : Int) : T.R (.call n_codec_none [.int .i64 e] (trPV (.err e))) := by
  refine Zd rfl rfl ?_
  repeat' first | refine Z1 rfl ?_ | refine Zc rfl rfl ?_ | ((with_reducible show VO _ _ _ _ _ _ _); first | refine Z8 rfl ?_ | refine Z0 rfl ?_ | refine Z2 ?_)
  rfl
theorem run_made (k n : Int) (s : List UInt8) (m : Nat) (hk : I64 k) (hn : I64 n) (hs : s.length ≤ 140737488355328) : T.R (.call Zfu [.agg [.int .i64 k, .int .i64 n, .str s, .nilSl], .int .i64 m] (trPV (made (.mk k n s []) m))) := by
  have hchk := Z7t (VC.nil k n s hk hn hs)
  unfold made
  by_cases hm : Zg 8 (.mk k n s []) = true
  · have hc : chk (.mk k n s []) = 0 := by simp [chk, hm]
    rw [hc] at hchk
    rw [if_pos hm]
    refine Zd rfl rfl ?_
    repeat' first | ((with_reducible show V _ _ _ _ _ _); first | refine Z1 rfl ?_ | refine Zb rfl rfl ?_ | refine Zc rfl rfl ?_) | ((with_reducible show VO _ _ _ _ _ _ _); first | refine Z7 rfl rfl hchk ?_ | refine Z0 rfl ?_ | refine Z8 rfl ?_ | refine Z2 ?_)
    rfl
  · have hc : chk (.mk k n s []) = 20 := by simp [chk, hm]
    rw [hc] at hchk
    rw [if_neg hm]
    refine Zd rfl rfl ?_
    repeat' first | ((with_reducible show V _ _ _ _ _ _); first | refine Z1 rfl ?_ | refine Za rfl rfl ?_ | refine Zc rfl rfl ?_) | ((with_reducible show VO _ _ _ _ _ _ _); first | refine Z7 rfl rfl hchk ?_ | refine Z0 rfl ?_ | refine Z8 rfl ?_ | refine Z2 ?_)
    rfl
theorem run_Str (s : List UInt8) : T.R (.call Zi3 [.str s] (.agg [.int .i64 2, .int .i64 0, .str s, .nilSl])) := by
  refine Zd rfl rfl ?_
  repeat' first | refine Z1 rfl ?_ | refine Zc rfl rfl ?_ | ((with_reducible show VO _ _ _ _ _ _ _); first | refine Z8 rfl ?_ | refine Z0 rfl ?_ | refine Z2 ?_)
  rfl
theorem Zd7 : ∀ t : TR, ∃ (a b : Int) (s : List UInt8) (c d : Int), trPV t = .tuple [.agg [.int .i64 a, .int .i64 b, .str s, .nilSl], .int .i64 c, .int .i64 d]
  | .err e => ⟨_, _, _, _, _, rfl⟩
  | .ok (.mk k n s l) m => ⟨_, _, _, _, _, rfl⟩
theorem take_loop (q : PV) (l : List UInt8) (hq : BV q l) (hl8 : l.length = 8) (a b : PV) : ∀ (rest pre : List UInt8) (e : EC) (st : St), l = pre ++ rest → e.get 2 = some a → e.get 5 = some b → e.get 6 = some (.int .u64 (un8 pre : Nat)) → e.get 35 = some q → e.get 36 = some (.int .i64 8) → e.get 37 = some (.int .i64 pre.length) →
    V T (PE fun x e' st' => x = .exit 1 ∧ st' = st ∧ e' = .put 2 a (.put 5 b (.put 6 (.int .u64 (un8 l : Nat)) .nil))) [.code (.loop Z6f)] .normal e st := by
  intro rest
  induction rest with
  | nil =>
    intro pre e st hl h2 h5 h6 h35 h36 h37
    have hp8 : pre = l := by rw [hl]; simp
    have hlt : decide ((pre.length : Int) < 8) = false := decide_eq_false (by rw [hp8, hl8]; decide)
    rw [hp8] at h6
    have out : ∀ (fr : List Fr) (x : EX) (e' : EC), Zm 200 fr x = ([], .exit 1) → e'.get 2 = some a → e'.get 5 = some b → e'.get 6 = some (.int .u64 (un8 l : Nat)) → V T (PE fun x e' st' => x = .exit 1 ∧ st' = st ∧ e' = .put 2 a (.put 5 b (.put 6 (.int .u64 (un8 l : Nat)) .nil))) fr x e' st := fun fr x e' hadv g2 g5 g6 =>
      Zn (.put 2 a (.put 5 b (.put 6 _ .nil))) (Z3 g2 (Z3 g5 (Z3 g6 Zp))) (Z18 hadv ⟨rfl, rfl, rfl⟩)
    refine Zn (.put 2 a (.put 5 b (.put 6 _ (.put 36 _ (.put 37 _ .nil))))) (Z3 h2 (Z3 h5 (Z3 h6 (Z3 h36 (Z3 h37 Zp))))) (Zi ?_)
    repeat' first | refine Z2t hlt rfl rfl ?_ | refine Z1 rfl ?_ | refine Z0 rfl ?_ | refine Z2 ?_ | refine out _ _ _ rfl rfl rfl rfl
  | cons c rest ih =>
    intro pre e st hl h2 h5 h6 h35 h36 h37
    have hpl : pre.length + 1 ≤ 8 := by rw [← hl8, hl]; simp
    have hlt : decide ((pre.length : Int) < 8) = true := decide_eq_true (by omega)
    have hat := hq.at (n := (pre.length : Int)) (b := c) (by omega) (by rw [hl]; simp)
    have hw : IntKind.i64.wrap ((pre.length : Int) + 1) = ((pre ++ [c]).length : Int) := by rw [Z03]; simp; omega
    have hu : un8 pre < 72057594037927936 := by
      have h1 := un8_lt pre
      have h2 : (256 : Nat) ^ pre.length ≤ 256 ^ 7 := Nat.pow_le_pow_right (by omega) (by omega)
      have h3 : (256 : Nat) ^ 7 = 72057594037927936 := by decide
      omega
    have ho := or8 (un8 pre) c.toNat hu c.toNat_lt
    rw [← un8_snoc] at ho
    have fin : ∀ (fr : List Fr) (x : EX) (e' : EC), Zm 200 fr x = ([.code (.loop Z6f)], .normal) → e'.get 2 = some a → e'.get 5 = some b → e'.get 6 = some (.int .u64 (IntKind.u64.wrap ((BitVec.ofInt 64 (IntKind.u64.wrap (((un8 pre : Nat) : Int) * 2 ^ (min (8 : Int).toNat IntKind.u64.bits))) ||| BitVec.ofInt 64 (IntKind.u64.wrap (c.toNat : Int))).toNat : Int))) → e'.get 35 = some q → e'.get 36 = some (.int .i64 8) → e'.get 37 = some (.int .i64 (IntKind.i64.wrap ((pre.length : Int) + 1))) → V T (PE fun x e' st' => x = .exit 1 ∧ st' = st ∧ e' = .put 2 a (.put 5 b (.put 6 (.int .u64 (un8 l : Nat)) .nil))) fr x e' st := fun fr x e' hadv g2 g5 g6 g35 g36 g37 => Z34 hadv (by
      rw [hw] at g37
      rw [ho] at g6
      exact ih (pre ++ [c]) e' st (by rw [hl]; simp) g2 g5 g6 g35 g36 g37)
    refine Zn (.put 2 a (.put 5 b (.put 6 _ (.put 35 q (.put 36 _ (.put 37 _ .nil)))))) (Z3 h2 (Z3 h5 (Z3 h6 (Z3 h35 (Z3 h36 (Z3 h37 Zp)))))) (Zi ?_)
    clear ih
    repeat' first | refine Z22 hlt rfl rfl ?_ | refine Z1 rfl ?_ | ((with_reducible show VO _ _ _ _ _ _ _); first | refine Zq rfl rfl hat ?_ | refine Z0 rfl ?_ | refine Z2 ?_) | refine fin _ _ _ rfl rfl rfl rfl rfl rfl rfl
theorem strR_ne {b : UInt8} (hb : b ≠ 0) (r acc : List UInt8) (n : Nat) : Z9q (b :: r) acc n = Z9q r (acc ++ [b]) (n + 1) := by
  cases r with
  | nil => simp [Z9q]
  | cons c r => simp only [Z9q]; rw [if_neg hb]
theorem strR_app : ∀ (x y acc : List UInt8) (n : Nat), x.count 0 = 0 → Z9q (x ++ y) acc n = Z9q y (acc ++ x) (n + x.length)
  | [], y, acc, n, _ => by simp
  | b :: x, y, acc, n, h => by
    rw [List.count_cons] at h
    have hb : b ≠ 0 := by rintro rfl; simp at h
    rw [List.cons_append, strR_ne hb, strR_app x y _ _ (by omega)]
    simp only [List.append_assoc, List.cons_append, List.nil_append, List.length_cons]
    congr 1
    omega
theorem RB.elems {st : St} {v : PV} {s : List UInt8} (h : RB st v s) : Z1b st.get v = some (Z5 s) := by
  have := h.src
  rcases h with ⟨rfl, _⟩ | ⟨f, rfl⟩ | ⟨t, g, lv, rfl, _⟩ <;> exact this
theorem O_toStrA {T : Tb} {Q : Z41} {k : List Fr} {ρ : EC} {st : St} {l : List POp} {kill : List Nat} {d : Option Nat} {x : Opd} {v : PV} {s : List UInt8} (hx : x.get ρ = some v) (hv : Z1b st.get v = some (Z5 s)) (h : VO T Q l kill k (ρ.sets d (.str s)) st) : VO T Q (⟨d, none, .toStr x⟩ :: l) kill k ρ st :=
  Z0 (by simp only [Zj, Z5e, hx, hv, Option.bind_some, Z5k, Option.map_some]) h
def AccR (st : St) (v : PV) (b : List UInt8) : Prop := AccT 1 st v (Z5 b) ∧ 0 < st.next ∧ Z0q v ≠ some 0 ∧ ∃ c0 c1 c2 c3, st.get 0 = some (.var [c0, c1, c2, c3])
theorem AccR.grow {st : St} {v : PV} {b : List UInt8} (h : AccR st v b) (c : List UInt8) (hne : c ≠ []) (hr : b.length + c.length ≤ 140737488355328) : ∃ v' st', Z0d st 1 1 v (Z5 c) = some (v', st') ∧ AccR st' v' (b ++ c) := by
  obtain ⟨hA, hn, ht, c0, c1, c2, c3, hg⟩ := h
  obtain ⟨v', st', k1, k2, k3⟩ := hA.grow (bytes := 1) (src := Z5 c) (by simpa [Z5] using hne) (by simp only [Z02, Z06]; omega)
  rw [← Z0f] at k2
  refine ⟨v', st', k1, k2, by have := k3.2.1; omega, ?_, c0, c1, c2, c3, by rw [k3.2.2.2 0 hn ht]; exact hg⟩
  rcases k3.2.2.1 with h | ⟨m, h, hm⟩
  · rw [h]; exact ht
  · rw [h]; intro e; injection e; omega
end Go.Proofs.YtgdjnlopdpjnaaaGreatDoor
