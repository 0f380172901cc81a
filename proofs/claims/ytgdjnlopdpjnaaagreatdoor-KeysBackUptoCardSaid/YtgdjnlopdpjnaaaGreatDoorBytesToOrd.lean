/- Bytes: a copy, whether alike, whether a beginning. · num.Put: a number's bytes. · Names: value.Name. · slices.Clone and num.Put, whatever is one's own already. · bytes.ReplaceAll of a nought by a nought and 255. · Values: what they are over plain cells; how two stand. · Names: rambleref02.Name. · How values stand: plain laws. -/
import Derived.Test.YtgdjnlopdpjnaaaGreatDoorT
import Derived.Test.YtgdjnlopdpjnaaaGreatDoorAmZ
import Derived.Lib.SlTrimSet
set_option linter.unusedVariables false
set_option linter.unusedSimpArgs false
namespace Go.Proofs.YtgdjnlopdpjnaaaGreatDoor
open Go Go.AM Go.RowKit
theorem run_Equal {v w : PV} {s t : List UInt8} (hv : BV v s) (hw : BV w t) : T.R (.call n_bytes_Equal [v, w] (.bool (decide (s = t)))) := by
  refine Zd rfl rfl ?_
  repeat' first | refine Z1 rfl ?_ | refine Zc rfl rfl ?_ | ((with_reducible show VO _ _ _ _ _ _ _); first | refine O_toStr rfl (by assumption) ?_ | refine Z0 rfl ?_ | refine Z2 ?_)
  rfl
def Z8b : Nat → Nat → List UInt8
  | 0, u => [UInt8.ofNat u]
  | n + 1, u => if u < 128 then [UInt8.ofNat u] else UInt8.ofNat (u % 128 + 128) :: Z8b n (u / 128)
theorem or128 (u : Nat) : IntKind.u8.wrap ((BitVec.ofInt 8 (IntKind.u8.wrap (u : Int)) ||| BitVec.ofInt 8 128).toNat : Int) = ((UInt8.ofNat (u % 128 + 128)).toNat : Int) := by
  have h1 : IntKind.u8.wrap (u : Int) = ((u % 256 : Nat) : Int) := by rw [Zc0]; omega
  rw [h1, Zc0]
  have h2 : ∀ b : BitVec 8, (b ||| 128#8).toNat = b.toNat % 128 + 128 := by decide
  have h3 : BitVec.ofInt 8 ((u % 256 : Nat) : Int) = BitVec.ofNat 8 (u % 256) := by rw [BitVec.ofInt_natCast]
  have h4 : BitVec.ofInt 8 128 = 128#8 := rfl
  rw [h3, h4, h2]
  simp [BitVec.toNat_ofNat, UInt8.toNat_ofNat']
theorem shr7 (u : Nat) : Int.fdiv (u : Int) (2 ^ (min (7 : Int).toNat IntKind.u64.bits)) = ((u / 128 : Nat) : Int) := by
  show Int.fdiv (u : Int) 128 = _
  rw [Int.fdiv_eq_ediv_of_nonneg _ (by omega)]
  omega
def Z6k (c : UInt8) : Bool := c == 95 || (decide (97 ≤ c.toNat) && decide (c.toNat ≤ 122)) || (decide (65 ≤ c.toNat) && decide (c.toNat ≤ 90))
def isDg (c : UInt8) : Bool := decide (48 ≤ c.toNat) && decide (c.toNat ≤ 57)
def Z2o : List UInt8 → Bool
  | [] => false
  | c :: r => decide ((c :: r).length ≤ 24) && Z6k c && (c :: r).all fun c => Z6k c || isDg c
def nameSet : List UInt8 := [97, 98, 99, 100, 101, 102, 103, 104, 105, 106, 107, 108, 109, 110, 111, 112, 113, 114, 115, 116, 117, 118, 119, 120, 121, 122, 65, 66, 67, 68, 69, 70, 71, 72, 73, 74, 75, 76, 77, 78, 79, 80, 81, 82, 83, 84, 85, 86, 87, 88, 89, 90, 48, 49, 50, 51, 52, 53, 54, 55, 56, 57, 95]
theorem u8_all {P : UInt8 → Prop} (h : ∀ n : Nat, n < 256 → P (UInt8.ofNat n)) (c : UInt8) : P c := by
  have := h c.toNat c.toNat_lt
  simpa using this
theorem set_is : ∀ c : UInt8, nameSet.contains c = (Z6k c || isDg c) := u8_all (by decide +kernel)
theorem set_ascii : ∀ c ∈ nameSet, c.toNat < 128 := by decide +kernel
theorem dropWhile_nil {α : Type} {p : α → Bool} : ∀ {l : List α}, l.dropWhile p = [] ↔ ∀ c ∈ l, p c = true
  | [] => by simp
  | a :: l => by
    rw [List.dropWhile_cons]
    cases h : p a with
    | true => rw [if_pos rfl, dropWhile_nil]; simp [h]
    | false => simp [h]
theorem Zen {α : Type} {p : α → Bool} : ∀ {l : List α}, (∀ c ∈ l.dropWhile p, p c = true) → l.dropWhile p = []
  | [], _ => rfl
  | a :: l, h => by
    rw [List.dropWhile_cons] at h ⊢
    cases hp : p a with
    | true =>
      rw [hp, if_pos rfl] at h
      rw [if_pos rfl]
      exact Zen h
    | false =>
      rw [hp, if_neg (by simp)] at h
      have := h a (by simp)
      rw [hp] at this
      cases this
theorem trim_nil (l cs : List UInt8) : Lib.trimS l cs = [] ↔ l.all (cs.contains ·) = true := by
  unfold Lib.trimS Lib.trimLeftS
  rw [dropWhile_nil, List.all_eq_true]
  unfold Lib.trimRightS
  constructor
  · intro h
    have h1 : l.reverse.dropWhile (cs.contains ·) = [] := Zen fun c hc => h c (by simpa using hc)
    intro c hc
    exact dropWhile_nil.1 h1 c (by simpa using hc)
  · intro h c hc
    have h1 : l.reverse.dropWhile (cs.contains ·) = [] := dropWhile_nil.2 fun c hc => h c (by simpa using hc)
    rw [h1] at hc
    simp at hc
theorem run_Name {s : List UInt8} (hs : s.length ≤ 140737488355328) : T.R (.call Zfs [.str s] (.bool (Z2o s))) := by
  have ht : T.R (.call Zbs [.str s, .str nameSet] (.str (Lib.trimS s nameSet))) := .prim _ _ _ ⟨rfl, s, nameSet, by omega, by decide, set_ascii, rfl, rfl⟩
  have hn : decide (Lib.trimS s nameSet = []) = s.all fun c => Z6k c || isDg c := by
    rw [Bool.eq_iff_iff, decide_eq_true_eq, trim_nil]
    have : (fun c => nameSet.contains c) = fun c => Z6k c || isDg c := funext set_is
    rw [show s.all (nameSet.contains ·) = s.all (fun c => Z6k c || isDg c) from congrArg _ this]
  generalize Lib.trimS s nameSet = tr at ht hn
  cases s with
  | nil =>
    refine Zd rfl rfl ?_
    repeat' first | ((with_reducible show V _ _ _ _ _ _); first | refine Z1 rfl ?_ | refine Za rfl rfl ?_ | refine Zc rfl rfl ?_) | ((with_reducible show VO _ _ _ _ _ _ _); first | refine Z0 rfl ?_ | refine Z2 ?_ | refine Zjd rfl ?_ | refine Z0s rfl rfl ?_)
    rfl
  | cons c r =>
    have hne : ¬ (c :: r) = [] := by simp
    have hch : (c :: r)[(0 : Int).toNat]? = some c := rfl
    show T.R (.call Zfs [.str (c :: r)] (.bool (decide ((c :: r).length ≤ 24) && Z6k c && (c :: r).all fun c => Z6k c || isDg c)))
    by_cases hl : 24 < (c :: r).length
    · have h1 : ((24 : Int) < ((c :: r).length : Int)) := by omega
      rw [decide_eq_false (by omega : ¬ (c :: r).length ≤ 24)]
      refine Zd rfl rfl ?_
      repeat' first | ((with_reducible show V _ _ _ _ _ _); first | refine Z1 rfl ?_ | refine Za rfl rfl ?_ | refine Zc rfl rfl ?_) | ((with_reducible show VO _ _ _ _ _ _ _); first | refine Z4 (Zh hne) rfl ?_ | refine Z4 (Zs h1) rfl ?_ | refine Z0 rfl ?_ | refine Z2 ?_ | refine Zf rfl ?_ | refine Zjd rfl ?_ | refine Z0s rfl rfl ?_)
      rfl
    · have h1 : ¬ ((24 : Int) < ((c :: r).length : Int)) := by omega
      rw [decide_eq_true (by omega : (c :: r).length ≤ 24)]
      by_cases hd : isDg c = true
      · have hd' := hd
        unfold isDg at hd'
        simp only [Bool.and_eq_true, decide_eq_true_eq] at hd'
        have h2 : (48 : Int) ≤ (c.toNat : Int) := by omega
        have h3 : (c.toNat : Int) ≤ 57 := by omega
        have hnl : Z6k c = false := by
          unfold Z6k
          simp only [Bool.or_eq_false_iff, Bool.and_eq_false_iff, beq_eq_false_iff_ne, decide_eq_false_iff_not]
          refine ⟨⟨fun e => ?_, .inl (by omega)⟩, .inl (by omega)⟩
          subst e
          have : (95 : UInt8).toNat = 95 := rfl
          omega
        rw [hnl]
        refine Zd rfl rfl ?_
        repeat' first | ((with_reducible show V _ _ _ _ _ _); first | refine Z1 rfl ?_ | refine Za rfl rfl ?_ | refine Zc rfl rfl ?_) | ((with_reducible show VO _ _ _ _ _ _ _); first | refine Z4 (Zh hne) rfl ?_ | refine Z4 (Zh h1) rfl ?_ | refine O_chr c rfl rfl (by decide) hch ?_ | refine Z4 (Zs h2) rfl ?_ | refine Z4 (Zs h3) rfl ?_ | refine Z0 rfl ?_ | refine Z2 ?_ | refine Zf rfl ?_)
        rfl
      · have hkey : (Z6k c && (c :: r).all fun c => Z6k c || isDg c) = (c :: r).all fun c => Z6k c || isDg c := by
          cases hlc : Z6k c with
          | true => rfl
          | false => simp [hlc, hd]
        rw [Bool.and_assoc, hkey, Bool.true_and, ← hn]
        have hw : decide ((48 : Int) ≤ (c.toNat : Int)) = true → decide ((c.toNat : Int) ≤ 57) = true → False := fun a b => hd (by
          have a := of_decide_eq_true a
          have b := of_decide_eq_true b
          unfold isDg
          simp only [Bool.and_eq_true, decide_eq_true_eq]
          omega)
        refine Zd rfl rfl ?_
        repeat' first | ((with_reducible show V _ _ _ _ _ _); first | refine Z1 rfl ?_ | refine Zb rfl rfl ?_ | refine Z6v rfl rfl (fun _ => ?_) (fun _ => ?_) | refine Zc rfl rfl ?_) | ((with_reducible show VO _ _ _ _ _ _ _); first | refine Z4 (Zh hne) rfl ?_ | refine Z4 (Zh h1) rfl ?_ | refine O_chr c rfl rfl (by decide) hch ?_ | refine Z7 rfl rfl ht ?_ | refine Z0 rfl ?_ | refine Z2 ?_ | refine Zf rfl ?_ | refine Z0s rfl rfl ?_ | refine Zer rfl (fun _ => ?_) (fun _ => ?_))
        all_goals first | rfl | (exfalso; apply hw <;> assumption)
theorem cloneG {st : St} {v : PV} {s : List UInt8} (hv : RB st v s) (hl : s.length ≤ 140737488355328) : ∃ v' st', T.R (.raw Z3b [v] st v' st') ∧ AccT 1 st' v' (Z5 s) ∧ Grow st .nilSl st' v' := by
  have hsrc : Z6r (st.new (.row 0 1 [] true)) v = some (Z5 s) := (hv.keep (st' := st.new (.row 0 1 [] true)) (by simp [St.new]) (fun u hu => St.get_new_old (hv.lt hu))).src
  refine Z1f rfl rfl ?_
  by_cases hn : v = .nilSl
  · subst hn
    have hs : s = [] := by
      rcases hv with ⟨_, h⟩ | ⟨f, h⟩ | ⟨t, g, lv, h, _⟩
      · exact h
      · cases h
      · cases h
    subst hs
    repeat' first | ((with_reducible show V _ _ _ _ _ _); first | refine Z08 rfl rfl ?_ | refine Z1 rfl ?_ | refine Za rfl rfl ?_) | refine Z0 rfl ?_ | refine Z2 ?_
    exact ⟨.inl ⟨rfl, rfl⟩, .refl _ _⟩
  · have hnn : isNil 0 v = some false := by
      rcases hv with ⟨h, _⟩ | ⟨f, rfl⟩ | ⟨t, g, lv, rfl, _⟩
      · exact absurd h hn
      · rfl
      · rfl
    have hq : ∀ (e : EC), e.get 3 = some v → Zj st.get e (.eqNil false 0 (.t 3)) = some (.bool false) := fun e he => by
      simp only [Zj, Z5e, Opd.get, he, hnn]
      rfl
    have hg0 : AccT 1 (st.new (.row 0 1 [] true)) (.osl st.next 0 0 (([] : List (List PV)).length) false) [] := .inr ⟨st.next, 0, rfl, St.get_new, by simp [St.new]⟩
    have hgr : Grow st .nilSl (st.new (.row 0 1 [] true)) (.osl st.next 0 0 (([] : List (List PV)).length) false) := ⟨rfl, by simp [St.new], .inr ⟨st.next, rfl, Nat.le_refl _⟩, fun u hu _ => St.get_new_old hu⟩
    by_cases hs : s = []
    · subst hs
      repeat' first | ((with_reducible show V _ _ _ _ _ _); first | refine Z08 rfl rfl ?_ | refine Z1 rfl ?_ | refine Zb rfl rfl ?_) | ((with_reducible show VO _ _ _ _ _ _ _); first | refine Z0 (hq _ rfl) ?_ | refine Z04 rfl rfl hsrc (Z00 _) (by decide) (by decide) (Z2s (.inr (.inr ⟨_, _, _, _, _, rfl⟩))) ?_ | refine Z8 rfl ?_ | refine Z0 rfl ?_ | refine Z2 ?_)
      exact ⟨hg0, hgr⟩
    · obtain ⟨v', st', k1, k2, k3⟩ := hg0.grow (bytes := 1) (src := Z5 s) (by simpa [Z5] using hs) (by simp only [Z02, Z06, List.length_nil]; omega)
      repeat' first | ((with_reducible show V _ _ _ _ _ _); first | refine Z08 rfl rfl ?_ | refine Z1 rfl ?_ | refine Zb rfl rfl ?_) | ((with_reducible show VO _ _ _ _ _ _ _); first | refine Z0 (hq _ rfl) ?_ | refine Z04 rfl rfl hsrc (Z00 _) (by decide) (by decide) k1 ?_ | refine Z8 rfl ?_ | refine Z0 rfl ?_ | refine Z2 ?_)
      exact ⟨by simpa using k2, hgr.trans k3⟩
def putP (n u : Nat) (es : List (List PV)) (st : St) (v : PV) : EX → EC → St → Prop := fun x e' st' => x = .exit 0 ∧ ∃ (v' : PV) (u' : Nat) (pre : List UInt8), e' = .put 1 (.int .u64 u') (.put 5 v' .nil) ∧ AccT 1 st' v' (es ++ Z5 pre) ∧ Grow st v st' v' ∧ pre ++ [UInt8.ofNat u'] = Z8b n u ∧ u' < 128 ∧ pre.length ≤ n
theorem put_loopG : ∀ (n u : Nat) (es : List (List PV)) (e : EC) (st : St) (v : PV), u < 128 ^ (n + 1) → e.get 1 = some (.int .u64 u) → e.get 5 = some v → AccT 1 st v es → es.length + n ≤ 140000000000000 →
    V T (PE (putP n u es st v)) [.code (.loop Zfw)] .normal e st := by
  intro n
  induction n with
  | zero =>
    intro u es e st v hu h1 h5 hacc hb
    refine Zn (.put 1 (.int .u64 u) (.put 5 v .nil)) (Z3 h1 (Z3 h5 Zp)) (Zi ?_)
    repeat' first | refine Z1 rfl ?_ | refine Z6v rfl rfl (fun _ => ?_) (fun _ => ?_) | refine Z0 rfl ?_ | refine Z2 ?_
    · rename_i h
      simp at h; omega
    · exact Zn (.put 1 (.int .u64 u) (.put 5 v .nil)) (Z3 rfl (Z3 rfl Zp)) (Z18 rfl ⟨rfl, v, u, [], rfl, by simpa [Z5] using hacc, .refl _ _, rfl, by simpa using hu, by simp⟩)
  | succ n ih =>
    intro u es e st v hu h1 h5 hacc hb
    refine Zn (.put 1 (.int .u64 u) (.put 5 v .nil)) (Z3 h1 (Z3 h5 Zp)) (Zi ?_)
    repeat' first | refine Z1 rfl ?_ | refine Z6v rfl rfl (fun _ => ?_) (fun _ => ?_) | refine Z0 rfl ?_ | refine Z2 ?_
    · rename_i h
      have hge : ¬ u < 128 := by simp at h; omega
      obtain ⟨v', st', k1, k2, k3⟩ := hacc.grow (bytes := 1) (src := [[.int .u8 (IntKind.u8.wrap ((BitVec.ofInt 8 (IntKind.u8.wrap (u : Int)) ||| BitVec.ofInt 8 128).toNat : Int))]]) (by simp) (by simp [Z06]; omega)
      refine Z04 rfl rfl rfl rfl (by decide) (by decide) k1 ?_
      repeat' first | refine Z1 rfl ?_ | refine Z0 rfl ?_ | refine Z2 ?_
      refine Z8q (ih (u / 128) _ _ _ v' (by rw [Nat.pow_succ] at hu; omega) (by
        show some (PV.int .u64 (Int.fdiv (u : Int) (2 ^ (min (7 : Int).toNat IntKind.u64.bits)))) = _
        rw [shr7]) rfl k2 (by simp; omega)) ?_
      rintro x e' st'' ⟨hx, v'', u', pre, he, hA, hG, hpre, hu', hlen⟩
      refine ⟨hx, v'', u', UInt8.ofNat (u % 128 + 128) :: pre, he, ?_, k3.trans hG, ?_, hu', by simp; omega⟩
      · rw [or128] at hA
        simpa [Z5] using hA
      · simp only [Z8b, if_neg hge, List.cons_append, hpre]
    · rename_i h
      have hlt : u < 128 := by simp at h; omega
      exact Zn (.put 1 (.int .u64 u) (.put 5 v .nil)) (Z3 rfl (Z3 rfl Zp)) (Z18 rfl ⟨rfl, v, u, [], rfl, by simpa [Z5] using hacc, .refl _ _, by simp [Z8b, hlt], hlt, by simp⟩)
theorem putG {st : St} {b : PV} {s : List UInt8} (hbn : st.base = st.next) (hv : RB st b s) (hs : s.length ≤ 100000000000000) (u : Nat) (hu : u < 18446744073709551616) :
    ∃ v' st', T.R (.raw n_num_Put [b, .int .u64 u] st v' st') ∧ AccT 1 st' v' (Z5 (s ++ Z8b 9 u)) ∧ Grow st .nilSl st' v' := by
  have hv0 : RB ⟨st.next, st.next, st.toks⟩ b s := hv.keep (Nat.le_refl _) (fun _ _ => rfl)
  obtain ⟨v1, st1, h1, h2, h3⟩ := cloneG hv0 (by omega)
  have hgr : Grow st .nilSl ⟨st.base, st1.next, st1.toks⟩ v1 := ⟨rfl, h3.2.1, h3.2.2.1, h3.2.2.2⟩
  have hacc : AccT 1 ⟨st.base, st1.next, st1.toks⟩ v1 (Z5 s) := h2
  refine Z1f rfl rfl ?_
  repeat' first | refine Z1 rfl ?_ | ((with_reducible show VO _ _ _ _ _ _ _); first | refine Z0j h1 h3.1 rfl rfl ?_ | refine Z0 rfl ?_ | refine Z2 ?_)
  refine Z3r rfl (put_loopG 9 u (Z5 s) _ _ v1 (by omega) rfl rfl hacc (by rw [Z02]; omega)) ?_
  rintro x e' st' ⟨rfl, v', u', pre, rfl, hA, hG, hpre, hu', hlen⟩
  have hcell : [[PV.int .u8 (IntKind.u8.wrap (u' : Int))]] = Z5 [UInt8.ofNat u'] := by
    rw [Zc0]
    simp [Z5]
  obtain ⟨w, st2, k1, k2, k3⟩ := hA.grow (bytes := 1) (src := [[.int .u8 (IntKind.u8.wrap (u' : Int))]]) (by simp) (by simp [Z06, Z5]; omega)
  repeat' first | refine Z08 rfl rfl ?_ | refine Z1 rfl ?_ | ((with_reducible show VO _ _ _ _ _ _ _); first | refine Z04 rfl rfl rfl rfl (by decide) (by decide) k1 ?_ | refine Z0 rfl ?_ | refine Z2 ?_)
  rw [hcell, ← Z0f, ← Z0f, List.append_assoc, hpre] at k2
  exact ⟨k2, hgr.trans (hG.trans k3)⟩
def Zk (s : List UInt8) : List UInt8 := s.flatMap fun b => if b = 0 then [0, 255] else [b]
theorem Zf9 (a b : List UInt8) : Zk (a ++ b) = Zk a ++ Zk b := by simp [Zk]
theorem Zar : ∀ s : List UInt8, (Zk s).length = s.length + s.count 0
  | [] => rfl
  | b :: s => by
    have ih := Zar s
    unfold Zk at ih ⊢
    rw [List.flatMap_cons, List.length_append, ih, List.count_cons]
    by_cases h : b = 0
    · subst h; simp; omega
    · simp [h]; omega
theorem Zhc : ∀ {s : List UInt8}, s.count 0 = 0 → Zk s = s
  | [], _ => rfl
  | b :: s, h => by
    rw [List.count_cons] at h
    have hb : b ≠ 0 := by rintro rfl; simp at h
    have ih := Zhc (s := s) (by omega)
    unfold Zk at ih ⊢
    rw [List.flatMap_cons, ih]
    simp [hb]
theorem idx_spec : ∀ a : List UInt8, (Lib.indexByte a 0 = -1 ∧ a.count 0 = 0) ∨ ∃ x y, a = x ++ 0 :: y ∧ x.count 0 = 0 ∧ Lib.indexByte a 0 = x.length
  | [] => .inl ⟨rfl, rfl⟩
  | b :: a => by
    by_cases hb : b = 0
    · subst hb
      exact .inr ⟨[], a, rfl, rfl, rfl⟩
    · unfold Lib.indexByte
      rw [if_neg (by simpa using hb)]
      rcases idx_spec a with ⟨h1, h2⟩ | ⟨x, y, rfl, h2, h3⟩
      · rw [h1]
        exact .inl ⟨rfl, by rw [List.count_cons, h2]; simp [hb]⟩
      · refine .inr ⟨b :: x, y, rfl, by rw [List.count_cons, h2]; simp [hb], ?_⟩
        rw [h3, if_neg (by simp)]
        simp
theorem Zdi {p : PV} {a : List UInt8} (hp : BV p a) (c : Int) : T.R (.call Zf1 [p, .int .u8 c] (.int .i64 (Lib.indexByte a c.toNat.toUInt8))) := by
  have hx : T.ext Z36 [p, .int .u8 c] (.int .i64 (Lib.indexByte a c.toNat.toUInt8)) := X_idxB ⟨rfl, p, a, c, rfl, hp, rfl⟩
  generalize Lib.indexByte a c.toNat.toUInt8 = r at hx ⊢
  have plp := hp.pl
  refine Zd rfl rfl ?_
  repeat' first | refine Z1 rfl ?_ | refine Zc rfl rfl ?_ | ((with_reducible show VO _ _ _ _ _ _ _); first | refine O_extP rfl rfl (Z1h) rfl hx ?_ | refine Z0 rfl ?_ | refine Z2 ?_)
  rfl
theorem run_Index1 {p : PV} {a : List UInt8} (hp : BV p a) (f : Bool) : T.R (.call n_bytes_Index [p, .sl [[.int .u8 0]] f] (.int .i64 (Lib.indexByte a 0))) := by
  have hx := Zdi hp 0
  rw [show (0 : Int).toNat.toUInt8 = 0 from rfl] at hx
  generalize Lib.indexByte a 0 = r at hx ⊢
  have plp := hp.pl
  refine Zd rfl rfl ?_
  repeat' first | ((with_reducible show V _ _ _ _ _ _); first | refine Z1 rfl ?_ | refine Za rfl rfl ?_ | refine Zb rfl rfl ?_ | refine Zc rfl rfl ?_) | ((with_reducible show VO _ _ _ _ _ _ _); first | refine Z7 rfl rfl hx ?_ | refine Z0 rfl ?_ | refine Z2 ?_)
  rfl
theorem run_Count1 {p : PV} {a : List UInt8} (hp : BV p a) (f : Bool) : T.R (.call n_bytes_Count [p, .sl [[.int .u8 0]] f] (.int .i64 (a.count 0 : Nat))) := by
  have hx : T.ext Z6d [p, .int .u8 0] (.int .i64 (a.count 0 : Nat)) := X_cntB ⟨rfl, p, a, 0, rfl, hp, rfl⟩
  generalize ((a.count 0 : Nat) : Int) = r at hx ⊢
  have plp := hp.pl
  refine Zd rfl rfl ?_
  repeat' first | ((with_reducible show V _ _ _ _ _ _); first | refine Z1 rfl ?_ | refine Za rfl rfl ?_ | refine Zb rfl rfl ?_ | refine Zc rfl rfl ?_) | ((with_reducible show VO _ _ _ _ _ _ _); first | refine O_extP rfl rfl (Z1h) rfl hx ?_ | refine Z0 rfl ?_ | refine Z2 ?_)
  rfl
def rowS (es : List (List PV)) : St := ⟨0, 1, [(0, .row 0 1 es true)]⟩
def zr (k : Nat) : List (List PV) := List.replicate k [.int .u8 0]
theorem copyR (a b : List UInt8) (k N : Nat) (hN : N = a.length + k) (hb : b.length ≤ k) (f : Bool) :
    Zg3 (rowS (Z5 a ++ zr k)) 1 (.osl 0 0 a.length (N - a.length) f) (Z5 b) = some (.int .i64 b.length, rowS (Z5 (a ++ b) ++ zr (k - b.length))) := by
  rw [copy_own (g := 0) (es := Z5 a ++ zr k) rfl (by simp [Z5, zr]; omega) (by rw [Z02]; omega)]
  rw [Z02]
  congr 2
  have e1 : (Z5 a ++ zr k).take a.length = Z5 a := by
    rw [← Z02 a, List.take_left]
  have e2 : (Z5 a ++ zr k).drop (a.length + b.length) = zr (k - b.length) := by
    rw [← Z02 a, ← List.drop_drop, List.drop_left]
    simp [zr]
  rw [e1, e2, Z0f]
  rfl
theorem winR (es : List (List PV)) (w N : Nat) (hw : w ≤ N) : sliceSl? (rowS es).get 1 (some (.int .i64 (w : Int))) none none (.osl 0 0 0 N false) = some (.osl 0 0 w (N - w) false) := by
  rw [slice_osl_lo (look := (rowS es).get) (sz := 1) (es := es) (lv := true) rfl (by omega) (by omega)]
  simp
def eR (p oldV newV : PV) (N : Nat) (done : List UInt8) : EC := .put 0 p (.put 10 (.osl 0 0 0 N false) (.put 11 (.int .i64 (Zk done).length) (.put 12 (.int .i64 done.length) .nil)))
def replP (p : PV) (s : List UInt8) (N : Nat) : EX → EC → St → Prop := fun x e' st' => x = .exit 0 ∧ ∃ done rest, s = done ++ rest ∧ rest.count 0 = 0 ∧ e' = eR p .junk .junk N done ∧ st' = rowS (Z5 (Zk done) ++ zr (N - (Zk done).length))
theorem repl_loop (p : PV) (s : List UInt8) (hp : BV p s) (N : Nat) (hN : N = s.length + s.count 0) (hs : s.length ≤ 1000) (fo fn : Bool) :
    ∀ (c : Nat) (done rest : List UInt8) (e : EC), s = done ++ rest → rest.count 0 = c → e.get 0 = some p → e.get 1 = some (.sl [[.int .u8 0]] fo) → e.get 2 = some (.sl [[.int .u8 0], [.int .u8 255]] fn) → e.get 10 = some (.osl 0 0 0 N false) → e.get 11 = some (.int .i64 (Zk done).length) → e.get 12 = some (.int .i64 done.length) → e.get 48 = some (.int .i64 (s.count 0 : Nat)) → e.get 49 = some (.int .i64 (done.count 0 : Nat)) →
    V T (PE (replP p s N)) [.code (.loop Z3m)] .normal e (rowS (Z5 (Zk done) ++ zr (N - (Zk done).length))) := by
  have hcl : s.count 0 ≤ s.length := List.count_le_length
  intro c
  induction c with
  | zero =>
    intro done rest e hsd hc h0 h1 h2 h10 h11 h12 h48 h49
    have hcd : done.count 0 = s.count 0 := by rw [hsd, List.count_append]; omega
    have out : ∀ (fr : List Fr) (x : EX) (e' : EC), Zm 200 fr x = ([], .exit 0) → e'.get 0 = some p → e'.get 10 = some (.osl 0 0 0 N false) → e'.get 11 = some (.int .i64 (Zk done).length) → e'.get 12 = some (.int .i64 done.length) → V T (PE (replP p s N)) fr x e' (rowS (Z5 (Zk done) ++ zr (N - (Zk done).length))) := fun fr x e' hadv g0 g10 g11 g12 =>
      Zn (eR p .junk .junk N done) (Z3 g0 (Z3 g10 (Z3 g11 (Z3 g12 Zp)))) (Z18 hadv ⟨rfl, done, rest, hsd, hc, rfl, rfl⟩)
    have hlt : decide (((done.count 0 : Nat) : Int) < (s.count 0 : Nat)) = false := decide_eq_false (by omega)
    refine Zn (.put 0 p (.put 10 _ (.put 11 _ (.put 12 _ (.put 48 _ (.put 49 _ .nil)))))) (Z3 h0 (Z3 h10 (Z3 h11 (Z3 h12 (Z3 h48 (Z3 h49 Zp)))))) (Zi ?_)
    repeat' first | refine Z2t hlt rfl rfl ?_ | refine Z1 rfl ?_ | refine Z0 rfl ?_ | refine Z2 ?_ | refine out _ _ _ rfl rfl rfl rfl rfl
  | succ c ih =>
    intro done rest e hsd hc h0 h1 h2 h10 h11 h12 h48 h49
    have hcd : done.count 0 + (c + 1) = s.count 0 := by rw [hsd, List.count_append]; omega
    have hlt : decide (((done.count 0 : Nat) : Int) < (s.count 0 : Nat)) = true := decide_eq_true (by omega)
    rcases idx_spec rest with ⟨_, h⟩ | ⟨x, y, hxy, hx0, hidx⟩
    · omega
    have hdl : done.length + x.length + 1 ≤ s.length := by rw [hsd, hxy]; simp; omega
    have hel : (Zk done).length + x.length + 2 ≤ N := by
      rw [Zar, hN, hsd, hxy]; simp [List.count_append]; omega
    obtain ⟨v1, hv1, hb1⟩ := hp.lo (rowS (Z5 (Zk done) ++ zr (N - (Zk done).length))).get (k := .i64) (m := done.length) (by omega) (by omega)
    rw [Int.toNat_natCast, hsd, List.drop_left] at hb1
    have hcall := run_Index1 hb1 fo
    rw [hidx] at hcall
    have pl1 := hb1.pl
    have hj : IntKind.i64.wrap ((done.length : Int) + x.length) = ((done.length + x.length : Nat) : Int) := by rw [Z03]; omega
    have hwin := winR (Z5 (Zk done) ++ zr (N - (Zk done).length)) (Zk done).length N (by omega)
    have hwinB := winR (Z5 (Zk done ++ x) ++ zr (N - (Zk done).length - x.length)) (Zk done).length N (by omega)
    obtain ⟨v2, hv2, hb2⟩ := hp.lohi (rowS (Z5 (Zk done) ++ zr (N - (Zk done).length))).get (k := .i64) (k' := .i64) (m := done.length) (m' := ((done.length + x.length : Nat) : Int)) (by omega) (by omega) (by omega)
    obtain ⟨v3, hv3, hb3⟩ := hp.lohi (rowS (Z5 (Zk done ++ x) ++ zr (N - (Zk done).length - x.length))).get (k := .i64) (k' := .i64) (m := done.length) (m' := ((done.length + x.length : Nat) : Int)) (by omega) (by omega) (by omega)
    have hv23 : v3 = v2 := by
      cases hp with
      | nil => exfalso; simp at hdl
      | sl s f => simp only [sliceSl?] at hv2 hv3; rw [hv2] at hv3; injection hv3 with hv3; exact hv3.symm
    subst hv23
    rw [← hj] at hv2 hv3
    have hb2' : BV v3 x := by
      have : (s.drop (done.length : Int).toNat).take (((done.length + x.length : Nat) : Int).toNat - (done.length : Int).toNat) = x := by
        rw [hsd, hxy, Int.toNat_natCast, Int.toNat_natCast, List.drop_left, Nat.add_sub_cancel_left, List.take_left]
      rw [this] at hb2
      exact hb2
    have hcp := copyR (Zk done) x (N - (Zk done).length) N (by omega) (by omega) false
    have hw1 : IntKind.i64.wrap (((Zk done).length : Int) + x.length) = ((Zk done ++ x).length : Int) := by rw [Z03]; simp; omega
    have hwin2 := winR (Z5 (Zk done ++ x) ++ zr (N - (Zk done).length - x.length)) (Zk done ++ x).length N (by simp; omega)
    rw [← hw1] at hwin2
    have hcp2 := copyR (Zk done ++ x) [0, 255] (N - (Zk done).length - x.length) N (by simp; omega) (by simp; omega) false
    have hed : Zk done ++ x ++ [0, 255] = Zk (done ++ x ++ [0]) := by
      rw [Zf9, Zf9, Zhc hx0]; rfl
    rw [hed] at hcp2
    have hzz : N - (Zk done).length - x.length - [(0 : UInt8), 255].length = N - (Zk (done ++ x ++ [0])).length := by rw [← hed]; simp; omega
    rw [hzz] at hcp2
    have hw2 : IntKind.i64.wrap (IntKind.i64.wrap (((Zk done).length : Int) + x.length) + ([(0 : UInt8), 255].length : Nat)) = ((Zk (done ++ x ++ [0])).length : Int) := by rw [hw1, ← hed, Z03]; simp; omega
    have hw3 : IntKind.i64.wrap (IntKind.i64.wrap ((done.length : Int) + x.length) + 1) = ((done ++ x ++ [0]).length : Int) := by rw [hj, Z03]; simp; omega
    have hw4 : IntKind.i64.wrap (((done.count 0 : Nat) : Int) + 1) = (((done ++ x ++ [0]).count 0 : Nat) : Int) := by
      rw [List.count_append, List.count_append, hx0, Z03]; simp; omega
    have fin : ∀ (fr : List Fr) (xx : EX) (e' : EC), Zm 200 fr xx = ([.code (.loop Z3m)], .normal) → e'.get 0 = some p → e'.get 1 = some (.sl [[.int .u8 0]] fo) → e'.get 2 = some (.sl [[.int .u8 0], [.int .u8 255]] fn) → e'.get 10 = some (.osl 0 0 0 N false) → e'.get 11 = some (.int .i64 (IntKind.i64.wrap (IntKind.i64.wrap (((Zk done).length : Int) + x.length) + ([(0 : UInt8), 255].length : Nat)))) → e'.get 12 = some (.int .i64 (IntKind.i64.wrap (IntKind.i64.wrap ((done.length : Int) + x.length) + 1))) → e'.get 48 = some (.int .i64 (s.count 0 : Nat)) → e'.get 49 = some (.int .i64 (IntKind.i64.wrap (((done.count 0 : Nat) : Int) + 1))) →
        V T (PE (replP p s N)) fr xx e' (rowS (Z5 (Zk (done ++ x ++ [0])) ++ zr (N - (Zk (done ++ x ++ [0])).length))) := fun fr xx e' hadv g0 g1 g2 g10 g11 g12 g48 g49 => Z34 hadv (by
      rw [hw2] at g11
      rw [hw3] at g12
      rw [hw4] at g49
      exact ih (done ++ x ++ [0]) y e' (by rw [hsd, hxy]; simp) (by rw [hxy, List.count_append, List.count_cons] at hc; simp at hc; omega) g0 g1 g2 g10 g11 g12 g48 g49)
    refine Zn (.put 0 p (.put 1 _ (.put 2 _ (.put 10 _ (.put 11 _ (.put 12 _ (.put 48 _ (.put 49 _ .nil)))))))) (Z3 h0 (Z3 h1 (Z3 h2 (Z3 h10 (Z3 h11 (Z3 h12 (Z3 h48 (Z3 h49 Zp)))))))) (Zi ?_)
    clear ih
    repeat' first | ((with_reducible show V _ _ _ _ _ _); first | refine Z22 hlt rfl rfl ?_ | refine V_M 8 (rowS (Z5 (Zk done ++ x) ++ zr (N - (Zk done).length - x.length))) rfl ?_ | refine Z1 rfl ?_) | ((with_reducible show VO _ _ _ _ _ _ _); first | refine Z16 v1 rfl rfl rfl rfl hv1 ?_ | refine Z7 rfl rfl hcall ?_ | refine Z16 _ rfl rfl rfl rfl hwin2 ?_ | refine O_copy (src := Z5 [0, 255]) rfl rfl rfl (Z00 _) (by decide) hcp2 ?_ | refine Z0 rfl ?_ | refine Z2 ?_) | ((with_reducible show VM _ _ _ _ _ _ _ _ _ _ _); first | refine M_slice _ rfl (.inl rfl) rfl rfl rfl rfl hwin hwinB ?_ | refine M_slice v3 rfl (.inl rfl) rfl rfl rfl rfl hv2 hv3 ?_ | refine M_copy rfl rfl rfl (Z0n hb2') (Z00 _) (by decide) hcp ?_ | refine Zge rfl (.inl rfl) rfl rfl ?_ | refine Zge rfl (.inr rfl) rfl rfl ?_ | refine M_nil ?_) | refine fin _ _ _ rfl rfl rfl rfl rfl rfl rfl rfl rfl
theorem Zho (s : List UInt8) (hs : s.length ≤ 1000) (f0 fo fn : Bool) : ∃ q, T.R (.call Ze9 [.sl (Z5 s) f0, .sl [[.int .u8 0]] fo, .sl [[.int .u8 0], [.int .u8 255]] fn] q) ∧ BV q (Zk s) := by
  have hp : BV (.sl (Z5 s) f0) s := .sl s f0
  have hcl : s.count 0 ≤ s.length := List.count_le_length
  have hc := run_Count1 hp fo
  have plp := hp.pl
  have key : ∃ q, T.R (.call Zia [.sl (Z5 s) f0, .sl [[.int .u8 0]] fo, .sl [[.int .u8 0], [.int .u8 255]] fn, .int .i64 (-1)] q) ∧ BV q (Zk s) := by
    refine Z6o rfl rfl ?_
    by_cases h0 : s.count 0 = 0
    · rw [h0] at hc
      have he := Zhc h0
      cases s with
      | nil =>
        repeat' first | ((with_reducible show V _ _ _ _ _ _); first | refine Z1 rfl ?_ | refine Za rfl rfl ?_ | refine Zc rfl rfl ?_) | ((with_reducible show VO _ _ _ _ _ _ _); first | refine Z7 rfl rfl hc ?_ | refine Z04 rfl rfl (Z0n hp) (Z00 _) (by decide) (by decide) (Z2s (.inl rfl)) ?_ | refine Z0 rfl ?_ | refine Z2 ?_)
        exact .nil
      | cons b s =>
        have k1 := Z4t (st := emptySt) (sz := 1) (bytes := 1) (src := Z5 (b :: s)) (by simp [Z5]) (by rw [Z02]; simp [Z06]; simp at hs; omega)
        repeat' first | refine Z1 rfl ?_ | refine Za rfl rfl ?_ | ((with_reducible show VO _ _ _ _ _ _ _); first | refine Z7 rfl rfl hc ?_ | refine Z04 rfl rfl (Z0n hp) (Z00 _) (by decide) (by decide) k1 ?_ | refine Z0 rfl ?_ | refine Z2 ?_)
        refine Z3t (r := .sl (Z5 (b :: s)) false) rfl rfl (Z5p (g := 0) (sz := 1) (lv := true) (es := Z5 (b :: s)) rfl (.inl rfl) rfl (Z6w _)) ?_
        rw [he]
        exact .sl _ _
    · have hne : decide (((s.count 0 : Nat) : Int) = 0) = false := decide_eq_false (by omega)
      have hN : IntKind.i64.wrap ((s.length : Int) + IntKind.i64.wrap (((s.count 0 : Nat) : Int) * IntKind.i64.wrap (((2 : Nat) : Int) - ((1 : Nat) : Int)))) = ((s.length + s.count 0 : Nat) : Int) := by
        rw [Z03, Z03, Z03]; omega
      have hl := fun e h0 h1 h2 h10 h11 h12 h48 h49 => repl_loop (.sl (Z5 s) f0) s hp (s.length + s.count 0) rfl hs fo fn (s.count 0) [] s e rfl rfl h0 h1 h2 h10 h11 h12 h48 h49
      repeat' first | ((with_reducible show V _ _ _ _ _ _); first | refine Z2t hne rfl rfl ?_ | refine Z3r rfl (hl _ rfl rfl rfl rfl rfl rfl rfl rfl) ?_ | refine Z1 rfl ?_ | refine Za rfl rfl ?_) | ((with_reducible show VO _ _ _ _ _ _ _); first | refine Z7 rfl rfl hc ?_ | refine Z0a rfl hp ?_ | refine O_makeN rfl rfl hN rfl (by simp [Z06]; omega) ?_ | refine Z0 rfl ?_ | refine Z2 ?_ | refine Z0s rfl rfl ?_)
      rintro x e' st' ⟨rfl, done, rest, hsd, hrest, rfl, rfl⟩
      have hel : (Zk done).length + rest.length = s.length + s.count 0 := by
        rw [Zar, hsd, List.count_append, List.length_append]; omega
      have hes : Zk s = Zk done ++ rest := by rw [hsd, Zf9, Zhc hrest]
      have hwin := winR (Z5 (Zk done) ++ zr (s.length + s.count 0 - (Zk done).length)) (Zk done).length (s.length + s.count 0) (by omega)
      have hwinB := winR (Z5 (Zk done ++ rest) ++ zr (s.length + s.count 0 - (Zk done).length - rest.length)) (Zk done).length (s.length + s.count 0) (by omega)
      have hdl : done.length ≤ s.length := by rw [hsd]; simp
      have hv2 := Zd9 (look := (rowS (Z5 (Zk done) ++ zr (s.length + s.count 0 - (Zk done).length))).get) (sz := 1) (k := .i64) (lo := done.length) (xs := Z5 s) (f := f0) (Z2m s) (by omega) (by rw [Z02]; omega)
      have hv3 := Zd9 (look := (rowS (Z5 (Zk done ++ rest) ++ zr (s.length + s.count 0 - (Zk done).length - rest.length))).get) (sz := 1) (k := .i64) (lo := done.length) (xs := Z5 s) (f := f0) (Z2m s) (by omega) (by rw [Z02]; omega)
      have hdr : (Z5 s).drop ((done.length : Int).toNat) = Z5 rest := by
        rw [Int.toNat_natCast, Z4e, hsd, List.drop_left]
      rw [hdr] at hv2 hv3
      have hcp := copyR (Zk done) rest (s.length + s.count 0 - (Zk done).length) (s.length + s.count 0) (by omega) (by omega) false
      have hw1 : IntKind.i64.wrap (((Zk done).length : Int) + rest.length) = ((s.length + s.count 0 : Nat) : Int) := by rw [Z03]; omega
      have hv4 := slice_osl (look := (rowS (Z5 (Zk done ++ rest) ++ zr (s.length + s.count 0 - (Zk done).length - rest.length))).get) (sz := 1) (t := 0) (g := 0) (off := 0) (len := s.length + s.count 0) (k := .i64) (k' := .i64) (lo := 0) (hi := IntKind.i64.wrap (((Zk done).length : Int) + rest.length)) (f := false) (lv := true) (es := Z5 (Zk done ++ rest) ++ zr (s.length + s.count 0 - (Zk done).length - rest.length)) rfl (by omega) (by rw [hw1]; omega) (by rw [hw1]; omega)
      have hrow : Z5 (Zk done ++ rest) ++ zr (s.length + s.count 0 - (Zk done).length - rest.length) = Z5 (Zk s) := by
        rw [hes, show s.length + s.count 0 - (Zk done).length - rest.length = 0 by omega]; simp [zr]
      have hoff : (0 : Nat) + (0 : Int).toNat = 0 := rfl
      rw [hw1, Int.toNat_natCast] at hv4
      rw [← hw1] at hv4
      repeat' first | refine V_M 7 (rowS (Z5 (Zk done ++ rest) ++ zr (s.length + s.count 0 - (Zk done).length - rest.length))) rfl ?_ | refine Z1 rfl ?_ | ((with_reducible show VO _ _ _ _ _ _ _); first | refine Z16 _ rfl rfl rfl rfl hv4 ?_ | refine Z0 rfl ?_ | refine Z2 ?_) | ((with_reducible show VM _ _ _ _ _ _ _ _ _ _ _); first | refine M_slice _ rfl (.inl rfl) rfl rfl rfl rfl hwin hwinB ?_ | refine M_slice _ rfl (.inl rfl) rfl rfl rfl rfl hv2 hv3 ?_ | refine M_copy (src := Z5 rest) rfl rfl rfl rfl (Z00 _) (by decide) hcp ?_ | refine Zge rfl (.inl rfl) rfl rfl ?_ | refine Zge rfl (.inr rfl) rfl rfl ?_ | refine M_nil ?_)
      refine Z3t (r := .sl (Z5 (Zk s)) false) rfl rfl (Z5p (g := 0) (sz := 1) (lv := true) (es := Z5 (Zk s)) (by rw [← hrow]; rfl) (.inl rfl) (by rw [Z02, hes]; simp; omega) (Z6w _)) ?_
      exact .sl _ _
  obtain ⟨q, h1, h2⟩ := key
  have plq := h2.pl
  refine ⟨q, Zd rfl rfl ?_, h2⟩
  repeat' first | refine Z1 rfl ?_ | refine Zc rfl rfl ?_ | ((with_reducible show VO _ _ _ _ _ _ _); first | refine Z7 rfl rfl h1 ?_ | refine Z0 rfl ?_ | refine Z2 ?_)
  rfl
inductive Val where
  | mk (kind n : Int) (s : List UInt8) (l : List Val)
def Val.kind : Val → Int
  | .mk k _ _ _ => k
def Val.n : Val → Int
  | .mk _ n _ _ => n
def Val.s : Val → List UInt8
  | .mk _ _ s _ => s
def Val.l : Val → List Val
  | .mk _ _ _ l => l
def I64 (x : Int) : Prop := -9223372036854775808 ≤ x ∧ x ≤ 9223372036854775807
inductive VC : Val → List PV → Prop
  | nil (k n : Int) (s : List UInt8) (hk : I64 k) (hn : I64 n) (hs : s.length ≤ 140737488355328) : VC (.mk k n s []) [.int .i64 k, .int .i64 n, .str s, .nilSl]
  | sl (k n : Int) (s : List UInt8) (l : List Val) (xs : List (List PV)) (full : Bool) (hk : I64 k) (hn : I64 n) (hs : s.length ≤ 140737488355328) (hb : l.length ≤ 140737488355328) (hl : xs.length = l.length)
      (h : ∀ (j : Nat) (v : Val) (cs : List PV), l[j]? = some v → xs[j]? = some cs → VC v cs) : VC (.mk k n s l) [.int .i64 k, .int .i64 n, .str s, .sl xs full]
theorem VC.pl {v : Val} {cs : List PV} (h : VC v cs) : ∀ c ∈ cs, Pl c := by
  induction h with
  | nil k n s => exact Z0b (.int _ _) (Z0b (.int _ _) (Z0b (.str _) (Z0b .nilSl Z2u)))
  | sl k n s l xs full hk hn hs hb hl h ih =>
    refine Z0b (.int _ _) (Z0b (.int _ _) (Z0b (.str _) (Z0b (.sl _ _ fun cs hcs c hc => ?_) Z2u)))
    obtain ⟨j, hj⟩ := List.getElem?_of_mem hcs
    have hlt : j < l.length := by have := (List.getElem?_eq_some_iff.1 hj).1; omega
    exact ih j l[j] cs (List.getElem?_eq_getElem hlt) hj c hc
def Zj4 (a b : Int) : Int := if a < b then -1 else if b < a then 1 else 0
theorem Zdd (a b : Int) : T.R (.call Z7y [.int .i64 a, .int .i64 b] (.int .i64 (Zj4 a b))) := by
  refine Zd rfl rfl ?_
  repeat' first | ((with_reducible show V _ _ _ _ _ _); first | refine Z1 rfl ?_ | refine Z6v rfl rfl (fun _ => ?_) (fun _ => ?_) | refine Zc rfl rfl ?_) | refine Z0 rfl ?_ | refine Z2 ?_
  all_goals simp only [decide_eq_true_eq, decide_eq_false_iff_not] at *
  all_goals unfold Zj4
  all_goals simp [*]
def Zg4 : List UInt8 → List UInt8 → Int
  | [], [] => 0
  | [], _ :: _ => -1
  | _ :: _, [] => 1
  | a :: x, b :: y => if a = b then Zg4 x y else Zj4 a.toNat b.toNat
theorem cmpS_pre : ∀ (p x y : List UInt8), Zg4 (p ++ x) (p ++ y) = Zg4 x y
  | [], x, y => rfl
  | a :: p, x, y => by simp only [List.cons_append, Zg4, if_true]; exact cmpS_pre p x y
def textP (a b : List UInt8) : EX → EC → St → Prop := fun x e' st' => st' = emptySt ∧ ((x = .exit 0 ∧ e' = .put 0 (.str a) (.put 1 (.str b) .nil) ∧ Zj4 a.length b.length = Zg4 a b) ∨ (x = .ret ∧ e' = .put 4 (.int .i64 (Zg4 a b)) .nil))
theorem text_loop (a b : List UInt8) (hla : a.length ≤ 9223372036854775806) : ∀ (ra rb pre : List UInt8) (e : EC), a = pre ++ ra → b = pre ++ rb → e.get 0 = some (.str a) → e.get 1 = some (.str b) → e.get 5 = some (.int .i64 pre.length) →
    V T (PE (textP a b)) [.code (.loop Z2j)] .normal e emptySt := by
  have out : ∀ (ra rb pre : List UInt8) (k : List Fr) (x : EX) (e' : EC), a = pre ++ ra → b = pre ++ rb → ra = [] ∨ rb = [] → Zm 200 k x = ([], .exit 0) → e'.get 0 = some (.str a) → e'.get 1 = some (.str b) → V T (PE (textP a b)) k x e' emptySt := fun ra rb pre k x e' ha hb hn hadv g0 g1 =>
    Zn (.put 0 (.str a) (.put 1 (.str b) .nil)) (Z3 g0 (Z3 g1 Zp)) (Z18 hadv ⟨rfl, .inl ⟨rfl, rfl, by
      rw [ha, hb, cmpS_pre]
      rcases hn with rfl | rfl
      · cases rb <;> simp [Zg4, Zj4] <;> omega
      · cases ra <;> simp [Zg4, Zj4] <;> omega⟩⟩)
  intro ra
  induction ra with
  | nil =>
    intro rb pre e ha hb h0 h1 h5
    refine Zn (.put 0 (.str a) (.put 1 (.str b) (.put 5 (.int .i64 pre.length) .nil))) (Z3 h0 (Z3 h1 (Z3 h5 Zp))) (Zi ?_)
    repeat' first | ((with_reducible show V _ _ _ _ _ _); first | refine Z1 rfl ?_ | refine Zb rfl rfl ?_ | refine Z6v rfl rfl (fun _ => ?_) (fun _ => ?_) | refine V_D rfl ?_) | ((with_reducible show VO _ _ _ _ _ _ _); first | refine Z0 rfl ?_ | refine Z2 ?_ | refine Zf rfl ?_ | refine Z0s rfl rfl ?_ | refine Zer rfl (fun _ => ?_) (fun _ => ?_)) | refine Z0h rfl ?_ | refine out [] rb pre _ _ _ ha hb (.inl rfl) rfl rfl rfl
    all_goals (exfalso; subst ha; simp at *)
  | cons y ra ih =>
    intro rb pre e ha hb h0 h1 h5
    refine Zn (.put 0 (.str a) (.put 1 (.str b) (.put 5 (.int .i64 pre.length) .nil))) (Z3 h0 (Z3 h1 (Z3 h5 Zp))) (Zi ?_)
    cases rb with
    | nil =>
      repeat' first | ((with_reducible show V _ _ _ _ _ _); first | refine Z1 rfl ?_ | refine Zb rfl rfl ?_ | refine Z6v rfl rfl (fun _ => ?_) (fun _ => ?_) | refine V_D rfl ?_) | ((with_reducible show VO _ _ _ _ _ _ _); first | refine Z0 rfl ?_ | refine Z2 ?_ | refine Zf rfl ?_ | refine Z0s rfl rfl ?_ | refine Zer rfl (fun _ => ?_) (fun _ => ?_)) | refine Z0h rfl ?_ | refine out (y :: ra) [] pre _ _ _ ha hb (.inr rfl) rfl rfl rfl
      all_goals (exfalso; subst hb; simp at *)
    | cons z rb =>
      have hy : a[(pre.length : Int).toNat]? = some y := by subst ha; simp
      have hz : b[(pre.length : Int).toNat]? = some z := by subst hb; simp
      by_cases hyz : y = z
      · subst hyz
        have fin : ∀ (k : List Fr) (x : EX) (e' : EC), Zm 200 k x = ([.code (.loop Z2j)], .normal) → e'.get 0 = some (.str a) → e'.get 1 = some (.str b) → e'.get 5 = some (.int .i64 (IntKind.i64.wrap (pre.length + 1))) → V T (PE (textP a b)) k x e' emptySt := fun k x e' hadv g0 g1 g5 => Z34 hadv (by
          have hlt : pre.length < a.length := by subst ha; simp
          have hw : IntKind.i64.wrap (pre.length + 1) = ((pre ++ [y]).length : Int) := by rw [Z03]; simp; omega
          rw [hw] at g5
          exact ih rb (pre ++ [y]) e' (by rw [ha]; simp) (by rw [hb]; simp) g0 g1 g5)
        repeat' first | ((with_reducible show V _ _ _ _ _ _); first | refine Z1 rfl ?_ | refine Zb rfl rfl ?_ | refine V_cNe rfl rfl ?_ | refine Z6v rfl rfl (fun _ => ?_) (fun _ => ?_) | refine V_D rfl ?_) | ((with_reducible show VO _ _ _ _ _ _ _); first | refine Z0 rfl ?_ | refine Z2 ?_ | refine Zf rfl ?_ | refine Z0s rfl rfl ?_ | refine Zer rfl (fun _ => ?_) (fun _ => ?_)) | ((with_reducible show VD _ _ _ _ _ _ _); first | refine D_chr y rfl rfl (by omega) hy ?_ | refine D_chr y rfl rfl (by omega) hz ?_ | refine Z0h rfl ?_ | refine Z1k ?_) | refine fin _ _ _ rfl rfl rfl rfl
        all_goals (exfalso; subst ha hb; simp at *; omega)
      · have hne : ((y.toNat : Int) = z.toNat) = False := by
          refine eq_false fun h => hyz ?_
          exact UInt8.toNat_inj.1 (by omega)
        have hcm : Zg4 a b = Zj4 y.toNat z.toNat := by rw [ha, hb, cmpS_pre]; simp [Zg4, hyz]
        have h8 : ∀ c : UInt8, IntKind.i64.wrap (c.toNat : Int) = c.toNat := fun c => by have := c.toNat_lt; rw [Z03]; omega
        have hnum := Zdd (IntKind.i64.wrap y.toNat) (IntKind.i64.wrap z.toNat)
        rw [h8 y, h8 z, ← hcm] at hnum
        have hnum' : T.R (.call Z7y [.int .i64 (IntKind.i64.wrap y.toNat), .int .i64 (IntKind.i64.wrap z.toNat)] (.int .i64 (Zg4 a b))) := by rw [h8 y, h8 z]; exact hnum
        repeat' first | ((with_reducible show V _ _ _ _ _ _); first | refine Z1 rfl ?_ | refine Zb rfl rfl ?_ | refine Z6v rfl rfl (fun _ => ?_) (fun _ => ?_) | refine V_D rfl ?_) | ((with_reducible show VO _ _ _ _ _ _ _); first | refine Z0 rfl ?_ | refine Z2 ?_ | refine Zf rfl ?_ | refine Z0s rfl rfl ?_ | refine Zer rfl (fun _ => ?_) (fun _ => ?_)) | ((with_reducible show VD _ _ _ _ _ _ _); first | refine D_chr y rfl rfl (by omega) hy ?_ | refine D_chr z rfl rfl (by omega) hz ?_ | refine Z4a rfl rfl hnum' ?_ | refine Z0h rfl ?_ | refine Z1k ?_) | exact Zn (.put 4 (.int .i64 (Zg4 a b)) .nil) (Z3 rfl Zp) (Z18 rfl ⟨rfl, .inr ⟨rfl, rfl⟩⟩)
        all_goals clear ih out hnum hnum'
        all_goals (exfalso; subst ha hb; simp at *; omega)
theorem run_text2 (a b : List UInt8) (hla : a.length ≤ 9223372036854775806) : T.R (.call Ze6 [.str a, .str b] (.int .i64 (Zg4 a b))) := by
  have hnum := Zdd (a.length : Int) (b.length : Int)
  refine Zd rfl rfl ?_
  repeat' first | refine Z1 rfl ?_ | refine Z0 rfl ?_ | refine Z2 ?_
  refine Z3r rfl (text_loop a b hla a b [] _ rfl rfl rfl rfl rfl) ?_
  rintro x e' st' ⟨rfl, ⟨rfl, rfl, hc⟩ | ⟨rfl, rfl⟩⟩
  · repeat' first | refine Z1 rfl ?_ | refine Zc rfl rfl ?_ | ((with_reducible show VO _ _ _ _ _ _ _); first | refine Z7 rfl rfl hnum ?_ | refine Z0 rfl ?_ | refine Z2 ?_)
    rw [hc]
  · repeat' first | refine Zc rfl rfl ?_
    rfl
def isLetI (n : Int) : Bool := decide (n = 95) || (decide (97 ≤ n) && decide (n ≤ 122)) || (decide (65 ≤ n) && decide (n ≤ 90))
theorem isLet_I (c : UInt8) : Z6k c = isLetI c.toNat := by
  unfold Z6k isLetI
  have h1 : (c == 95) = decide ((c.toNat : Int) = 95) := by
    rw [Bool.eq_iff_iff, beq_iff_eq, decide_eq_true_eq]
    constructor
    · intro h; subst h; rfl
    · intro h; exact UInt8.toNat_inj.1 (by have : (95 : UInt8).toNat = 95 := rfl; omega)
  have h2 : ∀ n : Nat, decide (n ≤ c.toNat) = decide ((n : Int) ≤ (c.toNat : Int)) := fun n => by rw [decide_eq_decide]; omega
  have h3 : ∀ n : Nat, decide (c.toNat ≤ n) = decide ((c.toNat : Int) ≤ (n : Int)) := fun n => by rw [decide_eq_decide]; omega
  rw [h1, h2, h2, h3, h3]
  rfl
theorem Zkf (c : UInt8) : T.R (.call Zb1 [.int .u8 c.toNat] (.bool (Z6k c))) := by
  rw [isLet_I]
  unfold isLetI
  generalize (c.toNat : Int) = n
  refine Zd rfl rfl ?_
  repeat' first | refine Z1 rfl ?_ | refine Zc rfl rfl ?_ | ((with_reducible show VO _ _ _ _ _ _ _); first | refine Z0 rfl ?_ | refine Z2 ?_ | refine Zf rfl ?_ | refine Zjd rfl ?_ | refine Z0s rfl rfl ?_ | refine Zer rfl (fun _ => ?_) (fun _ => ?_))
  all_goals simp_all
  all_goals omega
def okC (c : UInt8) : Bool := Z6k c || isDg c
theorem dg_parts (c : UInt8) : isDg c = (!decide ((c.toNat : Int) < 48) && !decide (57 < (c.toNat : Int))) := by
  unfold isDg
  rw [Bool.eq_iff_iff]
  simp only [Bool.and_eq_true, decide_eq_true_eq, Bool.not_eq_true', decide_eq_false_iff_not]
  omega
theorem rname_loop {s : List UInt8} (hs : s.length ≤ 140737488355328) : ∀ (rest pre : List UInt8), s = pre ++ rest →
    V T (PE fun x e st' => st' = emptySt ∧ ((x = .exit 0 ∧ rest.all okC = true) ∨ (x = .ret ∧ rest.all okC = false ∧ e = Zbe [(2, .bool false)])))
      [.code (.loop Z4p)] .normal (Zbe [(0, .str s), (3, .int .i64 pre.length)]) emptySt := by
  intro rest
  induction rest with
  | nil =>
    intro pre ha
    have hlt : ¬ (pre.length : Int) < s.length := by subst ha; simp
    refine Zi ?_
    repeat' first | ((with_reducible show V _ _ _ _ _ _); first | refine V_cHF rfl rfl hlt ?_ | refine Zbf [] rfl trivial ⟨rfl, .inl ⟨rfl, rfl⟩⟩ | refine Z1 rfl ?_) | refine Z0 rfl ?_ | refine Z2 ?_
  | cons c rest ih =>
    intro pre ha
    have hlt : (pre.length : Int) < s.length := by subst ha; simp; omega
    have hll : pre.length < s.length := by subst ha; simp
    have hch : s[((pre.length : Nat) : Int).toNat]? = some c := by subst ha; simp
    have hw : IntKind.i64.wrap ((pre.length : Int) + 1) = ((pre ++ [c]).length : Int) := by rw [Z03]; simp; omega
    have hi := ih (pre ++ [c]) (by rw [ha]; simp)
    have hl := Zkf c
    have hd := dg_parts c
    rw [List.all_cons]
    have hok : okC c = (Z6k c || isDg c) := rfl
    rw [hok]
    refine Zi ?_
    cases hL : Z6k c with
    | true =>
      rw [hL] at hl
      rw [Bool.true_or, Bool.true_and]
      repeat' first | ((with_reducible show V _ _ _ _ _ _); first | refine V_cHY rfl rfl hlt ?_ | refine V_re rfl hi ⟨rfl, Z2n hw, trivial⟩ | refine Z1 rfl ?_ | refine Zb rfl rfl ?_) | ((with_reducible show VO _ _ _ _ _ _ _); first | refine O_chr c rfl rfl (by omega) hch ?_ | refine Z7 rfl rfl hl ?_ | refine Z0 rfl ?_ | refine Z2 ?_ | refine Zjd rfl ?_ | refine Z0s rfl rfl ?_)
    | false =>
      rw [hL] at hl
      rw [Bool.false_or, hd]
      by_cases c1 : (c.toNat : Int) < 48
      · rw [decide_eq_true c1]
        repeat' first | ((with_reducible show V _ _ _ _ _ _); first | refine V_cHY rfl rfl hlt ?_ | refine Zbf [(2, .bool false)] rfl ⟨rfl, trivial⟩ ⟨rfl, .inr ⟨rfl, rfl, rfl⟩⟩ | refine Z1 rfl ?_ | refine Za rfl rfl ?_) | ((with_reducible show VO _ _ _ _ _ _ _); first | refine O_chr c rfl rfl (by omega) hch ?_ | refine Z7 rfl rfl hl ?_ | refine Z4 (Zs c1) rfl ?_ | refine Z0 rfl ?_ | refine Z2 ?_ | refine Zf rfl ?_ | refine Z0s rfl rfl ?_)
      · rw [decide_eq_false c1]
        by_cases c2 : 57 < (c.toNat : Int)
        · rw [decide_eq_true c2]
          repeat' first | ((with_reducible show V _ _ _ _ _ _); first | refine V_cHY rfl rfl hlt ?_ | refine Zbf [(2, .bool false)] rfl ⟨rfl, trivial⟩ ⟨rfl, .inr ⟨rfl, rfl, rfl⟩⟩ | refine Z1 rfl ?_ | refine Za rfl rfl ?_) | ((with_reducible show VO _ _ _ _ _ _ _); first | refine O_chr c rfl rfl (by omega) hch ?_ | refine Z7 rfl rfl hl ?_ | refine Z4 (Zh c1) rfl ?_ | refine Z4 (Zs c2) rfl ?_ | refine Z0 rfl ?_ | refine Z2 ?_ | refine Zf rfl ?_)
        · rw [decide_eq_false c2]
          repeat' first | ((with_reducible show V _ _ _ _ _ _); first | refine V_cHY rfl rfl hlt ?_ | refine V_re rfl hi ⟨rfl, Z2n hw, trivial⟩ | refine Z1 rfl ?_ | refine Zb rfl rfl ?_) | ((with_reducible show VO _ _ _ _ _ _ _); first | refine O_chr c rfl rfl (by omega) hch ?_ | refine Z7 rfl rfl hl ?_ | refine Z4 (Zh c1) rfl ?_ | refine Z4 (Zh c2) rfl ?_ | refine Z0 rfl ?_ | refine Z2 ?_ | refine Zf rfl ?_)
theorem Zdc {s : List UInt8} (hs : s.length ≤ 140737488355328) : T.R (.call Z76 [.str s] (.bool (Z2o s))) := by
  have hl := rname_loop hs s [] rfl
  cases s with
  | nil =>
    refine Zd rfl rfl ?_
    repeat' first | ((with_reducible show V _ _ _ _ _ _); first | refine Z1 rfl ?_ | refine Za rfl rfl ?_ | refine Zc rfl rfl ?_) | ((with_reducible show VO _ _ _ _ _ _ _); first | refine Z0 rfl ?_ | refine Z2 ?_ | refine Z0s rfl rfl ?_)
    rfl
  | cons c r =>
    have hne : ¬ (c :: r) = [] := by simp
    have hch : (c :: r)[(0 : Int).toNat]? = some c := rfl
    have hlt := Zkf c
    show T.R (.call Z76 [.str (c :: r)] (.bool (decide ((c :: r).length ≤ 24) && Z6k c && (c :: r).all okC)))
    by_cases hl24 : 24 < (c :: r).length
    · have h1 : ((24 : Int) < ((c :: r).length : Int)) := by omega
      rw [decide_eq_false (by omega : ¬ (c :: r).length ≤ 24)]
      refine Zd rfl rfl ?_
      repeat' first | ((with_reducible show V _ _ _ _ _ _); first | refine Z1 rfl ?_ | refine Za rfl rfl ?_ | refine Zc rfl rfl ?_) | ((with_reducible show VO _ _ _ _ _ _ _); first | refine Z4 (Zh hne) rfl ?_ | refine Z4 (Zs h1) rfl ?_ | refine Z0 rfl ?_ | refine Z2 ?_ | refine Zf rfl ?_ | refine Z0s rfl rfl ?_)
      rfl
    · have h1 : ¬ ((24 : Int) < ((c :: r).length : Int)) := by omega
      rw [decide_eq_true (by omega : (c :: r).length ≤ 24)]
      cases hL : Z6k c with
      | false =>
        rw [hL] at hlt
        refine Zd rfl rfl ?_
        repeat' first | ((with_reducible show V _ _ _ _ _ _); first | refine Z1 rfl ?_ | refine Za rfl rfl ?_ | refine Zc rfl rfl ?_) | ((with_reducible show VO _ _ _ _ _ _ _); first | refine Z4 (Zh hne) rfl ?_ | refine Z4 (Zh h1) rfl ?_ | refine O_chr c rfl rfl (by decide) hch ?_ | refine Z7 rfl rfl hlt ?_ | refine Z0 rfl ?_ | refine Z2 ?_ | refine Zf rfl ?_)
        rfl
      | true =>
        rw [hL] at hlt
        refine Zd rfl rfl ?_
        repeat' first | ((with_reducible show V _ _ _ _ _ _); first | refine Z8r rfl hl ⟨rfl, rfl, trivial⟩ ?_ | refine Z1 rfl ?_ | refine Zb rfl rfl ?_) | ((with_reducible show VO _ _ _ _ _ _ _); first | refine Z4 (Zh hne) rfl ?_ | refine Z4 (Zh h1) rfl ?_ | refine O_chr c rfl rfl (by decide) hch ?_ | refine Z7 rfl rfl hlt ?_ | refine Z0 rfl ?_ | refine Z2 ?_ | refine Zf rfl ?_)
        rintro x e' st' ⟨rfl, ⟨rfl, h⟩ | ⟨rfl, h, rfl⟩⟩
        · rw [h]
          repeat' first | refine Z1 rfl ?_ | refine Zc rfl rfl ?_ | refine Z0 rfl ?_ | refine Z2 ?_
          rfl
        · rw [h]
          repeat' first | refine Zc rfl rfl ?_
          rfl
def orI (a b : Int) : Int := if a = 0 then b else a
mutual
def Zd0 : Val → Val → Int
  | .mk k n s l, .mk k' n' s' l' => orI (Zj4 k k') (orI (Zj4 n n') (orI (Zg4 s s') (Z3h l l')))
def Z3h : List Val → List Val → Int
  | [], [] => 0
  | [], _ :: _ => -1
  | _ :: _, [] => 1
  | a :: x, b :: y => orI (Zd0 a b) (Z3h x y)
end
theorem Zj3 {a b : Int} : Zj4 a b = 0 ↔ a = b := by
  unfold Zj4
  constructor
  · intro h
    split at h
    · cases h
    · split at h
      · cases h
      · omega
  · rintro rfl; simp
theorem Zh8 {a b : Int} : orI a b = 0 ↔ a = 0 ∧ b = 0 := by
  unfold orI
  constructor
  · intro h
    split at h
    · exact ⟨by assumption, h⟩
    · contradiction
  · rintro ⟨rfl, rfl⟩; rfl
theorem cmpS_zero : ∀ {s t : List UInt8}, Zg4 s t = 0 ↔ s = t
  | [], [] => by simp [Zg4]
  | [], _ :: _ => by simp [Zg4]
  | _ :: _, [] => by simp [Zg4]
  | a :: s, b :: t => by
    unfold Zg4
    by_cases h : a = b
    · subst h; rw [if_pos rfl]; rw [cmpS_zero]; simp
    · rw [if_neg h, Zj3]
      constructor
      · intro h2
        exact absurd (UInt8.toNat_inj.1 (by omega)) h
      · intro h2; injection h2 with h2; exact absurd h2 h
mutual
theorem cmpV_zero : ∀ {a b : Val}, Zd0 a b = 0 ↔ a = b
  | .mk k n s l, .mk k' n' s' l' => by
    unfold Zd0
    rw [Zh8, Zh8, Zh8, Zj3, Zj3, cmpS_zero, Zky]
    simp
theorem Zky : ∀ {a b : List Val}, Z3h a b = 0 ↔ a = b
  | [], [] => by simp [Z3h]
  | [], _ :: _ => by simp [Z3h]
  | _ :: _, [] => by simp [Z3h]
  | a :: x, b :: y => by
    unfold Z3h
    rw [Zh8, cmpV_zero, Zky]
    simp
end
theorem Zj2 (a : Val) : Zd0 a a = 0 := cmpV_zero.2 rfl
theorem Z83 : ∀ (p x y : List Val), Z3h (p ++ x) (p ++ y) = Z3h x y
  | [], x, y => rfl
  | a :: p, x, y => by
    show orI (Zd0 a a) (Z3h (p ++ x) (p ++ y)) = _
    rw [Zj2]
    exact Z83 p x y
def LC (l : List Val) (p : PV) : Prop := (p = .nilSl ∧ l = []) ∨ ∃ xs full, p = .sl xs full ∧ l.length ≤ 140737488355328 ∧ xs.length = l.length ∧ ∀ (j : Nat) (v : Val) (cs : List PV), l[j]? = some v → xs[j]? = some cs → VC v cs
theorem VC.open {k n : Int} {s : List UInt8} {l : List Val} {cs : List PV} (h : VC (.mk k n s l) cs) : I64 k ∧ I64 n ∧ s.length ≤ 140737488355328 ∧ ∃ p, cs = [.int .i64 k, .int .i64 n, .str s, p] ∧ LC l p := by
  cases h with
  | nil k n s hk hn hs => exact ⟨hk, hn, hs, _, rfl, .inl ⟨rfl, rfl⟩⟩
  | sl k n s l xs full hk hn hs hb hl h => exact ⟨hk, hn, hs, _, rfl, .inr ⟨xs, full, rfl, hb, hl, h⟩⟩
theorem LC.vc {k n : Int} {s : List UInt8} {l : List Val} {p : PV} (h : LC l p) (hk : I64 k) (hn : I64 n) (hs : s.length ≤ 140737488355328) : VC (.mk k n s l) [.int .i64 k, .int .i64 n, .str s, p] := by
  rcases h with ⟨rfl, rfl⟩ | ⟨xs, full, rfl, hb, hl, h⟩
  · exact .nil _ _ _ hk hn hs
  · exact .sl _ _ _ _ _ _ hk hn hs hb hl h
theorem VC.len4 {v : Val} {cs : List PV} (h : VC v cs) : cs.length = 4 := by cases h <;> rfl
theorem VC.one {v : Val} {cs : List PV} (h : VC v cs) : cs.all PV.one = true := by cases h <;> rfl
theorem LC.len {l : List Val} {p : PV} (h : LC l p) : lenOf p = some l.length ∧ Zcq p = false ∧ l.length ≤ 140737488355328 := by
  rcases h with ⟨rfl, rfl⟩ | ⟨xs, full, rfl, hb, hl, h⟩
  · exact ⟨rfl, rfl, by simp⟩
  · exact ⟨by simp [lenOf, hl], rfl, hb⟩
theorem LC.pl {l : List Val} {p : PV} (h : LC l p) : Pl p := by
  have := (LC.vc (k := 0) (n := 0) (s := []) h (by simp [I64]) (by simp [I64]) (by simp)).pl
  exact this p (by simp)
theorem LC.at {l : List Val} {p : PV} (h : LC l p) {j : Nat} {v : Val} (hv : l[j]? = some v) : ∃ cs, At 4 p j cs ∧ VC v cs := by
  rcases h with ⟨rfl, rfl⟩ | ⟨xs, full, rfl, hb, hl, h⟩
  · simp at hv
  · have hlt : j < xs.length := by have := (List.getElem?_eq_some_iff.1 hv).1; omega
    have hc := h _ v _ hv (List.getElem?_eq_getElem hlt)
    exact ⟨_, ⟨by omega, hc.len4, xs, full, rfl, by simp [hlt]⟩, hc⟩
theorem VC.ind {M : Val → List PV → Prop} (h : ∀ (k n : Int) (s : List UInt8) (l : List Val) (p : PV), I64 k → I64 n → s.length ≤ 140737488355328 → LC l p → (∀ (j : Nat) (v : Val) (cs : List PV), l[j]? = some v → At 4 p j cs → M v cs) → M (.mk k n s l) [.int .i64 k, .int .i64 n, .str s, p]) {v : Val} {cs : List PV} (hv : VC v cs) : M v cs := by
  induction hv with
  | nil k n s hk hn hs => exact h k n s [] .nilSl hk hn hs (.inl ⟨rfl, rfl⟩) (fun j v cs hj => by simp at hj)
  | sl k n s l xs full hk hn hs hb hl hc ih =>
    refine h k n s l _ hk hn hs (.inr ⟨xs, full, rfl, hb, hl, hc⟩) (fun j v cs hj ha => ?_)
    obtain ⟨_, _, ys, f, he, hc2⟩ := ha
    injection he with he1 he2
    subst he1
    exact ih j v cs hj (by simpa using hc2)
end Go.Proofs.YtgdjnlopdpjnaaaGreatDoor
