/- Bytes: a copy, whether alike, whether a beginning. · num.Put: a number's bytes. · Names: value.Name. · slices.Clone and num.Put, whatever is one's own already. · bytes.ReplaceAll of a nought by a nought and 255. · Values: what they are over plain cells; how two stand. · Names: rambleref02.Name. · How values stand: plain laws. · A number's bytes in order: codec.eight, rambleref03.eight. · A number's bytes in order: rambleref03.eight. -/
import Derived.Test.YtgdjnlopdpjnaaaDoorT
import Derived.Test.YtgdjnlopdpjnaaaDoorAmZ
import Derived.Lib.SlTrimSet
set_option linter.unusedVariables false
set_option linter.unusedSimpArgs false
namespace Go.Proofs.YtgdjnlopdpjnaaaDoor
open Go Go.AM Go.RowKit
theorem run_Equal {v w : PV} {s t : List UInt8} (hv : BV v s) (hw : BV w t) : T.R (.call n_bytes_Equal [v, w] (.bool (decide (s = t)))) := by
  refine Zo rfl rfl ?_
  repeat' first | refine Z3 rfl ?_ | refine Zl rfl rfl ?_ | ((with_reducible show VO _ _ _ _ _ _ _); first | refine O_toStr rfl (by assumption) ?_ | refine Z0 rfl ?_ | refine Z4 ?_)
  rfl
def Zbp : Nat → Nat → List UInt8
  | 0, u => [UInt8.ofNat u]
  | n + 1, u => if u < 128 then [UInt8.ofNat u] else UInt8.ofNat (u % 128 + 128) :: Zbp n (u / 128)
theorem or128 (u : Nat) : IntKind.u8.wrap ((BitVec.ofInt 8 (IntKind.u8.wrap (u : Int)) ||| BitVec.ofInt 8 128).toNat : Int) = ((UInt8.ofNat (u % 128 + 128)).toNat : Int) := by
  have h1 : IntKind.u8.wrap (u : Int) = ((u % 256 : Nat) : Int) := by rw [Z9b]; omega
  rw [h1, Z9b]
  have h2 : ∀ b : BitVec 8, (b ||| 128#8).toNat = b.toNat % 128 + 128 := by decide
  have h3 : BitVec.ofInt 8 ((u % 256 : Nat) : Int) = BitVec.ofNat 8 (u % 256) := by rw [BitVec.ofInt_natCast]
  have h4 : BitVec.ofInt 8 128 = 128#8 := rfl
  rw [h3, h4, h2]
  simp [BitVec.toNat_ofNat, UInt8.toNat_ofNat']
theorem shr7 (u : Nat) : Int.fdiv (u : Int) (2 ^ (min (7 : Int).toNat IntKind.u64.bits)) = ((u / 128 : Nat) : Int) := by
  show Int.fdiv (u : Int) 128 = _
  rw [Int.fdiv_eq_ediv_of_nonneg _ (by omega)]
  omega
def Zbh (c : UInt8) : Bool := c == 95 || (decide (97 ≤ c.toNat) && decide (c.toNat ≤ 122)) || (decide (65 ≤ c.toNat) && decide (c.toNat ≤ 90))
def isDg (c : UInt8) : Bool := decide (48 ≤ c.toNat) && decide (c.toNat ≤ 57)
def nameB : List UInt8 → Bool
  | [] => false
  | c :: r => decide ((c :: r).length ≤ 24) && Zbh c && (c :: r).all fun c => Zbh c || isDg c
def nameSet : List UInt8 := [97, 98, 99, 100, 101, 102, 103, 104, 105, 106, 107, 108, 109, 110, 111, 112, 113, 114, 115, 116, 117, 118, 119, 120, 121, 122, 65, 66, 67, 68, 69, 70, 71, 72, 73, 74, 75, 76, 77, 78, 79, 80, 81, 82, 83, 84, 85, 86, 87, 88, 89, 90, 48, 49, 50, 51, 52, 53, 54, 55, 56, 57, 95]
theorem u8_all {P : UInt8 → Prop} (h : ∀ n : Nat, n < 256 → P (UInt8.ofNat n)) (c : UInt8) : P c := by
  have := h c.toNat c.toNat_lt
  simpa using this
theorem set_is : ∀ c : UInt8, nameSet.contains c = (Zbh c || isDg c) := u8_all (by decide +kernel)
theorem set_ascii : ∀ c ∈ nameSet, c.toNat < 128 := by decide +kernel
theorem dropWhile_nil {α : Type} {p : α → Bool} : ∀ {l : List α}, l.dropWhile p = [] ↔ ∀ c ∈ l, p c = true
  | [] => by simp
  | a :: l => by
    rw [List.dropWhile_cons]
    cases h : p a with
    | true => rw [if_pos rfl, dropWhile_nil]; simp [h]
    | false => simp [h]
theorem Zbk {α : Type} {p : α → Bool} : ∀ {l : List α}, (∀ c ∈ l.dropWhile p, p c = true) → l.dropWhile p = []
  | [], _ => rfl
  | a :: l, h => by
    rw [List.dropWhile_cons] at h ⊢
    cases hp : p a with
    | true =>
      rw [hp, if_pos rfl] at h
      rw [if_pos rfl]
      exact Zbk h
    | false =>
      rw [hp, if_neg (by simp)] at h
      have := h a (by simp)
      rw [hp] at this
      cases this
theorem trim_nil (l cs : List UInt8) : Lib.trimS l cs = [] ↔ l.all (cs.contains ·) = true := by
  unfold Lib.trimS Lib.trimLeftS
  rw [dropWhile_nil, List.all_eq_true]
  unfold Lib.trimRightS
  constructor
  · intro h
    have h1 : l.reverse.dropWhile (cs.contains ·) = [] := Zbk fun c hc => h c (by simpa using hc)
    intro c hc
    exact dropWhile_nil.1 h1 c (by simpa using hc)
  · intro h c hc
    have h1 : l.reverse.dropWhile (cs.contains ·) = [] := dropWhile_nil.2 fun c hc => h c (by simpa using hc)
    rw [h1] at hc
    simp at hc
theorem run_Name {s : List UInt8} (hs : s.length ≤ 140737488355328) : T.R (.call Zcp [.str s] (.bool (nameB s))) := by
  have ht : T.R (.call Z90 [.str s, .str nameSet] (.str (Lib.trimS s nameSet))) := .prim _ _ _ ⟨rfl, s, nameSet, by omega, by decide, set_ascii, rfl, rfl⟩
  have hn : decide (Lib.trimS s nameSet = []) = s.all fun c => Zbh c || isDg c := by
    rw [Bool.eq_iff_iff, decide_eq_true_eq, trim_nil]
    have : (fun c => nameSet.contains c) = fun c => Zbh c || isDg c := funext set_is
    rw [show s.all (nameSet.contains ·) = s.all (fun c => Zbh c || isDg c) from congrArg _ this]
  generalize Lib.trimS s nameSet = tr at ht hn
  cases s with
  | nil =>
    refine Zo rfl rfl ?_
    repeat' first | ((with_reducible show V _ _ _ _ _ _); first | refine Z3 rfl ?_ | refine Zb rfl rfl ?_ | refine Zl rfl rfl ?_) | ((with_reducible show VO _ _ _ _ _ _ _); first | refine Z0 rfl ?_ | refine Z4 ?_ | refine O_gU' rfl ?_ | refine Z19 rfl rfl ?_)
    rfl
  | cons c r =>
    have hne : ¬ (c :: r) = [] := by simp
    have hch : (c :: r)[(0 : Int).toNat]? = some c := rfl
    show T.R (.call Zcp [.str (c :: r)] (.bool (decide ((c :: r).length ≤ 24) && Zbh c && (c :: r).all fun c => Zbh c || isDg c)))
    by_cases hl : 24 < (c :: r).length
    · have h1 : ((24 : Int) < ((c :: r).length : Int)) := by omega
      rw [decide_eq_false (by omega : ¬ (c :: r).length ≤ 24)]
      refine Zo rfl rfl ?_
      repeat' first | ((with_reducible show V _ _ _ _ _ _); first | refine Z3 rfl ?_ | refine Zb rfl rfl ?_ | refine Zl rfl rfl ?_) | ((with_reducible show VO _ _ _ _ _ _ _); first | refine Z6 (Z07 hne) rfl ?_ | refine Z6 (Z0o h1) rfl ?_ | refine Z0 rfl ?_ | refine Z4 ?_ | refine Zq rfl ?_ | refine O_gU' rfl ?_ | refine Z19 rfl rfl ?_)
      rfl
    · have h1 : ¬ ((24 : Int) < ((c :: r).length : Int)) := by omega
      rw [decide_eq_true (by omega : (c :: r).length ≤ 24)]
      by_cases hd : isDg c = true
      · have hd' := hd
        unfold isDg at hd'
        simp only [Bool.and_eq_true, decide_eq_true_eq] at hd'
        have h2 : (48 : Int) ≤ (c.toNat : Int) := by omega
        have h3 : (c.toNat : Int) ≤ 57 := by omega
        have hnl : Zbh c = false := by
          unfold Zbh
          simp only [Bool.or_eq_false_iff, Bool.and_eq_false_iff, beq_eq_false_iff_ne, decide_eq_false_iff_not]
          refine ⟨⟨fun e => ?_, .inl (by omega)⟩, .inl (by omega)⟩
          subst e
          have : (95 : UInt8).toNat = 95 := rfl
          omega
        rw [hnl]
        refine Zo rfl rfl ?_
        repeat' first | ((with_reducible show V _ _ _ _ _ _); first | refine Z3 rfl ?_ | refine Zb rfl rfl ?_ | refine Zl rfl rfl ?_) | ((with_reducible show VO _ _ _ _ _ _ _); first | refine Z6 (Z07 hne) rfl ?_ | refine Z6 (Z07 h1) rfl ?_ | refine O_chr c rfl rfl (by decide) hch ?_ | refine Z6 (Z0o h2) rfl ?_ | refine Z6 (Z0o h3) rfl ?_ | refine Z0 rfl ?_ | refine Z4 ?_ | refine Zq rfl ?_)
        rfl
      · have hkey : (Zbh c && (c :: r).all fun c => Zbh c || isDg c) = (c :: r).all fun c => Zbh c || isDg c := by
          cases hlc : Zbh c with
          | true => rfl
          | false => simp [hlc, hd]
        rw [Bool.and_assoc, hkey, Bool.true_and, ← hn]
        have hw : decide ((48 : Int) ≤ (c.toNat : Int)) = true → decide ((c.toNat : Int) ≤ 57) = true → False := fun a b => hd (by
          have a := of_decide_eq_true a
          have b := of_decide_eq_true b
          unfold isDg
          simp only [Bool.and_eq_true, decide_eq_true_eq]
          omega)
        refine Zo rfl rfl ?_
        repeat' first | ((with_reducible show V _ _ _ _ _ _); first | refine Z3 rfl ?_ | refine Ze rfl rfl ?_ | refine Z86 rfl rfl (fun _ => ?_) (fun _ => ?_) | refine Zl rfl rfl ?_) | ((with_reducible show VO _ _ _ _ _ _ _); first | refine Z6 (Z07 hne) rfl ?_ | refine Z6 (Z07 h1) rfl ?_ | refine O_chr c rfl rfl (by decide) hch ?_ | refine Z8 rfl rfl ht ?_ | refine Z0 rfl ?_ | refine Z4 ?_ | refine Zq rfl ?_ | refine Z19 rfl rfl ?_ | refine O_gS rfl (fun _ => ?_) (fun _ => ?_))
        all_goals first | rfl | (exfalso; apply hw <;> assumption)
theorem cloneG {st : St} {v : PV} {s : List UInt8} (hv : RB st v s) (hl : s.length ≤ 140737488355328) : ∃ v' st', T.R (.raw Z2r [v] st v' st') ∧ AccT 1 st' v' (Z1 s) ∧ Grow st .nilSl st' v' := by
  have hsrc : Z56 (st.new (.row 0 1 [] true)) v = some (Z1 s) := (hv.keep (st' := st.new (.row 0 1 [] true)) (by simp [St.new]) (fun u hu => St.get_new_old (hv.lt hu))).src
  refine Z1c rfl rfl ?_
  by_cases hn : v = .nilSl
  · subst hn
    have hs : s = [] := by
      rcases hv with ⟨_, h⟩ | ⟨f, h⟩ | ⟨t, g, lv, h, _⟩
      · exact h
      · cases h
      · cases h
    subst hs
    repeat' first | ((with_reducible show V _ _ _ _ _ _); first | refine Z05 rfl rfl ?_ | refine Z3 rfl ?_ | refine Zb rfl rfl ?_) | refine Z0 rfl ?_ | refine Z4 ?_
    exact ⟨.inl ⟨rfl, rfl⟩, .refl _ _⟩
  · have hnn : isNil 0 v = some false := by
      rcases hv with ⟨h, _⟩ | ⟨f, rfl⟩ | ⟨t, g, lv, rfl, _⟩
      · exact absurd h hn
      · rfl
      · rfl
    have hq : ∀ (e : EC), e.get 3 = some v → Zg st.get e (.eqNil false 0 (.t 3)) = some (.bool false) := fun e he => by
      simp only [Zg, Z62, Opd.get, he, hnn]
      rfl
    have hg0 : AccT 1 (st.new (.row 0 1 [] true)) (.osl st.next 0 0 (([] : List (List PV)).length) false) [] := .inr ⟨st.next, 0, rfl, St.get_new, by simp [St.new]⟩
    have hgr : Grow st .nilSl (st.new (.row 0 1 [] true)) (.osl st.next 0 0 (([] : List (List PV)).length) false) := ⟨rfl, by simp [St.new], .inr ⟨st.next, rfl, Nat.le_refl _⟩, fun u hu _ => St.get_new_old hu⟩
    by_cases hs : s = []
    · subst hs
      repeat' first | ((with_reducible show V _ _ _ _ _ _); first | refine Z05 rfl rfl ?_ | refine Z3 rfl ?_ | refine Ze rfl rfl ?_) | ((with_reducible show VO _ _ _ _ _ _ _); first | refine Z0 (hq _ rfl) ?_ | refine Z02 rfl rfl hsrc (Z00 _) (by decide) (by decide) (Z2a (.inr (.inr ⟨_, _, _, _, _, rfl⟩))) ?_ | refine Z9 rfl ?_ | refine Z0 rfl ?_ | refine Z4 ?_)
      exact ⟨hg0, hgr⟩
    · obtain ⟨v', st', k1, k2, k3⟩ := hg0.grow (bytes := 1) (src := Z1 s) (by simpa [Z1] using hs) (by simp only [Z01, Zs, List.length_nil]; omega)
      repeat' first | ((with_reducible show V _ _ _ _ _ _); first | refine Z05 rfl rfl ?_ | refine Z3 rfl ?_ | refine Ze rfl rfl ?_) | ((with_reducible show VO _ _ _ _ _ _ _); first | refine Z0 (hq _ rfl) ?_ | refine Z02 rfl rfl hsrc (Z00 _) (by decide) (by decide) k1 ?_ | refine Z9 rfl ?_ | refine Z0 rfl ?_ | refine Z4 ?_)
      exact ⟨by simpa using k2, hgr.trans k3⟩
def putP (n u : Nat) (es : List (List PV)) (st : St) (v : PV) : EX → EC → St → Prop := fun x e' st' => x = .exit 0 ∧ ∃ (v' : PV) (u' : Nat) (pre : List UInt8), e' = .put 1 (.int .u64 u') (.put 5 v' .nil) ∧ AccT 1 st' v' (es ++ Z1 pre) ∧ Grow st v st' v' ∧ pre ++ [UInt8.ofNat u'] = Zbp n u ∧ u' < 128 ∧ pre.length ≤ n
theorem put_loopG : ∀ (n u : Nat) (es : List (List PV)) (e : EC) (st : St) (v : PV), u < 128 ^ (n + 1) → e.get 1 = some (.int .u64 u) → e.get 5 = some v → AccT 1 st v es → es.length + n ≤ 140000000000000 →
    V T (PE (putP n u es st v)) [.code (.loop Zcq)] .normal e st := by
  intro n
  induction n with
  | zero =>
    intro u es e st v hu h1 h5 hacc hb
    refine Zj (.put 1 (.int .u64 u) (.put 5 v .nil)) (Z2 h1 (Z2 h5 Zk)) (Zn ?_)
    repeat' first | refine Z3 rfl ?_ | refine Z86 rfl rfl (fun _ => ?_) (fun _ => ?_) | refine Z0 rfl ?_ | refine Z4 ?_
    · rename_i h
      simp at h; omega
    · exact Zj (.put 1 (.int .u64 u) (.put 5 v .nil)) (Z2 rfl (Z2 rfl Zk)) (Z1y rfl ⟨rfl, v, u, [], rfl, by simpa [Z1] using hacc, .refl _ _, rfl, by simpa using hu, by simp⟩)
  | succ n ih =>
    intro u es e st v hu h1 h5 hacc hb
    refine Zj (.put 1 (.int .u64 u) (.put 5 v .nil)) (Z2 h1 (Z2 h5 Zk)) (Zn ?_)
    repeat' first | refine Z3 rfl ?_ | refine Z86 rfl rfl (fun _ => ?_) (fun _ => ?_) | refine Z0 rfl ?_ | refine Z4 ?_
    · rename_i h
      have hge : ¬ u < 128 := by simp at h; omega
      obtain ⟨v', st', k1, k2, k3⟩ := hacc.grow (bytes := 1) (src := [[.int .u8 (IntKind.u8.wrap ((BitVec.ofInt 8 (IntKind.u8.wrap (u : Int)) ||| BitVec.ofInt 8 128).toNat : Int))]]) (by simp) (by simp [Zs]; omega)
      refine Z02 rfl rfl rfl rfl (by decide) (by decide) k1 ?_
      repeat' first | refine Z3 rfl ?_ | refine Z0 rfl ?_ | refine Z4 ?_
      refine Zcb (ih (u / 128) _ _ _ v' (by rw [Nat.pow_succ] at hu; omega) (by
        show some (PV.int .u64 (Int.fdiv (u : Int) (2 ^ (min (7 : Int).toNat IntKind.u64.bits)))) = _
        rw [shr7]) rfl k2 (by simp; omega)) ?_
      rintro x e' st'' ⟨hx, v'', u', pre, he, hA, hG, hpre, hu', hlen⟩
      refine ⟨hx, v'', u', UInt8.ofNat (u % 128 + 128) :: pre, he, ?_, k3.trans hG, ?_, hu', by simp; omega⟩
      · rw [or128] at hA
        simpa [Z1] using hA
      · simp only [Zbp, if_neg hge, List.cons_append, hpre]
    · rename_i h
      have hlt : u < 128 := by simp at h; omega
      exact Zj (.put 1 (.int .u64 u) (.put 5 v .nil)) (Z2 rfl (Z2 rfl Zk)) (Z1y rfl ⟨rfl, v, u, [], rfl, by simpa [Z1] using hacc, .refl _ _, by simp [Zbp, hlt], hlt, by simp⟩)
theorem putG {st : St} {b : PV} {s : List UInt8} (hbn : st.base = st.next) (hv : RB st b s) (hs : s.length ≤ 100000000000000) (u : Nat) (hu : u < 18446744073709551616) :
    ∃ v' st', T.R (.raw n_num_Put [b, .int .u64 u] st v' st') ∧ AccT 1 st' v' (Z1 (s ++ Zbp 9 u)) ∧ Grow st .nilSl st' v' := by
  have hv0 : RB ⟨st.next, st.next, st.toks⟩ b s := hv.keep (Nat.le_refl _) (fun _ _ => rfl)
  obtain ⟨v1, st1, h1, h2, h3⟩ := cloneG hv0 (by omega)
  have hgr : Grow st .nilSl ⟨st.base, st1.next, st1.toks⟩ v1 := ⟨rfl, h3.2.1, h3.2.2.1, h3.2.2.2⟩
  have hacc : AccT 1 ⟨st.base, st1.next, st1.toks⟩ v1 (Z1 s) := h2
  refine Z1c rfl rfl ?_
  repeat' first | refine Z3 rfl ?_ | ((with_reducible show VO _ _ _ _ _ _ _); first | refine Z0d h1 h3.1 rfl rfl ?_ | refine Z0 rfl ?_ | refine Z4 ?_)
  refine Z55 rfl (put_loopG 9 u (Z1 s) _ _ v1 (by omega) rfl rfl hacc (by rw [Z01]; omega)) ?_
  rintro x e' st' ⟨rfl, v', u', pre, rfl, hA, hG, hpre, hu', hlen⟩
  have hcell : [[PV.int .u8 (IntKind.u8.wrap (u' : Int))]] = Z1 [UInt8.ofNat u'] := by
    rw [Z9b]
    simp [Z1]
  obtain ⟨w, st2, k1, k2, k3⟩ := hA.grow (bytes := 1) (src := [[.int .u8 (IntKind.u8.wrap (u' : Int))]]) (by simp) (by simp [Zs, Z1]; omega)
  repeat' first | refine Z05 rfl rfl ?_ | refine Z3 rfl ?_ | ((with_reducible show VO _ _ _ _ _ _ _); first | refine Z02 rfl rfl rfl rfl (by decide) (by decide) k1 ?_ | refine Z0 rfl ?_ | refine Z4 ?_)
  rw [hcell, ← Z09, ← Z09, List.append_assoc, hpre] at k2
  exact ⟨k2, hgr.trans (hG.trans k3)⟩
def Zc (s : List UInt8) : List UInt8 := s.flatMap fun b => if b = 0 then [0, 255] else [b]
theorem Zc6 (a b : List UInt8) : Zc (a ++ b) = Zc a ++ Zc b := by simp [Zc]
theorem Z8c : ∀ s : List UInt8, (Zc s).length = s.length + s.count 0
  | [] => rfl
  | b :: s => by
    have ih := Z8c s
    unfold Zc at ih ⊢
    rw [List.flatMap_cons, List.length_append, ih, List.count_cons]
    by_cases h : b = 0
    · subst h; simp; omega
    · simp [h]; omega
theorem Zdz : ∀ {s : List UInt8}, s.count 0 = 0 → Zc s = s
  | [], _ => rfl
  | b :: s, h => by
    rw [List.count_cons] at h
    have hb : b ≠ 0 := by rintro rfl; simp at h
    have ih := Zdz (s := s) (by omega)
    unfold Zc at ih ⊢
    rw [List.flatMap_cons, ih]
    simp [hb]
theorem idx_spec : ∀ a : List UInt8, (Lib.indexByte a 0 = -1 ∧ a.count 0 = 0) ∨ ∃ x y, a = x ++ 0 :: y ∧ x.count 0 = 0 ∧ Lib.indexByte a 0 = x.length
  | [] => .inl ⟨rfl, rfl⟩
  | b :: a => by
    by_cases hb : b = 0
    · subst hb
      exact .inr ⟨[], a, rfl, rfl, rfl⟩
    · unfold Lib.indexByte
      rw [if_neg (by simpa using hb)]
      rcases idx_spec a with ⟨h1, h2⟩ | ⟨x, y, rfl, h2, h3⟩
      · rw [h1]
        exact .inl ⟨rfl, by rw [List.count_cons, h2]; simp [hb]⟩
      · refine .inr ⟨b :: x, y, rfl, by rw [List.count_cons, h2]; simp [hb], ?_⟩
        rw [h3, if_neg (by simp)]
        simp
theorem Zal {p : PV} {a : List UInt8} (hp : BV p a) (c : Int) : T.R (.call Zbx [p, .int .u8 c] (.int .i64 (Lib.indexByte a c.toNat.toUInt8))) := by
  have hx : T.ext Z2i [p, .int .u8 c] (.int .i64 (Lib.indexByte a c.toNat.toUInt8)) := X_idxB ⟨rfl, p, a, c, rfl, hp, rfl⟩
  generalize Lib.indexByte a c.toNat.toUInt8 = r at hx ⊢
  have plp := hp.pl
  refine Zo rfl rfl ?_
  repeat' first | refine Z3 rfl ?_ | refine Zl rfl rfl ?_ | ((with_reducible show VO _ _ _ _ _ _ _); first | refine O_extP rfl rfl (Z17) rfl hx ?_ | refine Z0 rfl ?_ | refine Z4 ?_)
  rfl
theorem run_Index1 {p : PV} {a : List UInt8} (hp : BV p a) (f : Bool) : T.R (.call n_bytes_Index [p, .sl [[.int .u8 0]] f] (.int .i64 (Lib.indexByte a 0))) := by
  have hx := Zal hp 0
  rw [show (0 : Int).toNat.toUInt8 = 0 from rfl] at hx
  generalize Lib.indexByte a 0 = r at hx ⊢
  have plp := hp.pl
  refine Zo rfl rfl ?_
  repeat' first | ((with_reducible show V _ _ _ _ _ _); first | refine Z3 rfl ?_ | refine Zb rfl rfl ?_ | refine Ze rfl rfl ?_ | refine Zl rfl rfl ?_) | ((with_reducible show VO _ _ _ _ _ _ _); first | refine Z8 rfl rfl hx ?_ | refine Z0 rfl ?_ | refine Z4 ?_)
  rfl
theorem run_Count1 {p : PV} {a : List UInt8} (hp : BV p a) (f : Bool) : T.R (.call n_bytes_Count [p, .sl [[.int .u8 0]] f] (.int .i64 (a.count 0 : Nat))) := by
  have hx : T.ext Z4z [p, .int .u8 0] (.int .i64 (a.count 0 : Nat)) := X_cntB ⟨rfl, p, a, 0, rfl, hp, rfl⟩
  generalize ((a.count 0 : Nat) : Int) = r at hx ⊢
  have plp := hp.pl
  refine Zo rfl rfl ?_
  repeat' first | ((with_reducible show V _ _ _ _ _ _); first | refine Z3 rfl ?_ | refine Zb rfl rfl ?_ | refine Ze rfl rfl ?_ | refine Zl rfl rfl ?_) | ((with_reducible show VO _ _ _ _ _ _ _); first | refine O_extP rfl rfl (Z17) rfl hx ?_ | refine Z0 rfl ?_ | refine Z4 ?_)
  rfl
def rowS (es : List (List PV)) : St := ⟨0, 1, [(0, .row 0 1 es true)]⟩
def zr (k : Nat) : List (List PV) := List.replicate k [.int .u8 0]
theorem copyR (a b : List UInt8) (k N : Nat) (hN : N = a.length + k) (hb : b.length ≤ k) (f : Bool) :
    Zcw (rowS (Z1 a ++ zr k)) 1 (.osl 0 0 a.length (N - a.length) f) (Z1 b) = some (.int .i64 b.length, rowS (Z1 (a ++ b) ++ zr (k - b.length))) := by
  rw [copy_own (g := 0) (es := Z1 a ++ zr k) rfl (by simp [Z1, zr]; omega) (by rw [Z01]; omega)]
  rw [Z01]
  congr 2
  have e1 : (Z1 a ++ zr k).take a.length = Z1 a := by
    rw [← Z01 a, List.take_left]
  have e2 : (Z1 a ++ zr k).drop (a.length + b.length) = zr (k - b.length) := by
    rw [← Z01 a, ← List.drop_drop, List.drop_left]
    simp [zr]
  rw [e1, e2, Z09]
  rfl
theorem winR (es : List (List PV)) (w N : Nat) (hw : w ≤ N) : sliceSl? (rowS es).get 1 (some (.int .i64 (w : Int))) none none (.osl 0 0 0 N false) = some (.osl 0 0 w (N - w) false) := by
  rw [slice_osl_lo (look := (rowS es).get) (sz := 1) (es := es) (lv := true) rfl (by omega) (by omega)]
  simp
def eR (p oldV newV : PV) (N : Nat) (done : List UInt8) : EC := .put 0 p (.put 10 (.osl 0 0 0 N false) (.put 11 (.int .i64 (Zc done).length) (.put 12 (.int .i64 done.length) .nil)))
def replP (p : PV) (s : List UInt8) (N : Nat) : EX → EC → St → Prop := fun x e' st' => x = .exit 0 ∧ ∃ done rest, s = done ++ rest ∧ rest.count 0 = 0 ∧ e' = eR p .junk .junk N done ∧ st' = rowS (Z1 (Zc done) ++ zr (N - (Zc done).length))
theorem repl_loop (p : PV) (s : List UInt8) (hp : BV p s) (N : Nat) (hN : N = s.length + s.count 0) (hs : s.length ≤ 1000) (fo fn : Bool) :
    ∀ (c : Nat) (done rest : List UInt8) (e : EC), s = done ++ rest → rest.count 0 = c → e.get 0 = some p → e.get 1 = some (.sl [[.int .u8 0]] fo) → e.get 2 = some (.sl [[.int .u8 0], [.int .u8 255]] fn) → e.get 10 = some (.osl 0 0 0 N false) → e.get 11 = some (.int .i64 (Zc done).length) → e.get 12 = some (.int .i64 done.length) → e.get 48 = some (.int .i64 (s.count 0 : Nat)) → e.get 49 = some (.int .i64 (done.count 0 : Nat)) →
    V T (PE (replP p s N)) [.code (.loop Z30)] .normal e (rowS (Z1 (Zc done) ++ zr (N - (Zc done).length))) := by
  have hcl : s.count 0 ≤ s.length := List.count_le_length
  intro c
  induction c with
  | zero =>
    intro done rest e hsd hc h0 h1 h2 h10 h11 h12 h48 h49
    have hcd : done.count 0 = s.count 0 := by rw [hsd, List.count_append]; omega
    have out : ∀ (fr : List Fr) (x : EX) (e' : EC), Zi 200 fr x = ([], .exit 0) → e'.get 0 = some p → e'.get 10 = some (.osl 0 0 0 N false) → e'.get 11 = some (.int .i64 (Zc done).length) → e'.get 12 = some (.int .i64 done.length) → V T (PE (replP p s N)) fr x e' (rowS (Z1 (Zc done) ++ zr (N - (Zc done).length))) := fun fr x e' hadv g0 g10 g11 g12 =>
      Zj (eR p .junk .junk N done) (Z2 g0 (Z2 g10 (Z2 g11 (Z2 g12 Zk)))) (Z1y hadv ⟨rfl, done, rest, hsd, hc, rfl, rfl⟩)
    have hlt : decide (((done.count 0 : Nat) : Int) < (s.count 0 : Nat)) = false := decide_eq_false (by omega)
    refine Zj (.put 0 p (.put 10 _ (.put 11 _ (.put 12 _ (.put 48 _ (.put 49 _ .nil)))))) (Z2 h0 (Z2 h10 (Z2 h11 (Z2 h12 (Z2 h48 (Z2 h49 Zk)))))) (Zn ?_)
    repeat' first | refine Z3v hlt rfl rfl ?_ | refine Z3 rfl ?_ | refine Z0 rfl ?_ | refine Z4 ?_ | refine out _ _ _ rfl rfl rfl rfl rfl
  | succ c ih =>
    intro done rest e hsd hc h0 h1 h2 h10 h11 h12 h48 h49
    have hcd : done.count 0 + (c + 1) = s.count 0 := by rw [hsd, List.count_append]; omega
    have hlt : decide (((done.count 0 : Nat) : Int) < (s.count 0 : Nat)) = true := decide_eq_true (by omega)
    rcases idx_spec rest with ⟨_, h⟩ | ⟨x, y, hxy, hx0, hidx⟩
    · omega
    have hdl : done.length + x.length + 1 ≤ s.length := by rw [hsd, hxy]; simp; omega
    have hel : (Zc done).length + x.length + 2 ≤ N := by
      rw [Z8c, hN, hsd, hxy]; simp [List.count_append]; omega
    obtain ⟨v1, hv1, hb1⟩ := hp.lo (rowS (Z1 (Zc done) ++ zr (N - (Zc done).length))).get (k := .i64) (m := done.length) (by omega) (by omega)
    rw [Int.toNat_natCast, hsd, List.drop_left] at hb1
    have hcall := run_Index1 hb1 fo
    rw [hidx] at hcall
    have pl1 := hb1.pl
    have hj : IntKind.i64.wrap ((done.length : Int) + x.length) = ((done.length + x.length : Nat) : Int) := by rw [Z06]; omega
    have hwin := winR (Z1 (Zc done) ++ zr (N - (Zc done).length)) (Zc done).length N (by omega)
    have hwinB := winR (Z1 (Zc done ++ x) ++ zr (N - (Zc done).length - x.length)) (Zc done).length N (by omega)
    obtain ⟨v2, hv2, hb2⟩ := hp.lohi (rowS (Z1 (Zc done) ++ zr (N - (Zc done).length))).get (k := .i64) (k' := .i64) (m := done.length) (m' := ((done.length + x.length : Nat) : Int)) (by omega) (by omega) (by omega)
    obtain ⟨v3, hv3, hb3⟩ := hp.lohi (rowS (Z1 (Zc done ++ x) ++ zr (N - (Zc done).length - x.length))).get (k := .i64) (k' := .i64) (m := done.length) (m' := ((done.length + x.length : Nat) : Int)) (by omega) (by omega) (by omega)
    have hv23 : v3 = v2 := by
      cases hp with
      | nil => exfalso; simp at hdl
      | sl s f => simp only [sliceSl?] at hv2 hv3; rw [hv2] at hv3; injection hv3 with hv3; exact hv3.symm
    subst hv23
    rw [← hj] at hv2 hv3
    have hb2' : BV v3 x := by
      have : (s.drop (done.length : Int).toNat).take (((done.length + x.length : Nat) : Int).toNat - (done.length : Int).toNat) = x := by
        rw [hsd, hxy, Int.toNat_natCast, Int.toNat_natCast, List.drop_left, Nat.add_sub_cancel_left, List.take_left]
      rw [this] at hb2
      exact hb2
    have hcp := copyR (Zc done) x (N - (Zc done).length) N (by omega) (by omega) false
    have hw1 : IntKind.i64.wrap (((Zc done).length : Int) + x.length) = ((Zc done ++ x).length : Int) := by rw [Z06]; simp; omega
    have hwin2 := winR (Z1 (Zc done ++ x) ++ zr (N - (Zc done).length - x.length)) (Zc done ++ x).length N (by simp; omega)
    rw [← hw1] at hwin2
    have hcp2 := copyR (Zc done ++ x) [0, 255] (N - (Zc done).length - x.length) N (by simp; omega) (by simp; omega) false
    have hed : Zc done ++ x ++ [0, 255] = Zc (done ++ x ++ [0]) := by
      rw [Zc6, Zc6, Zdz hx0]; rfl
    rw [hed] at hcp2
    have hzz : N - (Zc done).length - x.length - [(0 : UInt8), 255].length = N - (Zc (done ++ x ++ [0])).length := by rw [← hed]; simp; omega
    rw [hzz] at hcp2
    have hw2 : IntKind.i64.wrap (IntKind.i64.wrap (((Zc done).length : Int) + x.length) + ([(0 : UInt8), 255].length : Nat)) = ((Zc (done ++ x ++ [0])).length : Int) := by rw [hw1, ← hed, Z06]; simp; omega
    have hw3 : IntKind.i64.wrap (IntKind.i64.wrap ((done.length : Int) + x.length) + 1) = ((done ++ x ++ [0]).length : Int) := by rw [hj, Z06]; simp; omega
    have hw4 : IntKind.i64.wrap (((done.count 0 : Nat) : Int) + 1) = (((done ++ x ++ [0]).count 0 : Nat) : Int) := by
      rw [List.count_append, List.count_append, hx0, Z06]; simp; omega
    have fin : ∀ (fr : List Fr) (xx : EX) (e' : EC), Zi 200 fr xx = ([.code (.loop Z30)], .normal) → e'.get 0 = some p → e'.get 1 = some (.sl [[.int .u8 0]] fo) → e'.get 2 = some (.sl [[.int .u8 0], [.int .u8 255]] fn) → e'.get 10 = some (.osl 0 0 0 N false) → e'.get 11 = some (.int .i64 (IntKind.i64.wrap (IntKind.i64.wrap (((Zc done).length : Int) + x.length) + ([(0 : UInt8), 255].length : Nat)))) → e'.get 12 = some (.int .i64 (IntKind.i64.wrap (IntKind.i64.wrap ((done.length : Int) + x.length) + 1))) → e'.get 48 = some (.int .i64 (s.count 0 : Nat)) → e'.get 49 = some (.int .i64 (IntKind.i64.wrap (((done.count 0 : Nat) : Int) + 1))) →
        V T (PE (replP p s N)) fr xx e' (rowS (Z1 (Zc (done ++ x ++ [0])) ++ zr (N - (Zc (done ++ x ++ [0])).length))) := fun fr xx e' hadv g0 g1 g2 g10 g11 g12 g48 g49 => Z38 hadv (by
      rw [hw2] at g11
      rw [hw3] at g12
      rw [hw4] at g49
      exact ih (done ++ x ++ [0]) y e' (by rw [hsd, hxy]; simp) (by rw [hxy, List.count_append, List.count_cons] at hc; simp at hc; omega) g0 g1 g2 g10 g11 g12 g48 g49)
    refine Zj (.put 0 p (.put 1 _ (.put 2 _ (.put 10 _ (.put 11 _ (.put 12 _ (.put 48 _ (.put 49 _ .nil)))))))) (Z2 h0 (Z2 h1 (Z2 h2 (Z2 h10 (Z2 h11 (Z2 h12 (Z2 h48 (Z2 h49 Zk)))))))) (Zn ?_)
    clear ih
    repeat' first | ((with_reducible show V _ _ _ _ _ _); first | refine Z27 hlt rfl rfl ?_ | refine V_M 8 (rowS (Z1 (Zc done ++ x) ++ zr (N - (Zc done).length - x.length))) rfl ?_ | refine Z3 rfl ?_) | ((with_reducible show VO _ _ _ _ _ _ _); first | refine Z2c v1 rfl rfl rfl rfl hv1 ?_ | refine Z8 rfl rfl hcall ?_ | refine Z2c _ rfl rfl rfl rfl hwin2 ?_ | refine O_copy (src := Z1 [0, 255]) rfl rfl rfl (Z00 _) (by decide) hcp2 ?_ | refine Z0 rfl ?_ | refine Z4 ?_) | ((with_reducible show VM _ _ _ _ _ _ _ _ _ _ _); first | refine M_slice _ rfl (.inl rfl) rfl rfl rfl rfl hwin hwinB ?_ | refine M_slice v3 rfl (.inl rfl) rfl rfl rfl rfl hv2 hv3 ?_ | refine M_copy rfl rfl rfl (Z0f hb2') (Z00 _) (by decide) hcp ?_ | refine Zd7 rfl (.inl rfl) rfl rfl ?_ | refine Zd7 rfl (.inr rfl) rfl rfl ?_ | refine M_nil ?_) | refine fin _ _ _ rfl rfl rfl rfl rfl rfl rfl rfl rfl
theorem Zec (s : List UInt8) (hs : s.length ≤ 1000) (f0 fo fn : Bool) : ∃ q, T.R (.call Zb5 [.sl (Z1 s) f0, .sl [[.int .u8 0]] fo, .sl [[.int .u8 0], [.int .u8 255]] fn] q) ∧ BV q (Zc s) := by
  have hp : BV (.sl (Z1 s) f0) s := .sl s f0
  have hcl : s.count 0 ≤ s.length := List.count_le_length
  have hc := run_Count1 hp fo
  have plp := hp.pl
  have key : ∃ q, T.R (.call Zf1 [.sl (Z1 s) f0, .sl [[.int .u8 0]] fo, .sl [[.int .u8 0], [.int .u8 255]] fn, .int .i64 (-1)] q) ∧ BV q (Zc s) := by
    refine Z6w rfl rfl ?_
    by_cases h0 : s.count 0 = 0
    · rw [h0] at hc
      have he := Zdz h0
      cases s with
      | nil =>
        repeat' first | ((with_reducible show V _ _ _ _ _ _); first | refine Z3 rfl ?_ | refine Zb rfl rfl ?_ | refine Zl rfl rfl ?_) | ((with_reducible show VO _ _ _ _ _ _ _); first | refine Z8 rfl rfl hc ?_ | refine Z02 rfl rfl (Z0f hp) (Z00 _) (by decide) (by decide) (Z2a (.inl rfl)) ?_ | refine Z0 rfl ?_ | refine Z4 ?_)
        exact .nil
      | cons b s =>
        have k1 := Z3u (st := emptySt) (sz := 1) (bytes := 1) (src := Z1 (b :: s)) (by simp [Z1]) (by rw [Z01]; simp [Zs]; simp at hs; omega)
        repeat' first | refine Z3 rfl ?_ | refine Zb rfl rfl ?_ | ((with_reducible show VO _ _ _ _ _ _ _); first | refine Z8 rfl rfl hc ?_ | refine Z02 rfl rfl (Z0f hp) (Z00 _) (by decide) (by decide) k1 ?_ | refine Z0 rfl ?_ | refine Z4 ?_)
        refine Z5z (r := .sl (Z1 (b :: s)) false) rfl rfl (Z4n (g := 0) (sz := 1) (lv := true) (es := Z1 (b :: s)) rfl (.inl rfl) rfl (Z5b _)) ?_
        rw [he]
        exact .sl _ _
    · have hne : decide (((s.count 0 : Nat) : Int) = 0) = false := decide_eq_false (by omega)
      have hN : IntKind.i64.wrap ((s.length : Int) + IntKind.i64.wrap (((s.count 0 : Nat) : Int) * IntKind.i64.wrap (((2 : Nat) : Int) - ((1 : Nat) : Int)))) = ((s.length + s.count 0 : Nat) : Int) := by
        rw [Z06, Z06, Z06]; omega
      have hl := fun e h0 h1 h2 h10 h11 h12 h48 h49 => repl_loop (.sl (Z1 s) f0) s hp (s.length + s.count 0) rfl hs fo fn (s.count 0) [] s e rfl rfl h0 h1 h2 h10 h11 h12 h48 h49
      repeat' first | ((with_reducible show V _ _ _ _ _ _); first | refine Z3v hne rfl rfl ?_ | refine Z55 rfl (hl _ rfl rfl rfl rfl rfl rfl rfl rfl) ?_ | refine Z3 rfl ?_ | refine Zb rfl rfl ?_) | ((with_reducible show VO _ _ _ _ _ _ _); first | refine Z8 rfl rfl hc ?_ | refine Z0a rfl hp ?_ | refine O_makeN rfl rfl hN rfl (by simp [Zs]; omega) ?_ | refine Z0 rfl ?_ | refine Z4 ?_ | refine Z19 rfl rfl ?_)
      rintro x e' st' ⟨rfl, done, rest, hsd, hrest, rfl, rfl⟩
      have hel : (Zc done).length + rest.length = s.length + s.count 0 := by
        rw [Z8c, hsd, List.count_append, List.length_append]; omega
      have hes : Zc s = Zc done ++ rest := by rw [hsd, Zc6, Zdz hrest]
      have hwin := winR (Z1 (Zc done) ++ zr (s.length + s.count 0 - (Zc done).length)) (Zc done).length (s.length + s.count 0) (by omega)
      have hwinB := winR (Z1 (Zc done ++ rest) ++ zr (s.length + s.count 0 - (Zc done).length - rest.length)) (Zc done).length (s.length + s.count 0) (by omega)
      have hdl : done.length ≤ s.length := by rw [hsd]; simp
      have hv2 := Zdt (look := (rowS (Z1 (Zc done) ++ zr (s.length + s.count 0 - (Zc done).length))).get) (sz := 1) (k := .i64) (lo := done.length) (xs := Z1 s) (f := f0) (Z26 s) (by omega) (by rw [Z01]; omega)
      have hv3 := Zdt (look := (rowS (Z1 (Zc done ++ rest) ++ zr (s.length + s.count 0 - (Zc done).length - rest.length))).get) (sz := 1) (k := .i64) (lo := done.length) (xs := Z1 s) (f := f0) (Z26 s) (by omega) (by rw [Z01]; omega)
      have hdr : (Z1 s).drop ((done.length : Int).toNat) = Z1 rest := by
        rw [Int.toNat_natCast, Z3l, hsd, List.drop_left]
      rw [hdr] at hv2 hv3
      have hcp := copyR (Zc done) rest (s.length + s.count 0 - (Zc done).length) (s.length + s.count 0) (by omega) (by omega) false
      have hw1 : IntKind.i64.wrap (((Zc done).length : Int) + rest.length) = ((s.length + s.count 0 : Nat) : Int) := by rw [Z06]; omega
      have hv4 := slice_osl (look := (rowS (Z1 (Zc done ++ rest) ++ zr (s.length + s.count 0 - (Zc done).length - rest.length))).get) (sz := 1) (t := 0) (g := 0) (off := 0) (len := s.length + s.count 0) (k := .i64) (k' := .i64) (lo := 0) (hi := IntKind.i64.wrap (((Zc done).length : Int) + rest.length)) (f := false) (lv := true) (es := Z1 (Zc done ++ rest) ++ zr (s.length + s.count 0 - (Zc done).length - rest.length)) rfl (by omega) (by rw [hw1]; omega) (by rw [hw1]; omega)
      have hrow : Z1 (Zc done ++ rest) ++ zr (s.length + s.count 0 - (Zc done).length - rest.length) = Z1 (Zc s) := by
        rw [hes, show s.length + s.count 0 - (Zc done).length - rest.length = 0 by omega]; simp [zr]
      have hoff : (0 : Nat) + (0 : Int).toNat = 0 := rfl
      rw [hw1, Int.toNat_natCast] at hv4
      rw [← hw1] at hv4
      repeat' first | refine V_M 7 (rowS (Z1 (Zc done ++ rest) ++ zr (s.length + s.count 0 - (Zc done).length - rest.length))) rfl ?_ | refine Z3 rfl ?_ | ((with_reducible show VO _ _ _ _ _ _ _); first | refine Z2c _ rfl rfl rfl rfl hv4 ?_ | refine Z0 rfl ?_ | refine Z4 ?_) | ((with_reducible show VM _ _ _ _ _ _ _ _ _ _ _); first | refine M_slice _ rfl (.inl rfl) rfl rfl rfl rfl hwin hwinB ?_ | refine M_slice _ rfl (.inl rfl) rfl rfl rfl rfl hv2 hv3 ?_ | refine M_copy (src := Z1 rest) rfl rfl rfl rfl (Z00 _) (by decide) hcp ?_ | refine Zd7 rfl (.inl rfl) rfl rfl ?_ | refine Zd7 rfl (.inr rfl) rfl rfl ?_ | refine M_nil ?_)
      refine Z5z (r := .sl (Z1 (Zc s)) false) rfl rfl (Z4n (g := 0) (sz := 1) (lv := true) (es := Z1 (Zc s)) (by rw [← hrow]; rfl) (.inl rfl) (by rw [Z01, hes]; simp; omega) (Z5b _)) ?_
      exact .sl _ _
  obtain ⟨q, h1, h2⟩ := key
  have plq := h2.pl
  refine ⟨q, Zo rfl rfl ?_, h2⟩
  repeat' first | refine Z3 rfl ?_ | refine Zl rfl rfl ?_ | ((with_reducible show VO _ _ _ _ _ _ _); first | refine Z8 rfl rfl h1 ?_ | refine Z0 rfl ?_ | refine Z4 ?_)
  rfl
inductive Val where
  | mk (kind n : Int) (s : List UInt8) (l : List Val)
def Val.kind : Val → Int
  | .mk k _ _ _ => k
def Val.n : Val → Int
  | .mk _ n _ _ => n
def Val.s : Val → List UInt8
  | .mk _ _ s _ => s
def Val.l : Val → List Val
  | .mk _ _ _ l => l
def I64 (x : Int) : Prop := -9223372036854775808 ≤ x ∧ x ≤ 9223372036854775807
inductive VC : Val → List PV → Prop
  | nil (k n : Int) (s : List UInt8) (hk : I64 k) (hn : I64 n) (hs : s.length ≤ 140737488355328) : VC (.mk k n s []) [.int .i64 k, .int .i64 n, .str s, .nilSl]
  | sl (k n : Int) (s : List UInt8) (l : List Val) (xs : List (List PV)) (full : Bool) (hk : I64 k) (hn : I64 n) (hs : s.length ≤ 140737488355328) (hb : l.length ≤ 140737488355328) (hl : xs.length = l.length)
      (h : ∀ (j : Nat) (v : Val) (cs : List PV), l[j]? = some v → xs[j]? = some cs → VC v cs) : VC (.mk k n s l) [.int .i64 k, .int .i64 n, .str s, .sl xs full]
theorem VC.pl {v : Val} {cs : List PV} (h : VC v cs) : ∀ c ∈ cs, Pl c := by
  induction h with
  | nil k n s => exact Z0k (.int _ _) (Z0k (.int _ _) (Z0k (.str _) (Z0k .nilSl Z45)))
  | sl k n s l xs full hk hn hs hb hl h ih =>
    refine Z0k (.int _ _) (Z0k (.int _ _) (Z0k (.str _) (Z0k (.sl _ _ fun cs hcs c hc => ?_) Z45)))
    obtain ⟨j, hj⟩ := List.getElem?_of_mem hcs
    have hlt : j < l.length := by have := (List.getElem?_eq_some_iff.1 hj).1; omega
    exact ih j l[j] cs (List.getElem?_eq_getElem hlt) hj c hc
def Zfm (a b : Int) : Int := if a < b then -1 else if b < a then 1 else 0
theorem Zah (a b : Int) : T.R (.call Z6b [.int .i64 a, .int .i64 b] (.int .i64 (Zfm a b))) := by
  refine Zo rfl rfl ?_
  repeat' first | ((with_reducible show V _ _ _ _ _ _); first | refine Z3 rfl ?_ | refine Z86 rfl rfl (fun _ => ?_) (fun _ => ?_) | refine Zl rfl rfl ?_) | refine Z0 rfl ?_ | refine Z4 ?_
  all_goals simp only [decide_eq_true_eq, decide_eq_false_iff_not] at *
  all_goals unfold Zfm
  all_goals simp [*]
def Zcx : List UInt8 → List UInt8 → Int
  | [], [] => 0
  | [], _ :: _ => -1
  | _ :: _, [] => 1
  | a :: x, b :: y => if a = b then Zcx x y else Zfm a.toNat b.toNat
theorem cmpS_pre : ∀ (p x y : List UInt8), Zcx (p ++ x) (p ++ y) = Zcx x y
  | [], x, y => rfl
  | a :: p, x, y => by simp only [List.cons_append, Zcx, if_true]; exact cmpS_pre p x y
def textP (a b : List UInt8) : EX → EC → St → Prop := fun x e' st' => st' = emptySt ∧ ((x = .exit 0 ∧ e' = .put 0 (.str a) (.put 1 (.str b) .nil) ∧ Zfm a.length b.length = Zcx a b) ∨ (x = .ret ∧ e' = .put 4 (.int .i64 (Zcx a b)) .nil))
theorem text_loop (a b : List UInt8) (hla : a.length ≤ 9223372036854775806) : ∀ (ra rb pre : List UInt8) (e : EC), a = pre ++ ra → b = pre ++ rb → e.get 0 = some (.str a) → e.get 1 = some (.str b) → e.get 5 = some (.int .i64 pre.length) →
    V T (PE (textP a b)) [.code (.loop Z24)] .normal e emptySt := by
  have out : ∀ (ra rb pre : List UInt8) (k : List Fr) (x : EX) (e' : EC), a = pre ++ ra → b = pre ++ rb → ra = [] ∨ rb = [] → Zi 200 k x = ([], .exit 0) → e'.get 0 = some (.str a) → e'.get 1 = some (.str b) → V T (PE (textP a b)) k x e' emptySt := fun ra rb pre k x e' ha hb hn hadv g0 g1 =>
    Zj (.put 0 (.str a) (.put 1 (.str b) .nil)) (Z2 g0 (Z2 g1 Zk)) (Z1y hadv ⟨rfl, .inl ⟨rfl, rfl, by
      rw [ha, hb, cmpS_pre]
      rcases hn with rfl | rfl
      · cases rb <;> simp [Zcx, Zfm] <;> omega
      · cases ra <;> simp [Zcx, Zfm] <;> omega⟩⟩)
  intro ra
  induction ra with
  | nil =>
    intro rb pre e ha hb h0 h1 h5
    refine Zj (.put 0 (.str a) (.put 1 (.str b) (.put 5 (.int .i64 pre.length) .nil))) (Z2 h0 (Z2 h1 (Z2 h5 Zk))) (Zn ?_)
    repeat' first | ((with_reducible show V _ _ _ _ _ _); first | refine Z3 rfl ?_ | refine Ze rfl rfl ?_ | refine Z86 rfl rfl (fun _ => ?_) (fun _ => ?_) | refine V_D rfl ?_) | ((with_reducible show VO _ _ _ _ _ _ _); first | refine Z0 rfl ?_ | refine Z4 ?_ | refine Zq rfl ?_ | refine Z19 rfl rfl ?_ | refine O_gS rfl (fun _ => ?_) (fun _ => ?_)) | refine Z2g rfl ?_ | refine out [] rb pre _ _ _ ha hb (.inl rfl) rfl rfl rfl
    all_goals (exfalso; subst ha; simp at *)
  | cons y ra ih =>
    intro rb pre e ha hb h0 h1 h5
    refine Zj (.put 0 (.str a) (.put 1 (.str b) (.put 5 (.int .i64 pre.length) .nil))) (Z2 h0 (Z2 h1 (Z2 h5 Zk))) (Zn ?_)
    cases rb with
    | nil =>
      repeat' first | ((with_reducible show V _ _ _ _ _ _); first | refine Z3 rfl ?_ | refine Ze rfl rfl ?_ | refine Z86 rfl rfl (fun _ => ?_) (fun _ => ?_) | refine V_D rfl ?_) | ((with_reducible show VO _ _ _ _ _ _ _); first | refine Z0 rfl ?_ | refine Z4 ?_ | refine Zq rfl ?_ | refine Z19 rfl rfl ?_ | refine O_gS rfl (fun _ => ?_) (fun _ => ?_)) | refine Z2g rfl ?_ | refine out (y :: ra) [] pre _ _ _ ha hb (.inr rfl) rfl rfl rfl
      all_goals (exfalso; subst hb; simp at *)
    | cons z rb =>
      have hy : a[(pre.length : Int).toNat]? = some y := by subst ha; simp
      have hz : b[(pre.length : Int).toNat]? = some z := by subst hb; simp
      by_cases hyz : y = z
      · subst hyz
        have fin : ∀ (k : List Fr) (x : EX) (e' : EC), Zi 200 k x = ([.code (.loop Z24)], .normal) → e'.get 0 = some (.str a) → e'.get 1 = some (.str b) → e'.get 5 = some (.int .i64 (IntKind.i64.wrap (pre.length + 1))) → V T (PE (textP a b)) k x e' emptySt := fun k x e' hadv g0 g1 g5 => Z38 hadv (by
          have hlt : pre.length < a.length := by subst ha; simp
          have hw : IntKind.i64.wrap (pre.length + 1) = ((pre ++ [y]).length : Int) := by rw [Z06]; simp; omega
          rw [hw] at g5
          exact ih rb (pre ++ [y]) e' (by rw [ha]; simp) (by rw [hb]; simp) g0 g1 g5)
        repeat' first | ((with_reducible show V _ _ _ _ _ _); first | refine Z3 rfl ?_ | refine Ze rfl rfl ?_ | refine V_cNe rfl rfl ?_ | refine Z86 rfl rfl (fun _ => ?_) (fun _ => ?_) | refine V_D rfl ?_) | ((with_reducible show VO _ _ _ _ _ _ _); first | refine Z0 rfl ?_ | refine Z4 ?_ | refine Zq rfl ?_ | refine Z19 rfl rfl ?_ | refine O_gS rfl (fun _ => ?_) (fun _ => ?_)) | ((with_reducible show VD _ _ _ _ _ _ _); first | refine D_chr y rfl rfl (by omega) hy ?_ | refine D_chr y rfl rfl (by omega) hz ?_ | refine Z2g rfl ?_ | refine Zbn ?_) | refine fin _ _ _ rfl rfl rfl rfl
        all_goals (exfalso; subst ha hb; simp at *; omega)
      · have hne : ((y.toNat : Int) = z.toNat) = False := by
          refine eq_false fun h => hyz ?_
          exact UInt8.toNat_inj.1 (by omega)
        have hcm : Zcx a b = Zfm y.toNat z.toNat := by rw [ha, hb, cmpS_pre]; simp [Zcx, hyz]
        have h8 : ∀ c : UInt8, IntKind.i64.wrap (c.toNat : Int) = c.toNat := fun c => by have := c.toNat_lt; rw [Z06]; omega
        have hnum := Zah (IntKind.i64.wrap y.toNat) (IntKind.i64.wrap z.toNat)
        rw [h8 y, h8 z, ← hcm] at hnum
        have hnum' : T.R (.call Z6b [.int .i64 (IntKind.i64.wrap y.toNat), .int .i64 (IntKind.i64.wrap z.toNat)] (.int .i64 (Zcx a b))) := by rw [h8 y, h8 z]; exact hnum
        repeat' first | ((with_reducible show V _ _ _ _ _ _); first | refine Z3 rfl ?_ | refine Ze rfl rfl ?_ | refine Z86 rfl rfl (fun _ => ?_) (fun _ => ?_) | refine V_D rfl ?_) | ((with_reducible show VO _ _ _ _ _ _ _); first | refine Z0 rfl ?_ | refine Z4 ?_ | refine Zq rfl ?_ | refine Z19 rfl rfl ?_ | refine O_gS rfl (fun _ => ?_) (fun _ => ?_)) | ((with_reducible show VD _ _ _ _ _ _ _); first | refine D_chr y rfl rfl (by omega) hy ?_ | refine D_chr z rfl rfl (by omega) hz ?_ | refine D_cA rfl rfl hnum' ?_ | refine Z2g rfl ?_ | refine Zbn ?_) | exact Zj (.put 4 (.int .i64 (Zcx a b)) .nil) (Z2 rfl Zk) (Z1y rfl ⟨rfl, .inr ⟨rfl, rfl⟩⟩)
        all_goals clear ih out hnum hnum'
        all_goals (exfalso; subst ha hb; simp at *; omega)
theorem run_text2 (a b : List UInt8) (hla : a.length ≤ 9223372036854775806) : T.R (.call Zb2 [.str a, .str b] (.int .i64 (Zcx a b))) := by
  have hnum := Zah (a.length : Int) (b.length : Int)
  refine Zo rfl rfl ?_
  repeat' first | refine Z3 rfl ?_ | refine Z0 rfl ?_ | refine Z4 ?_
  refine Z55 rfl (text_loop a b hla a b [] _ rfl rfl rfl rfl rfl) ?_
  rintro x e' st' ⟨rfl, ⟨rfl, rfl, hc⟩ | ⟨rfl, rfl⟩⟩
  · repeat' first | refine Z3 rfl ?_ | refine Zl rfl rfl ?_ | ((with_reducible show VO _ _ _ _ _ _ _); first | refine Z8 rfl rfl hnum ?_ | refine Z0 rfl ?_ | refine Z4 ?_)
    rw [hc]
  · repeat' first | refine Zl rfl rfl ?_
    rfl
end Go.Proofs.YtgdjnlopdpjnaaaDoor
namespace Go.Proofs.YtgdjnlopdpjnaaaDoor
open Go Go.AM Go.RowKit
def orI (a b : Int) : Int := if a = 0 then b else a
mutual
def Zbq : Val → Val → Int
  | .mk k n s l, .mk k' n' s' l' => orI (Zfm k k') (orI (Zfm n n') (orI (Zcx s s') (Z2y l l')))
def Z2y : List Val → List Val → Int
  | [], [] => 0
  | [], _ :: _ => -1
  | _ :: _, [] => 1
  | a :: x, b :: y => orI (Zbq a b) (Z2y x y)
end
theorem Zfl {a b : Int} : Zfm a b = 0 ↔ a = b := by
  unfold Zfm
  constructor
  · intro h
    split at h
    · cases h
    · split at h
      · cases h
      · omega
  · rintro rfl; simp
theorem Zdv {a b : Int} : orI a b = 0 ↔ a = 0 ∧ b = 0 := by
  unfold orI
  constructor
  · intro h
    split at h
    · exact ⟨by assumption, h⟩
    · contradiction
  · rintro ⟨rfl, rfl⟩; rfl
theorem cmpS_zero : ∀ {s t : List UInt8}, Zcx s t = 0 ↔ s = t
  | [], [] => by simp [Zcx]
  | [], _ :: _ => by simp [Zcx]
  | _ :: _, [] => by simp [Zcx]
  | a :: s, b :: t => by
    unfold Zcx
    by_cases h : a = b
    · subst h; rw [if_pos rfl]; rw [cmpS_zero]; simp
    · rw [if_neg h, Zfl]
      constructor
      · intro h2
        exact absurd (UInt8.toNat_inj.1 (by omega)) h
      · intro h2; injection h2 with h2; exact absurd h2 h
mutual
theorem cmpV_zero : ∀ {a b : Val}, Zbq a b = 0 ↔ a = b
  | .mk k n s l, .mk k' n' s' l' => by
    unfold Zbq
    rw [Zdv, Zdv, Zdv, Zfl, Zfl, cmpS_zero, Zh7]
    simp
theorem Zh7 : ∀ {a b : List Val}, Z2y a b = 0 ↔ a = b
  | [], [] => by simp [Z2y]
  | [], _ :: _ => by simp [Z2y]
  | _ :: _, [] => by simp [Z2y]
  | a :: x, b :: y => by
    unfold Z2y
    rw [Zdv, cmpV_zero, Zh7]
    simp
end
theorem cmpV_self (a : Val) : Zbq a a = 0 := cmpV_zero.2 rfl
theorem Z6h : ∀ (p x y : List Val), Z2y (p ++ x) (p ++ y) = Z2y x y
  | [], x, y => rfl
  | a :: p, x, y => by
    show orI (Zbq a a) (Z2y (p ++ x) (p ++ y)) = _
    rw [cmpV_self]
    exact Z6h p x y
def LC (l : List Val) (p : PV) : Prop := (p = .nilSl ∧ l = []) ∨ ∃ xs full, p = .sl xs full ∧ l.length ≤ 140737488355328 ∧ xs.length = l.length ∧ ∀ (j : Nat) (v : Val) (cs : List PV), l[j]? = some v → xs[j]? = some cs → VC v cs
theorem VC.open {k n : Int} {s : List UInt8} {l : List Val} {cs : List PV} (h : VC (.mk k n s l) cs) : I64 k ∧ I64 n ∧ s.length ≤ 140737488355328 ∧ ∃ p, cs = [.int .i64 k, .int .i64 n, .str s, p] ∧ LC l p := by
  cases h with
  | nil k n s hk hn hs => exact ⟨hk, hn, hs, _, rfl, .inl ⟨rfl, rfl⟩⟩
  | sl k n s l xs full hk hn hs hb hl h => exact ⟨hk, hn, hs, _, rfl, .inr ⟨xs, full, rfl, hb, hl, h⟩⟩
theorem LC.vc {k n : Int} {s : List UInt8} {l : List Val} {p : PV} (h : LC l p) (hk : I64 k) (hn : I64 n) (hs : s.length ≤ 140737488355328) : VC (.mk k n s l) [.int .i64 k, .int .i64 n, .str s, p] := by
  rcases h with ⟨rfl, rfl⟩ | ⟨xs, full, rfl, hb, hl, h⟩
  · exact .nil _ _ _ hk hn hs
  · exact .sl _ _ _ _ _ _ hk hn hs hb hl h
theorem VC.len4 {v : Val} {cs : List PV} (h : VC v cs) : cs.length = 4 := by cases h <;> rfl
theorem VC.one {v : Val} {cs : List PV} (h : VC v cs) : cs.all PV.one = true := by cases h <;> rfl
theorem LC.len {l : List Val} {p : PV} (h : LC l p) : lenOf p = some l.length ∧ Zc3 p = false ∧ l.length ≤ 140737488355328 := by
  rcases h with ⟨rfl, rfl⟩ | ⟨xs, full, rfl, hb, hl, h⟩
  · exact ⟨rfl, rfl, by simp⟩
  · exact ⟨by simp [lenOf, hl], rfl, hb⟩
theorem LC.pl {l : List Val} {p : PV} (h : LC l p) : Pl p := by
  have := (LC.vc (k := 0) (n := 0) (s := []) h (by simp [I64]) (by simp [I64]) (by simp)).pl
  exact this p (by simp)
theorem LC.at {l : List Val} {p : PV} (h : LC l p) {j : Nat} {v : Val} (hv : l[j]? = some v) : ∃ cs, At 4 p j cs ∧ VC v cs := by
  rcases h with ⟨rfl, rfl⟩ | ⟨xs, full, rfl, hb, hl, h⟩
  · simp at hv
  · have hlt : j < xs.length := by have := (List.getElem?_eq_some_iff.1 hv).1; omega
    have hc := h _ v _ hv (List.getElem?_eq_getElem hlt)
    exact ⟨_, ⟨by omega, hc.len4, xs, full, rfl, by simp [hlt]⟩, hc⟩
theorem VC.ind {M : Val → List PV → Prop} (h : ∀ (k n : Int) (s : List UInt8) (l : List Val) (p : PV), I64 k → I64 n → s.length ≤ 140737488355328 → LC l p → (∀ (j : Nat) (v : Val) (cs : List PV), l[j]? = some v → At 4 p j cs → M v cs) → M (.mk k n s l) [.int .i64 k, .int .i64 n, .str s, p]) {v : Val} {cs : List PV} (hv : VC v cs) : M v cs := by
  induction hv with
  | nil k n s hk hn hs => exact h k n s [] .nilSl hk hn hs (.inl ⟨rfl, rfl⟩) (fun j v cs hj => by simp at hj)
  | sl k n s l xs full hk hn hs hb hl hc ih =>
    refine h k n s l _ hk hn hs (.inr ⟨xs, full, rfl, hb, hl, hc⟩) (fun j v cs hj ha => ?_)
    obtain ⟨_, _, ys, f, he, hc2⟩ := ha
    injection he with he1 he2
    subst he1
    exact ih j v cs hj (by simpa using hc2)
def be : Nat → Nat → List UInt8
  | 0, _ => []
  | j + 1, m => UInt8.ofNat (m / 256 ^ j) :: be j m
def Z1k (n : Int) : Nat := (n + 9223372036854775808).toNat
theorem xor_top (x : Nat) (h : x < 18446744073709551616) : x ^^^ 9223372036854775808 = (x + 9223372036854775808) % 18446744073709551616 := by
  have h1 : (x ^^^ 9223372036854775808) / 2 ^ 63 = (x / 2 ^ 63) ^^^ (9223372036854775808 / 2 ^ 63) := Nat.xor_div_two_pow
  have h2 : (x ^^^ 9223372036854775808) % 2 ^ 63 = (x % 2 ^ 63) ^^^ (9223372036854775808 % 2 ^ 63) := Nat.xor_mod_two_pow
  have e1 : (9223372036854775808 : Nat) / 2 ^ 63 = 1 := by decide
  have e2 : (9223372036854775808 : Nat) % 2 ^ 63 = 0 := by decide
  have e3 : (2 : Nat) ^ 63 = 9223372036854775808 := by decide
  rw [e1] at h1
  rw [e2, Nat.xor_zero] at h2
  rw [e3] at h1 h2
  have : x / 9223372036854775808 = 0 ∨ x / 9223372036854775808 = 1 := by omega
  rcases this with h3 | h3
  · rw [h3] at h1
    have : (0 : Nat) ^^^ 1 = 1 := by decide
    omega
  · rw [h3] at h1
    have : (1 : Nat) ^^^ 1 = 0 := by decide
    omega
theorem bv_top (x : Nat) (h : x < 18446744073709551616) : (BitVec.ofInt 64 (x : Int) ^^^ BitVec.ofInt 64 9223372036854775808).toNat = (x + 9223372036854775808) % 18446744073709551616 := by
  rw [BitVec.toNat_xor, BitVec.ofInt_natCast, BitVec.toNat_ofNat]
  have : (BitVec.ofInt 64 9223372036854775808).toNat = 9223372036854775808 := rfl
  rw [this, Nat.mod_eq_of_lt h, xor_top x h]
theorem flip64 {n : Int} (h : I64 n) : IntKind.u64.wrap ((BitVec.ofInt 64 (IntKind.u64.wrap n) ^^^ BitVec.ofInt 64 9223372036854775808).toNat : Int) = (Z1k n : Int) := by
  obtain ⟨h1, h2⟩ := h
  have hw : IntKind.u64.wrap n = ((n % 18446744073709551616).toNat : Int) := by rw [Z0p]; omega
  rw [hw, bv_top _ (by omega), Z0p]
  unfold Z1k
  omega
theorem shr8 (m j : Nat) : IntKind.u8.wrap (Int.fdiv (m : Int) (2 ^ (8 * j))) = ((UInt8.ofNat (m / 256 ^ j)).toNat : Int) := by
  have h1 : (2 : Int) ^ (8 * j) = ((256 ^ j : Nat) : Int) := by
    rw [Int.pow_mul, Int.natCast_pow]
    rfl
  rw [h1, Int.fdiv_eq_ediv_of_nonneg _ (Int.natCast_nonneg _), Z9b, ← Int.natCast_ediv]
  simp
def Ze2 (b : UInt8) : PV := .int .u8 b.toNat
def stE (a b : List PV) : St := ⟨0, 2, [(0, .var a), (1, .var b)]⟩
def zer (j : Nat) : List PV := List.replicate j (.int .u8 0)
theorem Z1r : ∀ (j m : Nat), (be j m).length = j
  | 0, m => rfl
  | j + 1, m => by simp [be, Z1r j m]
theorem eight_loop (m : Nat) : ∀ (j : Nat) (pre : List UInt8) (e : EC), pre.length + j = 8 → pre ++ be j m = be 8 m → e.get 2 = some (.ptr 0 0) → e.get 3 = some (.ptr 1 0) → e.get 4 = some (.int .u64 m) → e.get 9 = some (.int .i64 pre.length) →
    V T (PE fun x e' st' => x = .exit 0 ∧ e' = .put 2 (.ptr 0 0) (.put 3 (.ptr 1 0) .nil) ∧ st' = stE (zer 8) ((be 8 m).map Ze2)) [.code (.loop Z3z)] .normal e (stE (zer 8) (pre.map Ze2 ++ zer j)) := by
  intro j
  induction j with
  | zero =>
    intro pre e hl hb h2 h3 h4 h9
    have out : ∀ (fr : List Fr) (x : EX) (e' : EC), Zi 200 fr x = ([], .exit 0) → e'.get 2 = some (.ptr 0 0) → e'.get 3 = some (.ptr 1 0) → V T (PE fun x e' st' => x = .exit 0 ∧ e' = .put 2 (.ptr 0 0) (.put 3 (.ptr 1 0) .nil) ∧ st' = stE (zer 8) ((be 8 m).map Ze2)) fr x e' (stE (zer 8) (pre.map Ze2 ++ zer 0)) := fun fr x e' hadv g2 g3 =>
      Zj (.put 2 _ (.put 3 _ .nil)) (Z2 g2 (Z2 g3 Zk)) (Z1y hadv ⟨rfl, rfl, by
        have hp : pre = be 8 m := by rw [← hb]; simp [be]
        rw [hp]; simp [zer]⟩)
    refine Zj (.put 2 _ (.put 3 _ (.put 9 _ .nil))) (Z2 h2 (Z2 h3 (Z2 h9 Zk))) (Zn ?_)
    repeat' first | refine Z3 rfl ?_ | refine Z86 rfl rfl (fun _ => ?_) (fun _ => ?_) | refine Z0 rfl ?_ | refine Z4 ?_ | refine out _ _ _ rfl rfl rfl
    all_goals (exfalso; clear out; simp at *; omega)
  | succ j ih =>
    intro pre e hl hb h2 h3 h4 h9
    have hw1 : IntKind.i64.wrap (8 * (pre.length : Int)) = 8 * pre.length := by rw [Z06]; omega
    have hw2 : IntKind.i64.wrap (56 - IntKind.i64.wrap (8 * (pre.length : Int))) = ((8 * j : Nat) : Int) := by rw [hw1, Z06]; omega
    have hsh : Int.fdiv (m : Int) (2 ^ (min (IntKind.i64.wrap (56 - IntKind.i64.wrap (8 * (pre.length : Int)))).toNat IntKind.u64.bits)) = Int.fdiv (m : Int) (2 ^ (8 * j)) := by
      rw [hw2, show IntKind.u64.bits = 64 from rfl, Nat.min_eq_left (by omega), show ((8 * j : Nat) : Int).toNat = 8 * j by omega]
    have hd : (pre.map Ze2 ++ zer (j + 1)).take (0 + (pre.length : Int).toNat * 1) ++ PV.int .u8 (IntKind.u8.wrap (Int.fdiv (m : Int) (2 ^ (min (IntKind.i64.wrap (56 - IntKind.i64.wrap (8 * (pre.length : Int)))).toNat IntKind.u64.bits)))) :: (pre.map Ze2 ++ zer (j + 1)).drop (0 + (pre.length : Int).toNat * 1 + 1) = (pre ++ [UInt8.ofNat (m / 256 ^ j)]).map Ze2 ++ zer j := by
      rw [hsh, shr8, show 0 + (pre.length : Int).toNat * 1 = (pre.map Ze2).length by simp]
      rw [List.take_left, ← List.drop_drop, List.drop_left]
      simp [zer, Ze2, List.replicate_succ]
    have hln : 0 + (pre.length : Int).toNat * 1 + 1 ≤ (pre.map Ze2 ++ zer (j + 1)).length := by simp [zer]
    have hnb : ¬ IntKind.i64.wrap (56 - IntKind.i64.wrap (8 * (pre.length : Int))) < 0 := by rw [hw2]; omega
    have hix : 0 ≤ (pre.length : Int) ∧ (pre.length : Int) < (8 : Nat) := by omega
    have fin : ∀ (fr : List Fr) (x : EX) (e' : EC), Zi 200 fr x = ([.code (.loop Z3z)], .normal) → e'.get 2 = some (.ptr 0 0) → e'.get 3 = some (.ptr 1 0) → e'.get 4 = some (.int .u64 m) → e'.get 9 = some (.int .i64 (IntKind.i64.wrap (pre.length + 1))) → V T (PE fun x e' st' => x = .exit 0 ∧ e' = .put 2 (.ptr 0 0) (.put 3 (.ptr 1 0) .nil) ∧ st' = stE (zer 8) ((be 8 m).map Ze2)) fr x e' (stE (zer 8) ((pre ++ [UInt8.ofNat (m / 256 ^ j)]).map Ze2 ++ zer j)) := fun fr x e' hadv g2 g3 g4 g9 => Z38 hadv (by
      have hw : IntKind.i64.wrap (pre.length + 1) = ((pre ++ [UInt8.ofNat (m / 256 ^ j)]).length : Int) := by rw [Z06]; simp; omega
      rw [hw] at g9
      exact ih _ e' (by simp; omega) (by rw [← hb]; simp [be]) g2 g3 g4 g9)
    refine Zj (.put 2 _ (.put 3 _ (.put 4 _ (.put 9 _ .nil)))) (Z2 h2 (Z2 h3 (Z2 h4 (Z2 h9 Zk)))) (Zn ?_)
    repeat' first | refine Z3 rfl ?_ | refine Z86 rfl rfl (fun _ => ?_) (fun _ => ?_) | ((with_reducible show VO _ _ _ _ _ _ _); first | refine O_shr rfl rfl hnb ?_ | refine O_idxA rfl rfl hix ?_ | refine O_storeP rfl rfl rfl rfl rfl hln hd ?_ | refine Z0 rfl ?_ | refine Z4 ?_) | refine fin _ _ _ rfl rfl rfl rfl rfl
    all_goals (exfalso; clear fin ih hd hln hnb hsh hw1 hw2; simp at *; omega)
theorem run_eight {n : Int} (hn : I64 n) : T.R (.call n_codec_eight [.int .i64 n] (.agg ((be 8 (Z1k n)).map Ze2))) := by
  have hu := flip64 hn
  generalize Z1k n = m at hu ⊢
  have hlen : ((be 8 m).map Ze2).length = 8 := by simp [Z1r]
  have hl := fun e h2 h3 h4 h9 => eight_loop m 8 [] e rfl rfl h2 h3 h4 h9
  have hplc : ∀ c ∈ (be 8 m).map Ze2, Pl c := fun c hc => by
    obtain ⟨b, _, rfl⟩ := List.mem_map.1 hc
    exact .int _ _
  have hone : ((be 8 m).map Ze2).all PV.one = true := by
    simp [Ze2, PV.one]
  refine Zo rfl rfl ?_
  repeat' first | refine Z55 rfl (hl _ rfl rfl (by rw [← hu]; rfl) rfl) ?_ | refine Z3 rfl ?_ | ((with_reducible show VO _ _ _ _ _ _ _); first | refine Z9 rfl ?_ | refine Z0 rfl ?_ | refine Z4 ?_)
  rintro x e' st' ⟨rfl, rfl, rfl⟩
  generalize (be 8 m).map Ze2 = cs at hlen hplc hone ⊢
  have hs : storeAt (stE (zer 8) cs) (.ptr 0 0) (.agg cs) = some (stE cs cs) := by
    simp only [storeAt, stE, St.get, Z7]
    simp [zer, hlen, Z70, St.put, putA, PV.cells]
  repeat' first | refine Z3 rfl ?_ | ((with_reducible show VO _ _ _ _ _ _ _); first | refine Z2m rfl rfl hlen ?_ | refine Zp rfl rfl hone hlen rfl hs ?_ | refine Z4 ?_)
  have hrr : loadAt (stE cs cs).get 8 true (.ptr 0 0) = some (.agg cs) := by
    simp only [loadAt, behind, stE, St.get, Z7, Option.bind_some]
    simp only [slice?, if_true]
    rw [← hlen]
    simp
  exact Z5z (r0 := .agg cs) rfl (resG_cell rfl hrr) (Pl.view (.agg _ hplc)) rfl
end Go.Proofs.YtgdjnlopdpjnaaaDoor
