/- Bytes: a copy, whether alike, whether a beginning. · num.Put: a number's bytes. · Names: value.Name. · slices.Clone and num.Put, whatever is one's own already. · bytes.ReplaceAll of a nought by a nought and 255. · Values: what they are over plain cells; how two stand. · Names: rambleref02.Name. -/
import Derived.Test.YtgdjnlopdpjnaaaGreatDoorT
import Derived.Test.YtgdjnlopdpjnaaaGreatDoorAmZ
import Derived.Lib.SlTrimSet
set_option linter.unusedVariables false
set_option linter.unusedSimpArgs false
namespace Go.Proofs.YtgdjnlopdpjnaaaGreatDoor
open Go Go.AM Go.RowKit
theorem run_Equal {v w : PV} {s t : List UInt8} (hv : BV v s) (hw : BV w t) : T.R (.call n_bytes_Equal [v, w] (.bool (decide (s = t)))) := by
  refine call_V rfl rfl ?_
  repeat' first | ((with_reducible show Go.AM.V _ _ _ _ _ _); first | refine V_O rfl ?_ | refine V_fA rfl rfl ?_) | ((with_reducible show Go.AM.VO _ _ _ _ _ _ _); first | refine O_toStr rfl (by assumption) ?_ | refine O_step rfl ?_ | refine O_nil' ?_)
  rfl
theorem run_HasPrefix {v w : PV} {s t : List UInt8} (hv : BV v s) (hw : BV w t) : T.R (.call n_bytes_HasPrefix [v, w] (.bool (decide (t <+: s)))) := by
  refine call_V rfl rfl ?_
  repeat' first | ((with_reducible show Go.AM.V _ _ _ _ _ _); first | refine V_O rfl ?_ | refine V_fA rfl rfl ?_) | ((with_reducible show Go.AM.VO _ _ _ _ _ _ _); first | refine O_lenB rfl (by assumption) ?_ | refine O_step rfl ?_ | refine O_nil' ?_ | refine O_gT' rfl ?_ | refine O_gF' rfl rfl ?_ | refine O_gS rfl (fun _ => ?_) (fun _ => ?_))
  · rename_i h
    have hle : t.length ≤ s.length := by have := of_decide_eq_true h; omega
    obtain ⟨v', h1, h2⟩ := hv.hi emptySt.get (k := .i64) (m := (t.length : Int)) (by omega) (by omega)
    refine O_slice v' rfl rfl rfl rfl h1 ?_
    have hc := run_Equal h2 hw
    have hpl := h2.pl
    have hpl' := hw.pl
    repeat' first | ((with_reducible show Go.AM.V _ _ _ _ _ _); first | refine V_fA rfl rfl ?_) | ((with_reducible show Go.AM.VO _ _ _ _ _ _ _); first | refine O_cA rfl rfl hc ?_ | refine O_step rfl ?_ | refine O_nil' ?_ | refine O_gT' rfl ?_)
    congr 1
    rw [decide_eq_decide, Int.toNat_natCast]
    exact ⟨fun h => by rw [← h]; exact List.take_prefix _ _, fun h => (List.prefix_iff_eq_take.1 h).symm⟩
  · rename_i h
    have hle : s.length < t.length := by simp at h; omega
    congr 1
    symm
    rw [decide_eq_false_iff_not]
    intro hp
    have := hp.length_le
    omega
end Go.Proofs.YtgdjnlopdpjnaaaGreatDoor
set_option linter.unusedVariables false
set_option linter.unusedSimpArgs false
namespace Go.Proofs.YtgdjnlopdpjnaaaGreatDoor
open Go Go.AM Go.RowKit
def putL : Nat → Nat → List UInt8
  | 0, u => [UInt8.ofNat u]
  | n + 1, u => if u < 128 then [UInt8.ofNat u] else UInt8.ofNat (u % 128 + 128) :: putL n (u / 128)
theorem or128 (u : Nat) : IntKind.u8.wrap ((BitVec.ofInt 8 (IntKind.u8.wrap (u : Int)) ||| BitVec.ofInt 8 128).toNat : Int) = ((UInt8.ofNat (u % 128 + 128)).toNat : Int) := by
  have h1 : IntKind.u8.wrap (u : Int) = ((u % 256 : Nat) : Int) := by rw [wrap_u8]; omega
  rw [h1, wrap_u8]
  have h2 : ∀ b : BitVec 8, (b ||| 128#8).toNat = b.toNat % 128 + 128 := by decide
  have h3 : BitVec.ofInt 8 ((u % 256 : Nat) : Int) = BitVec.ofNat 8 (u % 256) := by rw [BitVec.ofInt_natCast]
  have h4 : BitVec.ofInt 8 128 = 128#8 := rfl
  rw [h3, h4, h2]
  simp [BitVec.toNat_ofNat, UInt8.toNat_ofNat']
theorem shr7 (u : Nat) : Int.fdiv (u : Int) (2 ^ (min (7 : Int).toNat IntKind.u64.bits)) = ((u / 128 : Nat) : Int) := by
  show Int.fdiv (u : Int) 128 = _
  rw [Int.fdiv_eq_ediv_of_nonneg _ (by omega)]
  omega
end Go.Proofs.YtgdjnlopdpjnaaaGreatDoor
set_option linter.unusedVariables false
set_option linter.unusedSimpArgs false
namespace Go.Proofs.YtgdjnlopdpjnaaaGreatDoor
open Go Go.AM Go.RowKit
def isLet (c : UInt8) : Bool := c == 95 || (decide (97 ≤ c.toNat) && decide (c.toNat ≤ 122)) || (decide (65 ≤ c.toNat) && decide (c.toNat ≤ 90))
def isDg (c : UInt8) : Bool := decide (48 ≤ c.toNat) && decide (c.toNat ≤ 57)
def nameB : List UInt8 → Bool
  | [] => false
  | c :: r => decide ((c :: r).length ≤ 24) && isLet c && (c :: r).all fun c => isLet c || isDg c
def nameSet : List UInt8 := [97, 98, 99, 100, 101, 102, 103, 104, 105, 106, 107, 108, 109, 110, 111, 112, 113, 114, 115, 116, 117, 118, 119, 120, 121, 122, 65, 66, 67, 68, 69, 70, 71, 72, 73, 74, 75, 76, 77, 78, 79, 80, 81, 82, 83, 84, 85, 86, 87, 88, 89, 90, 48, 49, 50, 51, 52, 53, 54, 55, 56, 57, 95]
theorem u8_all {P : UInt8 → Prop} (h : ∀ n : Nat, n < 256 → P (UInt8.ofNat n)) (c : UInt8) : P c := by
  have := h c.toNat c.toNat_lt
  simpa using this
theorem set_is : ∀ c : UInt8, nameSet.contains c = (isLet c || isDg c) := u8_all (by decide +kernel)
theorem set_ascii : ∀ c ∈ nameSet, c.toNat < 128 := by decide +kernel
theorem dropWhile_nil {α : Type} {p : α → Bool} : ∀ {l : List α}, l.dropWhile p = [] ↔ ∀ c ∈ l, p c = true
  | [] => by simp
  | a :: l => by
    rw [List.dropWhile_cons]
    cases h : p a with
    | true => rw [if_pos rfl, dropWhile_nil]; simp [h]
    | false => simp [h]
theorem dropWhile_all {α : Type} {p : α → Bool} : ∀ {l : List α}, (∀ c ∈ l.dropWhile p, p c = true) → l.dropWhile p = []
  | [], _ => rfl
  | a :: l, h => by
    rw [List.dropWhile_cons] at h ⊢
    cases hp : p a with
    | true =>
      rw [hp, if_pos rfl] at h
      rw [if_pos rfl]
      exact dropWhile_all h
    | false =>
      rw [hp, if_neg (by simp)] at h
      have := h a (by simp)
      rw [hp] at this
      cases this
theorem trim_nil (l cs : List UInt8) : Lib.trimS l cs = [] ↔ l.all (cs.contains ·) = true := by
  unfold Lib.trimS Lib.trimLeftS
  rw [dropWhile_nil, List.all_eq_true]
  unfold Lib.trimRightS
  constructor
  · intro h
    have h1 : l.reverse.dropWhile (cs.contains ·) = [] := dropWhile_all fun c hc => h c (by simpa using hc)
    intro c hc
    exact dropWhile_nil.1 h1 c (by simpa using hc)
  · intro h c hc
    have h1 : l.reverse.dropWhile (cs.contains ·) = [] := dropWhile_nil.2 fun c hc => h c (by simpa using hc)
    rw [h1] at hc
    simp at hc
theorem run_Name {s : List UInt8} (hs : s.length ≤ 140737488355328) : T.R (.call n_value_Name [.str s] (.bool (nameB s))) := by
  have ht : T.R (.call n_strings_Trim [.str s, .str nameSet] (.str (Lib.trimS s nameSet))) := .prim _ _ _ ⟨rfl, s, nameSet, by omega, by decide, set_ascii, rfl, rfl⟩
  have hn : decide (Lib.trimS s nameSet = []) = s.all fun c => isLet c || isDg c := by
    rw [Bool.eq_iff_iff, decide_eq_true_eq, trim_nil]
    have : (fun c => nameSet.contains c) = fun c => isLet c || isDg c := funext set_is
    rw [show s.all (nameSet.contains ·) = s.all (fun c => isLet c || isDg c) from congrArg _ this]
  generalize Lib.trimS s nameSet = tr at ht hn
  cases s with
  | nil =>
    refine call_V rfl rfl ?_
    repeat' first | ((with_reducible show Go.AM.V _ _ _ _ _ _); first | refine V_O rfl ?_ | refine V_cT rfl rfl ?_ | refine V_fA rfl rfl ?_) | ((with_reducible show Go.AM.VO _ _ _ _ _ _ _); first | refine O_step rfl ?_ | refine O_nil' ?_ | refine O_gU' rfl ?_ | refine O_gF' rfl rfl ?_)
    rfl
  | cons c r =>
    have hne : ¬ (c :: r) = [] := by simp
    have hch : (c :: r)[(0 : Int).toNat]? = some c := rfl
    show T.R (.call n_value_Name [.str (c :: r)] (.bool (decide ((c :: r).length ≤ 24) && isLet c && (c :: r).all fun c => isLet c || isDg c)))
    by_cases hl : 24 < (c :: r).length
    · have h1 : ((24 : Int) < ((c :: r).length : Int)) := by omega
      rw [decide_eq_false (by omega : ¬ (c :: r).length ≤ 24)]
      refine call_V rfl rfl ?_
      repeat' first | ((with_reducible show Go.AM.V _ _ _ _ _ _); first | refine V_O rfl ?_ | refine V_cT rfl rfl ?_ | refine V_fA rfl rfl ?_) | ((with_reducible show Go.AM.VO _ _ _ _ _ _ _); first | refine O_is (dec_not hne) rfl ?_ | refine O_is (dec_is h1) rfl ?_ | refine O_step rfl ?_ | refine O_nil' ?_ | refine O_gT' rfl ?_ | refine O_gU' rfl ?_ | refine O_gF' rfl rfl ?_)
      rfl
    · have h1 : ¬ ((24 : Int) < ((c :: r).length : Int)) := by omega
      rw [decide_eq_true (by omega : (c :: r).length ≤ 24)]
      by_cases hd : isDg c = true
      · have hd' := hd
        unfold isDg at hd'
        simp only [Bool.and_eq_true, decide_eq_true_eq] at hd'
        have h2 : (48 : Int) ≤ (c.toNat : Int) := by omega
        have h3 : (c.toNat : Int) ≤ 57 := by omega
        have hnl : isLet c = false := by
          unfold isLet
          simp only [Bool.or_eq_false_iff, Bool.and_eq_false_iff, beq_eq_false_iff_ne, decide_eq_false_iff_not]
          refine ⟨⟨fun e => ?_, .inl (by omega)⟩, .inl (by omega)⟩
          subst e
          have : (95 : UInt8).toNat = 95 := rfl
          omega
        rw [hnl]
        refine call_V rfl rfl ?_
        repeat' first | ((with_reducible show Go.AM.V _ _ _ _ _ _); first | refine V_O rfl ?_ | refine V_cT rfl rfl ?_ | refine V_fA rfl rfl ?_) | ((with_reducible show Go.AM.VO _ _ _ _ _ _ _); first | refine O_is (dec_not hne) rfl ?_ | refine O_is (dec_not h1) rfl ?_ | refine O_chr c rfl rfl (by decide) hch ?_ | refine O_is (dec_is h2) rfl ?_ | refine O_is (dec_is h3) rfl ?_ | refine O_step rfl ?_ | refine O_nil' ?_ | refine O_gT' rfl ?_)
        rfl
      · have hkey : (isLet c && (c :: r).all fun c => isLet c || isDg c) = (c :: r).all fun c => isLet c || isDg c := by
          cases hlc : isLet c with
          | true => rfl
          | false => simp [hlc, hd]
        rw [Bool.and_assoc, hkey, Bool.true_and, ← hn]
        have hw : decide ((48 : Int) ≤ (c.toNat : Int)) = true → decide ((c.toNat : Int) ≤ 57) = true → False := fun a b => hd (by
          have a := of_decide_eq_true a
          have b := of_decide_eq_true b
          unfold isDg
          simp only [Bool.and_eq_true, decide_eq_true_eq]
          omega)
        refine call_V rfl rfl ?_
        repeat' first | ((with_reducible show Go.AM.V _ _ _ _ _ _); first | refine V_O rfl ?_ | refine V_cF rfl rfl ?_ | refine V_cB rfl rfl (fun _ => ?_) (fun _ => ?_) | refine V_fA rfl rfl ?_) | ((with_reducible show Go.AM.VO _ _ _ _ _ _ _); first | refine O_is (dec_not hne) rfl ?_ | refine O_is (dec_not h1) rfl ?_ | refine O_chr c rfl rfl (by decide) hch ?_ | refine O_cA rfl rfl ht ?_ | refine O_step rfl ?_ | refine O_nil' ?_ | refine O_gT' rfl ?_ | refine O_gF' rfl rfl ?_ | refine O_gS rfl (fun _ => ?_) (fun _ => ?_))
        all_goals first | rfl | (exfalso; apply hw <;> assumption)
end Go.Proofs.YtgdjnlopdpjnaaaGreatDoor
set_option linter.unusedVariables false
set_option linter.unusedSimpArgs false
namespace Go.Proofs.YtgdjnlopdpjnaaaGreatDoor
open Go Go.AM Go.RowKit
theorem cloneG {st : St} {v : PV} {s : List UInt8} (hv : RB st v s) (hl : s.length ≤ 140737488355328) : ∃ v' st', T.R (.raw n_slices_Clone_byte_byte [v] st v' st') ∧ AccT 1 st' v' (byteCells s) ∧ Grow st .nilSl st' v' := by
  have hsrc : srcOf (st.new (.row 0 1 [] true)) v = some (byteCells s) := (hv.keep (st' := st.new (.row 0 1 [] true)) (by simp [St.new]) (fun u hu => St.get_new_old (hv.lt hu))).src
  refine raw_VQ rfl rfl ?_
  by_cases hn : v = .nilSl
  · subst hn
    have hs : s = [] := by
      rcases hv with ⟨_, h⟩ | ⟨f, h⟩ | ⟨t, g, lv, h, _⟩
      · exact h
      · cases h
      · cases h
    subst hs
    repeat' first | ((with_reducible show Go.AM.V _ _ _ _ _ _); first | refine V_finRQ rfl rfl ?_ | refine V_O rfl ?_ | refine V_cT rfl rfl ?_) | ((with_reducible show Go.AM.VO _ _ _ _ _ _ _); first | refine O_step rfl ?_ | refine O_nil' ?_)
    exact ⟨.inl ⟨rfl, rfl⟩, .refl _ _⟩
  · have hnn : isNil 0 v = some false := by
      rcases hv with ⟨h, _⟩ | ⟨f, rfl⟩ | ⟨t, g, lv, rfl, _⟩
      · exact absurd h hn
      · rfl
      · rfl
    have hq : ∀ (e : EC), e.get 3 = some v → stepQ st.get e (.eqNil false 0 (.t 3)) = some (.bool false) := fun e he => by
      simp only [stepQ, get1, Opd.get, he, hnn]
      rfl
    have hg0 : AccT 1 (st.new (.row 0 1 [] true)) (.osl st.next 0 0 (([] : List (List PV)).length) false) [] := .inr ⟨st.next, 0, rfl, St.get_new, by simp [St.new]⟩
    have hgr : Grow st .nilSl (st.new (.row 0 1 [] true)) (.osl st.next 0 0 (([] : List (List PV)).length) false) := ⟨rfl, by simp [St.new], .inr ⟨st.next, rfl, Nat.le_refl _⟩, fun u hu _ => St.get_new_old hu⟩
    by_cases hs : s = []
    · subst hs
      repeat' first | ((with_reducible show Go.AM.V _ _ _ _ _ _); first | refine V_finRQ rfl rfl ?_ | refine V_O rfl ?_ | refine V_cF rfl rfl ?_) | ((with_reducible show Go.AM.VO _ _ _ _ _ _ _); first | refine O_step (hq _ rfl) ?_ | refine O_append rfl rfl hsrc (okEls_bytes _) (by decide) (by decide) (appendTo_none (.inr (.inr ⟨_, _, _, _, _, rfl⟩))) ?_ | refine O_stepL rfl ?_ | refine O_step rfl ?_ | refine O_nil' ?_)
      exact ⟨hg0, hgr⟩
    · obtain ⟨v', st', k1, k2, k3⟩ := hg0.grow (bytes := 1) (src := byteCells s) (by simpa [byteCells] using hs) (by simp only [byteCells_length, roomLen, List.length_nil]; omega)
      repeat' first | ((with_reducible show Go.AM.V _ _ _ _ _ _); first | refine V_finRQ rfl rfl ?_ | refine V_O rfl ?_ | refine V_cF rfl rfl ?_) | ((with_reducible show Go.AM.VO _ _ _ _ _ _ _); first | refine O_step (hq _ rfl) ?_ | refine O_append rfl rfl hsrc (okEls_bytes _) (by decide) (by decide) k1 ?_ | refine O_stepL rfl ?_ | refine O_step rfl ?_ | refine O_nil' ?_)
      exact ⟨by simpa using k2, hgr.trans k3⟩
def putP (n u : Nat) (es : List (List PV)) (st : St) (v : PV) : EX → EC → St → Prop := fun x e' st' => x = .exit 0 ∧ ∃ (v' : PV) (u' : Nat) (pre : List UInt8), e' = .put 1 (.int .u64 u') (.put 5 v' .nil) ∧ AccT 1 st' v' (es ++ byteCells pre) ∧ Grow st v st' v' ∧ pre ++ [UInt8.ofNat u'] = putL n u ∧ u' < 128 ∧ pre.length ≤ n
theorem put_loopG : ∀ (n u : Nat) (es : List (List PV)) (e : EC) (st : St) (v : PV), u < 128 ^ (n + 1) → e.get 1 = some (.int .u64 u) → e.get 5 = some v → AccT 1 st v es → es.length + n ≤ 140000000000000 →
    V T (PE (putP n u es st v)) [.code (.loop lp_num_Put_0)] .normal e st := by
  intro n
  induction n with
  | zero =>
    intro u es e st v hu h1 h5 hacc hb
    refine V_less (.put 1 (.int .u64 u) (.put 5 v .nil)) (less_put h1 (less_put h5 less_nil)) (V_unroll ?_)
    repeat' first | ((with_reducible show Go.AM.V _ _ _ _ _ _); first | refine V_O rfl ?_ | refine V_cB rfl rfl (fun _ => ?_) (fun _ => ?_)) | ((with_reducible show Go.AM.VO _ _ _ _ _ _ _); first | refine O_step rfl ?_ | refine O_nil' ?_)
    · rename_i h
      simp at h; omega
    · exact V_less (.put 1 (.int .u64 u) (.put 5 v .nil)) (less_put rfl (less_put rfl less_nil)) (V_endP rfl ⟨rfl, v, u, [], rfl, by simpa [byteCells] using hacc, .refl _ _, rfl, by simpa using hu, by simp⟩)
  | succ n ih =>
    intro u es e st v hu h1 h5 hacc hb
    refine V_less (.put 1 (.int .u64 u) (.put 5 v .nil)) (less_put h1 (less_put h5 less_nil)) (V_unroll ?_)
    repeat' first | ((with_reducible show Go.AM.V _ _ _ _ _ _); first | refine V_O rfl ?_ | refine V_cB rfl rfl (fun _ => ?_) (fun _ => ?_)) | ((with_reducible show Go.AM.VO _ _ _ _ _ _ _); first | refine O_step rfl ?_ | refine O_nil' ?_)
    · rename_i h
      have hge : ¬ u < 128 := by simp at h; omega
      obtain ⟨v', st', k1, k2, k3⟩ := hacc.grow (bytes := 1) (src := [[.int .u8 (IntKind.u8.wrap ((BitVec.ofInt 8 (IntKind.u8.wrap (u : Int)) ||| BitVec.ofInt 8 128).toNat : Int))]]) (by simp) (by simp [roomLen]; omega)
      refine O_append rfl rfl rfl rfl (by decide) (by decide) k1 ?_
      repeat' first | refine V_O rfl ?_ | refine O_step rfl ?_ | refine O_nil' ?_
      refine V_monoP (ih (u / 128) _ _ _ v' (by rw [Nat.pow_succ] at hu; omega) (by
        show some (PV.int .u64 (Int.fdiv (u : Int) (2 ^ (min (7 : Int).toNat IntKind.u64.bits)))) = _
        rw [shr7]) rfl k2 (by simp; omega)) ?_
      rintro x e' st'' ⟨hx, v'', u', pre, he, hA, hG, hpre, hu', hlen⟩
      refine ⟨hx, v'', u', UInt8.ofNat (u % 128 + 128) :: pre, he, ?_, k3.trans hG, ?_, hu', by simp; omega⟩
      · rw [or128] at hA
        simpa [byteCells] using hA
      · simp only [putL, if_neg hge, List.cons_append, hpre]
    · rename_i h
      have hlt : u < 128 := by simp at h; omega
      exact V_less (.put 1 (.int .u64 u) (.put 5 v .nil)) (less_put rfl (less_put rfl less_nil)) (V_endP rfl ⟨rfl, v, u, [], rfl, by simpa [byteCells] using hacc, .refl _ _, by simp [putL, hlt], hlt, by simp⟩)
theorem putG {st : St} {b : PV} {s : List UInt8} (hbn : st.base = st.next) (hv : RB st b s) (hs : s.length ≤ 100000000000000) (u : Nat) (hu : u < 18446744073709551616) :
    ∃ v' st', T.R (.raw n_num_Put [b, .int .u64 u] st v' st') ∧ AccT 1 st' v' (byteCells (s ++ putL 9 u)) ∧ Grow st .nilSl st' v' := by
  have hv0 : RB ⟨st.next, st.next, st.toks⟩ b s := hv.keep (Nat.le_refl _) (fun _ _ => rfl)
  obtain ⟨v1, st1, h1, h2, h3⟩ := cloneG hv0 (by omega)
  have hgr : Grow st .nilSl ⟨st.base, st1.next, st1.toks⟩ v1 := ⟨rfl, h3.2.1, h3.2.2.1, h3.2.2.2⟩
  have hacc : AccT 1 ⟨st.base, st1.next, st1.toks⟩ v1 (byteCells s) := h2
  refine raw_VQ rfl rfl ?_
  repeat' first | ((with_reducible show Go.AM.V _ _ _ _ _ _); first | refine V_O rfl ?_) | ((with_reducible show Go.AM.VO _ _ _ _ _ _ _); first | refine O_rawAll h1 h3.1 rfl rfl ?_ | refine O_step rfl ?_ | refine O_nil' ?_)
  refine V_cutA rfl (put_loopG 9 u (byteCells s) _ _ v1 (by omega) rfl rfl hacc (by rw [byteCells_length]; omega)) ?_
  rintro x e' st' ⟨rfl, v', u', pre, rfl, hA, hG, hpre, hu', hlen⟩
  have hcell : [[PV.int .u8 (IntKind.u8.wrap (u' : Int))]] = byteCells [UInt8.ofNat u'] := by
    rw [wrap_u8]
    simp [byteCells]
  obtain ⟨w, st2, k1, k2, k3⟩ := hA.grow (bytes := 1) (src := [[.int .u8 (IntKind.u8.wrap (u' : Int))]]) (by simp) (by simp [roomLen, byteCells]; omega)
  repeat' first | ((with_reducible show Go.AM.V _ _ _ _ _ _); first | refine V_finRQ rfl rfl ?_ | refine V_O rfl ?_) | ((with_reducible show Go.AM.VO _ _ _ _ _ _ _); first | refine O_append rfl rfl rfl rfl (by decide) (by decide) k1 ?_ | refine O_step rfl ?_ | refine O_nil' ?_)
  rw [hcell, ← byteCells_append, ← byteCells_append, List.append_assoc, hpre] at k2
  exact ⟨k2, hgr.trans (hG.trans k3)⟩
end Go.Proofs.YtgdjnlopdpjnaaaGreatDoor
set_option linter.unusedVariables false
set_option linter.unusedSimpArgs false
namespace Go.Proofs.YtgdjnlopdpjnaaaGreatDoor
open Go Go.AM Go.RowKit
def esc (s : List UInt8) : List UInt8 := s.flatMap fun b => if b = 0 then [0, 255] else [b]
theorem esc_append (a b : List UInt8) : esc (a ++ b) = esc a ++ esc b := by simp [esc]
theorem esc_length : ∀ s : List UInt8, (esc s).length = s.length + s.count 0
  | [] => rfl
  | b :: s => by
    have ih := esc_length s
    unfold esc at ih ⊢
    rw [List.flatMap_cons, List.length_append, ih, List.count_cons]
    by_cases h : b = 0
    · subst h; simp; omega
    · simp [h]; omega
theorem esc_none : ∀ {s : List UInt8}, s.count 0 = 0 → esc s = s
  | [], _ => rfl
  | b :: s, h => by
    rw [List.count_cons] at h
    have hb : b ≠ 0 := by rintro rfl; simp at h
    have ih := esc_none (s := s) (by omega)
    unfold esc at ih ⊢
    rw [List.flatMap_cons, ih]
    simp [hb]
theorem idx_spec : ∀ a : List UInt8, (Lib.indexByte a 0 = -1 ∧ a.count 0 = 0) ∨ ∃ x y, a = x ++ 0 :: y ∧ x.count 0 = 0 ∧ Lib.indexByte a 0 = x.length
  | [] => .inl ⟨rfl, rfl⟩
  | b :: a => by
    by_cases hb : b = 0
    · subst hb
      exact .inr ⟨[], a, rfl, rfl, rfl⟩
    · unfold Lib.indexByte
      rw [if_neg (by simpa using hb)]
      rcases idx_spec a with ⟨h1, h2⟩ | ⟨x, y, rfl, h2, h3⟩
      · rw [h1]
        exact .inl ⟨rfl, by rw [List.count_cons, h2]; simp [hb]⟩
      · refine .inr ⟨b :: x, y, rfl, by rw [List.count_cons, h2]; simp [hb], ?_⟩
        rw [h3, if_neg (by simp)]
        simp
theorem run_IndexByte {p : PV} {a : List UInt8} (hp : BV p a) (c : Int) : T.R (.call n_bytes_IndexByte [p, .int .u8 c] (.int .i64 (Lib.indexByte a c.toNat.toUInt8))) := by
  have hx : T.ext n_bytealg_IndexByte [p, .int .u8 c] (.int .i64 (Lib.indexByte a c.toNat.toUInt8)) := X_idxB ⟨rfl, p, a, c, rfl, hp, rfl⟩
  generalize Lib.indexByte a c.toNat.toUInt8 = r at hx ⊢
  have plp := hp.pl
  refine call_V rfl rfl ?_
  repeat' first | ((with_reducible show Go.AM.V _ _ _ _ _ _); first | refine V_O rfl ?_ | refine V_fA rfl rfl ?_) | ((with_reducible show Go.AM.VO _ _ _ _ _ _ _); first | refine O_extP rfl rfl (viewL_pl (by (repeat' (first | exact Pl.int _ _ | exact Pl.bool _ | exact Pl.str _ | exact Pl.nilSl | exact pl_nil | refine pl_cons ?_ ?_ | refine Pl.tuple _ ?_ | refine Pl.agg _ ?_ | refine Pl.func _ _ ?_ | assumption | refine Pl.iptr _ _ ?_ | exact pll_nil | refine pll_cons ?_ ?_ | refine Pl.sl _ _ ?_)); first | done | fail)) rfl hx ?_ | refine O_step rfl ?_ | refine O_nil' ?_)
  rfl
theorem run_Index1 {p : PV} {a : List UInt8} (hp : BV p a) (f : Bool) : T.R (.call n_bytes_Index [p, .sl [[.int .u8 0]] f] (.int .i64 (Lib.indexByte a 0))) := by
  have hx := run_IndexByte hp 0
  rw [show (0 : Int).toNat.toUInt8 = 0 from rfl] at hx
  generalize Lib.indexByte a 0 = r at hx ⊢
  have plp := hp.pl
  refine call_V rfl rfl ?_
  repeat' first | ((with_reducible show Go.AM.V _ _ _ _ _ _); first | refine V_O rfl ?_ | refine V_cT rfl rfl ?_ | refine V_cF rfl rfl ?_ | refine V_fA rfl rfl ?_) | ((with_reducible show Go.AM.VO _ _ _ _ _ _ _); first | refine O_cA rfl rfl hx ?_ | refine O_step rfl ?_ | refine O_nil' ?_)
  rfl
theorem run_Count1 {p : PV} {a : List UInt8} (hp : BV p a) (f : Bool) : T.R (.call n_bytes_Count [p, .sl [[.int .u8 0]] f] (.int .i64 (a.count 0 : Nat))) := by
  have hx : T.ext n_bytealg_Count [p, .int .u8 0] (.int .i64 (a.count 0 : Nat)) := X_cntB ⟨rfl, p, a, 0, rfl, hp, rfl⟩
  generalize ((a.count 0 : Nat) : Int) = r at hx ⊢
  have plp := hp.pl
  refine call_V rfl rfl ?_
  repeat' first | ((with_reducible show Go.AM.V _ _ _ _ _ _); first | refine V_O rfl ?_ | refine V_cT rfl rfl ?_ | refine V_cF rfl rfl ?_ | refine V_fA rfl rfl ?_) | ((with_reducible show Go.AM.VO _ _ _ _ _ _ _); first | refine O_extP rfl rfl (viewL_pl (by (repeat' (first | exact Pl.int _ _ | exact Pl.bool _ | exact Pl.str _ | exact Pl.nilSl | exact pl_nil | refine pl_cons ?_ ?_ | refine Pl.tuple _ ?_ | refine Pl.agg _ ?_ | refine Pl.func _ _ ?_ | assumption | refine Pl.iptr _ _ ?_ | exact pll_nil | refine pll_cons ?_ ?_ | refine Pl.sl _ _ ?_)); first | done | fail)) rfl hx ?_ | refine O_step rfl ?_ | refine O_nil' ?_)
  rfl
def rowS (es : List (List PV)) : St := ⟨0, 1, [(0, .row 0 1 es true)]⟩
def zr (k : Nat) : List (List PV) := List.replicate k [.int .u8 0]
theorem copyR (a b : List UInt8) (k N : Nat) (hN : N = a.length + k) (hb : b.length ≤ k) (f : Bool) :
    copyTo (rowS (byteCells a ++ zr k)) 1 (.osl 0 0 a.length (N - a.length) f) (byteCells b) = some (.int .i64 b.length, rowS (byteCells (a ++ b) ++ zr (k - b.length))) := by
  rw [copy_own (g := 0) (es := byteCells a ++ zr k) rfl (by simp [byteCells, zr]; omega) (by rw [byteCells_length]; omega)]
  rw [byteCells_length]
  congr 2
  have e1 : (byteCells a ++ zr k).take a.length = byteCells a := by
    rw [← byteCells_length a, List.take_left]
  have e2 : (byteCells a ++ zr k).drop (a.length + b.length) = zr (k - b.length) := by
    rw [← byteCells_length a, ← List.drop_drop, List.drop_left]
    simp [zr]
  rw [e1, e2, byteCells_append]
  rfl
theorem winR (es : List (List PV)) (w N : Nat) (hw : w ≤ N) : sliceSl? (rowS es).get 1 (some (.int .i64 (w : Int))) none none (.osl 0 0 0 N false) = some (.osl 0 0 w (N - w) false) := by
  rw [slice_osl_lo (look := (rowS es).get) (sz := 1) (es := es) (lv := true) rfl (by omega) (by omega)]
  simp
def eR (p oldV newV : PV) (N : Nat) (done : List UInt8) : EC := .put 0 p (.put 10 (.osl 0 0 0 N false) (.put 11 (.int .i64 (esc done).length) (.put 12 (.int .i64 done.length) .nil)))
def replP (p : PV) (s : List UInt8) (N : Nat) : EX → EC → St → Prop := fun x e' st' => x = .exit 0 ∧ ∃ done rest, s = done ++ rest ∧ rest.count 0 = 0 ∧ e' = eR p .junk .junk N done ∧ st' = rowS (byteCells (esc done) ++ zr (N - (esc done).length))
theorem repl_loop (p : PV) (s : List UInt8) (hp : BV p s) (N : Nat) (hN : N = s.length + s.count 0) (hs : s.length ≤ 1000) (fo fn : Bool) :
    ∀ (c : Nat) (done rest : List UInt8) (e : EC), s = done ++ rest → rest.count 0 = c → e.get 0 = some p → e.get 1 = some (.sl [[.int .u8 0]] fo) → e.get 2 = some (.sl [[.int .u8 0], [.int .u8 255]] fn) → e.get 10 = some (.osl 0 0 0 N false) → e.get 11 = some (.int .i64 (esc done).length) → e.get 12 = some (.int .i64 done.length) → e.get 48 = some (.int .i64 (s.count 0 : Nat)) → e.get 49 = some (.int .i64 (done.count 0 : Nat)) →
    V T (PE (replP p s N)) [.code (.loop lp_bytes_Replace_1)] .normal e (rowS (byteCells (esc done) ++ zr (N - (esc done).length))) := by
  have hcl : s.count 0 ≤ s.length := List.count_le_length
  intro c
  induction c with
  | zero =>
    intro done rest e hsd hc h0 h1 h2 h10 h11 h12 h48 h49
    have hcd : done.count 0 = s.count 0 := by rw [hsd, List.count_append]; omega
    have out : ∀ (fr : List Fr) (x : EX) (e' : EC), adv 200 fr x = ([], .exit 0) → e'.get 0 = some p → e'.get 10 = some (.osl 0 0 0 N false) → e'.get 11 = some (.int .i64 (esc done).length) → e'.get 12 = some (.int .i64 done.length) → V T (PE (replP p s N)) fr x e' (rowS (byteCells (esc done) ++ zr (N - (esc done).length))) := fun fr x e' hadv g0 g10 g11 g12 =>
      V_less (eR p .junk .junk N done) (less_put g0 (less_put g10 (less_put g11 (less_put g12 less_nil)))) (V_endP hadv ⟨rfl, done, rest, hsd, hc, rfl, rfl⟩)
    have hlt : decide (((done.count 0 : Nat) : Int) < (s.count 0 : Nat)) = false := decide_eq_false (by omega)
    refine V_less (.put 0 p (.put 10 _ (.put 11 _ (.put 12 _ (.put 48 _ (.put 49 _ .nil)))))) (less_put h0 (less_put h10 (less_put h11 (less_put h12 (less_put h48 (less_put h49 less_nil)))))) (V_unroll ?_)
    repeat' first | ((with_reducible show Go.AM.V _ _ _ _ _ _); first | refine V_cH hlt rfl rfl ?_ | refine V_O rfl ?_) | ((with_reducible show Go.AM.VO _ _ _ _ _ _ _); first | refine O_step rfl ?_ | refine O_nil' ?_) | refine out _ _ _ rfl rfl rfl rfl rfl
  | succ c ih =>
    intro done rest e hsd hc h0 h1 h2 h10 h11 h12 h48 h49
    have hcd : done.count 0 + (c + 1) = s.count 0 := by rw [hsd, List.count_append]; omega
    have hlt : decide (((done.count 0 : Nat) : Int) < (s.count 0 : Nat)) = true := decide_eq_true (by omega)
    rcases idx_spec rest with ⟨_, h⟩ | ⟨x, y, hxy, hx0, hidx⟩
    · omega
    have hdl : done.length + x.length + 1 ≤ s.length := by rw [hsd, hxy]; simp; omega
    have hel : (esc done).length + x.length + 2 ≤ N := by
      rw [esc_length, hN, hsd, hxy]; simp [List.count_append]; omega
    obtain ⟨v1, hv1, hb1⟩ := hp.lo (rowS (byteCells (esc done) ++ zr (N - (esc done).length))).get (k := .i64) (m := done.length) (by omega) (by omega)
    rw [Int.toNat_natCast, hsd, List.drop_left] at hb1
    have hcall := run_Index1 hb1 fo
    rw [hidx] at hcall
    have pl1 := hb1.pl
    have hj : IntKind.i64.wrap ((done.length : Int) + x.length) = ((done.length + x.length : Nat) : Int) := by rw [wrap_i64]; omega
    have hwin := winR (byteCells (esc done) ++ zr (N - (esc done).length)) (esc done).length N (by omega)
    have hwinB := winR (byteCells (esc done ++ x) ++ zr (N - (esc done).length - x.length)) (esc done).length N (by omega)
    obtain ⟨v2, hv2, hb2⟩ := hp.lohi (rowS (byteCells (esc done) ++ zr (N - (esc done).length))).get (k := .i64) (k' := .i64) (m := done.length) (m' := ((done.length + x.length : Nat) : Int)) (by omega) (by omega) (by omega)
    obtain ⟨v3, hv3, hb3⟩ := hp.lohi (rowS (byteCells (esc done ++ x) ++ zr (N - (esc done).length - x.length))).get (k := .i64) (k' := .i64) (m := done.length) (m' := ((done.length + x.length : Nat) : Int)) (by omega) (by omega) (by omega)
    have hv23 : v3 = v2 := by
      cases hp with
      | nil => exfalso; simp at hdl
      | sl s f => simp only [sliceSl?] at hv2 hv3; rw [hv2] at hv3; injection hv3 with hv3; exact hv3.symm
    subst hv23
    rw [← hj] at hv2 hv3
    have hb2' : BV v3 x := by
      have : (s.drop (done.length : Int).toNat).take (((done.length + x.length : Nat) : Int).toNat - (done.length : Int).toNat) = x := by
        rw [hsd, hxy, Int.toNat_natCast, Int.toNat_natCast, List.drop_left, Nat.add_sub_cancel_left, List.take_left]
      rw [this] at hb2
      exact hb2
    have hcp := copyR (esc done) x (N - (esc done).length) N (by omega) (by omega) false
    have hw1 : IntKind.i64.wrap (((esc done).length : Int) + x.length) = ((esc done ++ x).length : Int) := by rw [wrap_i64]; simp; omega
    have hwin2 := winR (byteCells (esc done ++ x) ++ zr (N - (esc done).length - x.length)) (esc done ++ x).length N (by simp; omega)
    rw [← hw1] at hwin2
    have hcp2 := copyR (esc done ++ x) [0, 255] (N - (esc done).length - x.length) N (by simp; omega) (by simp; omega) false
    have hed : esc done ++ x ++ [0, 255] = esc (done ++ x ++ [0]) := by
      rw [esc_append, esc_append, esc_none hx0]; rfl
    rw [hed] at hcp2
    have hzz : N - (esc done).length - x.length - [(0 : UInt8), 255].length = N - (esc (done ++ x ++ [0])).length := by rw [← hed]; simp; omega
    rw [hzz] at hcp2
    have hw2 : IntKind.i64.wrap (IntKind.i64.wrap (((esc done).length : Int) + x.length) + ([(0 : UInt8), 255].length : Nat)) = ((esc (done ++ x ++ [0])).length : Int) := by rw [hw1, ← hed, wrap_i64]; simp; omega
    have hw3 : IntKind.i64.wrap (IntKind.i64.wrap ((done.length : Int) + x.length) + 1) = ((done ++ x ++ [0]).length : Int) := by rw [hj, wrap_i64]; simp; omega
    have hw4 : IntKind.i64.wrap (((done.count 0 : Nat) : Int) + 1) = (((done ++ x ++ [0]).count 0 : Nat) : Int) := by
      rw [List.count_append, List.count_append, hx0, wrap_i64]; simp; omega
    have fin : ∀ (fr : List Fr) (xx : EX) (e' : EC), adv 200 fr xx = ([.code (.loop lp_bytes_Replace_1)], .normal) → e'.get 0 = some p → e'.get 1 = some (.sl [[.int .u8 0]] fo) → e'.get 2 = some (.sl [[.int .u8 0], [.int .u8 255]] fn) → e'.get 10 = some (.osl 0 0 0 N false) → e'.get 11 = some (.int .i64 (IntKind.i64.wrap (IntKind.i64.wrap (((esc done).length : Int) + x.length) + ([(0 : UInt8), 255].length : Nat)))) → e'.get 12 = some (.int .i64 (IntKind.i64.wrap (IntKind.i64.wrap ((done.length : Int) + x.length) + 1))) → e'.get 48 = some (.int .i64 (s.count 0 : Nat)) → e'.get 49 = some (.int .i64 (IntKind.i64.wrap (((done.count 0 : Nat) : Int) + 1))) →
        V T (PE (replP p s N)) fr xx e' (rowS (byteCells (esc (done ++ x ++ [0])) ++ zr (N - (esc (done ++ x ++ [0])).length))) := fun fr xx e' hadv g0 g1 g2 g10 g11 g12 g48 g49 => V_adv hadv (by
      rw [hw2] at g11
      rw [hw3] at g12
      rw [hw4] at g49
      exact ih (done ++ x ++ [0]) y e' (by rw [hsd, hxy]; simp) (by rw [hxy, List.count_append, List.count_cons] at hc; simp at hc; omega) g0 g1 g2 g10 g11 g12 g48 g49)
    refine V_less (.put 0 p (.put 1 _ (.put 2 _ (.put 10 _ (.put 11 _ (.put 12 _ (.put 48 _ (.put 49 _ .nil)))))))) (less_put h0 (less_put h1 (less_put h2 (less_put h10 (less_put h11 (less_put h12 (less_put h48 (less_put h49 less_nil)))))))) (V_unroll ?_)
    clear ih
    repeat' first | ((with_reducible show Go.AM.V _ _ _ _ _ _); first | refine V_cHT hlt rfl rfl ?_ | refine V_M 8 (rowS (byteCells (esc done ++ x) ++ zr (N - (esc done).length - x.length))) rfl ?_ | refine V_O rfl ?_) | ((with_reducible show Go.AM.VO _ _ _ _ _ _ _); first | refine O_slice v1 rfl rfl rfl rfl hv1 ?_ | refine O_cA rfl rfl hcall ?_ | refine O_slice _ rfl rfl rfl rfl hwin2 ?_ | refine O_copy (src := byteCells [0, 255]) rfl rfl rfl (okEls_bytes _) (by decide) hcp2 ?_ | refine O_step rfl ?_ | refine O_nil' ?_) | ((with_reducible show Go.AM.VM _ _ _ _ _ _ _ _ _ _ _); first | refine M_slice _ rfl (.inl rfl) rfl rfl rfl rfl hwin hwinB ?_ | refine M_slice v3 rfl (.inl rfl) rfl rfl rfl rfl hv2 hv3 ?_ | refine M_copy rfl rfl rfl (srcOf_bytes hb2') (okEls_bytes _) (by decide) hcp ?_ | refine M_step rfl (.inl rfl) rfl rfl ?_ | refine M_step rfl (.inr rfl) rfl rfl ?_ | refine M_nil ?_) | refine fin _ _ _ rfl rfl rfl rfl rfl rfl rfl rfl rfl
theorem run_Replace (s : List UInt8) (hs : s.length ≤ 1000) (f0 fo fn : Bool) : ∃ q, T.R (.call n_bytes_ReplaceAll [.sl (byteCells s) f0, .sl [[.int .u8 0]] fo, .sl [[.int .u8 0], [.int .u8 255]] fn] q) ∧ BV q (esc s) := by
  have hp : BV (.sl (byteCells s) f0) s := .sl s f0
  have hcl : s.count 0 ≤ s.length := List.count_le_length
  have hc := run_Count1 hp fo
  have plp := hp.pl
  have key : ∃ q, T.R (.call n_bytes_Replace [.sl (byteCells s) f0, .sl [[.int .u8 0]] fo, .sl [[.int .u8 0], [.int .u8 255]] fn, .int .i64 (-1)] q) ∧ BV q (esc s) := by
    refine call_VQ rfl rfl ?_
    by_cases h0 : s.count 0 = 0
    · rw [h0] at hc
      have he := esc_none h0
      cases s with
      | nil =>
        repeat' first | ((with_reducible show Go.AM.V _ _ _ _ _ _); first | refine V_O rfl ?_ | refine V_cT rfl rfl ?_ | refine V_fA rfl rfl ?_) | ((with_reducible show Go.AM.VO _ _ _ _ _ _ _); first | refine O_cA rfl rfl hc ?_ | refine O_append rfl rfl (srcOf_bytes hp) (okEls_bytes _) (by decide) (by decide) (appendTo_none (.inl rfl)) ?_ | refine O_step rfl ?_ | refine O_nil' ?_)
        exact .nil
      | cons b s =>
        have k1 := appendTo_nil (st := emptySt) (sz := 1) (bytes := 1) (src := byteCells (b :: s)) (by simp [byteCells]) (by rw [byteCells_length]; simp [roomLen]; simp at hs; omega)
        repeat' first | ((with_reducible show Go.AM.V _ _ _ _ _ _); first | refine V_O rfl ?_ | refine V_cT rfl rfl ?_) | ((with_reducible show Go.AM.VO _ _ _ _ _ _ _); first | refine O_cA rfl rfl hc ?_ | refine O_append rfl rfl (srcOf_bytes hp) (okEls_bytes _) (by decide) (by decide) k1 ?_ | refine O_step rfl ?_ | refine O_nil' ?_)
        refine V_fin (r := .sl (byteCells (b :: s)) false) rfl rfl (view_osl0 (g := 0) (sz := 1) (lv := true) (es := byteCells (b :: s)) rfl (.inl rfl) rfl (pl_bytes _)) ?_
        rw [he]
        exact .sl _ _
    · have hne : decide (((s.count 0 : Nat) : Int) = 0) = false := decide_eq_false (by omega)
      have hN : IntKind.i64.wrap ((s.length : Int) + IntKind.i64.wrap (((s.count 0 : Nat) : Int) * IntKind.i64.wrap (((2 : Nat) : Int) - ((1 : Nat) : Int)))) = ((s.length + s.count 0 : Nat) : Int) := by
        rw [wrap_i64, wrap_i64, wrap_i64]; omega
      have hl := fun e h0 h1 h2 h10 h11 h12 h48 h49 => repl_loop (.sl (byteCells s) f0) s hp (s.length + s.count 0) rfl hs fo fn (s.count 0) [] s e rfl rfl h0 h1 h2 h10 h11 h12 h48 h49
      repeat' first | ((with_reducible show Go.AM.V _ _ _ _ _ _); first | refine V_cH hne rfl rfl ?_ | refine V_cutA rfl (hl _ rfl rfl rfl rfl rfl rfl rfl rfl) ?_ | refine V_O rfl ?_ | refine V_cT rfl rfl ?_) | ((with_reducible show Go.AM.VO _ _ _ _ _ _ _); first | refine O_cA rfl rfl hc ?_ | refine O_lenB rfl hp ?_ | refine O_makeN rfl rfl hN rfl (by simp [roomLen]; omega) ?_ | refine O_step rfl ?_ | refine O_nil' ?_ | refine O_gF' rfl rfl ?_)
      rintro x e' st' ⟨rfl, done, rest, hsd, hrest, rfl, rfl⟩
      have hel : (esc done).length + rest.length = s.length + s.count 0 := by
        rw [esc_length, hsd, List.count_append, List.length_append]; omega
      have hes : esc s = esc done ++ rest := by rw [hsd, esc_append, esc_none hrest]
      have hwin := winR (byteCells (esc done) ++ zr (s.length + s.count 0 - (esc done).length)) (esc done).length (s.length + s.count 0) (by omega)
      have hwinB := winR (byteCells (esc done ++ rest) ++ zr (s.length + s.count 0 - (esc done).length - rest.length)) (esc done).length (s.length + s.count 0) (by omega)
      have hdl : done.length ≤ s.length := by rw [hsd]; simp
      have hv2 := slice_lo (look := (rowS (byteCells (esc done) ++ zr (s.length + s.count 0 - (esc done).length))).get) (sz := 1) (k := .i64) (lo := done.length) (xs := byteCells s) (f := f0) (allOf_bytes s) (by omega) (by rw [byteCells_length]; omega)
      have hv3 := slice_lo (look := (rowS (byteCells (esc done ++ rest) ++ zr (s.length + s.count 0 - (esc done).length - rest.length))).get) (sz := 1) (k := .i64) (lo := done.length) (xs := byteCells s) (f := f0) (allOf_bytes s) (by omega) (by rw [byteCells_length]; omega)
      have hdr : (byteCells s).drop ((done.length : Int).toNat) = byteCells rest := by
        rw [Int.toNat_natCast, byteCells_drop, hsd, List.drop_left]
      rw [hdr] at hv2 hv3
      have hcp := copyR (esc done) rest (s.length + s.count 0 - (esc done).length) (s.length + s.count 0) (by omega) (by omega) false
      have hw1 : IntKind.i64.wrap (((esc done).length : Int) + rest.length) = ((s.length + s.count 0 : Nat) : Int) := by rw [wrap_i64]; omega
      have hv4 := slice_osl (look := (rowS (byteCells (esc done ++ rest) ++ zr (s.length + s.count 0 - (esc done).length - rest.length))).get) (sz := 1) (t := 0) (g := 0) (off := 0) (len := s.length + s.count 0) (k := .i64) (k' := .i64) (lo := 0) (hi := IntKind.i64.wrap (((esc done).length : Int) + rest.length)) (f := false) (lv := true) (es := byteCells (esc done ++ rest) ++ zr (s.length + s.count 0 - (esc done).length - rest.length)) rfl (by omega) (by rw [hw1]; omega) (by rw [hw1]; omega)
      have hrow : byteCells (esc done ++ rest) ++ zr (s.length + s.count 0 - (esc done).length - rest.length) = byteCells (esc s) := by
        rw [hes, show s.length + s.count 0 - (esc done).length - rest.length = 0 by omega]; simp [zr]
      have hoff : (0 : Nat) + (0 : Int).toNat = 0 := rfl
      rw [hw1, Int.toNat_natCast] at hv4
      rw [← hw1] at hv4
      repeat' first | ((with_reducible show Go.AM.V _ _ _ _ _ _); first | refine V_M 7 (rowS (byteCells (esc done ++ rest) ++ zr (s.length + s.count 0 - (esc done).length - rest.length))) rfl ?_ | refine V_O rfl ?_) | ((with_reducible show Go.AM.VO _ _ _ _ _ _ _); first | refine O_slice _ rfl rfl rfl rfl hv4 ?_ | refine O_step rfl ?_ | refine O_nil' ?_) | ((with_reducible show Go.AM.VM _ _ _ _ _ _ _ _ _ _ _); first | refine M_slice _ rfl (.inl rfl) rfl rfl rfl rfl hwin hwinB ?_ | refine M_slice _ rfl (.inl rfl) rfl rfl rfl rfl hv2 hv3 ?_ | refine M_copy (src := byteCells rest) rfl rfl rfl rfl (okEls_bytes _) (by decide) hcp ?_ | refine M_step rfl (.inl rfl) rfl rfl ?_ | refine M_step rfl (.inr rfl) rfl rfl ?_ | refine M_nil ?_)
      refine V_fin (r := .sl (byteCells (esc s)) false) rfl rfl (view_osl0 (g := 0) (sz := 1) (lv := true) (es := byteCells (esc s)) (by rw [← hrow]; rfl) (.inl rfl) (by rw [byteCells_length, hes]; simp; omega) (pl_bytes _)) ?_
      exact .sl _ _
  obtain ⟨q, h1, h2⟩ := key
  have plq := h2.pl
  refine ⟨q, call_V rfl rfl ?_, h2⟩
  repeat' first | ((with_reducible show Go.AM.V _ _ _ _ _ _); first | refine V_O rfl ?_ | refine V_fA rfl rfl ?_) | ((with_reducible show Go.AM.VO _ _ _ _ _ _ _); first | refine O_cA rfl rfl h1 ?_ | refine O_step rfl ?_ | refine O_nil' ?_)
  rfl
end Go.Proofs.YtgdjnlopdpjnaaaGreatDoor
set_option linter.unusedVariables false
set_option linter.unusedSimpArgs false
namespace Go.Proofs.YtgdjnlopdpjnaaaGreatDoor
open Go Go.AM Go.RowKit
inductive Val where
  | mk (kind n : Int) (s : List UInt8) (l : List Val)
def Val.kind : Val → Int
  | .mk k _ _ _ => k
def Val.n : Val → Int
  | .mk _ n _ _ => n
def Val.s : Val → List UInt8
  | .mk _ _ s _ => s
def Val.l : Val → List Val
  | .mk _ _ _ l => l
def I64 (x : Int) : Prop := -9223372036854775808 ≤ x ∧ x ≤ 9223372036854775807
inductive VC : Val → List PV → Prop
  | nil (k n : Int) (s : List UInt8) (hk : I64 k) (hn : I64 n) (hs : s.length ≤ 140737488355328) : VC (.mk k n s []) [.int .i64 k, .int .i64 n, .str s, .nilSl]
  | sl (k n : Int) (s : List UInt8) (l : List Val) (xs : List (List PV)) (full : Bool) (hk : I64 k) (hn : I64 n) (hs : s.length ≤ 140737488355328) (hb : l.length ≤ 140737488355328) (hl : xs.length = l.length)
      (h : ∀ (j : Nat) (v : Val) (cs : List PV), l[j]? = some v → xs[j]? = some cs → VC v cs) : VC (.mk k n s l) [.int .i64 k, .int .i64 n, .str s, .sl xs full]
theorem VC.pl {v : Val} {cs : List PV} (h : VC v cs) : ∀ c ∈ cs, Pl c := by
  induction h with
  | nil k n s => exact pl_cons (.int _ _) (pl_cons (.int _ _) (pl_cons (.str _) (pl_cons .nilSl pl_nil)))
  | sl k n s l xs full hk hn hs hb hl h ih =>
    refine pl_cons (.int _ _) (pl_cons (.int _ _) (pl_cons (.str _) (pl_cons (.sl _ _ fun cs hcs c hc => ?_) pl_nil)))
    obtain ⟨j, hj⟩ := List.getElem?_of_mem hcs
    have hlt : j < l.length := by have := (List.getElem?_eq_some_iff.1 hj).1; omega
    exact ih j l[j] cs (List.getElem?_eq_getElem hlt) hj c hc
def cmpI (a b : Int) : Int := if a < b then -1 else if b < a then 1 else 0
theorem run_num2 (a b : Int) : T.R (.call n_rambleref02_num [.int .i64 a, .int .i64 b] (.int .i64 (cmpI a b))) := by
  refine call_V rfl rfl ?_
  repeat' first | ((with_reducible show Go.AM.V _ _ _ _ _ _); first | refine V_O rfl ?_ | refine V_cB rfl rfl (fun _ => ?_) (fun _ => ?_) | refine V_fA rfl rfl ?_) | ((with_reducible show Go.AM.VO _ _ _ _ _ _ _); first | refine O_step rfl ?_ | refine O_nil' ?_)
  all_goals simp only [decide_eq_true_eq, decide_eq_false_iff_not] at *
  all_goals unfold cmpI
  all_goals simp [*]
def cmpS : List UInt8 → List UInt8 → Int
  | [], [] => 0
  | [], _ :: _ => -1
  | _ :: _, [] => 1
  | a :: x, b :: y => if a = b then cmpS x y else cmpI a.toNat b.toNat
theorem cmpS_pre : ∀ (p x y : List UInt8), cmpS (p ++ x) (p ++ y) = cmpS x y
  | [], x, y => rfl
  | a :: p, x, y => by simp only [List.cons_append, cmpS, if_true]; exact cmpS_pre p x y
def textP (a b : List UInt8) : EX → EC → St → Prop := fun x e' st' => st' = emptySt ∧ ((x = .exit 0 ∧ e' = .put 0 (.str a) (.put 1 (.str b) .nil) ∧ cmpI a.length b.length = cmpS a b) ∨ (x = .ret ∧ e' = .put 4 (.int .i64 (cmpS a b)) .nil))
theorem text_loop (a b : List UInt8) (hla : a.length ≤ 9223372036854775806) : ∀ (ra rb pre : List UInt8) (e : EC), a = pre ++ ra → b = pre ++ rb → e.get 0 = some (.str a) → e.get 1 = some (.str b) → e.get 5 = some (.int .i64 pre.length) →
    V T (PE (textP a b)) [.code (.loop lp_rambleref02_text_0)] .normal e emptySt := by
  have out : ∀ (ra rb pre : List UInt8) (k : List Fr) (x : EX) (e' : EC), a = pre ++ ra → b = pre ++ rb → ra = [] ∨ rb = [] → adv 200 k x = ([], .exit 0) → e'.get 0 = some (.str a) → e'.get 1 = some (.str b) → V T (PE (textP a b)) k x e' emptySt := fun ra rb pre k x e' ha hb hn hadv g0 g1 =>
    V_less (.put 0 (.str a) (.put 1 (.str b) .nil)) (less_put g0 (less_put g1 less_nil)) (V_endP hadv ⟨rfl, .inl ⟨rfl, rfl, by
      rw [ha, hb, cmpS_pre]
      rcases hn with rfl | rfl
      · cases rb <;> simp [cmpS, cmpI] <;> omega
      · cases ra <;> simp [cmpS, cmpI] <;> omega⟩⟩)
  intro ra
  induction ra with
  | nil =>
    intro rb pre e ha hb h0 h1 h5
    refine V_less (.put 0 (.str a) (.put 1 (.str b) (.put 5 (.int .i64 pre.length) .nil))) (less_put h0 (less_put h1 (less_put h5 less_nil))) (V_unroll ?_)
    repeat' first | ((with_reducible show Go.AM.V _ _ _ _ _ _); first | refine V_O rfl ?_ | refine V_cF rfl rfl ?_ | refine V_cB rfl rfl (fun _ => ?_) (fun _ => ?_) | refine V_D rfl ?_) | ((with_reducible show Go.AM.VO _ _ _ _ _ _ _); first | refine O_step rfl ?_ | refine O_nil' ?_ | refine O_gT' rfl ?_ | refine O_gF' rfl rfl ?_ | refine O_gS rfl (fun _ => ?_) (fun _ => ?_)) | ((with_reducible show Go.AM.VD _ _ _ _ _ _ _); first | refine D_step rfl ?_) | refine out [] rb pre _ _ _ ha hb (.inl rfl) rfl rfl rfl
    all_goals (exfalso; subst ha; simp at *)
  | cons y ra ih =>
    intro rb pre e ha hb h0 h1 h5
    refine V_less (.put 0 (.str a) (.put 1 (.str b) (.put 5 (.int .i64 pre.length) .nil))) (less_put h0 (less_put h1 (less_put h5 less_nil))) (V_unroll ?_)
    cases rb with
    | nil =>
      repeat' first | ((with_reducible show Go.AM.V _ _ _ _ _ _); first | refine V_O rfl ?_ | refine V_cF rfl rfl ?_ | refine V_cB rfl rfl (fun _ => ?_) (fun _ => ?_) | refine V_D rfl ?_) | ((with_reducible show Go.AM.VO _ _ _ _ _ _ _); first | refine O_step rfl ?_ | refine O_nil' ?_ | refine O_gT' rfl ?_ | refine O_gF' rfl rfl ?_ | refine O_gS rfl (fun _ => ?_) (fun _ => ?_)) | ((with_reducible show Go.AM.VD _ _ _ _ _ _ _); first | refine D_step rfl ?_) | refine out (y :: ra) [] pre _ _ _ ha hb (.inr rfl) rfl rfl rfl
      all_goals (exfalso; subst hb; simp at *)
    | cons z rb =>
      have hy : a[(pre.length : Int).toNat]? = some y := by subst ha; simp
      have hz : b[(pre.length : Int).toNat]? = some z := by subst hb; simp
      by_cases hyz : y = z
      · subst hyz
        have fin : ∀ (k : List Fr) (x : EX) (e' : EC), adv 200 k x = ([.code (.loop lp_rambleref02_text_0)], .normal) → e'.get 0 = some (.str a) → e'.get 1 = some (.str b) → e'.get 5 = some (.int .i64 (IntKind.i64.wrap (pre.length + 1))) → V T (PE (textP a b)) k x e' emptySt := fun k x e' hadv g0 g1 g5 => V_adv hadv (by
          have hlt : pre.length < a.length := by subst ha; simp
          have hw : IntKind.i64.wrap (pre.length + 1) = ((pre ++ [y]).length : Int) := by rw [wrap_i64]; simp; omega
          rw [hw] at g5
          exact ih rb (pre ++ [y]) e' (by rw [ha]; simp) (by rw [hb]; simp) g0 g1 g5)
        repeat' first | ((with_reducible show Go.AM.V _ _ _ _ _ _); first | refine V_O rfl ?_ | refine V_cF rfl rfl ?_ | refine V_cNe rfl rfl ?_ | refine V_cB rfl rfl (fun _ => ?_) (fun _ => ?_) | refine V_D rfl ?_) | ((with_reducible show Go.AM.VO _ _ _ _ _ _ _); first | refine O_step rfl ?_ | refine O_nil' ?_ | refine O_gT' rfl ?_ | refine O_gF' rfl rfl ?_ | refine O_gS rfl (fun _ => ?_) (fun _ => ?_)) | ((with_reducible show Go.AM.VD _ _ _ _ _ _ _); first | refine D_chr y rfl rfl (by omega) hy ?_ | refine D_chr y rfl rfl (by omega) hz ?_ | refine D_step rfl ?_ | refine D_nil' ?_) | refine fin _ _ _ rfl rfl rfl rfl
        all_goals (exfalso; subst ha hb; simp at *; omega)
      · have hne : ((y.toNat : Int) = z.toNat) = False := by
          refine eq_false fun h => hyz ?_
          exact UInt8.toNat_inj.1 (by omega)
        have hcm : cmpS a b = cmpI y.toNat z.toNat := by rw [ha, hb, cmpS_pre]; simp [cmpS, hyz]
        have h8 : ∀ c : UInt8, IntKind.i64.wrap (c.toNat : Int) = c.toNat := fun c => by have := c.toNat_lt; rw [wrap_i64]; omega
        have hnum := run_num2 (IntKind.i64.wrap y.toNat) (IntKind.i64.wrap z.toNat)
        rw [h8 y, h8 z, ← hcm] at hnum
        have hnum' : T.R (.call n_rambleref02_num [.int .i64 (IntKind.i64.wrap y.toNat), .int .i64 (IntKind.i64.wrap z.toNat)] (.int .i64 (cmpS a b))) := by rw [h8 y, h8 z]; exact hnum
        repeat' first | ((with_reducible show Go.AM.V _ _ _ _ _ _); first | refine V_O rfl ?_ | refine V_cF rfl rfl ?_ | refine V_cB rfl rfl (fun _ => ?_) (fun _ => ?_) | refine V_D rfl ?_) | ((with_reducible show Go.AM.VO _ _ _ _ _ _ _); first | refine O_step rfl ?_ | refine O_nil' ?_ | refine O_gT' rfl ?_ | refine O_gF' rfl rfl ?_ | refine O_gS rfl (fun _ => ?_) (fun _ => ?_)) | ((with_reducible show Go.AM.VD _ _ _ _ _ _ _); first | refine D_chr y rfl rfl (by omega) hy ?_ | refine D_chr z rfl rfl (by omega) hz ?_ | refine D_cA rfl rfl hnum' ?_ | refine D_step rfl ?_ | refine D_nil' ?_) | exact V_less (.put 4 (.int .i64 (cmpS a b)) .nil) (less_put rfl less_nil) (V_endP rfl ⟨rfl, .inr ⟨rfl, rfl⟩⟩)
        all_goals clear ih out hnum hnum'
        all_goals (exfalso; subst ha hb; simp at *; omega)
theorem run_text2 (a b : List UInt8) (hla : a.length ≤ 9223372036854775806) : T.R (.call n_rambleref02_text [.str a, .str b] (.int .i64 (cmpS a b))) := by
  have hnum := run_num2 (a.length : Int) (b.length : Int)
  refine call_V rfl rfl ?_
  repeat' first | refine V_O rfl ?_ | refine O_step rfl ?_ | refine O_nil' ?_
  refine V_cutA rfl (text_loop a b hla a b [] _ rfl rfl rfl rfl rfl) ?_
  rintro x e' st' ⟨rfl, ⟨rfl, rfl, hc⟩ | ⟨rfl, rfl⟩⟩
  · repeat' first | ((with_reducible show Go.AM.V _ _ _ _ _ _); first | refine V_O rfl ?_ | refine V_fA rfl rfl ?_) | ((with_reducible show Go.AM.VO _ _ _ _ _ _ _); first | refine O_cA rfl rfl hnum ?_ | refine O_step rfl ?_ | refine O_nil' ?_)
    rw [hc]
  · repeat' first | refine V_fA rfl rfl ?_
    rfl
end Go.Proofs.YtgdjnlopdpjnaaaGreatDoor
set_option linter.unusedVariables false
set_option linter.unusedSimpArgs false
namespace Go.Proofs.YtgdjnlopdpjnaaaGreatDoor
open Go Go.AM Go.RowKit
def isLetI (n : Int) : Bool := decide (n = 95) || (decide (97 ≤ n) && decide (n ≤ 122)) || (decide (65 ≤ n) && decide (n ≤ 90))
theorem isLet_I (c : UInt8) : isLet c = isLetI c.toNat := by
  unfold isLet isLetI
  have h1 : (c == 95) = decide ((c.toNat : Int) = 95) := by
    rw [Bool.eq_iff_iff, beq_iff_eq, decide_eq_true_eq]
    constructor
    · intro h; subst h; rfl
    · intro h; exact UInt8.toNat_inj.1 (by have : (95 : UInt8).toNat = 95 := rfl; omega)
  have h2 : ∀ n : Nat, decide (n ≤ c.toNat) = decide ((n : Int) ≤ (c.toNat : Int)) := fun n => by rw [decide_eq_decide]; omega
  have h3 : ∀ n : Nat, decide (c.toNat ≤ n) = decide ((c.toNat : Int) ≤ (n : Int)) := fun n => by rw [decide_eq_decide]; omega
  rw [h1, h2, h2, h3, h3]
  rfl
theorem run_letter (c : UInt8) : T.R (.call n_rambleref02_letter [.int .u8 c.toNat] (.bool (isLet c))) := by
  rw [isLet_I]
  unfold isLetI
  generalize (c.toNat : Int) = n
  refine call_V rfl rfl ?_
  repeat' first | ((with_reducible show Go.AM.V _ _ _ _ _ _); first | refine V_O rfl ?_ | refine V_fA rfl rfl ?_) | ((with_reducible show Go.AM.VO _ _ _ _ _ _ _); first | refine O_step rfl ?_ | refine O_nil' ?_ | refine O_gT' rfl ?_ | refine O_gU' rfl ?_ | refine O_gF' rfl rfl ?_ | refine O_gS rfl (fun _ => ?_) (fun _ => ?_))
  all_goals simp_all
  all_goals omega
def okC (c : UInt8) : Bool := isLet c || isDg c
theorem dg_parts (c : UInt8) : isDg c = (!decide ((c.toNat : Int) < 48) && !decide (57 < (c.toNat : Int))) := by
  unfold isDg
  rw [Bool.eq_iff_iff]
  simp only [Bool.and_eq_true, decide_eq_true_eq, Bool.not_eq_true', decide_eq_false_iff_not]
  omega
theorem rname_loop {s : List UInt8} (hs : s.length ≤ 140737488355328) : ∀ (rest pre : List UInt8), s = pre ++ rest →
    V T (PE fun x e st' => st' = emptySt ∧ ((x = .exit 0 ∧ rest.all okC = true) ∨ (x = .ret ∧ rest.all okC = false ∧ e = ecOf [(2, .bool false)])))
      [.code (.loop lp_rambleref02_Name_0)] .normal (ecOf [(0, .str s), (3, .int .i64 pre.length)]) emptySt := by
  intro rest
  induction rest with
  | nil =>
    intro pre ha
    have hlt : ¬ (pre.length : Int) < s.length := by subst ha; simp
    refine V_unroll ?_
    repeat' first | ((with_reducible show Go.AM.V _ _ _ _ _ _); first | refine V_cHF rfl rfl hlt ?_ | refine V_out [] rfl trivial ⟨rfl, .inl ⟨rfl, rfl⟩⟩ | refine V_O rfl ?_) | ((with_reducible show Go.AM.VO _ _ _ _ _ _ _); first | refine O_step rfl ?_ | refine O_nil' ?_)
  | cons c rest ih =>
    intro pre ha
    have hlt : (pre.length : Int) < s.length := by subst ha; simp; omega
    have hll : pre.length < s.length := by subst ha; simp
    have hch : s[((pre.length : Nat) : Int).toNat]? = some c := by subst ha; simp
    have hw : IntKind.i64.wrap ((pre.length : Int) + 1) = ((pre ++ [c]).length : Int) := by rw [wrap_i64]; simp; omega
    have hi := ih (pre ++ [c]) (by rw [ha]; simp)
    have hl := run_letter c
    have hd := dg_parts c
    rw [List.all_cons]
    have hok : okC c = (isLet c || isDg c) := rfl
    rw [hok]
    refine V_unroll ?_
    cases hL : isLet c with
    | true =>
      rw [hL] at hl
      rw [Bool.true_or, Bool.true_and]
      repeat' first | ((with_reducible show Go.AM.V _ _ _ _ _ _); first | refine V_cHY rfl rfl hlt ?_ | refine V_re rfl hi ⟨rfl, some_int hw, trivial⟩ | refine V_O rfl ?_ | refine V_cF rfl rfl ?_) | ((with_reducible show Go.AM.VO _ _ _ _ _ _ _); first | refine O_chr c rfl rfl (by omega) hch ?_ | refine O_cA rfl rfl hl ?_ | refine O_step rfl ?_ | refine O_nil' ?_ | refine O_gU' rfl ?_ | refine O_gF' rfl rfl ?_)
    | false =>
      rw [hL] at hl
      rw [Bool.false_or, hd]
      by_cases c1 : (c.toNat : Int) < 48
      · rw [decide_eq_true c1]
        repeat' first | ((with_reducible show Go.AM.V _ _ _ _ _ _); first | refine V_cHY rfl rfl hlt ?_ | refine V_out [(2, .bool false)] rfl ⟨rfl, trivial⟩ ⟨rfl, .inr ⟨rfl, rfl, rfl⟩⟩ | refine V_O rfl ?_ | refine V_cT rfl rfl ?_) | ((with_reducible show Go.AM.VO _ _ _ _ _ _ _); first | refine O_chr c rfl rfl (by omega) hch ?_ | refine O_cA rfl rfl hl ?_ | refine O_is (dec_is c1) rfl ?_ | refine O_step rfl ?_ | refine O_nil' ?_ | refine O_gT' rfl ?_ | refine O_gF' rfl rfl ?_)
      · rw [decide_eq_false c1]
        by_cases c2 : 57 < (c.toNat : Int)
        · rw [decide_eq_true c2]
          repeat' first | ((with_reducible show Go.AM.V _ _ _ _ _ _); first | refine V_cHY rfl rfl hlt ?_ | refine V_out [(2, .bool false)] rfl ⟨rfl, trivial⟩ ⟨rfl, .inr ⟨rfl, rfl, rfl⟩⟩ | refine V_O rfl ?_ | refine V_cT rfl rfl ?_) | ((with_reducible show Go.AM.VO _ _ _ _ _ _ _); first | refine O_chr c rfl rfl (by omega) hch ?_ | refine O_cA rfl rfl hl ?_ | refine O_is (dec_not c1) rfl ?_ | refine O_is (dec_is c2) rfl ?_ | refine O_step rfl ?_ | refine O_nil' ?_ | refine O_gT' rfl ?_)
        · rw [decide_eq_false c2]
          repeat' first | ((with_reducible show Go.AM.V _ _ _ _ _ _); first | refine V_cHY rfl rfl hlt ?_ | refine V_re rfl hi ⟨rfl, some_int hw, trivial⟩ | refine V_O rfl ?_ | refine V_cF rfl rfl ?_) | ((with_reducible show Go.AM.VO _ _ _ _ _ _ _); first | refine O_chr c rfl rfl (by omega) hch ?_ | refine O_cA rfl rfl hl ?_ | refine O_is (dec_not c1) rfl ?_ | refine O_is (dec_not c2) rfl ?_ | refine O_step rfl ?_ | refine O_nil' ?_ | refine O_gT' rfl ?_)
theorem run_rName {s : List UInt8} (hs : s.length ≤ 140737488355328) : T.R (.call n_rambleref02_Name [.str s] (.bool (nameB s))) := by
  have hl := rname_loop hs s [] rfl
  cases s with
  | nil =>
    refine call_V rfl rfl ?_
    repeat' first | ((with_reducible show Go.AM.V _ _ _ _ _ _); first | refine V_O rfl ?_ | refine V_cT rfl rfl ?_ | refine V_fA rfl rfl ?_) | ((with_reducible show Go.AM.VO _ _ _ _ _ _ _); first | refine O_step rfl ?_ | refine O_nil' ?_ | refine O_gF' rfl rfl ?_)
    rfl
  | cons c r =>
    have hne : ¬ (c :: r) = [] := by simp
    have hch : (c :: r)[(0 : Int).toNat]? = some c := rfl
    have hlt := run_letter c
    show T.R (.call n_rambleref02_Name [.str (c :: r)] (.bool (decide ((c :: r).length ≤ 24) && isLet c && (c :: r).all okC)))
    by_cases hl24 : 24 < (c :: r).length
    · have h1 : ((24 : Int) < ((c :: r).length : Int)) := by omega
      rw [decide_eq_false (by omega : ¬ (c :: r).length ≤ 24)]
      refine call_V rfl rfl ?_
      repeat' first | ((with_reducible show Go.AM.V _ _ _ _ _ _); first | refine V_O rfl ?_ | refine V_cT rfl rfl ?_ | refine V_fA rfl rfl ?_) | ((with_reducible show Go.AM.VO _ _ _ _ _ _ _); first | refine O_is (dec_not hne) rfl ?_ | refine O_is (dec_is h1) rfl ?_ | refine O_step rfl ?_ | refine O_nil' ?_ | refine O_gT' rfl ?_ | refine O_gF' rfl rfl ?_)
      rfl
    · have h1 : ¬ ((24 : Int) < ((c :: r).length : Int)) := by omega
      rw [decide_eq_true (by omega : (c :: r).length ≤ 24)]
      cases hL : isLet c with
      | false =>
        rw [hL] at hlt
        refine call_V rfl rfl ?_
        repeat' first | ((with_reducible show Go.AM.V _ _ _ _ _ _); first | refine V_O rfl ?_ | refine V_cT rfl rfl ?_ | refine V_fA rfl rfl ?_) | ((with_reducible show Go.AM.VO _ _ _ _ _ _ _); first | refine O_is (dec_not hne) rfl ?_ | refine O_is (dec_not h1) rfl ?_ | refine O_chr c rfl rfl (by decide) hch ?_ | refine O_cA rfl rfl hlt ?_ | refine O_step rfl ?_ | refine O_nil' ?_ | refine O_gT' rfl ?_)
        rfl
      | true =>
        rw [hL] at hlt
        refine call_V rfl rfl ?_
        repeat' first | ((with_reducible show Go.AM.V _ _ _ _ _ _); first | refine V_cutTo rfl hl ⟨rfl, rfl, trivial⟩ ?_ | refine V_O rfl ?_ | refine V_cF rfl rfl ?_) | ((with_reducible show Go.AM.VO _ _ _ _ _ _ _); first | refine O_is (dec_not hne) rfl ?_ | refine O_is (dec_not h1) rfl ?_ | refine O_chr c rfl rfl (by decide) hch ?_ | refine O_cA rfl rfl hlt ?_ | refine O_step rfl ?_ | refine O_nil' ?_ | refine O_gT' rfl ?_)
        rintro x e' st' ⟨rfl, ⟨rfl, h⟩ | ⟨rfl, h, rfl⟩⟩
        · rw [h]
          repeat' first | ((with_reducible show Go.AM.V _ _ _ _ _ _); first | refine V_O rfl ?_ | refine V_fA rfl rfl ?_) | ((with_reducible show Go.AM.VO _ _ _ _ _ _ _); first | refine O_step rfl ?_ | refine O_nil' ?_)
          rfl
        · rw [h]
          repeat' first | refine V_fA rfl rfl ?_
          rfl
end Go.Proofs.YtgdjnlopdpjnaaaGreatDoor
