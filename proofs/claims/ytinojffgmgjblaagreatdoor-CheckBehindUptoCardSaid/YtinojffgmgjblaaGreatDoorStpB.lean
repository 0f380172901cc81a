/- Names, words, shapes, predicates: parse's. -/
import Derived.Test.YtinojffgmgjblaaGreatDoorStpA
import Derived.Test.YtinojffgmgjblaaGreatDoorStrA
import Derived.Lib.SlTrimSet
set_option linter.unusedVariables false
set_option linter.unusedSimpArgs false
namespace Go.Proofs.YtinojffgmgjblaaGreatDoor
open Go Go.AM Go.RowKit
def isLet (c : UInt8) : Bool := c == 95 || (decide (97 ≤ c.toNat) && decide (c.toNat ≤ 122)) || (decide (65 ≤ c.toNat) && decide (c.toNat ≤ 90))
def isDg (c : UInt8) : Bool := decide (48 ≤ c.toNat) && decide (c.toNat ≤ 57)
def nameB : List UInt8 → Bool
  | [] => false
  | c :: r => decide ((c :: r).length ≤ 24) && isLet c && (c :: r).all fun c => isLet c || isDg c
def nameSet : List UInt8 := [97, 98, 99, 100, 101, 102, 103, 104, 105, 106, 107, 108, 109, 110, 111, 112, 113, 114, 115, 116, 117, 118, 119, 120, 121, 122, 65, 66, 67, 68, 69, 70, 71, 72, 73, 74, 75, 76, 77, 78, 79, 80, 81, 82, 83, 84, 85, 86, 87, 88, 89, 90, 48, 49, 50, 51, 52, 53, 54, 55, 56, 57, 95]
theorem u8_all {P : UInt8 → Prop} (h : ∀ n : Nat, n < 256 → P (UInt8.ofNat n)) (c : UInt8) : P c := by
  have := h c.toNat c.toNat_lt
  simpa using this
theorem set_is : ∀ c : UInt8, nameSet.contains c = (isLet c || isDg c) := u8_all (by decide +kernel)
theorem set_ascii : ∀ c ∈ nameSet, c.toNat < 128 := by decide +kernel
theorem dropWhile_nil {α : Type} {p : α → Bool} : ∀ {l : List α}, l.dropWhile p = [] ↔ ∀ c ∈ l, p c = true
  | [] => by simp
  | a :: l => by
    rw [List.dropWhile_cons]
    cases h : p a with
    | true => rw [if_pos rfl, dropWhile_nil]; simp [h]
    | false => simp [h]
theorem dropWhile_all {α : Type} {p : α → Bool} : ∀ {l : List α}, (∀ c ∈ l.dropWhile p, p c = true) → l.dropWhile p = []
  | [], _ => rfl
  | a :: l, h => by
    rw [List.dropWhile_cons] at h ⊢
    cases hp : p a with
    | true =>
      rw [hp, if_pos rfl] at h
      rw [if_pos rfl]
      exact dropWhile_all h
    | false =>
      rw [hp, if_neg (by simp)] at h
      have := h a (by simp)
      rw [hp] at this
      cases this
theorem trim_nil (l cs : List UInt8) : Lib.trimS l cs = [] ↔ l.all (cs.contains ·) = true := by
  unfold Lib.trimS Lib.trimLeftS
  rw [dropWhile_nil, List.all_eq_true]
  unfold Lib.trimRightS
  constructor
  · intro h
    have h1 : l.reverse.dropWhile (cs.contains ·) = [] := dropWhile_all fun c hc => h c (by simpa using hc)
    intro c hc
    exact dropWhile_nil.1 h1 c (by simpa using hc)
  · intro h c hc
    have h1 : l.reverse.dropWhile (cs.contains ·) = [] := dropWhile_nil.2 fun c hc => h c (by simpa using hc)
    rw [h1] at hc
    simp at hc
theorem run_Name {s : List UInt8} (hs : s.length ≤ 140737488355328) : T.R (.call n_value_Name [.str s] (.bool (nameB s))) := by
  have ht : T.R (.call n_strings_Trim [.str s, .str nameSet] (.str (Lib.trimS s nameSet))) := .prim _ _ _ ⟨rfl, s, nameSet, by omega, by decide, set_ascii, rfl, rfl⟩
  have hn : decide (Lib.trimS s nameSet = []) = s.all fun c => isLet c || isDg c := by
    rw [Bool.eq_iff_iff, decide_eq_true_eq, trim_nil]
    have : (fun c => nameSet.contains c) = fun c => isLet c || isDg c := funext set_is
    rw [show s.all (nameSet.contains ·) = s.all (fun c => isLet c || isDg c) from congrArg _ this]
  generalize Lib.trimS s nameSet = tr at ht hn
  cases s with
  | nil =>
    refine call_V rfl rfl ?_
    repeat' first | refine V_O rfl ?_ | refine O_step rfl ?_ | refine O_nil' ?_ | refine V_cT rfl rfl ?_ | refine V_cF rfl rfl ?_ | refine V_cEq rfl rfl ?_ | refine V_cNe rfl rfl ?_ | refine V_cB rfl rfl (fun _ => ?_) (fun _ => ?_) | refine O_gT' rfl ?_ | refine O_gU' rfl ?_ | refine O_gF' rfl rfl ?_ | refine O_gEq rfl ?_ | refine O_gNe rfl ?_ | refine O_gS rfl (fun _ => ?_) (fun _ => ?_) | refine V_fA rfl rfl ?_ | refine V_fAN rfl rfl ?_ | refine V_D rfl ?_ | refine D_step rfl ?_ | refine D_nil' ?_ | refine D_gT' rfl ?_ | refine D_gU' rfl ?_ | refine D_gF' rfl rfl ?_ | refine D_gS rfl (fun _ => ?_) (fun _ => ?_)
    rfl
  | cons c r =>
    have hne : ¬ (c :: r) = [] := by simp
    have hch : (c :: r)[(0 : Int).toNat]? = some c := rfl
    show T.R (.call n_value_Name [.str (c :: r)] (.bool (decide ((c :: r).length ≤ 24) && isLet c && (c :: r).all fun c => isLet c || isDg c)))
    by_cases hl : 24 < (c :: r).length
    · have h1 : ((24 : Int) < ((c :: r).length : Int)) := by omega
      rw [decide_eq_false (by omega : ¬ (c :: r).length ≤ 24)]
      refine call_V rfl rfl ?_
      repeat' first | refine O_is (dec_not hne) rfl ?_ | refine O_is (dec_is h1) rfl ?_ | refine V_O rfl ?_ | refine O_step rfl ?_ | refine O_nil' ?_ | refine V_cT rfl rfl ?_ | refine V_cF rfl rfl ?_ | refine V_cEq rfl rfl ?_ | refine V_cNe rfl rfl ?_ | refine V_cB rfl rfl (fun _ => ?_) (fun _ => ?_) | refine O_gT' rfl ?_ | refine O_gU' rfl ?_ | refine O_gF' rfl rfl ?_ | refine O_gEq rfl ?_ | refine O_gNe rfl ?_ | refine O_gS rfl (fun _ => ?_) (fun _ => ?_) | refine V_fA rfl rfl ?_ | refine V_fAN rfl rfl ?_ | refine V_D rfl ?_ | refine D_step rfl ?_ | refine D_nil' ?_ | refine D_gT' rfl ?_ | refine D_gU' rfl ?_ | refine D_gF' rfl rfl ?_ | refine D_gS rfl (fun _ => ?_) (fun _ => ?_)
      rfl
    · have h1 : ¬ ((24 : Int) < ((c :: r).length : Int)) := by omega
      rw [decide_eq_true (by omega : (c :: r).length ≤ 24)]
      by_cases hd : isDg c = true
      · have hd' := hd
        unfold isDg at hd'
        simp only [Bool.and_eq_true, decide_eq_true_eq] at hd'
        have h2 : (48 : Int) ≤ (c.toNat : Int) := by omega
        have h3 : (c.toNat : Int) ≤ 57 := by omega
        have hnl : isLet c = false := by
          unfold isLet
          simp only [Bool.or_eq_false_iff, Bool.and_eq_false_iff, beq_eq_false_iff_ne, decide_eq_false_iff_not]
          refine ⟨⟨fun e => ?_, .inl (by omega)⟩, .inl (by omega)⟩
          subst e
          have : (95 : UInt8).toNat = 95 := rfl
          omega
        rw [hnl]
        refine call_V rfl rfl ?_
        repeat' first | refine O_is (dec_not hne) rfl ?_ | refine O_is (dec_not h1) rfl ?_ | refine O_chr c rfl rfl (by decide) hch ?_ | refine O_is (dec_is h2) rfl ?_ | refine O_is (dec_is h3) rfl ?_ | refine V_O rfl ?_ | refine O_step rfl ?_ | refine O_nil' ?_ | refine V_cT rfl rfl ?_ | refine V_cF rfl rfl ?_ | refine V_cEq rfl rfl ?_ | refine V_cNe rfl rfl ?_ | refine V_cB rfl rfl (fun _ => ?_) (fun _ => ?_) | refine O_gT' rfl ?_ | refine O_gU' rfl ?_ | refine O_gF' rfl rfl ?_ | refine O_gEq rfl ?_ | refine O_gNe rfl ?_ | refine O_gS rfl (fun _ => ?_) (fun _ => ?_) | refine V_fA rfl rfl ?_ | refine V_fAN rfl rfl ?_ | refine V_D rfl ?_ | refine D_step rfl ?_ | refine D_nil' ?_ | refine D_gT' rfl ?_ | refine D_gU' rfl ?_ | refine D_gF' rfl rfl ?_ | refine D_gS rfl (fun _ => ?_) (fun _ => ?_)
        rfl
      · have hkey : (isLet c && (c :: r).all fun c => isLet c || isDg c) = (c :: r).all fun c => isLet c || isDg c := by
          cases hlc : isLet c with
          | true => rfl
          | false => simp [hlc, hd]
        rw [Bool.and_assoc, hkey, Bool.true_and, ← hn]
        have hw : decide ((48 : Int) ≤ (c.toNat : Int)) = true → decide ((c.toNat : Int) ≤ 57) = true → False := fun a b => hd (by
          have a := of_decide_eq_true a
          have b := of_decide_eq_true b
          unfold isDg
          simp only [Bool.and_eq_true, decide_eq_true_eq]
          omega)
        refine call_V rfl rfl ?_
        repeat' first | refine O_is (dec_not hne) rfl ?_ | refine O_is (dec_not h1) rfl ?_ | refine O_chr c rfl rfl (by decide) hch ?_ | refine O_cA rfl rfl ht ?_ | refine V_O rfl ?_ | refine O_step rfl ?_ | refine O_nil' ?_ | refine V_cT rfl rfl ?_ | refine V_cF rfl rfl ?_ | refine V_cEq rfl rfl ?_ | refine V_cNe rfl rfl ?_ | refine V_cB rfl rfl (fun _ => ?_) (fun _ => ?_) | refine O_gT' rfl ?_ | refine O_gU' rfl ?_ | refine O_gF' rfl rfl ?_ | refine O_gEq rfl ?_ | refine O_gNe rfl ?_ | refine O_gS rfl (fun _ => ?_) (fun _ => ?_) | refine V_fA rfl rfl ?_ | refine V_fAN rfl rfl ?_ | refine V_D rfl ?_ | refine D_step rfl ?_ | refine D_nil' ?_ | refine D_gT' rfl ?_ | refine D_gU' rfl ?_ | refine D_gF' rfl rfl ?_ | refine D_gS rfl (fun _ => ?_) (fun _ => ?_)
        all_goals first | rfl | (exfalso; apply hw <;> assumption)
theorem run_badName {s : List UInt8} (hs : s.length ≤ 140737488355328) : T.R (.call n_parse_badName [.str s] (.bool (!nameB s))) := by
  have h := run_Name hs
  generalize nameB s = r at h ⊢
  refine call_V rfl rfl ?_
  repeat' first | refine O_cA rfl rfl h ?_ | refine V_O rfl ?_ | refine O_step rfl ?_ | refine O_nil' ?_ | refine V_cT rfl rfl ?_ | refine V_cF rfl rfl ?_ | refine V_cEq rfl rfl ?_ | refine V_cNe rfl rfl ?_ | refine V_cB rfl rfl (fun _ => ?_) (fun _ => ?_) | refine O_gT' rfl ?_ | refine O_gU' rfl ?_ | refine O_gF' rfl rfl ?_ | refine O_gEq rfl ?_ | refine O_gNe rfl ?_ | refine O_gS rfl (fun _ => ?_) (fun _ => ?_) | refine V_fA rfl rfl ?_ | refine V_fAN rfl rfl ?_ | refine V_D rfl ?_ | refine D_step rfl ?_ | refine D_nil' ?_ | refine D_gT' rfl ?_ | refine D_gU' rfl ?_ | refine D_gF' rfl rfl ?_ | refine D_gS rfl (fun _ => ?_) (fun _ => ?_)
  rfl
def numB (n : Int) : Bool := decide (0 ≤ n) && decide (n ≤ 9007199254740992)
theorem run_badNum (n : Int) : T.R (.call n_parse_badNum [.int .i64 n] (.bool (!numB n))) := by
  unfold numB
  by_cases h1 : n < 0
  · rw [decide_eq_false (by omega : ¬ 0 ≤ n)]
    refine call_V rfl rfl ?_
    repeat' first | refine O_is (dec_is h1) rfl ?_ | refine V_O rfl ?_ | refine O_step rfl ?_ | refine O_nil' ?_ | refine V_cT rfl rfl ?_ | refine V_cF rfl rfl ?_ | refine V_cEq rfl rfl ?_ | refine V_cNe rfl rfl ?_ | refine V_cB rfl rfl (fun _ => ?_) (fun _ => ?_) | refine O_gT' rfl ?_ | refine O_gU' rfl ?_ | refine O_gF' rfl rfl ?_ | refine O_gEq rfl ?_ | refine O_gNe rfl ?_ | refine O_gS rfl (fun _ => ?_) (fun _ => ?_) | refine V_fA rfl rfl ?_ | refine V_fAN rfl rfl ?_ | refine V_D rfl ?_ | refine D_step rfl ?_ | refine D_nil' ?_ | refine D_gT' rfl ?_ | refine D_gU' rfl ?_ | refine D_gF' rfl rfl ?_ | refine D_gS rfl (fun _ => ?_) (fun _ => ?_)
    rfl
  · rw [decide_eq_true (by omega : 0 ≤ n)]
    by_cases h2 : 9007199254740992 < n
    · rw [decide_eq_false (by omega : ¬ n ≤ 9007199254740992)]
      refine call_V rfl rfl ?_
      repeat' first | refine O_is (dec_not h1) rfl ?_ | refine O_is (dec_is h2) rfl ?_ | refine V_O rfl ?_ | refine O_step rfl ?_ | refine O_nil' ?_ | refine V_cT rfl rfl ?_ | refine V_cF rfl rfl ?_ | refine V_cEq rfl rfl ?_ | refine V_cNe rfl rfl ?_ | refine V_cB rfl rfl (fun _ => ?_) (fun _ => ?_) | refine O_gT' rfl ?_ | refine O_gU' rfl ?_ | refine O_gF' rfl rfl ?_ | refine O_gEq rfl ?_ | refine O_gNe rfl ?_ | refine O_gS rfl (fun _ => ?_) (fun _ => ?_) | refine V_fA rfl rfl ?_ | refine V_fAN rfl rfl ?_ | refine V_D rfl ?_ | refine D_step rfl ?_ | refine D_nil' ?_ | refine D_gT' rfl ?_ | refine D_gU' rfl ?_ | refine D_gF' rfl rfl ?_ | refine D_gS rfl (fun _ => ?_) (fun _ => ?_)
      rfl
    · rw [decide_eq_true (by omega : n ≤ 9007199254740992)]
      refine call_V rfl rfl ?_
      repeat' first | refine O_is (dec_not h1) rfl ?_ | refine O_is (dec_not h2) rfl ?_ | refine V_O rfl ?_ | refine O_step rfl ?_ | refine O_nil' ?_ | refine V_cT rfl rfl ?_ | refine V_cF rfl rfl ?_ | refine V_cEq rfl rfl ?_ | refine V_cNe rfl rfl ?_ | refine V_cB rfl rfl (fun _ => ?_) (fun _ => ?_) | refine O_gT' rfl ?_ | refine O_gU' rfl ?_ | refine O_gF' rfl rfl ?_ | refine O_gEq rfl ?_ | refine O_gNe rfl ?_ | refine O_gS rfl (fun _ => ?_) (fun _ => ?_) | refine V_fA rfl rfl ?_ | refine V_fAN rfl rfl ?_ | refine V_D rfl ?_ | refine D_step rfl ?_ | refine D_nil' ?_ | refine D_gT' rfl ?_ | refine D_gU' rfl ?_ | refine D_gF' rfl rfl ?_ | refine D_gS rfl (fun _ => ?_) (fun _ => ?_)
      rfl
theorem run_badValue {v : Val} {cs : List PV} (hv : VC v cs) : T.R (.call n_parse_badValue [.agg cs] (.bool (!mayV 8 v))) := by
  have h := run_Check hv
  unfold chk at h
  have plv : Pl (.agg cs) := .agg _ hv.pl
  cases hm : mayV 8 v with
  | true =>
    rw [hm] at h
    have h' : T.R (.call n_value_Check [.agg cs] (.int .i64 0)) := h
    obtain ⟨k, n, s, l⟩ := v
    obtain ⟨hk, hn, hs, p, rfl, hp⟩ := hv.open
    have plp := hp.pl
    refine call_V rfl rfl ?_
    repeat' first | refine O_stepL rfl ?_ | refine O_cA rfl rfl h' ?_ | refine V_O rfl ?_ | refine O_step rfl ?_ | refine O_nil' ?_ | refine V_cT rfl rfl ?_ | refine V_cF rfl rfl ?_ | refine V_cEq rfl rfl ?_ | refine V_cNe rfl rfl ?_ | refine V_cB rfl rfl (fun _ => ?_) (fun _ => ?_) | refine O_gT' rfl ?_ | refine O_gU' rfl ?_ | refine O_gF' rfl rfl ?_ | refine O_gEq rfl ?_ | refine O_gNe rfl ?_ | refine O_gS rfl (fun _ => ?_) (fun _ => ?_) | refine V_fA rfl rfl ?_ | refine V_fAN rfl rfl ?_ | refine V_D rfl ?_ | refine D_step rfl ?_ | refine D_nil' ?_ | refine D_gT' rfl ?_ | refine D_gU' rfl ?_ | refine D_gF' rfl rfl ?_ | refine D_gS rfl (fun _ => ?_) (fun _ => ?_)
    rfl
  | false =>
    rw [hm] at h
    have h' : T.R (.call n_value_Check [.agg cs] (.int .i64 20)) := h
    obtain ⟨k, n, s, l⟩ := v
    obtain ⟨hk, hn, hs, p, rfl, hp⟩ := hv.open
    have plp := hp.pl
    refine call_V rfl rfl ?_
    repeat' first | refine O_stepL rfl ?_ | refine O_cA rfl rfl h' ?_ | refine V_O rfl ?_ | refine O_step rfl ?_ | refine O_nil' ?_ | refine V_cT rfl rfl ?_ | refine V_cF rfl rfl ?_ | refine V_cEq rfl rfl ?_ | refine V_cNe rfl rfl ?_ | refine V_cB rfl rfl (fun _ => ?_) (fun _ => ?_) | refine O_gT' rfl ?_ | refine O_gU' rfl ?_ | refine O_gF' rfl rfl ?_ | refine O_gEq rfl ?_ | refine O_gNe rfl ?_ | refine O_gS rfl (fun _ => ?_) (fun _ => ?_) | refine V_fA rfl rfl ?_ | refine V_fAN rfl rfl ?_ | refine V_D rfl ?_ | refine D_step rfl ?_ | refine D_nil' ?_ | refine D_gT' rfl ?_ | refine D_gU' rfl ?_ | refine D_gF' rfl rfl ?_ | refine D_gS rfl (fun _ => ?_) (fun _ => ?_)
    rfl
def wordAt (W : List (List UInt8)) (n : Int) : List UInt8 := if 1 ≤ n ∧ n ≤ W.length then W[(n - 1).toNat]?.getD [] else []
theorem run_pword {all : List UInt8} (ha : all.length ≤ 1000000000) (n : Int) (hn : I64 n) : T.R (.call n_parse_word [.str all, .int .i64 n] (.str (wordAt (splitB 32 all) n))) := by
  have hs := run_Split all 32 ha
  have hlen : (splitB 32 all).length ≤ 1000000001 := by rw [splitB_len]; have : all.count 32 ≤ all.length := List.count_le_length; omega
  generalize splitB 32 all = W at hs hlen
  have hv : LV sc (.sl (W.map sc) false) W := .sl _ _
  have plv : Pl (.sl (W.map sc) false) := .sl _ _ (pl_sc _)
  unfold wordAt
  by_cases h1 : n < 1
  · rw [if_neg (by omega)]
    refine call_V rfl rfl ?_
    repeat' first | refine O_cA rfl rfl hs ?_ | refine O_is (dec_is h1) rfl ?_ | refine V_O rfl ?_ | refine O_step rfl ?_ | refine O_nil' ?_ | refine V_cT rfl rfl ?_ | refine V_cF rfl rfl ?_ | refine V_cEq rfl rfl ?_ | refine V_cNe rfl rfl ?_ | refine V_cB rfl rfl (fun _ => ?_) (fun _ => ?_) | refine O_gT' rfl ?_ | refine O_gU' rfl ?_ | refine O_gF' rfl rfl ?_ | refine O_gEq rfl ?_ | refine O_gNe rfl ?_ | refine O_gS rfl (fun _ => ?_) (fun _ => ?_) | refine V_fA rfl rfl ?_ | refine V_fAN rfl rfl ?_ | refine V_D rfl ?_ | refine D_step rfl ?_ | refine D_nil' ?_ | refine D_gT' rfl ?_ | refine D_gU' rfl ?_ | refine D_gF' rfl rfl ?_ | refine D_gS rfl (fun _ => ?_) (fun _ => ?_)
    rfl
  · by_cases h2 : (W.length : Int) < n
    · rw [if_neg (by omega)]
      refine call_V rfl rfl ?_
      repeat' first | refine O_cA rfl rfl hs ?_ | refine O_is (dec_not h1) rfl ?_ | refine O_lenL rfl hv ?_ | refine O_is (dec_is h2) rfl ?_ | refine V_O rfl ?_ | refine O_step rfl ?_ | refine O_nil' ?_ | refine V_cT rfl rfl ?_ | refine V_cF rfl rfl ?_ | refine V_cEq rfl rfl ?_ | refine V_cNe rfl rfl ?_ | refine V_cB rfl rfl (fun _ => ?_) (fun _ => ?_) | refine O_gT' rfl ?_ | refine O_gU' rfl ?_ | refine O_gF' rfl rfl ?_ | refine O_gEq rfl ?_ | refine O_gNe rfl ?_ | refine O_gS rfl (fun _ => ?_) (fun _ => ?_) | refine V_fA rfl rfl ?_ | refine V_fAN rfl rfl ?_ | refine V_D rfl ?_ | refine D_step rfl ?_ | refine D_nil' ?_ | refine D_gT' rfl ?_ | refine D_gU' rfl ?_ | refine D_gF' rfl rfl ?_ | refine D_gS rfl (fun _ => ?_) (fun _ => ?_)
      rfl
    · rw [if_pos (by omega)]
      have hlt : (n - 1).toNat < W.length := by omega
      have hat : W[(n - 1).toNat]? = some W[(n - 1).toNat] := List.getElem?_eq_getElem hlt
      have hw : PV.int .i64 (IntKind.i64.wrap (n - 1)) = PV.int .i64 (n - 1) := int_is (wrap_id (by unfold I64 at hn ⊢; omega))
      rw [hat]
      refine call_V rfl rfl ?_
      repeat' first | refine O_cA rfl rfl hs ?_ | refine O_is (dec_not h1) rfl ?_ | refine O_lenL rfl hv ?_ | refine O_is (dec_not h2) rfl ?_ | refine O_is hw rfl ?_ | refine O_idxL _ rfl hv rfl (by omega) hat rfl ?_ | refine V_O rfl ?_ | refine O_step rfl ?_ | refine O_nil' ?_ | refine V_cT rfl rfl ?_ | refine V_cF rfl rfl ?_ | refine V_cEq rfl rfl ?_ | refine V_cNe rfl rfl ?_ | refine V_cB rfl rfl (fun _ => ?_) (fun _ => ?_) | refine O_gT' rfl ?_ | refine O_gU' rfl ?_ | refine O_gF' rfl rfl ?_ | refine O_gEq rfl ?_ | refine O_gNe rfl ?_ | refine O_gS rfl (fun _ => ?_) (fun _ => ?_) | refine V_fA rfl rfl ?_ | refine V_fAN rfl rfl ?_ | refine V_D rfl ?_ | refine D_step rfl ?_ | refine D_nil' ?_ | refine D_gT' rfl ?_ | refine D_gU' rfl ?_ | refine D_gF' rfl rfl ?_ | refine D_gS rfl (fun _ => ?_) (fun _ => ?_)
      rfl
end Go.Proofs.YtinojffgmgjblaaGreatDoor
