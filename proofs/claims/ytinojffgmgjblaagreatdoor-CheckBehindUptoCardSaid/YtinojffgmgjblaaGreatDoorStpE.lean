/- Names, words, shapes, predicates: the document's (rambleref16, rambleref02.Name). -/
import Derived.Test.YtinojffgmgjblaaGreatDoorStpD
set_option linter.unusedVariables false
set_option linter.unusedSimpArgs false
namespace Go.Proofs.YtinojffgmgjblaaGreatDoor
open Go Go.AM Go.RowKit
def isLetI (n : Int) : Bool := decide (n = 95) || (decide (97 ≤ n) && decide (n ≤ 122)) || (decide (65 ≤ n) && decide (n ≤ 90))
theorem isLet_I (c : UInt8) : isLet c = isLetI c.toNat := by
  unfold isLet isLetI
  have h1 : (c == 95) = decide ((c.toNat : Int) = 95) := by
    rw [Bool.eq_iff_iff, beq_iff_eq, decide_eq_true_eq]
    constructor
    · intro h; subst h; rfl
    · intro h; exact UInt8.toNat_inj.1 (by have : (95 : UInt8).toNat = 95 := rfl; omega)
  have h2 : ∀ n : Nat, decide (n ≤ c.toNat) = decide ((n : Int) ≤ (c.toNat : Int)) := fun n => by rw [decide_eq_decide]; omega
  have h3 : ∀ n : Nat, decide (c.toNat ≤ n) = decide ((c.toNat : Int) ≤ (n : Int)) := fun n => by rw [decide_eq_decide]; omega
  rw [h1, h2, h2, h3, h3]
  rfl
theorem run_letter (c : UInt8) : T.R (.call n_rambleref02_letter [.int .u8 c.toNat] (.bool (isLet c))) := by
  rw [isLet_I]
  unfold isLetI
  generalize (c.toNat : Int) = n
  refine call_V rfl rfl ?_
  repeat' first | refine V_O rfl ?_ | refine O_step rfl ?_ | refine O_nil' ?_ | refine V_cT rfl rfl ?_ | refine V_cF rfl rfl ?_ | refine V_cEq rfl rfl ?_ | refine V_cNe rfl rfl ?_ | refine V_cB rfl rfl (fun _ => ?_) (fun _ => ?_) | refine O_gT' rfl ?_ | refine O_gU' rfl ?_ | refine O_gF' rfl rfl ?_ | refine O_gEq rfl ?_ | refine O_gNe rfl ?_ | refine O_gS rfl (fun _ => ?_) (fun _ => ?_) | refine V_fA rfl rfl ?_ | refine V_fAN rfl rfl ?_ | refine V_D rfl ?_ | refine D_step rfl ?_ | refine D_nil' ?_ | refine D_gT' rfl ?_ | refine D_gU' rfl ?_ | refine D_gF' rfl rfl ?_ | refine D_gS rfl (fun _ => ?_) (fun _ => ?_)
  all_goals simp_all
  all_goals omega
def okC (c : UInt8) : Bool := isLet c || isDg c
theorem dg_parts (c : UInt8) : isDg c = (!decide ((c.toNat : Int) < 48) && !decide (57 < (c.toNat : Int))) := by
  unfold isDg
  rw [Bool.eq_iff_iff]
  simp only [Bool.and_eq_true, decide_eq_true_eq, Bool.not_eq_true', decide_eq_false_iff_not]
  omega
theorem rname_loop {s : List UInt8} (hs : s.length ≤ 140737488355328) : ∀ (rest pre : List UInt8), s = pre ++ rest →
    V T (PE fun x e st' => st' = emptySt ∧ ((x = .exit 0 ∧ rest.all okC = true) ∨ (x = .ret ∧ rest.all okC = false ∧ e = ecOf [(2, .bool false)])))
      [.code (.loop lp_rambleref02_Name_0)] .normal (ecOf [(0, .str s), (3, .int .i64 pre.length)]) emptySt := by
  intro rest
  induction rest with
  | nil =>
    intro pre ha
    have hlt : ¬ (pre.length : Int) < s.length := by subst ha; simp
    refine V_unroll ?_
    repeat' first | refine V_cHF rfl rfl hlt ?_ | refine V_out [] rfl trivial ⟨rfl, .inl ⟨rfl, rfl⟩⟩ | refine V_O rfl ?_ | refine O_step rfl ?_ | refine O_nil' ?_ | refine V_cT rfl rfl ?_ | refine V_cF rfl rfl ?_ | refine V_cEq rfl rfl ?_ | refine V_cNe rfl rfl ?_ | refine V_cB rfl rfl (fun _ => ?_) (fun _ => ?_) | refine O_gT' rfl ?_ | refine O_gU' rfl ?_ | refine O_gF' rfl rfl ?_ | refine O_gEq rfl ?_ | refine O_gNe rfl ?_ | refine O_gS rfl (fun _ => ?_) (fun _ => ?_) | refine V_fA rfl rfl ?_ | refine V_fAN rfl rfl ?_ | refine V_D rfl ?_ | refine D_step rfl ?_ | refine D_nil' ?_ | refine D_gT' rfl ?_ | refine D_gU' rfl ?_ | refine D_gF' rfl rfl ?_ | refine D_gS rfl (fun _ => ?_) (fun _ => ?_)
  | cons c rest ih =>
    intro pre ha
    have hlt : (pre.length : Int) < s.length := by subst ha; simp; omega
    have hll : pre.length < s.length := by subst ha; simp
    have hch : s[((pre.length : Nat) : Int).toNat]? = some c := by subst ha; simp
    have hw : IntKind.i64.wrap ((pre.length : Int) + 1) = ((pre ++ [c]).length : Int) := by rw [wrap_i64]; simp; omega
    have hi := ih (pre ++ [c]) (by rw [ha]; simp)
    have hl := run_letter c
    have hd := dg_parts c
    rw [List.all_cons]
    have hok : okC c = (isLet c || isDg c) := rfl
    rw [hok]
    refine V_unroll ?_
    cases hL : isLet c with
    | true =>
      rw [hL] at hl
      rw [Bool.true_or, Bool.true_and]
      repeat' first | refine V_cHY rfl rfl hlt ?_ | refine O_chr c rfl rfl (by omega) hch ?_ | refine O_cA rfl rfl hl ?_ | refine V_re rfl hi ⟨rfl, some_int hw, trivial⟩ | refine V_O rfl ?_ | refine O_step rfl ?_ | refine O_nil' ?_ | refine V_cT rfl rfl ?_ | refine V_cF rfl rfl ?_ | refine V_cEq rfl rfl ?_ | refine V_cNe rfl rfl ?_ | refine V_cB rfl rfl (fun _ => ?_) (fun _ => ?_) | refine O_gT' rfl ?_ | refine O_gU' rfl ?_ | refine O_gF' rfl rfl ?_ | refine O_gEq rfl ?_ | refine O_gNe rfl ?_ | refine O_gS rfl (fun _ => ?_) (fun _ => ?_) | refine V_fA rfl rfl ?_ | refine V_fAN rfl rfl ?_ | refine V_D rfl ?_ | refine D_step rfl ?_ | refine D_nil' ?_ | refine D_gT' rfl ?_ | refine D_gU' rfl ?_ | refine D_gF' rfl rfl ?_ | refine D_gS rfl (fun _ => ?_) (fun _ => ?_)
    | false =>
      rw [hL] at hl
      rw [Bool.false_or, hd]
      by_cases c1 : (c.toNat : Int) < 48
      · rw [decide_eq_true c1]
        repeat' first | refine V_cHY rfl rfl hlt ?_ | refine O_chr c rfl rfl (by omega) hch ?_ | refine O_cA rfl rfl hl ?_ | refine O_is (dec_is c1) rfl ?_ | refine V_out [(2, .bool false)] rfl ⟨rfl, trivial⟩ ⟨rfl, .inr ⟨rfl, rfl, rfl⟩⟩ | refine V_O rfl ?_ | refine O_step rfl ?_ | refine O_nil' ?_ | refine V_cT rfl rfl ?_ | refine V_cF rfl rfl ?_ | refine V_cEq rfl rfl ?_ | refine V_cNe rfl rfl ?_ | refine V_cB rfl rfl (fun _ => ?_) (fun _ => ?_) | refine O_gT' rfl ?_ | refine O_gU' rfl ?_ | refine O_gF' rfl rfl ?_ | refine O_gEq rfl ?_ | refine O_gNe rfl ?_ | refine O_gS rfl (fun _ => ?_) (fun _ => ?_) | refine V_fA rfl rfl ?_ | refine V_fAN rfl rfl ?_ | refine V_D rfl ?_ | refine D_step rfl ?_ | refine D_nil' ?_ | refine D_gT' rfl ?_ | refine D_gU' rfl ?_ | refine D_gF' rfl rfl ?_ | refine D_gS rfl (fun _ => ?_) (fun _ => ?_)
      · rw [decide_eq_false c1]
        by_cases c2 : 57 < (c.toNat : Int)
        · rw [decide_eq_true c2]
          repeat' first | refine V_cHY rfl rfl hlt ?_ | refine O_chr c rfl rfl (by omega) hch ?_ | refine O_cA rfl rfl hl ?_ | refine O_is (dec_not c1) rfl ?_ | refine O_is (dec_is c2) rfl ?_ | refine V_out [(2, .bool false)] rfl ⟨rfl, trivial⟩ ⟨rfl, .inr ⟨rfl, rfl, rfl⟩⟩ | refine V_O rfl ?_ | refine O_step rfl ?_ | refine O_nil' ?_ | refine V_cT rfl rfl ?_ | refine V_cF rfl rfl ?_ | refine V_cEq rfl rfl ?_ | refine V_cNe rfl rfl ?_ | refine V_cB rfl rfl (fun _ => ?_) (fun _ => ?_) | refine O_gT' rfl ?_ | refine O_gU' rfl ?_ | refine O_gF' rfl rfl ?_ | refine O_gEq rfl ?_ | refine O_gNe rfl ?_ | refine O_gS rfl (fun _ => ?_) (fun _ => ?_) | refine V_fA rfl rfl ?_ | refine V_fAN rfl rfl ?_ | refine V_D rfl ?_ | refine D_step rfl ?_ | refine D_nil' ?_ | refine D_gT' rfl ?_ | refine D_gU' rfl ?_ | refine D_gF' rfl rfl ?_ | refine D_gS rfl (fun _ => ?_) (fun _ => ?_)
        · rw [decide_eq_false c2]
          repeat' first | refine V_cHY rfl rfl hlt ?_ | refine O_chr c rfl rfl (by omega) hch ?_ | refine O_cA rfl rfl hl ?_ | refine O_is (dec_not c1) rfl ?_ | refine O_is (dec_not c2) rfl ?_ | refine V_re rfl hi ⟨rfl, some_int hw, trivial⟩ | refine V_O rfl ?_ | refine O_step rfl ?_ | refine O_nil' ?_ | refine V_cT rfl rfl ?_ | refine V_cF rfl rfl ?_ | refine V_cEq rfl rfl ?_ | refine V_cNe rfl rfl ?_ | refine V_cB rfl rfl (fun _ => ?_) (fun _ => ?_) | refine O_gT' rfl ?_ | refine O_gU' rfl ?_ | refine O_gF' rfl rfl ?_ | refine O_gEq rfl ?_ | refine O_gNe rfl ?_ | refine O_gS rfl (fun _ => ?_) (fun _ => ?_) | refine V_fA rfl rfl ?_ | refine V_fAN rfl rfl ?_ | refine V_D rfl ?_ | refine D_step rfl ?_ | refine D_nil' ?_ | refine D_gT' rfl ?_ | refine D_gU' rfl ?_ | refine D_gF' rfl rfl ?_ | refine D_gS rfl (fun _ => ?_) (fun _ => ?_)
theorem run_rName {s : List UInt8} (hs : s.length ≤ 140737488355328) : T.R (.call n_rambleref02_Name [.str s] (.bool (nameB s))) := by
  have hl := rname_loop hs s [] rfl
  cases s with
  | nil =>
    refine call_V rfl rfl ?_
    repeat' first | refine V_O rfl ?_ | refine O_step rfl ?_ | refine O_nil' ?_ | refine V_cT rfl rfl ?_ | refine V_cF rfl rfl ?_ | refine V_cEq rfl rfl ?_ | refine V_cNe rfl rfl ?_ | refine V_cB rfl rfl (fun _ => ?_) (fun _ => ?_) | refine O_gT' rfl ?_ | refine O_gU' rfl ?_ | refine O_gF' rfl rfl ?_ | refine O_gEq rfl ?_ | refine O_gNe rfl ?_ | refine O_gS rfl (fun _ => ?_) (fun _ => ?_) | refine V_fA rfl rfl ?_ | refine V_fAN rfl rfl ?_ | refine V_D rfl ?_ | refine D_step rfl ?_ | refine D_nil' ?_ | refine D_gT' rfl ?_ | refine D_gU' rfl ?_ | refine D_gF' rfl rfl ?_ | refine D_gS rfl (fun _ => ?_) (fun _ => ?_)
    rfl
  | cons c r =>
    have hne : ¬ (c :: r) = [] := by simp
    have hch : (c :: r)[(0 : Int).toNat]? = some c := rfl
    have hlt := run_letter c
    show T.R (.call n_rambleref02_Name [.str (c :: r)] (.bool (decide ((c :: r).length ≤ 24) && isLet c && (c :: r).all okC)))
    by_cases hl24 : 24 < (c :: r).length
    · have h1 : ((24 : Int) < ((c :: r).length : Int)) := by omega
      rw [decide_eq_false (by omega : ¬ (c :: r).length ≤ 24)]
      refine call_V rfl rfl ?_
      repeat' first | refine O_is (dec_not hne) rfl ?_ | refine O_is (dec_is h1) rfl ?_ | refine V_O rfl ?_ | refine O_step rfl ?_ | refine O_nil' ?_ | refine V_cT rfl rfl ?_ | refine V_cF rfl rfl ?_ | refine V_cEq rfl rfl ?_ | refine V_cNe rfl rfl ?_ | refine V_cB rfl rfl (fun _ => ?_) (fun _ => ?_) | refine O_gT' rfl ?_ | refine O_gU' rfl ?_ | refine O_gF' rfl rfl ?_ | refine O_gEq rfl ?_ | refine O_gNe rfl ?_ | refine O_gS rfl (fun _ => ?_) (fun _ => ?_) | refine V_fA rfl rfl ?_ | refine V_fAN rfl rfl ?_ | refine V_D rfl ?_ | refine D_step rfl ?_ | refine D_nil' ?_ | refine D_gT' rfl ?_ | refine D_gU' rfl ?_ | refine D_gF' rfl rfl ?_ | refine D_gS rfl (fun _ => ?_) (fun _ => ?_)
      rfl
    · have h1 : ¬ ((24 : Int) < ((c :: r).length : Int)) := by omega
      rw [decide_eq_true (by omega : (c :: r).length ≤ 24)]
      cases hL : isLet c with
      | false =>
        rw [hL] at hlt
        refine call_V rfl rfl ?_
        repeat' first | refine O_is (dec_not hne) rfl ?_ | refine O_is (dec_not h1) rfl ?_ | refine O_chr c rfl rfl (by decide) hch ?_ | refine O_cA rfl rfl hlt ?_ | refine V_O rfl ?_ | refine O_step rfl ?_ | refine O_nil' ?_ | refine V_cT rfl rfl ?_ | refine V_cF rfl rfl ?_ | refine V_cEq rfl rfl ?_ | refine V_cNe rfl rfl ?_ | refine V_cB rfl rfl (fun _ => ?_) (fun _ => ?_) | refine O_gT' rfl ?_ | refine O_gU' rfl ?_ | refine O_gF' rfl rfl ?_ | refine O_gEq rfl ?_ | refine O_gNe rfl ?_ | refine O_gS rfl (fun _ => ?_) (fun _ => ?_) | refine V_fA rfl rfl ?_ | refine V_fAN rfl rfl ?_ | refine V_D rfl ?_ | refine D_step rfl ?_ | refine D_nil' ?_ | refine D_gT' rfl ?_ | refine D_gU' rfl ?_ | refine D_gF' rfl rfl ?_ | refine D_gS rfl (fun _ => ?_) (fun _ => ?_)
        rfl
      | true =>
        rw [hL] at hlt
        refine call_V rfl rfl ?_
        repeat' first | refine O_is (dec_not hne) rfl ?_ | refine O_is (dec_not h1) rfl ?_ | refine O_chr c rfl rfl (by decide) hch ?_ | refine O_cA rfl rfl hlt ?_ | refine V_cutTo rfl hl ⟨rfl, rfl, trivial⟩ ?_ | refine V_O rfl ?_ | refine O_step rfl ?_ | refine O_nil' ?_ | refine V_cT rfl rfl ?_ | refine V_cF rfl rfl ?_ | refine V_cEq rfl rfl ?_ | refine V_cNe rfl rfl ?_ | refine V_cB rfl rfl (fun _ => ?_) (fun _ => ?_) | refine O_gT' rfl ?_ | refine O_gU' rfl ?_ | refine O_gF' rfl rfl ?_ | refine O_gEq rfl ?_ | refine O_gNe rfl ?_ | refine O_gS rfl (fun _ => ?_) (fun _ => ?_) | refine V_fA rfl rfl ?_ | refine V_fAN rfl rfl ?_ | refine V_D rfl ?_ | refine D_step rfl ?_ | refine D_nil' ?_ | refine D_gT' rfl ?_ | refine D_gU' rfl ?_ | refine D_gF' rfl rfl ?_ | refine D_gS rfl (fun _ => ?_) (fun _ => ?_)
        rintro x e' st' ⟨rfl, ⟨rfl, h⟩ | ⟨rfl, h, rfl⟩⟩
        · rw [h]
          repeat' first | refine V_O rfl ?_ | refine O_step rfl ?_ | refine O_nil' ?_ | refine V_cT rfl rfl ?_ | refine V_cF rfl rfl ?_ | refine V_cEq rfl rfl ?_ | refine V_cNe rfl rfl ?_ | refine V_cB rfl rfl (fun _ => ?_) (fun _ => ?_) | refine O_gT' rfl ?_ | refine O_gU' rfl ?_ | refine O_gF' rfl rfl ?_ | refine O_gEq rfl ?_ | refine O_gNe rfl ?_ | refine O_gS rfl (fun _ => ?_) (fun _ => ?_) | refine V_fA rfl rfl ?_ | refine V_fAN rfl rfl ?_ | refine V_D rfl ?_ | refine D_step rfl ?_ | refine D_nil' ?_ | refine D_gT' rfl ?_ | refine D_gU' rfl ?_ | refine D_gF' rfl rfl ?_ | refine D_gS rfl (fun _ => ?_) (fun _ => ?_)
          rfl
        · rw [h]
          repeat' first | refine V_O rfl ?_ | refine O_step rfl ?_ | refine O_nil' ?_ | refine V_cT rfl rfl ?_ | refine V_cF rfl rfl ?_ | refine V_cEq rfl rfl ?_ | refine V_cNe rfl rfl ?_ | refine V_cB rfl rfl (fun _ => ?_) (fun _ => ?_) | refine O_gT' rfl ?_ | refine O_gU' rfl ?_ | refine O_gF' rfl rfl ?_ | refine O_gEq rfl ?_ | refine O_gNe rfl ?_ | refine O_gS rfl (fun _ => ?_) (fun _ => ?_) | refine V_fA rfl rfl ?_ | refine V_fAN rfl rfl ?_ | refine V_D rfl ?_ | refine D_step rfl ?_ | refine D_nil' ?_ | refine D_gT' rfl ?_ | refine D_gU' rfl ?_ | refine D_gF' rfl rfl ?_ | refine D_gS rfl (fun _ => ?_) (fun _ => ?_)
          rfl
theorem sliceMid {pre cur rest : List UInt8} {k k' : IntKind} : sliceStr? (some (.int k (pre.length : Int))) (some (.int k' ((pre.length + cur.length : Nat) : Int))) (.str (pre ++ cur ++ rest)) = some (.str cur) := by
  have h1 : ((0 : Int) ≤ ((pre.length + cur.length : Nat) : Int) ∧ ((pre.length + cur.length : Nat) : Int) ≤ (pre ++ cur ++ rest).length) := by simp; omega
  have h2 : ((0 : Int) ≤ (pre.length : Int) ∧ (pre.length : Int) ≤ ((pre.length + cur.length : Nat) : Int)) := by omega
  simp only [sliceStr?, bound?, Option.bind_some]
  rw [if_pos (by simp; omega)]
  simp only [Option.bind_some, Int.toNat_natCast]
  rw [if_pos (by omega)]
  simp
theorem rsplit_loop {s : List UInt8} (hs : s.length ≤ 1000000) : ∀ (rest pre cur : List UInt8) (acc : List (List UInt8)) (st : St) (v : PV), s = pre ++ cur ++ rest → (32 : UInt8) ∉ cur → acc.length ≤ pre.length → AccT 1 st v (acc.map sc) →
    V T (PE fun x e st' => x = .exit 0 ∧ ∃ v', e = ecOf [(3, v')] ∧ AccT 1 st' v' ((acc ++ splitB 32 (cur ++ rest)).map sc)) [.code (.loop lp_rambleref16_split_0)] .normal (ecOf [(0, .str s), (3, v), (4, .int .i64 pre.length), (5, .int .i64 ((pre.length + cur.length : Nat) : Int))]) st := by
  intro rest
  induction rest with
  | nil =>
    intro pre cur acc st v ha hn hal hA
    have hle : ((pre.length + cur.length : Nat) : Int) ≤ s.length := by subst ha; simp
    have heq : ((pre.length + cur.length : Nat) : Int) = s.length := by subst ha; simp
    have hsl : sliceStr? (some (.int .i64 (pre.length : Int))) (some (.int .i64 ((pre.length + cur.length : Nat) : Int))) (.str s) = some (.str cur) := by rw [ha]; exact sliceMid
    have hps : pre.length ≤ 1000000 := by rw [ha] at hs; simp at hs; omega
    obtain ⟨v', st', k1, k2, k3⟩ := hA.grow (bytes := 16) (src := [sc cur]) (by simp) (by simp only [List.length_map, List.length_singleton, roomLen]; omega)
    have hf : acc.map sc ++ [sc cur] = (acc ++ splitB 32 (cur ++ [])).map sc := by rw [List.append_nil, splitB_none hn]; simp
    rw [hf] at k2
    have hw : IntKind.i64.wrap (((pre.length + cur.length : Nat) : Int) + 1) = ((s.length + 1 : Nat) : Int) := by rw [wrap_i64]; omega
    have hgt : ¬ ((IntKind.i64.wrap (((pre.length + cur.length : Nat) : Int) + 1)) ≤ (s.length : Int)) := by rw [hw]; omega
    refine V_unroll ?_
    repeat' first | refine V_cHY rfl rfl hle ?_ | refine V_cHF rfl rfl hgt ?_ | refine O_is (dec_is heq) rfl ?_ | refine O_step hsl ?_ | refine O_append rfl rfl rfl rfl (by decide) (by decide) k1 ?_ | refine V_loop rfl (V_unroll ?_) | refine V_out [(3, v')] rfl ⟨rfl, trivial⟩ ⟨rfl, v', rfl, k2⟩ | refine V_O rfl ?_ | refine O_step rfl ?_ | refine O_nil' ?_ | refine V_cT rfl rfl ?_ | refine V_cF rfl rfl ?_ | refine V_cEq rfl rfl ?_ | refine V_cNe rfl rfl ?_ | refine V_cB rfl rfl (fun _ => ?_) (fun _ => ?_) | refine O_gT' rfl ?_ | refine O_gU' rfl ?_ | refine O_gF' rfl rfl ?_ | refine O_gEq rfl ?_ | refine O_gNe rfl ?_ | refine O_gS rfl (fun _ => ?_) (fun _ => ?_) | refine V_fA rfl rfl ?_ | refine V_fAN rfl rfl ?_ | refine V_D rfl ?_ | refine D_step rfl ?_ | refine D_nil' ?_ | refine D_gT' rfl ?_ | refine D_gU' rfl ?_ | refine D_gF' rfl rfl ?_ | refine D_gS rfl (fun _ => ?_) (fun _ => ?_)
  | cons b rest ih =>
    intro pre cur acc st v ha hn hal hA
    have hle : ((pre.length + cur.length : Nat) : Int) ≤ s.length := by subst ha; simp; omega
    have hne : ¬ ((pre.length + cur.length : Nat) : Int) = s.length := by subst ha; simp; omega
    have hch : s[(((pre.length + cur.length : Nat) : Int)).toNat]? = some b := by
      subst ha
      rw [Int.toNat_natCast, List.getElem?_append_right (by simp)]
      simp
    have hps : pre.length + cur.length ≤ 1000000 := by rw [ha] at hs; simp at hs; omega
    by_cases hb : b = 32
    · subst hb
      have hsl : sliceStr? (some (.int .i64 (pre.length : Int))) (some (.int .i64 ((pre.length + cur.length : Nat) : Int))) (.str s) = some (.str cur) := by rw [ha]; exact sliceMid
      obtain ⟨v', st', k1, k2, k3⟩ := hA.grow (bytes := 16) (src := [sc cur]) (by simp) (by simp only [List.length_map, List.length_singleton, roomLen]; omega)
      have hf : acc.map sc ++ [sc cur] = (acc ++ [cur]).map sc := by simp
      rw [hf] at k2
      have hi := ih (pre ++ cur ++ [32]) [] (acc ++ [cur]) st' v' (by rw [ha]; simp) (by simp) (by simp; omega) k2
      have hw1 : IntKind.i64.wrap (((pre.length + cur.length : Nat) : Int) + 1) = ((pre ++ cur ++ [(32 : UInt8)]).length : Int) := by rw [wrap_i64]; simp; omega
      have hw2 : IntKind.i64.wrap (((pre.length + cur.length : Nat) : Int) + 1) = (((pre ++ cur ++ [(32 : UInt8)]).length + ([] : List UInt8).length : Nat) : Int) := by rw [hw1]; simp
      have e32 : PV.bool (decide (((32 : UInt8).toNat : Int) = 32)) = PV.bool true := rfl
      have hres : acc ++ [cur] ++ splitB 32 ([] ++ rest) = acc ++ splitB 32 (cur ++ 32 :: rest) := by rw [splitB_cut hn]; simp
      rw [hres] at hi
      refine V_unroll ?_
      repeat' first | refine V_cHY rfl rfl hle ?_ | refine O_is (dec_not hne) rfl ?_ | refine O_chr 32 rfl rfl (by omega) hch ?_ | refine O_is e32 rfl ?_ | refine O_step hsl ?_ | refine O_append rfl rfl rfl rfl (by decide) (by decide) k1 ?_ | refine V_re rfl hi ⟨rfl, rfl, some_int hw1, some_int hw2, trivial⟩ | refine V_O rfl ?_ | refine O_step rfl ?_ | refine O_nil' ?_ | refine V_cT rfl rfl ?_ | refine V_cF rfl rfl ?_ | refine V_cEq rfl rfl ?_ | refine V_cNe rfl rfl ?_ | refine V_cB rfl rfl (fun _ => ?_) (fun _ => ?_) | refine O_gT' rfl ?_ | refine O_gU' rfl ?_ | refine O_gF' rfl rfl ?_ | refine O_gEq rfl ?_ | refine O_gNe rfl ?_ | refine O_gS rfl (fun _ => ?_) (fun _ => ?_) | refine V_fA rfl rfl ?_ | refine V_fAN rfl rfl ?_ | refine V_D rfl ?_ | refine D_step rfl ?_ | refine D_nil' ?_ | refine D_gT' rfl ?_ | refine D_gU' rfl ?_ | refine D_gF' rfl rfl ?_ | refine D_gS rfl (fun _ => ?_) (fun _ => ?_)
    · have hi := ih pre (cur ++ [b]) acc st v (by rw [ha]; simp) (by simp [hn, Ne.symm hb]) hal hA
      have hw2 : IntKind.i64.wrap (((pre.length + cur.length : Nat) : Int) + 1) = ((pre.length + (cur ++ [b]).length : Nat) : Int) := by rw [wrap_i64]; simp; omega
      have h32 : ¬ ((b.toNat : Int) = 32) := fun h => hb (UInt8.toNat_inj.1 (by have : (32 : UInt8).toNat = 32 := rfl; omega))
      have hres : cur ++ [b] ++ rest = cur ++ b :: rest := by simp
      rw [hres] at hi
      refine V_unroll ?_
      repeat' first | refine V_cHY rfl rfl hle ?_ | refine O_is (dec_not hne) rfl ?_ | refine O_chr b rfl rfl (by omega) hch ?_ | refine O_is (dec_not h32) rfl ?_ | refine V_re rfl hi ⟨rfl, rfl, rfl, some_int hw2, trivial⟩ | refine V_O rfl ?_ | refine O_step rfl ?_ | refine O_nil' ?_ | refine V_cT rfl rfl ?_ | refine V_cF rfl rfl ?_ | refine V_cEq rfl rfl ?_ | refine V_cNe rfl rfl ?_ | refine V_cB rfl rfl (fun _ => ?_) (fun _ => ?_) | refine O_gT' rfl ?_ | refine O_gU' rfl ?_ | refine O_gF' rfl rfl ?_ | refine O_gEq rfl ?_ | refine O_gNe rfl ?_ | refine O_gS rfl (fun _ => ?_) (fun _ => ?_) | refine V_fA rfl rfl ?_ | refine V_fAN rfl rfl ?_ | refine V_D rfl ?_ | refine D_step rfl ?_ | refine D_nil' ?_ | refine D_gT' rfl ?_ | refine D_gU' rfl ?_ | refine D_gF' rfl rfl ?_ | refine D_gS rfl (fun _ => ?_) (fun _ => ?_)
theorem splitB_ne (c : UInt8) : ∀ s : List UInt8, splitB c s ≠ []
  | [] => by simp [splitB]
  | b :: l => by
    rw [splitB]
    split
    · simp
    · split <;> simp
theorem run_rsplit {s : List UInt8} (hs : s.length ≤ 1000000) : T.R (.call n_rambleref16_split [.str s] (.sl ((splitB 32 s).map sc) false)) := by
  have hl := rsplit_loop hs s [] [] [] emptySt .nilSl rfl (by simp) (by simp) (.inl ⟨rfl, rfl⟩)
  refine call_V rfl rfl ?_
  repeat' first | refine V_cutTo rfl hl ⟨rfl, rfl, rfl, rfl, trivial⟩ ?_ | refine V_O rfl ?_ | refine O_step rfl ?_ | refine O_nil' ?_ | refine V_cT rfl rfl ?_ | refine V_cF rfl rfl ?_ | refine V_cEq rfl rfl ?_ | refine V_cNe rfl rfl ?_ | refine V_cB rfl rfl (fun _ => ?_) (fun _ => ?_) | refine O_gT' rfl ?_ | refine O_gU' rfl ?_ | refine O_gF' rfl rfl ?_ | refine O_gEq rfl ?_ | refine O_gNe rfl ?_ | refine O_gS rfl (fun _ => ?_) (fun _ => ?_) | refine V_fA rfl rfl ?_ | refine V_fAN rfl rfl ?_ | refine V_D rfl ?_ | refine D_step rfl ?_ | refine D_nil' ?_ | refine D_gT' rfl ?_ | refine D_gU' rfl ?_ | refine D_gF' rfl rfl ?_ | refine D_gS rfl (fun _ => ?_) (fun _ => ?_)
  rintro x e' st' ⟨rfl, v', rfl, hA⟩
  rcases hA with ⟨rfl, h0⟩ | ⟨t, g, rfl, hg, hlt⟩
  · exact absurd (by simpa using h0) (splitB_ne 32 s)
  · repeat' first | refine V_fin rfl rfl (view_osl0 hg (.inl rfl) rfl (pl_sc _)) rfl | refine V_O rfl ?_ | refine O_step rfl ?_ | refine O_nil' ?_ | refine V_cT rfl rfl ?_ | refine V_cF rfl rfl ?_ | refine V_cEq rfl rfl ?_ | refine V_cNe rfl rfl ?_ | refine V_cB rfl rfl (fun _ => ?_) (fun _ => ?_) | refine O_gT' rfl ?_ | refine O_gU' rfl ?_ | refine O_gF' rfl rfl ?_ | refine O_gEq rfl ?_ | refine O_gNe rfl ?_ | refine O_gS rfl (fun _ => ?_) (fun _ => ?_) | refine V_fA rfl rfl ?_ | refine V_fAN rfl rfl ?_ | refine V_D rfl ?_ | refine D_step rfl ?_ | refine D_nil' ?_ | refine D_gT' rfl ?_ | refine D_gU' rfl ?_ | refine D_gF' rfl rfl ?_ | refine D_gS rfl (fun _ => ?_) (fun _ => ?_)
theorem run_rWord2 {op : Int} (h : I64 op) : T.R (.call n_rambleref16_Word [.int .i64 op] (.str (stepW op))) := by
  have hs := run_rsplit (s := wSteps) (by decide +kernel)
  have h60 := steps_60.1
  unfold stepW
  generalize splitB 32 wSteps = W at hs h60 ⊢
  have hv : LV sc (.sl (W.map sc) false) W := .sl _ _
  have plv : Pl (.sl (W.map sc) false) := .sl _ _ (pl_sc _)
  have hs' : T.R (.call n_rambleref16_split [.str [86, 32, 69, 32, 105, 110, 106, 101, 99, 116, 32, 97, 100, 100, 86, 32, 111, 117, 116, 32, 105, 110, 32, 98, 111, 116, 104, 32, 111, 117, 116, 69, 32, 105, 110, 69, 32, 98, 111, 116, 104, 69, 32, 111, 117, 116, 86, 32, 105, 110, 86, 32, 98, 111, 116, 104, 86, 32, 104, 97, 115, 32, 104, 97, 115, 75, 101, 121, 32, 104, 97, 115, 78, 111, 116, 32, 104, 97, 115, 76, 97, 98, 101, 108, 32, 104, 97, 115, 73, 100, 32, 105, 115, 32, 119, 104, 101, 114, 101, 32, 110, 111, 116, 32, 97, 110, 100, 32, 111, 114, 32, 100, 101, 100, 117, 112, 32, 115, 105, 109, 112, 108, 101, 80, 97, 116, 104, 32, 108, 105, 109, 105, 116, 32, 115, 107, 105, 112, 32, 114, 97, 110, 103, 101, 32, 116, 97, 105, 108, 32, 105, 100, 32, 108, 97, 98, 101, 108, 32, 118, 97, 108, 117, 101, 115, 32, 118, 97, 108, 117, 101, 77, 97, 112, 32, 99, 111, 110, 115, 116, 97, 110, 116, 32, 99, 111, 117, 110, 116, 32, 115, 117, 109, 32, 109, 105, 110, 32, 109, 97, 120, 32, 102, 111, 108, 100, 32, 117, 110, 102, 111, 108, 100, 32, 112, 97, 116, 104, 32, 97, 115, 32, 115, 101, 108, 101, 99, 116, 32, 111, 114, 100, 101, 114, 32, 111, 114, 100, 101, 114, 68, 101, 115, 99, 32, 111, 114, 100, 101, 114, 66, 121, 32, 111, 114, 100, 101, 114, 66, 121, 68, 101, 115, 99, 32, 103, 114, 111, 117, 112, 67, 111, 117, 110, 116, 32, 108, 111, 111, 112, 115, 32, 117, 110, 105, 111, 110, 32, 99, 111, 97, 108, 101, 115, 99, 101, 32, 111, 112, 116, 105, 111, 110, 97, 108, 32, 99, 104, 111, 111, 115, 101, 32, 116, 105, 109, 101, 115, 32, 117, 110, 116, 105, 108, 32, 101, 109, 105, 116, 32, 97, 100, 100, 69, 32, 112, 114, 111, 112, 101, 114, 116, 121, 32, 100, 114, 111, 112, 32, 105, 100, 101, 110, 116, 105, 116, 121]] (.sl (W.map sc) false)) := hs
  unfold wordAt
  by_cases h1 : op < 1
  · rw [if_neg (by omega)]
    refine call_V rfl rfl ?_
    repeat' first | refine O_cA rfl rfl hs' ?_ | refine O_is (dec_is h1) rfl ?_ | refine V_O rfl ?_ | refine O_step rfl ?_ | refine O_nil' ?_ | refine V_cT rfl rfl ?_ | refine V_cF rfl rfl ?_ | refine V_cEq rfl rfl ?_ | refine V_cNe rfl rfl ?_ | refine V_cB rfl rfl (fun _ => ?_) (fun _ => ?_) | refine O_gT' rfl ?_ | refine O_gU' rfl ?_ | refine O_gF' rfl rfl ?_ | refine O_gEq rfl ?_ | refine O_gNe rfl ?_ | refine O_gS rfl (fun _ => ?_) (fun _ => ?_) | refine V_fA rfl rfl ?_ | refine V_fAN rfl rfl ?_ | refine V_D rfl ?_ | refine D_step rfl ?_ | refine D_nil' ?_ | refine D_gT' rfl ?_ | refine D_gU' rfl ?_ | refine D_gF' rfl rfl ?_ | refine D_gS rfl (fun _ => ?_) (fun _ => ?_)
    rfl
  · by_cases h2 : (W.length : Int) < op
    · rw [if_neg (by omega)]
      refine call_V rfl rfl ?_
      repeat' first | refine O_cA rfl rfl hs' ?_ | refine O_is (dec_not h1) rfl ?_ | refine O_lenL rfl hv ?_ | refine O_is (dec_is h2) rfl ?_ | refine V_O rfl ?_ | refine O_step rfl ?_ | refine O_nil' ?_ | refine V_cT rfl rfl ?_ | refine V_cF rfl rfl ?_ | refine V_cEq rfl rfl ?_ | refine V_cNe rfl rfl ?_ | refine V_cB rfl rfl (fun _ => ?_) (fun _ => ?_) | refine O_gT' rfl ?_ | refine O_gU' rfl ?_ | refine O_gF' rfl rfl ?_ | refine O_gEq rfl ?_ | refine O_gNe rfl ?_ | refine O_gS rfl (fun _ => ?_) (fun _ => ?_) | refine V_fA rfl rfl ?_ | refine V_fAN rfl rfl ?_ | refine V_D rfl ?_ | refine D_step rfl ?_ | refine D_nil' ?_ | refine D_gT' rfl ?_ | refine D_gU' rfl ?_ | refine D_gF' rfl rfl ?_ | refine D_gS rfl (fun _ => ?_) (fun _ => ?_)
      rfl
    · rw [if_pos (by omega)]
      have hlt : (op - 1).toNat < W.length := by omega
      have hat : W[(op - 1).toNat]? = some W[(op - 1).toNat] := List.getElem?_eq_getElem hlt
      have hw : PV.int .i64 (IntKind.i64.wrap (op - 1)) = PV.int .i64 (op - 1) := int_is (wrap_id (by unfold I64 at h ⊢; omega))
      rw [hat]
      refine call_V rfl rfl ?_
      repeat' first | refine O_cA rfl rfl hs' ?_ | refine O_is (dec_not h1) rfl ?_ | refine O_lenL rfl hv ?_ | refine O_is (dec_not h2) rfl ?_ | refine O_is hw rfl ?_ | refine O_idxL _ rfl hv rfl (by omega) hat rfl ?_ | refine V_O rfl ?_ | refine O_step rfl ?_ | refine O_nil' ?_ | refine V_cT rfl rfl ?_ | refine V_cF rfl rfl ?_ | refine V_cEq rfl rfl ?_ | refine V_cNe rfl rfl ?_ | refine V_cB rfl rfl (fun _ => ?_) (fun _ => ?_) | refine O_gT' rfl ?_ | refine O_gU' rfl ?_ | refine O_gF' rfl rfl ?_ | refine O_gEq rfl ?_ | refine O_gNe rfl ?_ | refine O_gS rfl (fun _ => ?_) (fun _ => ?_) | refine V_fA rfl rfl ?_ | refine V_fAN rfl rfl ?_ | refine V_D rfl ?_ | refine D_step rfl ?_ | refine D_nil' ?_ | refine D_gT' rfl ?_ | refine D_gU' rfl ?_ | refine D_gF' rfl rfl ?_ | refine D_gS rfl (fun _ => ?_) (fun _ => ?_)
      rfl
def rshp (l : List Int) : List Int := match l with
  | [a, b, c, d, e, _, g, h, i, j] => [a, b, c, d, e, g, h, i, j]
  | _ => []
set_option maxHeartbeats 4000000 in
theorem run_rshape (op : Int) : T.R (.call n_rambleref16_shape [.int .i64 op] (.agg ((rshp (shp op)).map intP))) := by
  refine call_V rfl rfl ?_
  repeat' first | refine V_cT rfl rfl ?_ | refine V_cF rfl rfl ?_ | refine V_cS rfl rfl (fun _ => ?_) (fun _ => ?_) | refine O_step rfl ?_ | refine O_stepL rfl ?_ | refine V_O rfl ?_ | refine O_step rfl ?_ | refine O_nil' ?_ | refine V_cT rfl rfl ?_ | refine V_cF rfl rfl ?_ | refine V_cEq rfl rfl ?_ | refine V_cNe rfl rfl ?_ | refine V_cB rfl rfl (fun _ => ?_) (fun _ => ?_) | refine O_gT' rfl ?_ | refine O_gU' rfl ?_ | refine O_gF' rfl rfl ?_ | refine O_gEq rfl ?_ | refine O_gNe rfl ?_ | refine O_gS rfl (fun _ => ?_) (fun _ => ?_) | refine V_fA rfl rfl ?_ | refine V_fAN rfl rfl ?_ | refine V_D rfl ?_ | refine D_step rfl ?_ | refine D_nil' ?_ | refine D_gT' rfl ?_ | refine D_gU' rfl ?_ | refine D_gF' rfl rfl ?_ | refine D_gS rfl (fun _ => ?_) (fun _ => ?_)
  all_goals simp only [decide_eq_true_eq, decide_eq_false_iff_not] at *
  all_goals first | (subst_vars; rfl) | (unfold shp; simp only [*, or_self, if_false]; rfl)
theorem run_within2 (n : Nat) (a b : Int) : T.R (.call n_rambleref16_within [.int .i64 n, .int .i64 a, .int .i64 b] (.bool (hasB a b n))) := by
  unfold hasB
  refine call_V rfl rfl ?_
  repeat' first | refine V_O rfl ?_ | refine O_step rfl ?_ | refine O_nil' ?_ | refine V_cT rfl rfl ?_ | refine V_cF rfl rfl ?_ | refine V_cEq rfl rfl ?_ | refine V_cNe rfl rfl ?_ | refine V_cB rfl rfl (fun _ => ?_) (fun _ => ?_) | refine O_gT' rfl ?_ | refine O_gU' rfl ?_ | refine O_gF' rfl rfl ?_ | refine O_gEq rfl ?_ | refine O_gNe rfl ?_ | refine O_gS rfl (fun _ => ?_) (fun _ => ?_) | refine V_fA rfl rfl ?_ | refine V_fAN rfl rfl ?_ | refine V_D rfl ?_ | refine D_step rfl ?_ | refine D_nil' ?_ | refine D_gT' rfl ?_ | refine D_gU' rfl ?_ | refine D_gF' rfl rfl ?_ | refine D_gS rfl (fun _ => ?_) (fun _ => ?_)
  all_goals simp_all
  all_goals omega
theorem rvalues_loop {p : PV} {l : List Val} (hp : LR VC p l) : ∀ (rest pre : List Val), l = pre ++ rest →
    V T (PE fun x e st' => st' = emptySt ∧ ((x = .exit 0 ∧ rest.all (mayV 8) = true) ∨ (x = .ret ∧ rest.all (mayV 8) = false ∧ e = ecOf [(2, .bool false)])))
      [.code (.loop lp_rambleref16_values_0)] .normal (ecOf [(0, p), (3, .int .i64 pre.length)]) emptySt := by
  have plp : Pl p := hp.pl fun _ _ _ h => h.pl
  obtain ⟨lp1, lp2, lp3⟩ := hp.len
  intro rest
  induction rest with
  | nil =>
    intro pre ha
    have hlt : ¬ (pre.length : Int) < l.length := by subst ha; simp
    refine V_unroll ?_
    repeat' first | refine O_lenO rfl lp1 lp2 ?_ | refine V_cHF rfl rfl hlt ?_ | refine V_out [] rfl trivial ⟨rfl, .inl ⟨rfl, rfl⟩⟩ | refine V_O rfl ?_ | refine O_step rfl ?_ | refine O_nil' ?_ | refine V_cT rfl rfl ?_ | refine V_cF rfl rfl ?_ | refine V_cEq rfl rfl ?_ | refine V_cNe rfl rfl ?_ | refine V_cB rfl rfl (fun _ => ?_) (fun _ => ?_) | refine O_gT' rfl ?_ | refine O_gU' rfl ?_ | refine O_gF' rfl rfl ?_ | refine O_gEq rfl ?_ | refine O_gNe rfl ?_ | refine O_gS rfl (fun _ => ?_) (fun _ => ?_) | refine V_fA rfl rfl ?_ | refine V_fAN rfl rfl ?_ | refine V_D rfl ?_ | refine D_step rfl ?_ | refine D_nil' ?_ | refine D_gT' rfl ?_ | refine D_gU' rfl ?_ | refine D_gF' rfl rfl ?_ | refine D_gS rfl (fun _ => ?_) (fun _ => ?_)
  | cons y rest ih =>
    intro pre ha
    have hlt : (pre.length : Int) < l.length := by subst ha; simp; omega
    have hll : pre.length < l.length := by subst ha; simp
    have hy : l[pre.length]? = some y := by subst ha; simp
    obtain ⟨cy, ay, hc⟩ := hp.at (sz := 4) (fun _ _ h => h.len4) hy
    have plc := hc.pl
    have len4 := hc.len4
    have hcall := run_Check2 hc
    unfold chk at hcall
    have hw : IntKind.i64.wrap ((pre.length : Int) + 1) = ((pre ++ [y]).length : Int) := by rw [wrap_i64]; simp; omega
    have hi := ih (pre ++ [y]) (by rw [ha]; simp)
    rw [List.all_cons]
    refine V_unroll ?_
    cases hm : mayV 8 y with
    | true =>
      have hcall' : T.R (.call n_rambleref02_Check [.agg cy] (.int .i64 0)) := by rw [hm] at hcall; exact hcall
      rw [Bool.true_and]
      repeat' first | refine O_lenO rfl lp1 lp2 ?_ | refine V_cHY rfl rfl hlt ?_ | refine O_at rfl rfl ay ?_ | refine O_loadA rfl len4 ?_ | refine O_cA rfl rfl hcall' ?_ | refine V_re rfl hi ⟨rfl, some_int hw, trivial⟩ | refine V_O rfl ?_ | refine O_step rfl ?_ | refine O_nil' ?_ | refine V_cT rfl rfl ?_ | refine V_cF rfl rfl ?_ | refine V_cEq rfl rfl ?_ | refine V_cNe rfl rfl ?_ | refine V_cB rfl rfl (fun _ => ?_) (fun _ => ?_) | refine O_gT' rfl ?_ | refine O_gU' rfl ?_ | refine O_gF' rfl rfl ?_ | refine O_gEq rfl ?_ | refine O_gNe rfl ?_ | refine O_gS rfl (fun _ => ?_) (fun _ => ?_) | refine V_fA rfl rfl ?_ | refine V_fAN rfl rfl ?_ | refine V_D rfl ?_ | refine D_step rfl ?_ | refine D_nil' ?_ | refine D_gT' rfl ?_ | refine D_gU' rfl ?_ | refine D_gF' rfl rfl ?_ | refine D_gS rfl (fun _ => ?_) (fun _ => ?_)
    | false =>
      have hcall' : T.R (.call n_rambleref02_Check [.agg cy] (.int .i64 20)) := by rw [hm] at hcall; exact hcall
      repeat' first | refine O_lenO rfl lp1 lp2 ?_ | refine V_cHY rfl rfl hlt ?_ | refine O_at rfl rfl ay ?_ | refine O_loadA rfl len4 ?_ | refine O_cA rfl rfl hcall' ?_ | refine V_out [(2, .bool false)] rfl ⟨rfl, trivial⟩ ⟨rfl, .inr ⟨rfl, rfl, rfl⟩⟩ | refine V_O rfl ?_ | refine O_step rfl ?_ | refine O_nil' ?_ | refine V_cT rfl rfl ?_ | refine V_cF rfl rfl ?_ | refine V_cEq rfl rfl ?_ | refine V_cNe rfl rfl ?_ | refine V_cB rfl rfl (fun _ => ?_) (fun _ => ?_) | refine O_gT' rfl ?_ | refine O_gU' rfl ?_ | refine O_gF' rfl rfl ?_ | refine O_gEq rfl ?_ | refine O_gNe rfl ?_ | refine O_gS rfl (fun _ => ?_) (fun _ => ?_) | refine V_fA rfl rfl ?_ | refine V_fAN rfl rfl ?_ | refine V_D rfl ?_ | refine D_step rfl ?_ | refine D_nil' ?_ | refine D_gT' rfl ?_ | refine D_gU' rfl ?_ | refine D_gF' rfl rfl ?_ | refine D_gS rfl (fun _ => ?_) (fun _ => ?_)
theorem run_rvalues {p : PV} {l : List Val} (hp : LR VC p l) : T.R (.call n_rambleref16_values [p] (.bool (l.all (mayV 8)))) := by
  have hl := rvalues_loop hp l [] rfl
  refine call_V rfl rfl ?_
  repeat' first | refine V_cutTo rfl hl ⟨rfl, rfl, trivial⟩ ?_ | refine V_O rfl ?_ | refine O_step rfl ?_ | refine O_nil' ?_ | refine V_cT rfl rfl ?_ | refine V_cF rfl rfl ?_ | refine V_cEq rfl rfl ?_ | refine V_cNe rfl rfl ?_ | refine V_cB rfl rfl (fun _ => ?_) (fun _ => ?_) | refine O_gT' rfl ?_ | refine O_gU' rfl ?_ | refine O_gF' rfl rfl ?_ | refine O_gEq rfl ?_ | refine O_gNe rfl ?_ | refine O_gS rfl (fun _ => ?_) (fun _ => ?_) | refine V_fA rfl rfl ?_ | refine V_fAN rfl rfl ?_ | refine V_D rfl ?_ | refine D_step rfl ?_ | refine D_nil' ?_ | refine D_gT' rfl ?_ | refine D_gU' rfl ?_ | refine D_gF' rfl rfl ?_ | refine D_gS rfl (fun _ => ?_) (fun _ => ?_)
  rintro x e' st' ⟨rfl, ⟨rfl, h⟩ | ⟨rfl, h, rfl⟩⟩
  · rw [h]
    repeat' first | refine V_O rfl ?_ | refine O_step rfl ?_ | refine O_nil' ?_ | refine V_cT rfl rfl ?_ | refine V_cF rfl rfl ?_ | refine V_cEq rfl rfl ?_ | refine V_cNe rfl rfl ?_ | refine V_cB rfl rfl (fun _ => ?_) (fun _ => ?_) | refine O_gT' rfl ?_ | refine O_gU' rfl ?_ | refine O_gF' rfl rfl ?_ | refine O_gEq rfl ?_ | refine O_gNe rfl ?_ | refine O_gS rfl (fun _ => ?_) (fun _ => ?_) | refine V_fA rfl rfl ?_ | refine V_fAN rfl rfl ?_ | refine V_D rfl ?_ | refine D_step rfl ?_ | refine D_nil' ?_ | refine D_gT' rfl ?_ | refine D_gU' rfl ?_ | refine D_gF' rfl rfl ?_ | refine D_gS rfl (fun _ => ?_) (fun _ => ?_)
    rfl
  · rw [h]
    repeat' first | refine V_O rfl ?_ | refine O_step rfl ?_ | refine O_nil' ?_ | refine V_cT rfl rfl ?_ | refine V_cF rfl rfl ?_ | refine V_cEq rfl rfl ?_ | refine V_cNe rfl rfl ?_ | refine V_cB rfl rfl (fun _ => ?_) (fun _ => ?_) | refine O_gT' rfl ?_ | refine O_gU' rfl ?_ | refine O_gF' rfl rfl ?_ | refine O_gEq rfl ?_ | refine O_gNe rfl ?_ | refine O_gS rfl (fun _ => ?_) (fun _ => ?_) | refine V_fA rfl rfl ?_ | refine V_fAN rfl rfl ?_ | refine V_D rfl ?_ | refine D_step rfl ?_ | refine D_nil' ?_ | refine D_gT' rfl ?_ | refine D_gU' rfl ?_ | refine D_gF' rfl rfl ?_ | refine D_gS rfl (fun _ => ?_) (fun _ => ?_)
    rfl
set_option maxHeartbeats 4000000 in
theorem run_rpred {x : Prd} {cs : List PV} (h : PrC x cs) : T.R (.call n_rambleref16_pred [.agg cs] (.bool (predB x))) := by
  obtain ⟨op, l⟩ := x
  obtain ⟨ho, p, rfl, hp⟩ := h
  have plp : Pl p := hp.pl fun _ _ _ h => h.pl
  obtain ⟨lp1, lp2, lp3⟩ := hp.len
  have hv := run_rvalues hp
  show T.R (.call n_rambleref16_pred [.agg [.int .i64 op, p]] (.bool ((decide (1 ≤ op) && decide (op ≤ 9)) && hasB (opnd op).1 (opnd op).2 l.length && l.all (mayV 8))))
  generalize l.all (mayV 8) = b at hv ⊢
  by_cases k1 : 1 ≤ op ∧ op ≤ 6
  · have ho1 : opnd op = (1, 1) := by unfold opnd; rw [if_neg (by omega), if_neg (by omega)]
    rw [ho1, decide_eq_true k1.1, decide_eq_true (by omega : op ≤ 9)]
    by_cases c : (l.length : Int) = 1
    · rw [show hasB 1 1 l.length = true by unfold hasB; rw [decide_eq_true (by omega), decide_eq_true (by omega)]; rfl]
      refine call_V rfl rfl ?_
      repeat' first | refine O_stepL rfl ?_ | refine O_lenO rfl lp1 lp2 ?_ | refine O_is (dec_is k1.1) rfl ?_ | refine O_is (dec_is k1.2) rfl ?_ | refine O_is (ndec_is c) rfl ?_ | refine O_cA rfl rfl hv ?_ | refine V_O rfl ?_ | refine O_step rfl ?_ | refine O_nil' ?_ | refine V_cT rfl rfl ?_ | refine V_cF rfl rfl ?_ | refine V_cEq rfl rfl ?_ | refine V_cNe rfl rfl ?_ | refine V_cB rfl rfl (fun _ => ?_) (fun _ => ?_) | refine O_gT' rfl ?_ | refine O_gU' rfl ?_ | refine O_gF' rfl rfl ?_ | refine O_gEq rfl ?_ | refine O_gNe rfl ?_ | refine O_gS rfl (fun _ => ?_) (fun _ => ?_) | refine V_fA rfl rfl ?_ | refine V_fAN rfl rfl ?_ | refine V_D rfl ?_ | refine D_step rfl ?_ | refine D_nil' ?_ | refine D_gT' rfl ?_ | refine D_gU' rfl ?_ | refine D_gF' rfl rfl ?_ | refine D_gS rfl (fun _ => ?_) (fun _ => ?_)
      rfl
    · rw [show hasB 1 1 l.length = false by unfold hasB; simp only [Bool.and_eq_false_iff, decide_eq_false_iff_not]; omega]
      refine call_V rfl rfl ?_
      repeat' first | refine O_stepL rfl ?_ | refine O_lenO rfl lp1 lp2 ?_ | refine O_is (dec_is k1.1) rfl ?_ | refine O_is (dec_is k1.2) rfl ?_ | refine O_is (ndec_not c) rfl ?_ | refine V_O rfl ?_ | refine O_step rfl ?_ | refine O_nil' ?_ | refine V_cT rfl rfl ?_ | refine V_cF rfl rfl ?_ | refine V_cEq rfl rfl ?_ | refine V_cNe rfl rfl ?_ | refine V_cB rfl rfl (fun _ => ?_) (fun _ => ?_) | refine O_gT' rfl ?_ | refine O_gU' rfl ?_ | refine O_gF' rfl rfl ?_ | refine O_gEq rfl ?_ | refine O_gNe rfl ?_ | refine O_gS rfl (fun _ => ?_) (fun _ => ?_) | refine V_fA rfl rfl ?_ | refine V_fAN rfl rfl ?_ | refine V_D rfl ?_ | refine D_step rfl ?_ | refine D_nil' ?_ | refine D_gT' rfl ?_ | refine D_gU' rfl ?_ | refine D_gF' rfl rfl ?_ | refine D_gS rfl (fun _ => ?_) (fun _ => ?_)
      rfl
  · by_cases k9 : op = 9
    · subst k9
      rw [show opnd 9 = (2, 2) from rfl]
      by_cases c : (l.length : Int) = 2
      · rw [show hasB 2 2 l.length = true by unfold hasB; rw [decide_eq_true (by omega), decide_eq_true (by omega)]; rfl]
        refine call_V rfl rfl ?_
        repeat' first | refine O_stepL rfl ?_ | refine O_lenO rfl lp1 lp2 ?_ | refine O_is (ndec_is c) rfl ?_ | refine O_cA rfl rfl hv ?_ | refine V_O rfl ?_ | refine O_step rfl ?_ | refine O_nil' ?_ | refine V_cT rfl rfl ?_ | refine V_cF rfl rfl ?_ | refine V_cEq rfl rfl ?_ | refine V_cNe rfl rfl ?_ | refine V_cB rfl rfl (fun _ => ?_) (fun _ => ?_) | refine O_gT' rfl ?_ | refine O_gU' rfl ?_ | refine O_gF' rfl rfl ?_ | refine O_gEq rfl ?_ | refine O_gNe rfl ?_ | refine O_gS rfl (fun _ => ?_) (fun _ => ?_) | refine V_fA rfl rfl ?_ | refine V_fAN rfl rfl ?_ | refine V_D rfl ?_ | refine D_step rfl ?_ | refine D_nil' ?_ | refine D_gT' rfl ?_ | refine D_gU' rfl ?_ | refine D_gF' rfl rfl ?_ | refine D_gS rfl (fun _ => ?_) (fun _ => ?_)
        rfl
      · rw [show hasB 2 2 l.length = false by unfold hasB; simp only [Bool.and_eq_false_iff, decide_eq_false_iff_not]; omega]
        refine call_V rfl rfl ?_
        repeat' first | refine O_stepL rfl ?_ | refine O_lenO rfl lp1 lp2 ?_ | refine O_is (ndec_not c) rfl ?_ | refine V_O rfl ?_ | refine O_step rfl ?_ | refine O_nil' ?_ | refine V_cT rfl rfl ?_ | refine V_cF rfl rfl ?_ | refine V_cEq rfl rfl ?_ | refine V_cNe rfl rfl ?_ | refine V_cB rfl rfl (fun _ => ?_) (fun _ => ?_) | refine O_gT' rfl ?_ | refine O_gU' rfl ?_ | refine O_gF' rfl rfl ?_ | refine O_gEq rfl ?_ | refine O_gNe rfl ?_ | refine O_gS rfl (fun _ => ?_) (fun _ => ?_) | refine V_fA rfl rfl ?_ | refine V_fAN rfl rfl ?_ | refine V_D rfl ?_ | refine D_step rfl ?_ | refine D_nil' ?_ | refine D_gT' rfl ?_ | refine D_gU' rfl ?_ | refine D_gF' rfl rfl ?_ | refine D_gS rfl (fun _ => ?_) (fun _ => ?_)
        rfl
    · by_cases k78 : op = 7 ∨ op = 8
      · have ho1 : opnd op = (0, 32) := by unfold opnd; rw [if_pos k78]
        rw [ho1, decide_eq_true (by omega : 1 ≤ op), decide_eq_true (by omega : op ≤ 9)]
        by_cases c : (32 : Int) < (l.length : Int)
        · rw [show hasB 0 32 l.length = false by unfold hasB; simp only [Bool.and_eq_false_iff, decide_eq_false_iff_not]; omega]
          rcases k78 with rfl | rfl
          all_goals refine call_V rfl rfl ?_
          all_goals repeat' first | refine O_stepL rfl ?_ | refine O_lenO rfl lp1 lp2 ?_ | refine O_is (dec_is c) rfl ?_ | refine V_O rfl ?_ | refine O_step rfl ?_ | refine O_nil' ?_ | refine V_cT rfl rfl ?_ | refine V_cF rfl rfl ?_ | refine V_cEq rfl rfl ?_ | refine V_cNe rfl rfl ?_ | refine V_cB rfl rfl (fun _ => ?_) (fun _ => ?_) | refine O_gT' rfl ?_ | refine O_gU' rfl ?_ | refine O_gF' rfl rfl ?_ | refine O_gEq rfl ?_ | refine O_gNe rfl ?_ | refine O_gS rfl (fun _ => ?_) (fun _ => ?_) | refine V_fA rfl rfl ?_ | refine V_fAN rfl rfl ?_ | refine V_D rfl ?_ | refine D_step rfl ?_ | refine D_nil' ?_ | refine D_gT' rfl ?_ | refine D_gU' rfl ?_ | refine D_gF' rfl rfl ?_ | refine D_gS rfl (fun _ => ?_) (fun _ => ?_)
          all_goals rfl
        · rw [show hasB 0 32 l.length = true by unfold hasB; rw [decide_eq_true (by omega), decide_eq_true (by omega)]; rfl]
          rcases k78 with rfl | rfl
          all_goals refine call_V rfl rfl ?_
          all_goals repeat' first | refine O_stepL rfl ?_ | refine O_lenO rfl lp1 lp2 ?_ | refine O_is (dec_not c) rfl ?_ | refine O_cA rfl rfl hv ?_ | refine V_O rfl ?_ | refine O_step rfl ?_ | refine O_nil' ?_ | refine V_cT rfl rfl ?_ | refine V_cF rfl rfl ?_ | refine V_cEq rfl rfl ?_ | refine V_cNe rfl rfl ?_ | refine V_cB rfl rfl (fun _ => ?_) (fun _ => ?_) | refine O_gT' rfl ?_ | refine O_gU' rfl ?_ | refine O_gF' rfl rfl ?_ | refine O_gEq rfl ?_ | refine O_gNe rfl ?_ | refine O_gS rfl (fun _ => ?_) (fun _ => ?_) | refine V_fA rfl rfl ?_ | refine V_fAN rfl rfl ?_ | refine V_D rfl ?_ | refine D_step rfl ?_ | refine D_nil' ?_ | refine D_gT' rfl ?_ | refine D_gU' rfl ?_ | refine D_gF' rfl rfl ?_ | refine D_gS rfl (fun _ => ?_) (fun _ => ?_)
          all_goals rfl
      · have n7 : ¬ op = 7 := fun e => k78 (.inl e)
        have n8 : ¬ op = 8 := fun e => k78 (.inr e)
        rw [show (decide (1 ≤ op) && decide (op ≤ 9)) = false by simp only [Bool.and_eq_false_iff, decide_eq_false_iff_not]; omega]
        refine call_V rfl rfl ?_
        by_cases g1 : 1 ≤ op
        · have g2 : ¬ op ≤ 6 := fun e => k1 ⟨g1, e⟩
          repeat' first | refine O_stepL rfl ?_ | refine O_lenO rfl lp1 lp2 ?_ | refine O_is (dec_is g1) rfl ?_ | refine O_is (dec_not g2) rfl ?_ | refine O_is (dec_not k9) rfl ?_ | refine O_is (ndec_not n7) rfl ?_ | refine O_is (ndec_not n8) rfl ?_ | refine V_O rfl ?_ | refine O_step rfl ?_ | refine O_nil' ?_ | refine V_cT rfl rfl ?_ | refine V_cF rfl rfl ?_ | refine V_cEq rfl rfl ?_ | refine V_cNe rfl rfl ?_ | refine V_cB rfl rfl (fun _ => ?_) (fun _ => ?_) | refine O_gT' rfl ?_ | refine O_gU' rfl ?_ | refine O_gF' rfl rfl ?_ | refine O_gEq rfl ?_ | refine O_gNe rfl ?_ | refine O_gS rfl (fun _ => ?_) (fun _ => ?_) | refine V_fA rfl rfl ?_ | refine V_fAN rfl rfl ?_ | refine V_D rfl ?_ | refine D_step rfl ?_ | refine D_nil' ?_ | refine D_gT' rfl ?_ | refine D_gU' rfl ?_ | refine D_gF' rfl rfl ?_ | refine D_gS rfl (fun _ => ?_) (fun _ => ?_)
          rfl
        · repeat' first | refine O_stepL rfl ?_ | refine O_lenO rfl lp1 lp2 ?_ | refine O_is (dec_not g1) rfl ?_ | refine O_is (dec_not k9) rfl ?_ | refine O_is (ndec_not n7) rfl ?_ | refine O_is (ndec_not n8) rfl ?_ | refine V_O rfl ?_ | refine O_step rfl ?_ | refine O_nil' ?_ | refine V_cT rfl rfl ?_ | refine V_cF rfl rfl ?_ | refine V_cEq rfl rfl ?_ | refine V_cNe rfl rfl ?_ | refine V_cB rfl rfl (fun _ => ?_) (fun _ => ?_) | refine O_gT' rfl ?_ | refine O_gU' rfl ?_ | refine O_gF' rfl rfl ?_ | refine O_gEq rfl ?_ | refine O_gNe rfl ?_ | refine O_gS rfl (fun _ => ?_) (fun _ => ?_) | refine V_fA rfl rfl ?_ | refine V_fAN rfl rfl ?_ | refine V_D rfl ?_ | refine D_step rfl ?_ | refine D_nil' ?_ | refine D_gT' rfl ?_ | refine D_gU' rfl ?_ | refine D_gF' rfl rfl ?_ | refine D_gS rfl (fun _ => ?_) (fun _ => ?_)
          rfl
end Go.Proofs.YtinojffgmgjblaaGreatDoor
