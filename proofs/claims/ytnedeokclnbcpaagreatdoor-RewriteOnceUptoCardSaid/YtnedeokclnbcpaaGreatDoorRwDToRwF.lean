/- slices.EqualFunc, slices.Equal; parse.Same. · parse.Same. · check.Writes; rewrite.isOrder, isFilter, join. -/
import Derived.Test.YtnedeokclnbcpaaGreatDoorRwAToRwC
set_option linter.unusedVariables false
set_option linter.unusedSimpArgs false
namespace Go.Proofs.YtnedeokclnbcpaaGreatDoor
open Go Go.AM Go.RowKit
open Classical in
noncomputable def eqD {α : Type} (a b : α) : Bool := decide (a = b)
theorem eqD_is {α : Type} {a b : α} : eqD a b = true ↔ a = b := by simp [eqD]
theorem eqD_dec {α : Type} {a b : α} {P : Prop} [Decidable P] (h : P ↔ a = b) : decide P = eqD a b := by
  cases he : eqD a b with
  | true => exact decide_eq_true (h.2 (eqD_is.1 he))
  | false => exact decide_eq_false fun hp => by rw [eqD_is.2 (h.1 hp)] at he; cases he
theorem Zix {a b : Bool} (h : a = true ↔ b = true) : a = b := by cases a <;> cases b <;> simp_all
def eqW {α : Type} (E : α → α → Bool) : List α → List α → Bool
  | [], [] => true
  | a :: r, b :: s => E a b && eqW E r s
  | _, _ => false
theorem eqW_len {α : Type} {E : α → α → Bool} : ∀ {l m : List α}, eqW E l m = true → l.length = m.length
  | [], [], _ => rfl
  | a :: r, b :: s, h => by
    rw [eqW, Bool.and_eq_true] at h
    simp [eqW_len h.2]
theorem Zmh {α : Type} : ∀ (l m : List α), eqW eqD l m = eqD l m
  | [], [] => (eqD_is.2 rfl).symm
  | [], b :: s => Zix ⟨fun h => (by cases h), fun h => (by cases eqD_is.1 h)⟩
  | a :: r, [] => Zix ⟨fun h => (by cases h), fun h => (by cases eqD_is.1 h)⟩
  | a :: r, b :: s => by
    rw [eqW, Zmh r s]
    refine Zix ?_
    rw [Bool.and_eq_true, eqD_is, eqD_is, eqD_is]
    constructor
    · rintro ⟨rfl, rfl⟩; rfl
    · intro h; injection h with h1 h2; exact ⟨h1, h2⟩
def eqaLoop (sz : Nat) (z : List PV) : PC := (.seq (.ops [(.mk (some 18) none (.bin .lss (.t 17) (.t 16)))] []) (.seq (.cond (.t 18) .skip (.exit 0)) (.seq (.block 1 (.seq (.ops [(.mk (some 19) none (.move (.t 17))), (.mk (some 20) none (.indexS (.t 15) (.t 17) sz)), (.mk (some 21) none (.load sz true (.t 20))), (.mk (some 8) none (.alloc z)), (.mk (some 7) none (.move (.t 19))), (.mk none none (.store sz (.t 8) (.t 21)))] [19, 20, 21]) (.seq (.ops [(.mk (some 22) none (.move (.t 1))), (.mk (some 23) none (.move (.t 7))), (.mk (some 24) none (.indexS (.t 22) (.t 23) sz)), (.mk (some 25) none (.load sz true (.t 24))), (.mk (some 9) none (.alloc z)), (.mk none none (.store sz (.t 9) (.t 25)))] [22, 23, 24, 25]) (.seq (.ops [(.mk (some 26) none (.move (.t 2))), (.mk (some 27) none (.load sz true (.t 8))), (.mk (some 28) none (.load sz true (.t 9))), (.mk (some 29) none (.call (.t 26) [(.t 27), (.t 28)])), (.mk (some 30) none (.not (.t 29)))] [26, 27, 28, 29]) (.cond (.t 30) (.seq (.ops [(.mk (some 6) none (.move (.c (.bool false))))] []) .ret) .skip))))) (.ops [(.mk (some 31) none (.bin .add (.t 17) (.c (.int .i64 (1))))), (.mk (some 17) none (.move (.t 31)))] [31]))))
def eqaPF (sz : Nat) (z : List PV) : PF := ⟨32, [(.tmp 6)], (.seq (.ops [(.mk (some 6) none (.move (.c (.bool false))))] []) (.seq (.seq (.ops [(.mk (some 10) none (.move (.t 0))), (.mk (some 11) none (.len false (.t 10))), (.mk (some 12) none (.move (.t 1))), (.mk (some 13) none (.len false (.t 12))), (.mk (some 14) none (.bin .neq (.t 11) (.t 13)))] [10, 11, 12, 13]) (.cond (.t 14) (.seq (.ops [(.mk (some 6) none (.move (.c (.bool false))))] []) .ret) .skip)) (.seq (.seq (.ops [(.mk (some 15) none (.move (.t 0))), (.mk (some 16) none (.len false (.t 15))), (.mk (some 17) none (.move (.c (.int .i64 (0)))))] []) (.block 0 (.loop (eqaLoop sz z)))) (.seq (.ops [(.mk (some 6) none (.move (.c (.bool true))))] []) .ret))))⟩
def eqbLoop : PC := (.seq (.ops [(.mk (some 18) none (.bin .lss (.t 17) (.t 16)))] []) (.seq (.cond (.t 18) .skip (.exit 0)) (.seq (.block 1 (.seq (.ops [(.mk (some 19) none (.move (.t 17))), (.mk (some 20) none (.indexS (.t 15) (.t 17) 1)), (.mk (some 21) none (.load 1 false (.t 20))), (.mk (some 7) none (.move (.t 19))), (.mk (some 8) none (.move (.t 21)))] [19, 20, 21]) (.seq (.ops [(.mk (some 22) none (.move (.t 1))), (.mk (some 23) none (.move (.t 7))), (.mk (some 24) none (.indexS (.t 22) (.t 23) 1)), (.mk (some 25) none (.load 1 false (.t 24))), (.mk (some 9) none (.move (.t 25)))] [22, 23, 24, 25]) (.seq (.ops [(.mk (some 26) none (.move (.t 2))), (.mk (some 27) none (.move (.t 8))), (.mk (some 28) none (.move (.t 9))), (.mk (some 29) none (.call (.t 26) [(.t 27), (.t 28)])), (.mk (some 30) none (.not (.t 29)))] [26, 27, 28, 29]) (.cond (.t 30) (.seq (.ops [(.mk (some 6) none (.move (.c (.bool false))))] []) .ret) .skip))))) (.ops [(.mk (some 31) none (.bin .add (.t 17) (.c (.int .i64 (1))))), (.mk (some 17) none (.move (.t 31)))] [31]))))
def eqbPF : PF := ⟨32, [(.tmp 6)], (.seq (.ops [(.mk (some 6) none (.move (.c (.bool false))))] []) (.seq (.seq (.ops [(.mk (some 10) none (.move (.t 0))), (.mk (some 11) none (.len false (.t 10))), (.mk (some 12) none (.move (.t 1))), (.mk (some 13) none (.len false (.t 12))), (.mk (some 14) none (.bin .neq (.t 11) (.t 13)))] [10, 11, 12, 13]) (.cond (.t 14) (.seq (.ops [(.mk (some 6) none (.move (.c (.bool false))))] []) .ret) .skip)) (.seq (.seq (.ops [(.mk (some 15) none (.move (.t 0))), (.mk (some 16) none (.len false (.t 15))), (.mk (some 17) none (.move (.c (.int .i64 (0)))))] []) (.block 0 (.loop eqbLoop))) (.seq (.ops [(.mk (some 6) none (.move (.c (.bool true))))] []) .ret))))⟩
def eqcLoop : PC := (.seq (.ops [(.mk (some 14) none (.bin .lss (.t 13) (.t 12)))] []) (.seq (.cond (.t 14) .skip (.exit 0)) (.seq (.block 1 (.seq (.ops [(.mk (some 15) none (.move (.t 13))), (.mk (some 5) none (.move (.t 15)))] [15]) (.seq (.drawn [(.mk (some 16) none (.move (.t 0))), (.mk (some 17) none (.move (.t 5))), (.mk (some 18) none (.indexS (.t 16) (.t 17) 1)), (.mk (some 19) none (.load 1 false (.t 18))), (.mk (some 20) none (.move (.t 1))), (.mk (some 21) none (.move (.t 5))), (.mk (some 22) none (.indexS (.t 20) (.t 21) 1)), (.mk (some 23) none (.load 1 false (.t 22))), (.mk (some 24) none (.bin .neq (.t 19) (.t 23)))] [16, 17, 18, 19, 20, 21, 22, 23]) (.cond (.t 24) (.seq (.ops [(.mk (some 4) none (.move (.c (.bool false))))] []) .ret) .skip)))) (.ops [(.mk (some 25) none (.bin .add (.t 13) (.c (.int .i64 (1))))), (.mk (some 13) none (.move (.t 25)))] [25]))))
def eqcPF : PF := ⟨26, [(.tmp 4)], (.seq (.ops [(.mk (some 4) none (.move (.c (.bool false))))] []) (.seq (.seq (.ops [(.mk (some 6) none (.move (.t 0))), (.mk (some 7) none (.len false (.t 6))), (.mk (some 8) none (.move (.t 1))), (.mk (some 9) none (.len false (.t 8))), (.mk (some 10) none (.bin .neq (.t 7) (.t 9)))] [6, 7, 8, 9]) (.cond (.t 10) (.seq (.ops [(.mk (some 4) none (.move (.c (.bool false))))] []) .ret) .skip)) (.seq (.seq (.ops [(.mk (some 11) none (.move (.t 0))), (.mk (some 12) none (.len false (.t 11))), (.mk (some 13) none (.move (.c (.int .i64 (0)))))] [11]) (.block 0 (.loop eqcLoop))) (.seq (.ops [(.mk (some 4) none (.move (.c (.bool true))))] []) .ret))))⟩
section
variable {α : Type} {R : α → List PV → Prop} {E : α → α → Bool} {l m : List α} {p q : PV} {g : Nat}
theorem eqa_loop {sz : Nat} {z : List PV} (hz : z.length = sz) (h0 : Nat.blt 0 sz = true) (hp : LR R p l) (hq : LR R q m) (hlen : l.length = m.length) (hs : ∀ a cs, R a cs → cs.length = sz) (ho : ∀ a cs, R a cs → ∀ c ∈ cs, PV.one c = true) (hpl : ∀ a cs, R a cs → ∀ c ∈ cs, Pl c)
    (hm : ∀ a ∈ l, ∀ b ∈ m, ∀ ca cb, R a ca → R b cb → T.R (.call g [.agg ca, .agg cb] (.bool (E a b)))) : ∀ (ra rb pre pr2 : List α), l = pre ++ ra → m = pr2 ++ rb → pre.length = pr2.length →
    V T (PE fun x e st' => (x = .exit 0 ∧ eqW E ra rb = true) ∨ (x = .ret ∧ eqW E ra rb = false ∧ e = Zj [(6, .bool false)])) [.code (.loop (eqaLoop sz z))] .normal (Zj [(0, p), (1, q), (2, .func g []), (15, p), (16, .int .i64 l.length), (17, .int .i64 pre.length)]) emptySt := by
  obtain ⟨lp1, lp2, lp3⟩ := hp.len
  have plp := hp.pl (fun a _ cs h => hpl a cs h)
  have plq := hq.pl (fun a _ cs h => hpl a cs h)
  intro ra
  induction ra with
  | nil =>
    intro rb pre pr2 hl hm2 hpr
    have hlt : ¬ (pre.length : Int) < l.length := by subst hl; simp
    have : rb = [] := by
      rw [hl, hm2] at hlen
      simp at hlen
      exact List.length_eq_zero_iff.1 (by omega)
    subst this
    refine Ze ?_
    repeat' first | ((with_reducible show V _ _ _ _ _ _); first | refine Zeg rfl rfl hlt ?_ | refine Z0w [] rfl trivial (.inl ⟨rfl, rfl⟩) | refine Z1 rfl ?_) | refine Z0 rfl ?_ | refine Z2 ?_
  | cons y ra ih =>
    intro rb pre pr2 hl hm2 hpr
    cases rb with
    | nil =>
      rw [hl, hm2] at hlen
      simp at hlen
      omega
    | cons w rb =>
      have hlt : (pre.length : Int) < l.length := by subst hl; simp; omega
      have hll : pre.length < l.length := by subst hl; simp
      have hy : l[pre.length]? = some y := by subst hl; simp
      have hw2 : m[pre.length]? = some w := by subst hm2; rw [hpr]; simp
      obtain ⟨cy, ay, vy⟩ := hp.at hs hy
      obtain ⟨cw, aw, vw⟩ := hq.at hs hw2
      have hcall := hm y (by subst hl; simp) w (by subst hm2; simp) cy cw vy vw
      have sy := hs _ _ vy
      have sw := hs _ _ vw
      have oy := ho _ _ vy
      have ow := ho _ _ vw
      have py := hpl _ _ vy
      have pw := hpl _ _ vw
      have hw : IntKind.i64.wrap ((pre.length : Int) + 1) = ((pre ++ [y]).length : Int) := by rw [Z00]; simp; omega
      have hi := ih rb (pre ++ [y]) (pr2 ++ [w]) (by rw [hl]; simp) (by rw [hm2]; simp) (by simp [hpr])
      rw [eqW]
      refine Ze ?_
      cases hE : E y w with
      | false =>
        rw [hE] at hcall
        repeat' first | ((with_reducible show V _ _ _ _ _ _); first | refine Z2x rfl rfl hlt ?_ | refine Z0w [(6, .bool false)] rfl ⟨rfl, trivial⟩ (.inr ⟨rfl, rfl, rfl⟩) | refine Z1 rfl ?_ | refine Za rfl rfl ?_) | ((with_reducible show VO _ _ _ _ _ _ _); first | refine Zt rfl rfl ay ?_ | refine Zt rfl rfl aw ?_ | refine Z0n rfl sy ?_ | refine Z0n rfl sw ?_ | refine Z0d rfl rfl oy sy h0 rfl hz ?_ | refine Z0d rfl rfl ow sw h0 rfl hz ?_ | refine Z07 rfl rfl sy ?_ | refine Z07 rfl rfl sw ?_ | refine Z7 rfl rfl hcall ?_ | refine Z0 rfl ?_ | refine Zc rfl ?_ | refine Z2 ?_)
      | true =>
        rw [hE] at hcall
        rw [Bool.true_and]
        repeat' first | ((with_reducible show V _ _ _ _ _ _); first | refine Z2x rfl rfl hlt ?_ | refine V_reF rfl hi rfl ⟨rfl, rfl, rfl, rfl, rfl, Z05 hw, trivial⟩ ⟨plp, plq, .func _ _ Z2f, plp, .int _ _, .int _ _, trivial⟩ | refine Z1 rfl ?_ | refine Zb rfl rfl ?_) | ((with_reducible show VO _ _ _ _ _ _ _); first | refine Zt rfl rfl ay ?_ | refine Zt rfl rfl aw ?_ | refine Z0n rfl sy ?_ | refine Z0n rfl sw ?_ | refine Z0d rfl rfl oy sy h0 rfl hz ?_ | refine Z0d rfl rfl ow sw h0 rfl hz ?_ | refine Z07 rfl rfl sy ?_ | refine Z07 rfl rfl sw ?_ | refine Z7 rfl rfl hcall ?_ | refine Z0 rfl ?_ | refine Zc rfl ?_ | refine Z2 ?_)
theorem eqb_loop (hp : LR R p l) (hq : LR R q m) (hlen : l.length = m.length) (hs : ∀ a cs, R a cs → ∃ c, cs = [c] ∧ Pl c)
    (hm : ∀ a ∈ l, ∀ b ∈ m, ∀ ca cb, R a [ca] → R b [cb] → T.R (.call g [ca, cb] (.bool (E a b)))) : ∀ (ra rb pre pr2 : List α), l = pre ++ ra → m = pr2 ++ rb → pre.length = pr2.length →
    V T (PE fun x e st' => (x = .exit 0 ∧ eqW E ra rb = true) ∨ (x = .ret ∧ eqW E ra rb = false ∧ e = Zj [(6, .bool false)])) [.code (.loop eqbLoop)] .normal (Zj [(0, p), (1, q), (2, .func g []), (15, p), (16, .int .i64 l.length), (17, .int .i64 pre.length)]) emptySt := by
  obtain ⟨lp1, lp2, lp3⟩ := hp.len
  intro ra
  induction ra with
  | nil =>
    intro rb pre pr2 hl hm2 hpr
    have hlt : ¬ (pre.length : Int) < l.length := by subst hl; simp
    have : rb = [] := by
      rw [hl, hm2] at hlen
      simp at hlen
      exact List.length_eq_zero_iff.1 (by omega)
    subst this
    refine Ze ?_
    repeat' first | ((with_reducible show V _ _ _ _ _ _); first | refine Zeg rfl rfl hlt ?_ | refine Z0w [] rfl trivial (.inl ⟨rfl, rfl⟩) | refine Z1 rfl ?_) | refine Z0 rfl ?_ | refine Z2 ?_
  | cons y ra ih =>
    intro rb pre pr2 hl hm2 hpr
    cases rb with
    | nil =>
      rw [hl, hm2] at hlen
      simp at hlen
      omega
    | cons w rb =>
      have hlt : (pre.length : Int) < l.length := by subst hl; simp; omega
      have hll : pre.length < l.length := by subst hl; simp
      have hy : l[pre.length]? = some y := by subst hl; simp
      have hw2 : m[pre.length]? = some w := by subst hm2; rw [hpr]; simp
      obtain ⟨cy, ay, vy⟩ := hp.at (sz := 1) (fun a cs h => by obtain ⟨c, rfl, _⟩ := hs a cs h; rfl) hy
      obtain ⟨cw, aw, vw⟩ := hq.at (sz := 1) (fun a cs h => by obtain ⟨c, rfl, _⟩ := hs a cs h; rfl) hw2
      obtain ⟨cy, rfl, py⟩ := hs _ _ vy
      obtain ⟨cw, rfl, pw⟩ := hs _ _ vw
      have hcall := hm y (by subst hl; simp) w (by subst hm2; simp) cy cw vy vw
      have hw : IntKind.i64.wrap ((pre.length : Int) + 1) = ((pre ++ [y]).length : Int) := by rw [Z00]; simp; omega
      have hi := ih rb (pre ++ [y]) (pr2 ++ [w]) (by rw [hl]; simp) (by rw [hm2]; simp) (by simp [hpr])
      rw [eqW]
      refine Ze ?_
      cases hE : E y w with
      | false =>
        rw [hE] at hcall
        repeat' first | ((with_reducible show V _ _ _ _ _ _); first | refine Z2x rfl rfl hlt ?_ | refine Z0w [(6, .bool false)] rfl ⟨rfl, trivial⟩ (.inr ⟨rfl, rfl, rfl⟩) | refine Z1 rfl ?_ | refine Za rfl rfl ?_) | ((with_reducible show VO _ _ _ _ _ _ _); first | refine Zt rfl rfl ay ?_ | refine Zt rfl rfl aw ?_ | refine Z7 rfl rfl hcall ?_ | refine Z0 rfl ?_ | refine Z2 ?_)
      | true =>
        rw [hE] at hcall
        rw [Bool.true_and]
        repeat' first | ((with_reducible show V _ _ _ _ _ _); first | refine Z2x rfl rfl hlt ?_ | refine Zg8 rfl hi ⟨rfl, rfl, rfl, rfl, rfl, Z05 hw, trivial⟩ | refine Z1 rfl ?_ | refine Zb rfl rfl ?_) | ((with_reducible show VO _ _ _ _ _ _ _); first | refine Zt rfl rfl ay ?_ | refine Zt rfl rfl aw ?_ | refine Z7 rfl rfl hcall ?_ | refine Z0 rfl ?_ | refine Z2 ?_)
theorem eqc_loop (hp : LR R p l) (hq : LR R q m) (hlen : l.length = m.length) (hs : ∀ a cs, R a cs → ∃ c, cs = [c] ∧ Pl c)
    (hm : ∀ a ∈ l, ∀ b ∈ m, ∀ ca cb, R a [ca] → R b [cb] → binOp? .neq ca cb = some (.bool (!E a b))) : ∀ (ra rb pre pr2 : List α), l = pre ++ ra → m = pr2 ++ rb → pre.length = pr2.length →
    V T (PE fun x e st' => (x = .exit 0 ∧ eqW E ra rb = true) ∨ (x = .ret ∧ eqW E ra rb = false ∧ e = Zj [(4, .bool false)])) [.code (.loop eqcLoop)] .normal (Zj [(0, p), (1, q), (12, .int .i64 l.length), (13, .int .i64 pre.length)]) emptySt := by
  obtain ⟨lp1, lp2, lp3⟩ := hp.len
  intro ra
  induction ra with
  | nil =>
    intro rb pre pr2 hl hm2 hpr
    have hlt : ¬ (pre.length : Int) < l.length := by subst hl; simp
    have : rb = [] := by
      rw [hl, hm2] at hlen
      simp at hlen
      exact List.length_eq_zero_iff.1 (by omega)
    subst this
    refine Ze ?_
    repeat' first | ((with_reducible show V _ _ _ _ _ _); first | refine Zeg rfl rfl hlt ?_ | refine Z0w [] rfl trivial (.inl ⟨rfl, rfl⟩) | refine Z1 rfl ?_) | refine Z0 rfl ?_ | refine Z2 ?_
  | cons y ra ih =>
    intro rb pre pr2 hl hm2 hpr
    cases rb with
    | nil =>
      rw [hl, hm2] at hlen
      simp at hlen
      omega
    | cons w rb =>
      have hlt : (pre.length : Int) < l.length := by subst hl; simp; omega
      have hll : pre.length < l.length := by subst hl; simp
      have hy : l[pre.length]? = some y := by subst hl; simp
      have hw2 : m[pre.length]? = some w := by subst hm2; rw [hpr]; simp
      obtain ⟨cy, ay, vy⟩ := hp.at (sz := 1) (fun a cs h => by obtain ⟨c, rfl, _⟩ := hs a cs h; rfl) hy
      obtain ⟨cw, aw, vw⟩ := hq.at (sz := 1) (fun a cs h => by obtain ⟨c, rfl, _⟩ := hs a cs h; rfl) hw2
      obtain ⟨cy, rfl, py⟩ := hs _ _ vy
      obtain ⟨cw, rfl, pw⟩ := hs _ _ vw
      have hb := hm y (by subst hl; simp) w (by subst hm2; simp) cy cw vy vw
      have hw : IntKind.i64.wrap ((pre.length : Int) + 1) = ((pre ++ [y]).length : Int) := by rw [Z00]; simp; omega
      have hi := ih rb (pre ++ [y]) (pr2 ++ [w]) (by rw [hl]; simp) (by rw [hm2]; simp) (by simp [hpr])
      rw [eqW]
      refine Ze ?_
      cases hE : E y w with
      | false =>
        rw [hE] at hb
        have hb' : ∀ (look : Nat → Option Tok) (e : EC), e.get 19 = some cy → e.get 23 = some cw → Zo look e (.bin .neq (.t 19) (.t 23)) = some (.bool true) := fun look e h1 h2 => by simp only [Zo, get2, Opd.get, h1, h2]; exact hb
        repeat' first | ((with_reducible show V _ _ _ _ _ _); first | refine Z2x rfl rfl hlt ?_ | refine Z0w [(4, .bool false)] rfl ⟨rfl, trivial⟩ (.inr ⟨rfl, rfl, rfl⟩) | refine Z1 rfl ?_ | refine Za rfl rfl ?_ | refine V_D rfl ?_) | refine Z0 rfl ?_ | refine Z2 ?_ | ((with_reducible show VD _ _ _ _ _ _ _); first | refine Zdq rfl rfl ay ?_ | refine Zdq rfl rfl aw ?_ | refine Z0b (hb' _ _ rfl rfl) ?_ | refine Z0b rfl ?_ | refine Z1w ?_)
      | true =>
        rw [hE] at hb
        rw [Bool.true_and]
        have hb' : ∀ (look : Nat → Option Tok) (e : EC), e.get 19 = some cy → e.get 23 = some cw → Zo look e (.bin .neq (.t 19) (.t 23)) = some (.bool false) := fun look e h1 h2 => by simp only [Zo, get2, Opd.get, h1, h2]; exact hb
        repeat' first | ((with_reducible show V _ _ _ _ _ _); first | refine Z2x rfl rfl hlt ?_ | refine Zg8 rfl hi ⟨rfl, rfl, rfl, Z05 hw, trivial⟩ | refine Z1 rfl ?_ | refine Zb rfl rfl ?_ | refine V_D rfl ?_) | refine Z0 rfl ?_ | refine Z2 ?_ | ((with_reducible show VD _ _ _ _ _ _ _); first | refine Zdq rfl rfl ay ?_ | refine Zdq rfl rfl aw ?_ | refine Z0b (hb' _ _ rfl rfl) ?_ | refine Z0b rfl ?_ | refine Z1w ?_)
theorem eqW_ne {l m : List α} (h : l.length ≠ m.length) : eqW E l m = false := by
  cases he : eqW E l m with
  | false => rfl
  | true => exact absurd (eqW_len he) h
theorem run_eqa {f sz : Nat} {z : List PV} (hf : T.tbl f = some (eqaPF sz z)) (hz : z.length = sz) (h0 : Nat.blt 0 sz = true) (hp : LR R p l) (hq : LR R q m) (hs : ∀ a cs, R a cs → cs.length = sz) (ho : ∀ a cs, R a cs → ∀ c ∈ cs, PV.one c = true) (hpl : ∀ a cs, R a cs → ∀ c ∈ cs, Pl c)
    (hm : ∀ a ∈ l, ∀ b ∈ m, ∀ ca cb, R a ca → R b cb → T.R (.call g [.agg ca, .agg cb] (.bool (E a b)))) : T.R (.call f [p, q, .func g []] (.bool (eqW E l m))) := by
  obtain ⟨e1, e2, e3⟩ := hp.len
  obtain ⟨f1, f2, f3⟩ := hq.len
  by_cases hlen : l.length = m.length
  · have d1 := Z2b (p := (l.length : Int) = (m.length : Int)) (by omega)
    have hl := eqa_loop hz h0 hp hq hlen hs ho hpl hm l m [] [] rfl rfl rfl
    refine Z6 hf rfl ?_
    repeat' first | ((with_reducible show V _ _ _ _ _ _); first | refine Z0h rfl hl ⟨rfl, rfl, rfl, rfl, rfl, rfl, trivial⟩ ?_ | refine Z1 rfl ?_ | refine Zb rfl rfl ?_) | ((with_reducible show VO _ _ _ _ _ _ _); first | refine Z8 rfl e1 e2 ?_ | refine Z8 rfl f1 f2 ?_ | refine Z5 d1 rfl ?_ | refine Z0 rfl ?_ | refine Z2 ?_)
    rintro x e st' (⟨rfl, he⟩ | ⟨rfl, he, rfl⟩)
    · rw [he]
      repeat' first | refine Z1 rfl ?_ | refine Z4 rfl rfl ?_ | refine Z0 rfl ?_ | refine Z2 ?_
      rfl
    · rw [he]
      repeat' first | refine Z4 rfl rfl ?_
      rfl
  · have d1 := Z2l (p := (l.length : Int) = (m.length : Int)) (by omega)
    rw [eqW_ne hlen]
    refine Z6 hf rfl ?_
    repeat' first | ((with_reducible show V _ _ _ _ _ _); first | refine Z1 rfl ?_ | refine Za rfl rfl ?_ | refine Z4 rfl rfl ?_) | ((with_reducible show VO _ _ _ _ _ _ _); first | refine Z8 rfl e1 e2 ?_ | refine Z8 rfl f1 f2 ?_ | refine Z5 d1 rfl ?_ | refine Z0 rfl ?_ | refine Z2 ?_)
    rfl
theorem run_eqb {f : Nat} (hf : T.tbl f = some eqbPF) (hp : LR R p l) (hq : LR R q m) (hs : ∀ a cs, R a cs → ∃ c, cs = [c] ∧ Pl c)
    (hm : ∀ a ∈ l, ∀ b ∈ m, ∀ ca cb, R a [ca] → R b [cb] → T.R (.call g [ca, cb] (.bool (E a b)))) : T.R (.call f [p, q, .func g []] (.bool (eqW E l m))) := by
  obtain ⟨e1, e2, e3⟩ := hp.len
  obtain ⟨f1, f2, f3⟩ := hq.len
  by_cases hlen : l.length = m.length
  · have d1 := Z2b (p := (l.length : Int) = (m.length : Int)) (by omega)
    have hl := eqb_loop hp hq hlen hs hm l m [] [] rfl rfl rfl
    refine Z6 hf rfl ?_
    repeat' first | ((with_reducible show V _ _ _ _ _ _); first | refine Z0h rfl hl ⟨rfl, rfl, rfl, rfl, rfl, rfl, trivial⟩ ?_ | refine Z1 rfl ?_ | refine Zb rfl rfl ?_) | ((with_reducible show VO _ _ _ _ _ _ _); first | refine Z8 rfl e1 e2 ?_ | refine Z8 rfl f1 f2 ?_ | refine Z5 d1 rfl ?_ | refine Z0 rfl ?_ | refine Z2 ?_)
    rintro x e st' (⟨rfl, he⟩ | ⟨rfl, he, rfl⟩)
    · rw [he]
      repeat' first | refine Z1 rfl ?_ | refine Z4 rfl rfl ?_ | refine Z0 rfl ?_ | refine Z2 ?_
      rfl
    · rw [he]
      repeat' first | refine Z4 rfl rfl ?_
      rfl
  · have d1 := Z2l (p := (l.length : Int) = (m.length : Int)) (by omega)
    rw [eqW_ne hlen]
    refine Z6 hf rfl ?_
    repeat' first | ((with_reducible show V _ _ _ _ _ _); first | refine Z1 rfl ?_ | refine Za rfl rfl ?_ | refine Z4 rfl rfl ?_) | ((with_reducible show VO _ _ _ _ _ _ _); first | refine Z8 rfl e1 e2 ?_ | refine Z8 rfl f1 f2 ?_ | refine Z5 d1 rfl ?_ | refine Z0 rfl ?_ | refine Z2 ?_)
    rfl
theorem run_eqc {f : Nat} (hf : T.tbl f = some eqcPF) (hp : LR R p l) (hq : LR R q m) (hs : ∀ a cs, R a cs → ∃ c, cs = [c] ∧ Pl c)
    (hm : ∀ a ∈ l, ∀ b ∈ m, ∀ ca cb, R a [ca] → R b [cb] → binOp? .neq ca cb = some (.bool (!E a b))) : T.R (.call f [p, q] (.bool (eqW E l m))) := by
  obtain ⟨e1, e2, e3⟩ := hp.len
  obtain ⟨f1, f2, f3⟩ := hq.len
  by_cases hlen : l.length = m.length
  · have d1 := Z2b (p := (l.length : Int) = (m.length : Int)) (by omega)
    have hl := eqc_loop hp hq hlen hs hm l m [] [] rfl rfl rfl
    refine Z6 hf rfl ?_
    repeat' first | ((with_reducible show V _ _ _ _ _ _); first | refine Z0h rfl hl ⟨rfl, rfl, rfl, rfl, trivial⟩ ?_ | refine Z1 rfl ?_ | refine Zb rfl rfl ?_) | ((with_reducible show VO _ _ _ _ _ _ _); first | refine Z8 rfl e1 e2 ?_ | refine Z8 rfl f1 f2 ?_ | refine Z5 d1 rfl ?_ | refine Z0 rfl ?_ | refine Z2 ?_)
    rintro x e st' (⟨rfl, he⟩ | ⟨rfl, he, rfl⟩)
    · rw [he]
      repeat' first | refine Z1 rfl ?_ | refine Z4 rfl rfl ?_ | refine Z0 rfl ?_ | refine Z2 ?_
      rfl
    · rw [he]
      repeat' first | refine Z4 rfl rfl ?_
      rfl
  · have d1 := Z2l (p := (l.length : Int) = (m.length : Int)) (by omega)
    rw [eqW_ne hlen]
    refine Z6 hf rfl ?_
    repeat' first | ((with_reducible show V _ _ _ _ _ _); first | refine Z1 rfl ?_ | refine Za rfl rfl ?_ | refine Z4 rfl rfl ?_) | ((with_reducible show VO _ _ _ _ _ _ _); first | refine Z8 rfl e1 e2 ?_ | refine Z8 rfl f1 f2 ?_ | refine Z5 d1 rfl ?_ | refine Z0 rfl ?_ | refine Z2 ?_)
    rfl
end
theorem run_VSame {a b : Val} {ca cb : List PV} (ha : VC a ca) (hb : VC b cb) : T.R (.call Zj8 [.agg ca, .agg cb] (.bool (eqD a b))) := by
  have h := Zlc ha b cb hb
  have la := ha.len4
  have lb := hb.len4
  have pa := ha.pl
  have pb := hb.pl
  rw [← eqD_dec (P := Zeu a b = 0) cmpV_zero]
  generalize Zeu a b = r at h ⊢
  refine Z6 rfl rfl ?_
  repeat' first | refine Z1 rfl ?_ | refine Z4 rfl rfl ?_ | ((with_reducible show VO _ _ _ _ _ _ _); first | refine Z07 rfl rfl la ?_ | refine Z07 rfl rfl lb ?_ | refine Z7 rfl rfl h ?_ | refine Z0 rfl ?_ | refine Zc rfl ?_ | refine Z2 ?_)
  rfl
theorem Znv {p q : PV} {l m : List Val} (hp : LR VC p l) (hq : LR VC q m) : T.R (.call Z7i [p, q, .func Zj8 []] (.bool (eqD l m))) := by
  rw [← Zmh]
  exact run_eqa (sz := 4) (z := [.int .i64 0, .int .i64 0, .str [], .nilSl]) rfl rfl rfl hp hq (fun _ _ h => h.len4) (fun _ _ h c hc => List.all_eq_true.1 h.one c hc) (fun _ _ h => h.pl) (fun a _ b _ ca cb ha hb => run_VSame ha hb)
theorem run_NsSame {p q : PV} {l m : List (List UInt8)} (hp : LR NmC p l) (hq : LR NmC q m) : T.R (.call Z7h [p, q] (.bool (eqD l m))) := by
  rw [← Zmh]
  refine run_eqc rfl hp hq (fun _ _ h => ⟨_, h.2, .str _⟩) (fun a _ b _ ca cb ha hb => ?_)
  obtain ⟨_, ha⟩ := ha
  obtain ⟨_, hb⟩ := hb
  injection ha with ha
  injection hb with hb
  subst ha hb
  rw [← eqD_dec (P := a = b) Iff.rfl]
  rfl
theorem run_UsSame {p q : PV} {l m : List Int} (hp : LR NuC p l) (hq : LR NuC q m) : T.R (.call Z8n [p, q] (.bool (eqD l m))) := by
  rw [← Zmh]
  refine run_eqc rfl hp hq (fun _ _ h => ⟨_, h.2, .int _ _⟩) (fun a _ b _ ca cb ha hb => ?_)
  obtain ⟨_, ha⟩ := ha
  obtain ⟨_, hb⟩ := hb
  injection ha with ha
  injection hb with hb
  subst ha hb
  rw [← eqD_dec (P := a = b) Iff.rfl]
  rfl
theorem eqD_prd {o o' : Int} {l l' : List Val} : eqD (Prd.mk o l) (Prd.mk o' l') = (decide (o = o') && eqD l l') := by
  refine Zix ?_
  rw [eqD_is, Bool.and_eq_true, decide_eq_true_eq, eqD_is]
  constructor
  · intro h; injection h with h1 h2; exact ⟨h1, h2⟩
  · rintro ⟨rfl, rfl⟩; rfl
theorem run_PrS {x y : Prd} {cx cy : List PV} (hx : PrC x cx) (hy : PrC y cy) : T.R (.call Zbl [.agg cx, .agg cy] (.bool (eqD x y))) := by
  obtain ⟨o, l⟩ := x
  obtain ⟨o', l'⟩ := y
  obtain ⟨_, p, rfl, hp⟩ := hx
  obtain ⟨_, q, rfl, hq⟩ := hy
  have plp := hp.pl (fun _ _ _ h => h.pl)
  have plq := hq.pl (fun _ _ _ h => h.pl)
  have h := Znv hp hq
  rw [eqD_prd]
  generalize eqD l l' = b at h ⊢
  by_cases ho : o = o'
  · rw [decide_eq_true ho]
    refine Z6 rfl rfl ?_
    repeat' first | refine Z1 rfl ?_ | refine Z4 rfl rfl ?_ | ((with_reducible show VO _ _ _ _ _ _ _); first | refine Z5 (Z0g ho) rfl ?_ | refine Z7 rfl rfl h ?_ | refine Z0 rfl ?_ | refine Zc rfl ?_ | refine Z2 ?_ | refine Zk rfl ?_)
    rfl
  · rw [decide_eq_false ho]
    refine Z6 rfl rfl ?_
    repeat' first | refine Z1 rfl ?_ | refine Z4 rfl rfl ?_ | ((with_reducible show VO _ _ _ _ _ _ _); first | refine Z5 (Zi ho) rfl ?_ | refine Z0 rfl ?_ | refine Zc rfl ?_ | refine Z2 ?_ | refine Zs rfl rfl ?_)
    rfl
theorem run_PrsSame {p q : PV} {l m : List Prd} (hp : LR PrC p l) (hq : LR PrC q m) : T.R (.call Z8c [p, q, .func Zbl []] (.bool (eqD l m))) := by
  rw [← Zmh]
  exact run_eqa (sz := 2) (z := [.int .i64 0, .nilSl]) rfl rfl rfl hp hq (fun _ _ h => h.len2) (fun a cs h c hc => by
    obtain ⟨o, l⟩ := a
    obtain ⟨_, p, rfl, hp⟩ := h
    rcases List.mem_cons.1 hc with rfl | hc
    · rfl
    · simp only [List.mem_singleton] at hc
      subst hc
      rcases hp with ⟨rfl, _⟩ | ⟨_, _, rfl, _⟩ <;> rfl) (fun _ _ h => h.pl) (fun a _ b _ ca cb ha hb => run_PrS ha hb)
theorem eqD_stp {o o' : Int} {a a' : List (List UInt8)} {b b' : List Int} {c c' : List Prd} {d d' : List Val} {e e' : List (List Stp)} : eqD (Stp.mk o a b c d e) (Stp.mk o' a' b' c' d' e') = (decide (o = o') && (eqD a a' && (eqD b b' && (eqD d d' && (eqD e e' && eqD c c'))))) := by
  refine Zix ?_
  rw [eqD_is, Bool.and_eq_true, Bool.and_eq_true, Bool.and_eq_true, Bool.and_eq_true, Bool.and_eq_true, decide_eq_true_eq, eqD_is, eqD_is, eqD_is, eqD_is, eqD_is]
  constructor
  · intro h; injection h with h1 h2 h3 h4 h5 h6; exact ⟨h1, h2, h3, h5, h6, h4⟩
  · rintro ⟨rfl, rfl, rfl, rfl, rfl, rfl⟩; rfl
set_option maxHeartbeats 4000000 in
theorem run_StS {n : Nat} (ih : ∀ (l m : List Stp) (p q : PV), SL n p l → SL n q m → T.R (.call Z9f [p, q] (.bool (eqD l m)))) {x y : Stp} {cx cy : List PV} (hx : SC (n + 1) x cx) (hy : SC (n + 1) y cy) : T.R (.call Z9q [.agg cx, .agg cy] (.bool (eqD x y))) := by
  have plx := hx.pl
  have ply := hy.pl
  obtain ⟨o, na, nu, pr, va, su⟩ := x
  obtain ⟨o', na', nu', pr', va', su'⟩ := y
  obtain ⟨_, p1, p2, p3, p4, p5, rfl, a1, a2, a3, a4, a5⟩ := hx
  obtain ⟨_, q1, q2, q3, q4, q5, rfl, b1, b2, b3, b4, b5⟩ := hy
  have l1 : Pl p1 := plx _ (by simp)
  have l2 : Pl p2 := plx _ (by simp)
  have l3 : Pl p3 := plx _ (by simp)
  have l4 : Pl p4 := plx _ (by simp)
  have l5 : Pl p5 := plx _ (by simp)
  have m1 : Pl q1 := ply _ (by simp)
  have m2 : Pl q2 := ply _ (by simp)
  have m3 : Pl q3 := ply _ (by simp)
  have m4 : Pl q4 := ply _ (by simp)
  have m5 : Pl q5 := ply _ (by simp)
  have h1 := run_NsSame a1 b1
  have h2 := run_UsSame a2 b2
  have h3 := Znv a4 b4
  have h4 : T.R (.call Z50 [p5, q5, .func Z9f []] (.bool (eqD su su'))) := by
    rw [← Zmh]
    refine run_eqb rfl a5 b5 (fun a cs h => ?_) (fun a _ b _ ca cb ha hb => ?_)
    · obtain ⟨p, rfl, hp⟩ := h
      exact ⟨p, rfl, SL.pl hp⟩
    · obtain ⟨p, e1, hp⟩ := ha
      obtain ⟨q, e2, hq⟩ := hb
      injection e1 with e1
      injection e2 with e2
      subst e1 e2
      exact ih a b _ _ hp hq
  have h5 := run_PrsSame a3 b3
  rw [eqD_stp]
  generalize eqD na na' = v1 at h1 ⊢
  generalize eqD nu nu' = v2 at h2 ⊢
  generalize eqD va va' = v3 at h3 ⊢
  generalize eqD su su' = v4 at h4 ⊢
  generalize eqD pr pr' = v5 at h5 ⊢
  by_cases ho : o = o'
  · rw [decide_eq_true ho]
    have d0 := Z0g ho
    cases v1 with
    | false =>
      refine Z6 rfl rfl ?_
      repeat' first | refine Z1 rfl ?_ | refine Z4 rfl rfl ?_ | ((with_reducible show VO _ _ _ _ _ _ _); first | refine Z5 d0 rfl ?_ | refine Z7 rfl rfl h1 ?_ | refine Z0 rfl ?_ | refine Zc rfl ?_ | refine Z2 ?_ | refine Zk rfl ?_ | refine Zs rfl rfl ?_)
      rfl
    | true =>
      cases v2 with
      | false =>
        refine Z6 rfl rfl ?_
        repeat' first | refine Z1 rfl ?_ | refine Z4 rfl rfl ?_ | ((with_reducible show VO _ _ _ _ _ _ _); first | refine Z5 d0 rfl ?_ | refine Z7 rfl rfl h1 ?_ | refine Z7 rfl rfl h2 ?_ | refine Z0 rfl ?_ | refine Zc rfl ?_ | refine Z2 ?_ | refine Zk rfl ?_ | refine Zs rfl rfl ?_)
        rfl
      | true =>
        cases v3 with
        | false =>
          refine Z6 rfl rfl ?_
          repeat' first | refine Z1 rfl ?_ | refine Z4 rfl rfl ?_ | ((with_reducible show VO _ _ _ _ _ _ _); first | refine Z5 d0 rfl ?_ | refine Z7 rfl rfl h1 ?_ | refine Z7 rfl rfl h2 ?_ | refine Z7 rfl rfl h3 ?_ | refine Z0 rfl ?_ | refine Zc rfl ?_ | refine Z2 ?_ | refine Zk rfl ?_ | refine Zs rfl rfl ?_)
          rfl
        | true =>
          cases v4 with
          | false =>
            refine Z6 rfl rfl ?_
            repeat' first | refine Z1 rfl ?_ | refine Z4 rfl rfl ?_ | ((with_reducible show VO _ _ _ _ _ _ _); first | refine Z5 d0 rfl ?_ | refine Z7 rfl rfl h1 ?_ | refine Z7 rfl rfl h2 ?_ | refine Z7 rfl rfl h3 ?_ | refine Z7 rfl rfl h4 ?_ | refine Z0 rfl ?_ | refine Zc rfl ?_ | refine Z2 ?_ | refine Zk rfl ?_ | refine Zs rfl rfl ?_)
            rfl
          | true =>
            refine Z6 rfl rfl ?_
            repeat' first | refine Z1 rfl ?_ | refine Z4 rfl rfl ?_ | ((with_reducible show VO _ _ _ _ _ _ _); first | refine Z5 d0 rfl ?_ | refine Z7 rfl rfl h1 ?_ | refine Z7 rfl rfl h2 ?_ | refine Z7 rfl rfl h3 ?_ | refine Z7 rfl rfl h4 ?_ | refine Z7 rfl rfl h5 ?_ | refine Z0 rfl ?_ | refine Zc rfl ?_ | refine Z2 ?_ | refine Zk rfl ?_)
            rfl
  · rw [decide_eq_false ho]
    have d0 := Zi ho
    refine Z6 rfl rfl ?_
    repeat' first | refine Z1 rfl ?_ | refine Z4 rfl rfl ?_ | ((with_reducible show VO _ _ _ _ _ _ _); first | refine Z5 d0 rfl ?_ | refine Z0 rfl ?_ | refine Zc rfl ?_ | refine Z2 ?_ | refine Zs rfl rfl ?_)
    rfl
theorem run_PSame : ∀ (n : Nat) (l m : List Stp) (p q : PV), SL n p l → SL n q m → T.R (.call Z9f [p, q] (.bool (eqD l m))) := by
  have main : ∀ (n : Nat), (∀ x y cx cy, SC n x cx → SC n y cy → T.R (.call Z9q [.agg cx, .agg cy] (.bool (eqD x y)))) → ∀ (l m : List Stp) (p q : PV), SL n p l → SL n q m → T.R (.call Z9f [p, q] (.bool (eqD l m))) := by
    intro n hc l m p q hp hq
    have h := run_eqa (f := Z8b) (g := Z9q) (E := eqD) (sz := 6) (z := z6) rfl rfl rfl hp hq (fun _ _ h => h.len6) (fun _ _ h => h.one) (fun _ _ h => h.pl) (fun a _ b _ ca cb ha hb => hc a b ca cb ha hb)
    rw [Zmh] at h
    have plp := SL.pl hp
    have plq := SL.pl hq
    generalize eqD l m = b at h ⊢
    refine Z6 rfl rfl ?_
    repeat' first | refine Z1 rfl ?_ | refine Z4 rfl rfl ?_ | ((with_reducible show VO _ _ _ _ _ _ _); first | refine Z7 rfl rfl h ?_ | refine Z0 rfl ?_ | refine Z2 ?_)
    rfl
  intro n
  induction n with
  | zero => exact main 0 (fun x y cx cy h => h.elim)
  | succ n ih => exact main (n + 1) (fun x y cx cy hx hy => run_StS ih hx hy)
section
variable {T : Tb} {Q : Z6t} {k : List Fr} {ρ : EC} {st : St} {l : List POp} {kill : List Nat} {m j : Nat} {A B : St} {d : Option Nat} {op : PI} {n : Nat} {w : Bool}
theorem M_gT (hk : Nat.beq j m = false) (hg : ρ.get n = some (.bool w)) (h : VM T Q m A B j (⟨d, none, op⟩ :: l) kill k ρ st) : VM T Q m A B j (⟨d, some (n, w), op⟩ :: l) kill k ρ st := fun r hr => by
  obtain ⟨ρ1, st1, h1, h2⟩ := h r hr
  have hj := Nat.ne_of_beq_eq_false hk
  have g : gd (Z9 · r) (some (n, w)) = some true := by simp [gd, hr _ _ hg]
  refine ⟨ρ1, st1, ?_, h2⟩
  cases h1
  case dlSkip => exact absurd (by assumption : gd (Z9 · r) none = some false) (by simp [gd])
  case dlQuiet => exact .dlQuiet _ _ _ _ _ _ _ _ _ _ _ hj (by assumption) g (by assumption) (by assumption)
  case dlCall => exact .dlCall _ _ _ _ _ _ _ _ _ _ _ _ _ _ _ _ hj (by assumption) g (by assumption) (by assumption) (by assumption) (by assumption) (by assumption)
  case dlLoud => exact absurd rfl hj
  case dlRaw => exact absurd rfl hj
theorem M_gF {a : Bool} (hk : Nat.beq j m = false) (hs : st = A ∨ st = B) (hg : ρ.get n = some (.bool a)) (hb : a = !w) (h : VM T Q m A B (j + 1) l kill k (ρ.sets d (.tuple [])) st) : VM T Q m A B j (⟨d, some (n, w), op⟩ :: l) kill k ρ st := fun r hr => by
  obtain ⟨ρ1, st1, h1, h2⟩ := h _ (hr.sets d _)
  exact ⟨ρ1, st1, .dlSkip _ _ _ _ _ _ _ _ _ _ (Nat.ne_of_beq_eq_false hk) hs (by subst hb; simp [gd, hr _ _ hg]) h1, h2⟩
theorem M_is {p p' : PV} (he : p = p') (hk : Nat.beq j m = false) (hs : st = A ∨ st = B) (hq : Zo A.get ρ op = some p) (hq' : Zo B.get ρ op = some p) (h : VM T Q m A B (j + 1) l kill k (ρ.sets d p') st) : VM T Q m A B j (⟨d, none, op⟩ :: l) kill k ρ st := by
  subst he
  exact Z2y hk hs hq hq' h
end
theorem wrL_any : ∀ l : List Stp, wrL l = l.any wrS
  | [] => rfl
  | s :: r => by rw [wrL, wrL_any r]; rfl
theorem wrLL_any : ∀ l : List (List Stp), wrLL l = l.any wrL
  | [] => rfl
  | s :: r => by rw [wrLL, wrLL_any r]; rfl
theorem run_Writes : ∀ (n : Nat) (l : List Stp) (p : PV), SL n p l → T.R (.call Z9r [p] (.bool (wrL l))) := by
  have main : ∀ (n : Nat), (∀ s cs, SC n s cs → T.R (.call Z6k [.agg cs] (.bool (wrS s)))) → ∀ (l : List Stp) (p : PV), SL n p l → T.R (.call Z9r [p] (.bool (wrL l))) := by
    intro n hc l p hp
    have h : T.R (.call Z1v [p, .func Z6k []] (.bool (l.any wrS))) :=
      Z1y (f' := Z2s) (sz := 6) (agg := true) (val := .agg) rfl rfl hp (fun _ _ h => h.len6) (fun _ _ h => Zkq h.len6 _) (fun _ _ h => .agg _ h.pl) hp.pl Z2f (fun a _ cs h => hc a cs h)
    rw [← wrL_any] at h
    have plp := SL.pl hp
    generalize wrL l = b at h ⊢
    refine Z6 rfl rfl ?_
    repeat' first | refine Z1 rfl ?_ | refine Z4 rfl rfl ?_ | ((with_reducible show VO _ _ _ _ _ _ _); first | refine Z7 rfl rfl h ?_ | refine Z0 rfl ?_ | refine Z2 ?_)
    rfl
  have clo : ∀ (n : Nat), (∀ (l : List Stp) (p : PV), SL n p l → T.R (.call Z9r [p] (.bool (wrL l)))) → ∀ s cs, SC (n + 1) s cs → T.R (.call Z6k [.agg cs] (.bool (wrS s))) := by
    intro n ih s cs hs
    have hpl := hs.pl
    obtain ⟨op, names, nums, preds, vals, subs⟩ := s
    obtain ⟨ho, pa, pb, pc, pd, pe, rfl, h1, h2, h3, h4, h5⟩ := hs
    have pe1 : Pl pe := hpl _ (by simp)
    have pa1 : Pl pa := hpl _ (by simp)
    have pb1 : Pl pb := hpl _ (by simp)
    have pc1 : Pl pc := hpl _ (by simp)
    have pd1 : Pl pd := hpl _ (by simp)
    have h : T.R (.call Z3v [pe, .func Z9g []] (.bool (subs.any wrL))) :=
      Z1y (f' := Z4z) (sz := 1) (agg := false) (val := fun cs => cs.getD 0 .junk) rfl rfl h5 (fun _ _ h => h.len1) (fun _ _ h => by obtain ⟨q, rfl, _⟩ := h; rfl) (fun _ _ h => by obtain ⟨q, rfl, hq⟩ := h; exact SL.pl hq) pe1 Z2f (fun a _ cs h => by
        obtain ⟨q, rfl, hq⟩ := h
        have hw := ih a q hq
        have plq := SL.pl hq
        generalize wrL a = b at hw ⊢
        show T.R (.call Z9g [q] (.bool b))
        refine Z6 rfl rfl ?_
        repeat' first | refine Z1 rfl ?_ | refine Z4 rfl rfl ?_ | ((with_reducible show VO _ _ _ _ _ _ _); first | refine Z7 rfl rfl hw ?_ | refine Z0 rfl ?_ | refine Z2 ?_)
        rfl)
    rw [← wrLL_any] at h
    rw [wrS]
    generalize wrLL subs = b at h ⊢
    by_cases o1 : op = 4
    · subst o1
      refine Z6 rfl rfl ?_
      repeat' first | ((with_reducible show V _ _ _ _ _ _); first | refine Z1 rfl ?_ | refine Za rfl rfl ?_ | refine Z4 rfl rfl ?_) | ((with_reducible show VO _ _ _ _ _ _ _); first | refine Z0 rfl ?_ | refine Zc rfl ?_ | refine Z2 ?_)
      rfl
    · by_cases o2 : op = 57
      · subst o2
        refine Z6 rfl rfl ?_
        repeat' first | ((with_reducible show V _ _ _ _ _ _); first | refine Z1 rfl ?_ | refine Za rfl rfl ?_ | refine Zb rfl rfl ?_ | refine Z4 rfl rfl ?_) | ((with_reducible show VO _ _ _ _ _ _ _); first | refine Z0 rfl ?_ | refine Zc rfl ?_ | refine Z2 ?_)
        rfl
      · by_cases o3 : op = 58
        · subst o3
          refine Z6 rfl rfl ?_
          repeat' first | ((with_reducible show V _ _ _ _ _ _); first | refine Z1 rfl ?_ | refine Za rfl rfl ?_ | refine Zb rfl rfl ?_ | refine Z4 rfl rfl ?_) | ((with_reducible show VO _ _ _ _ _ _ _); first | refine Z0 rfl ?_ | refine Zc rfl ?_ | refine Z2 ?_)
          rfl
        · by_cases o4 : op = 59
          · subst o4
            refine Z6 rfl rfl ?_
            repeat' first | ((with_reducible show V _ _ _ _ _ _); first | refine Z1 rfl ?_ | refine Za rfl rfl ?_ | refine Zb rfl rfl ?_ | refine Z4 rfl rfl ?_) | ((with_reducible show VO _ _ _ _ _ _ _); first | refine Z0 rfl ?_ | refine Zc rfl ?_ | refine Z2 ?_)
            rfl
          · rw [decide_eq_false o1, decide_eq_false o2, decide_eq_false o3, decide_eq_false o4]
            refine Z6 rfl rfl ?_
            repeat' first | ((with_reducible show V _ _ _ _ _ _); first | refine Z1 rfl ?_ | refine Zb rfl rfl ?_ | refine Z4 rfl rfl ?_) | ((with_reducible show VO _ _ _ _ _ _ _); first | refine Z5 (Zi o1) rfl ?_ | refine Z5 (Zi o2) rfl ?_ | refine Z5 (Zi o3) rfl ?_ | refine Z5 (Zi o4) rfl ?_ | refine Z7 rfl rfl h ?_ | refine Z0 rfl ?_ | refine Zc rfl ?_ | refine Z2 ?_)
            rfl
  intro n
  induction n with
  | zero => exact main 0 (fun s cs h => h.elim)
  | succ n ih => exact main (n + 1) (clo n ih)
theorem Zf5 {cs : List PV} {op : Int} (hc : C6 cs) (h0 : cs[0]? = some (.int .i64 op)) : T.R (.call Zaf [.agg cs] (.bool (ordB op))) := by
  obtain ⟨hp, hl, _⟩ := hc
  match cs, hl, h0, hp with
  | [x0, x1, x2, x3, x4, x5], hl, h0, hp =>
    simp at h0
    subst h0
    unfold ordB
    by_cases o1 : op = 44
    · subst o1
      refine Z6 rfl rfl ?_
      repeat' first | refine Z1 rfl ?_ | refine Z4 rfl rfl ?_ | ((with_reducible show VO _ _ _ _ _ _ _); first | refine Z0 rfl ?_ | refine Zc rfl ?_ | refine Z2 ?_ | refine Zs rfl rfl ?_)
      rfl
    · rw [decide_eq_false o1]
      by_cases o2 : op = 45
      · subst o2
        refine Z6 rfl rfl ?_
        repeat' first | refine Z1 rfl ?_ | refine Z4 rfl rfl ?_ | ((with_reducible show VO _ _ _ _ _ _ _); first | refine Z5 (Zi o1) rfl ?_ | refine Z0 rfl ?_ | refine Zc rfl ?_ | refine Z2 ?_ | refine Zk rfl ?_)
        rfl
      · rw [decide_eq_false o2]
        refine Z6 rfl rfl ?_
        repeat' first | refine Z1 rfl ?_ | refine Z4 rfl rfl ?_ | ((with_reducible show VO _ _ _ _ _ _ _); first | refine Z5 (Zi o1) rfl ?_ | refine Z5 (Zi o2) rfl ?_ | refine Z0 rfl ?_ | refine Zc rfl ?_ | refine Z2 ?_ | refine Zk rfl ?_)
        rfl
theorem SC.op0 {n : Nat} {s : Stp} {cs : List PV} (h : SC n s cs) : cs[0]? = some (.int .i64 s.op) := by
  cases n with
  | zero => exact h.elim
  | succ n =>
    obtain ⟨op, names, nums, preds, vals, subs⟩ := s
    obtain ⟨_, pa, pb, pc, pd, pe, rfl, _⟩ := h
    rfl
theorem sl_one {n : Nat} {s : Stp} {cs : List PV} (h : SC n s cs) : SL n (.sl [cs] true) [s] := .inr ⟨_, true, rfl, by simp, rfl, fun j a ds h1 h2 => by
  cases j with
  | zero => simp at h1 h2; subst h1 h2; exact h
  | succ j => simp at h1⟩
theorem Zdp {cs : List PV} (hc : C6 cs) {look : Nat → Option Tok} {e : EC} {i : Nat} (hi : e.get i = some (.agg cs)) : Zo look e (.buildSl 6 [[.int .i64 0, .nilSl, .nilSl, .nilSl, .nilSl, .nilSl]] [(0, .t i)]) = some (.sl [cs] true) := by
  simp only [Zo, Z6e, Zmi, Opd.get, hi]
  simp [Z1t, Z0v, PV.cells, PV.isJunk, hc.2.1]
set_option maxHeartbeats 2000000 in
theorem run_isFilter {n : Nat} {s : Stp} {cs : List PV} (h : SC n s cs) : T.R (.call Zhc [.agg cs] (.bool (filtB s))) := by
  have hc := h.c6
  have hw := run_Writes n [s] _ (sl_one h)
  have hws : wrL [s] = wrS s := by rw [wrL, wrL, Bool.or_false]
  rw [hws] at hw
  have h0 := h.op0
  have plc := hc.1
  have hb := fun (look : Nat → Option Tok) (e : EC) (i : Nat) (hi : e.get i = some (.agg cs)) => Zdp (look := look) hc hi
  unfold filtB
  generalize s.op = op at h0 ⊢
  have ple : Pl (.sl [cs] true) := .sl _ _ (by simpa using plc)
  have hl := hc.2.1
  match cs, hl, h0, plc, hw, hb, ple with
  | [x0, x1, x2, x3, x4, x5], hl, h0, plc, hw, hb, ple =>
    simp at h0
    subst h0
    by_cases o1 : op = 14 ∨ op = 15 ∨ op = 16 ∨ op = 17 ∨ op = 18 ∨ op = 19 ∨ op = 25
    · rw [if_pos o1]
      rcases o1 with rfl | rfl | rfl | rfl | rfl | rfl | rfl <;>
      · refine Z6 rfl rfl ?_
        repeat' first | ((with_reducible show V _ _ _ _ _ _); first | refine Z1 rfl ?_ | refine Za rfl rfl ?_ | refine Zb rfl rfl ?_ | refine Z4 rfl rfl ?_) | ((with_reducible show VO _ _ _ _ _ _ _); first | refine Z0 rfl ?_ | refine Zc rfl ?_ | refine Z2 ?_)
        rfl
    · rw [if_neg o1]
      by_cases o2 : op = 20 ∨ op = 21 ∨ op = 22 ∨ op = 23
      · rw [if_pos o2]
        generalize wrS s = b at hw ⊢
        rcases o2 with rfl | rfl | rfl | rfl <;>
        · refine Z6 rfl rfl ?_
          repeat' first | ((with_reducible show V _ _ _ _ _ _); first | refine Z1 rfl ?_ | refine Za rfl rfl ?_ | refine Zb rfl rfl ?_ | refine Z4 rfl rfl ?_) | ((with_reducible show VO _ _ _ _ _ _ _); first | refine Z07 rfl rfl hl ?_ | refine Z0 (hb _ _ _ rfl) ?_ | refine Z7 rfl rfl hw ?_ | refine Z0 rfl ?_ | refine Zc rfl ?_ | refine Z2 ?_)
          rfl
      · rw [if_neg o2]
        simp only [not_or] at o1 o2
        obtain ⟨a1, a2, a3, a4, a5, a6, a7⟩ := o1
        obtain ⟨b1, b2, b3, b4⟩ := o2
        refine Z6 rfl rfl ?_
        repeat' first | ((with_reducible show V _ _ _ _ _ _); first | refine Z1 rfl ?_ | refine Zb rfl rfl ?_ | refine Z4 rfl rfl ?_) | ((with_reducible show VO _ _ _ _ _ _ _); first | refine Z5 (Zi a1) rfl ?_ | refine Z5 (Zi a2) rfl ?_ | refine Z5 (Zi a3) rfl ?_ | refine Z5 (Zi a4) rfl ?_ | refine Z5 (Zi a5) rfl ?_ | refine Z5 (Zi a6) rfl ?_ | refine Z5 (Zi a7) rfl ?_ | refine Z5 (Zi b1) rfl ?_ | refine Z5 (Zi b2) rfl ?_ | refine Z5 (Zi b3) rfl ?_ | refine Z5 (Zi b4) rfl ?_ | refine Z0 rfl ?_ | refine Zc rfl ?_ | refine Z2 ?_)
        rfl
end Go.Proofs.YtnedeokclnbcpaaGreatDoor
