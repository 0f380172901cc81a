/- Steps in a shorter way: what it is (plain). · Steps in a shorter way: once is enough, no more steps, no deeper (plain). · Steps in a shorter way may be; told by the check. · Rows of one's own of steps; trees of them. -/
import Derived.Test.YtnedeokclnbcpaaGreatDoorNameAToStpD
import Derived.Test.YtnedeokclnbcpaaGreatDoorAmZ
set_option linter.unusedVariables false
set_option linter.unusedSimpArgs false
namespace Go.Proofs.YtnedeokclnbcpaaGreatDoor
open Go Go.AM Go.RowKit
theorem Zev {op : Int} {names : List (List UInt8)} {nums : List Int} {preds : List Prd} {vals : List Val} {k : Nat} {a b c d e f g h i j : Int} (hs : shp op = [a, b, c, d, e, f, g, h, i, j]) (hh : argB op names nums preds vals k = true) :
    (a ≤ names.length ∧ (names.length : Int) ≤ b) ∧ (c ≤ nums.length ∧ (nums.length : Int) ≤ d) ∧ (e ≤ preds.length ∧ (preds.length : Int) ≤ f) ∧ (g ≤ vals.length ∧ (vals.length : Int) ≤ h) ∧ (i ≤ k ∧ (k : Int) ≤ j) := by
  unfold argB at hh
  rw [hs] at hh
  simp only [Zb3, Bool.and_eq_true, decide_eq_true_eq] at hh
  obtain ⟨⟨⟨⟨h1, h2⟩, h3⟩, h4⟩, h5⟩ := hh
  exact ⟨h1, h2, h3, h4, h5⟩
theorem len1 {α : Type} {l : List α} (h : (1 : Int) ≤ l.length ∧ (l.length : Int) ≤ 1) : ∃ a, l = [a] := List.length_eq_one_iff.1 (by omega)
theorem Zko {op : Int} {names : List (List UInt8)} {nums : List Int} {preds : List Prd} {vals : List Val} {subs : List (List Stp)} (h : okS (.mk op names nums preds vals subs) = true) : argB op names nums preds vals subs.length = true ∧ nums.all Zlp = true ∧ Zcb subs = true := by
  rw [okS, Zf3] at h
  simp only [Bool.and_eq_true] at h
  obtain ⟨⟨⟨⟨⟨⟨h1, h2⟩, h3⟩, h4⟩, h5⟩, h6⟩, h7⟩ := h
  exact ⟨h2, h4, h7⟩
def Zf (op : Int) (subs : List (List Stp)) : Stp := .mk op [] [] [] [] subs
def numS (op n : Int) : Stp := .mk op [] [n] [] [] []
abbrev idS : Stp := Zf 60 []
abbrev limS (n : Int) : Stp := numS 26 n
abbrev skS (n : Int) : Stp := numS 27 n
theorem ok_sub1 {subs : List (List Stp)} (hl : subs.length = 1) (h : Zcb subs = true) {op : Int} (ho : op = 20 ∨ op = 21) : okS (Zf op subs) = true := by
  rw [Zf, okS, h, Zf3]
  have hb : opB op = true := by rcases ho with rfl | rfl <;> decide
  have ha : argB op [] [] [] [] subs.length = true := by rw [hl]; rcases ho with rfl | rfl <;> decide
  simp [hb, ha]
theorem ok_num {op n : Int} (ho : op = 26 ∨ op = 27) (hn : Zlp n = true) : okS (numS op n) = true := by
  rw [numS, okS, Zf3]
  have hb : opB op = true := by rcases ho with rfl | rfl <;> decide
  have ha : argB op [] [n] [] [] ([] : List (List Stp)).length = true := by rcases ho with rfl | rfl <;> rfl
  simp only [hb, ha, hn, Zcb, List.all_cons, List.all_nil, Bool.and_true, Bool.and_self]
theorem ok_id : okS idS = true := by
  rw [idS, Zf, okS, Zf3]
  have ha : argB 60 [] [] [] [] ([] : List (List Stp)).length = true := by rfl
  simp only [ha, Zcb, opB, List.all_nil, Bool.and_true]
  rfl
def Zaa (l : List Stp) (p : Int → Bool) : Option Stp := match l with
  | [s] => if p s.op then some s else none
  | _ => none
def wnB (o : Int) : Bool := decide (o = 20) || decide (o = 21)
def notS (x : Stp) : Stp := Zf (if x.op = 20 then 21 else 20) x.subs
def rlO (op : Int) (nums : List Int) (subs : List (List Stp)) : Option Stp :=
  if op = 22 ∨ op = 23 then (if subs.length = 1 then some (Zf 20 subs) else none)
  else if op = 21 then (Zaa (subs.headD []) wnB).map notS
  else if op = 20 then Zaa (subs.headD []) wnB
  else if op = 54 ∨ op = 27 then (if nums.headD 0 = 0 then some idS else none)
  else if op = 52 then Zaa (subs.headD []) (fun o => decide (o = 60))
  else if op = 28 then (if nums.headD 0 ≥ nums.getD 1 0 then some (limS 0) else if nums.headD 0 = 0 then some (limS (nums.getD 1 0)) else none)
  else none
def rlS (s : Stp) : Option Stp := rlO s.op s.nums s.subs
theorem Z13 {l : List Stp} {p : Int → Bool} {x : Stp} (h : Zaa l p = some x) : l = [x] ∧ p x.op = true := by
  unfold Zaa at h
  split at h
  · split at h
    · injection h with h
      subst h
      exact ⟨rfl, by assumption⟩
    · cases h
  · cases h
theorem Zlo {subs : List (List Stp)} {x : Stp} (h : Zcb subs = true) (hx : subs.headD [] = [x]) : okS x = true := by
  match subs, hx with
  | l :: r, hx =>
    simp only [List.headD_cons] at hx
    subst hx
    rw [Zcb, Bool.and_eq_true, Bool.and_eq_true, Zkp, Bool.and_eq_true] at h
    exact h.1.2.1
theorem wn_sub1 {x : Stp} (hx : okS x = true) (h : wnB x.op = true) : x.subs.length = 1 ∧ Zcb x.subs = true := by
  obtain ⟨op, names, nums, preds, vals, subs⟩ := x
  obtain ⟨h1, _, h3⟩ := Zko hx
  have ho : op = 20 ∨ op = 21 := by
    have h : (decide (op = 20) || decide (op = 21)) = true := h
    simpa using h
  refine ⟨?_, h3⟩
  show subs.length = 1
  rcases ho with rfl | rfl
  · have := (Zev (op := 20) rfl h1).2.2.2.2
    omega
  · have := (Zev (op := 21) rfl h1).2.2.2.2
    omega
theorem num_all {l : List Int} (h : l.all Zlp = true) {j : Nat} {n : Int} (hn : l[j]? = some n) : Zlp n = true := List.all_eq_true.1 h _ (List.mem_of_getElem? hn)
theorem rlS_ok {s x : Stp} (hs : okS s = true) (h : rlS s = some x) : okS x = true := by
  obtain ⟨op, names, nums, preds, vals, subs⟩ := s
  obtain ⟨h1, h2, h3⟩ := Zko hs
  replace h : rlO op nums subs = some x := h
  unfold rlO at h
  split at h
  · split at h
    · rename_i hl
      injection h with h
      subst h
      exact ok_sub1 hl h3 (.inl rfl)
    · cases h
  · split at h
    · obtain ⟨y, hy, rfl⟩ := Option.map_eq_some_iff.1 h
      obtain ⟨e1, e2⟩ := Z13 hy
      obtain ⟨k1, k2⟩ := wn_sub1 (Zlo h3 e1) e2
      exact ok_sub1 k1 k2 (by split <;> simp)
    · split at h
      · obtain ⟨e1, e2⟩ := Z13 h
        exact Zlo h3 e1
      · split at h
        · split at h
          · injection h with h
            subst h
            exact ok_id
          · cases h
        · split at h
          · obtain ⟨e1, e2⟩ := Z13 h
            exact Zlo h3 e1
          · split at h
            · rename_i h28
              subst h28
              obtain ⟨_, a2, _⟩ := Zev (op := 28) rfl h1
              split at h
              · injection h with h
                subst h
                exact ok_num (.inl rfl) (by decide)
              · split at h
                · injection h with h
                  subst h
                  refine ok_num (.inl rfl) ?_
                  match nums, a2 with
                  | [a, b], _ => exact num_all h2 (j := 1) rfl
                · cases h
            · cases h
def flg (o : Int) : Nat := if o = 22 ∨ o = 23 ∨ o = 54 ∨ o = 27 ∨ o = 52 ∨ o = 28 then 1 else 0
def msS (s : Stp) : Nat := 2 * Zef s + flg s.op
theorem Zmk (s : Stp) : Zef s = Z28 s.subs := by
  obtain ⟨op, names, nums, preds, vals, subs⟩ := s
  rw [Zef]
  rfl
theorem cnt_head {subs : List (List Stp)} {x : Stp} (hx : subs.headD [] = [x]) : 1 + Zef x ≤ Z28 subs := by
  match subs, hx with
  | l :: r, hx =>
    simp only [List.headD_cons] at hx
    subst hx
    rw [Z28, Zg, Zg]
    omega
theorem cnt_mk (o : Int) (subs : List (List Stp)) : Zef (Zf o subs) = Z28 subs := Zmk _
theorem Zdl {s x : Stp} (h : rlS s = some x) : msS x < msS s := by
  obtain ⟨op, names, nums, preds, vals, subs⟩ := s
  replace h : rlO op nums subs = some x := h
  have hm : msS (.mk op names nums preds vals subs) = 2 * Z28 subs + flg op := by unfold msS; rw [Zmk]; rfl
  rw [hm]
  have f20 : flg 20 = 0 := by decide
  have f21 : flg 21 = 0 := by decide
  have f60 : flg 60 = 0 := by decide
  have f26 : flg 26 = 0 := by decide
  have hid : msS idS = 0 := rfl
  have hlim : ∀ n, msS (limS n) = 0 := fun n => rfl
  unfold rlO at h
  split at h
  · rename_i ho
    split at h
    · injection h with h
      subst h
      have : flg op = 1 := by rcases ho with rfl | rfl <;> decide
      show 2 * Zef (Zf 20 subs) + flg 20 < _
      rw [cnt_mk]
      omega
    · cases h
  · split at h
    · obtain ⟨y, hy, rfl⟩ := Option.map_eq_some_iff.1 h
      obtain ⟨e1, e2⟩ := Z13 hy
      have hc := cnt_head e1
      have : flg (if y.op = 20 then 21 else 20) = 0 := by split <;> assumption
      show 2 * Zef (Zf _ y.subs) + flg (if y.op = 20 then 21 else 20) < _
      rw [cnt_mk, ← Zmk]
      omega
    · split at h
      · obtain ⟨e1, e2⟩ := Z13 h
        have hc := cnt_head e1
        have hx : x.op = 20 ∨ x.op = 21 := by simpa [wnB] using e2
        have : flg x.op = 0 := by rcases hx with hx | hx <;> rw [hx] <;> assumption
        unfold msS
        omega
      · split at h
        · rename_i ho
          split at h
          · injection h with h
            subst h
            have : flg op = 1 := by rcases ho with rfl | rfl <;> decide
            rw [hid]
            omega
          · cases h
        · split at h
          · obtain ⟨e1, e2⟩ := Z13 h
            have hc := cnt_head e1
            have hx : x.op = 60 := by simpa using e2
            unfold msS
            rw [hx]
            omega
          · split at h
            · rename_i ho
              subst ho
              have : flg 28 = 1 := by decide
              split at h
              · injection h with h
                subst h
                rw [hlim]
                omega
              · split at h
                · injection h with h
                  subst h
                  rw [hlim]
                  omega
                · cases h
            · cases h
def simF : Nat → Stp → Stp
  | 0, s => s
  | n + 1, s => match rlS s with
    | some x => simF n x
    | none => s
def Z6a (s : Stp) : Stp := simF (msS s) s
theorem Z7s {s : Stp} (h : rlS s = none) : ∀ n, simF n s = s
  | 0 => rfl
  | n + 1 => by simp only [simF, h]
theorem simF_eq : ∀ (n m : Nat) (s : Stp), msS s ≤ n → msS s ≤ m → simF n s = simF m s
  | 0, m, s, hn, hm => by
    cases hr : rlS s with
    | none => rw [Z7s hr, Z7s hr]
    | some x => have := Zdl hr; omega
  | n + 1, 0, s, hn, hm => by
    cases hr : rlS s with
    | none => rw [Z7s hr, Z7s hr]
    | some x => have := Zdl hr; omega
  | n + 1, m + 1, s, hn, hm => by
    cases hr : rlS s with
    | none => rw [Z7s hr, Z7s hr]
    | some x =>
      have := Zdl hr
      simp only [simF, hr]
      exact simF_eq n m x (by omega) (by omega)
theorem Z41 {s : Stp} (h : rlS s = none) : Z6a s = s := Z7s h _
theorem Z7r {s x : Stp} (h : rlS s = some x) : Z6a s = Z6a x := by
  have hl := Zdl h
  unfold Z6a
  cases hx : msS s with
  | zero => omega
  | succ n =>
    simp only [simF, h]
    exact simF_eq n (msS x) x (by omega) (by omega)
theorem Zdk {P : Stp → Prop} (h0 : ∀ s, rlS s = none → P s) (h1 : ∀ s x, rlS s = some x → P x → P s) : ∀ s, P s := by
  have : ∀ (n : Nat) (s : Stp), msS s < n → P s := by
    intro n
    induction n with
    | zero => intro s h; omega
    | succ n ih =>
      intro s h
      cases hr : rlS s with
      | none => exact h0 s hr
      | some x => exact h1 s x hr (ih x (by have := Zdl hr; omega))
  exact fun s => this (msS s + 1) s (by omega)
theorem simS_ok : ∀ s : Stp, okS s = true → okS (Z6a s) = true :=
  Zdk (fun s h hs => by rw [Z41 h]; exact hs) (fun s x h ih hs => by rw [Z7r h]; exact ih (rlS_ok hs h))
theorem simS_end : ∀ s : Stp, rlS (Z6a s) = none :=
  Zdk (fun s h => by rw [Z41 h]; exact h) (fun s x h ih => by rw [Z7r h]; exact ih)
def ordB (o : Int) : Bool := decide (o = 44) || decide (o = 45)
mutual
def wrS : Stp → Bool
  | .mk op _ _ _ _ subs => (decide (op = 4) || decide (op = 57) || decide (op = 58) || decide (op = 59)) || wrLL subs
def wrL : List Stp → Bool
  | [] => false
  | s :: r => wrS s || wrL r
def wrLL : List (List Stp) → Bool
  | [] => false
  | l :: r => wrL l || wrLL r
end
def filtB (s : Stp) : Bool :=
  if s.op = 14 ∨ s.op = 15 ∨ s.op = 16 ∨ s.op = 17 ∨ s.op = 18 ∨ s.op = 19 ∨ s.op = 25 then true
  else if s.op = 20 ∨ s.op = 21 ∨ s.op = 22 ∨ s.op = 23 then !wrS s
  else false
open Classical in
noncomputable def eqSB (a b : Stp) : Bool := decide (a = b)
def min2 (a b : Int) : Int := if b < a then b else a
open Classical in
noncomputable def Zal (a b : Stp) : Option Stp :=
  if ordB a.op then (if ordB b.op = true ∨ b.op = 35 then some b else none)
  else if a.op ≠ b.op then none
  else if a.op = 24 then some a
  else if a.op = 26 then some (limS (min2 (a.nums.headD 0) (b.nums.headD 0)))
  else if a.op = 27 then (if a.nums.headD 0 + b.nums.headD 0 ≤ 9007199254740992 then some (skS (a.nums.headD 0 + b.nums.headD 0)) else none)
  else if filtB a && eqSB a b then some a else none
theorem numB_of {n : Int} (h : Zlp n = true) : 0 ≤ n ∧ n ≤ 9007199254740992 := by simpa [Zlp] using h
theorem Zco {s : Stp} (hs : okS s = true) (ho : s.op = 26 ∨ s.op = 27 ∨ s.op = 29 ∨ s.op = 54 ∨ s.op = 56) : ∃ n, s.nums = [n] ∧ Zlp n = true := by
  obtain ⟨op, names, nums, preds, vals, subs⟩ := s
  obtain ⟨h1, h2, _⟩ := Zko hs
  have h : ∃ n, nums = [n] := by
    rcases ho with h | h | h | h | h <;> (obtain rfl : op = _ := h) <;> exact len1 (Zev rfl h1).2.1
  obtain ⟨n, rfl⟩ := h
  exact ⟨n, rfl, num_all h2 (j := 0) rfl⟩
theorem joinS_ok {a b x : Stp} (ha : okS a = true) (hb : okS b = true) (h : Zal a b = some x) : okS x = true := by
  unfold Zal at h
  split at h
  · split at h
    · injection h with h; subst h; exact hb
    · cases h
  · split at h
    · cases h
    · rename_i heq
      have heq : a.op = b.op := Classical.not_not.1 heq
      split at h
      · injection h with h; subst h; exact ha
      · split at h
        · rename_i ho
          injection h with h
          subst h
          obtain ⟨n, e1, n1⟩ := Zco ha (.inl ho)
          obtain ⟨m, e2, n2⟩ := Zco hb (.inl (heq ▸ ho))
          refine ok_num (.inl rfl) ?_
          rw [e1, e2]
          show Zlp (min2 n m) = true
          unfold min2
          by_cases hmn : m < n
          · rw [if_pos hmn]; exact n2
          · rw [if_neg hmn]; exact n1
        · split at h
          · rename_i ho
            split at h
            · rename_i hle
              injection h with h
              subst h
              obtain ⟨n, e1, n1⟩ := Zco ha (.inr (.inl ho))
              obtain ⟨m, e2, n2⟩ := Zco hb (.inr (.inl (heq ▸ ho)))
              refine ok_num (.inr rfl) ?_
              rw [e1, e2] at hle ⊢
              simp only [List.headD_cons] at hle ⊢
              have := numB_of n1
              have := numB_of n2
              simp only [Zlp, Bool.and_eq_true, decide_eq_true_eq]
              omega
            · cases h
          · split at h
            · injection h with h; subst h; exact ha
            · cases h
noncomputable def Za3 : List Stp → Stp → List Stp
  | [], s => if (Z6a s).op = 60 then [] else [Z6a s]
  | a :: r, s => if (Z6a s).op = 60 then a :: r else match Zal a (Z6a s) with
    | some x => Za3 r x
    | none => Z6a s :: a :: r
def okA (l : List Stp) : Prop := ∀ s ∈ l, okS s = true
theorem putR_ok : ∀ (l : List Stp) (s : Stp), okA l → okS s = true → okA (Za3 l s)
  | [], s, hl, hs => by
    unfold Za3
    split
    · exact hl
    · intro x hx
      simp only [List.mem_singleton] at hx
      subst hx
      exact simS_ok s hs
  | a :: r, s, hl, hs => by
    unfold Za3
    split
    · exact hl
    · split
      · rename_i x hx
        exact putR_ok r x (fun y hy => hl y (.tail _ hy)) (joinS_ok (hl a (.head _)) (simS_ok s hs) hx)
      · intro x hx
        rcases List.mem_cons.1 hx with rfl | hx
        · exact simS_ok s hs
        · exact hl x hx
def trB (s : Stp) : Bool := decide (s.op = 24) || ordB s.op || (decide (s.op = 26) && decide (s.nums.length = 1) && decide (0 < s.nums.headD 0))
def Z9x : List Stp → List Stp
  | [] => []
  | [s] => [s]
  | s :: a :: r => if trB s then Z9x (a :: r) else s :: a :: r
def trimS (l : List Stp) : List Stp := (Z9x l.reverse).reverse
def askB (op : Int) (k : Nat) : Bool := decide (op = 20) || decide (op = 21) || decide (op = 22) || decide (op = 23) || ((decide (op = 53) || decide (op = 55)) && decide (k = 0))
def Zn9 (l : List Stp) : List Stp := if l.isEmpty then [idS] else l
mutual
noncomputable def rwS : Stp → Stp
  | .mk op nm nu pr va subs => .mk op nm nu pr va (Z8k op 0 subs)
noncomputable def rwA : List Stp → List Stp → List Stp
  | [], acc => acc
  | s :: r, acc => rwA r (Za3 acc (rwS s))
noncomputable def Z8k : Int → Nat → List (List Stp) → List (List Stp)
  | _, _, [] => []
  | op, k, l :: r => (if askB op k then trimS (Zn9 (rwA l []).reverse) else Zn9 (rwA l []).reverse) :: Z8k op (k + 1) r
end
noncomputable def rwL (l : List Stp) : List Stp := Zn9 (rwA l []).reverse
theorem Zl4 : ∀ (l : List Stp), (∀ s ∈ Z9x l, s ∈ l) ∧ (l ≠ [] → Z9x l ≠ [])
  | [] => ⟨fun s h => h, fun h => h⟩
  | [s] => ⟨fun s h => h, fun h => h⟩
  | s :: a :: r => by
    have ih := Zl4 (a :: r)
    unfold Z9x
    split
    · exact ⟨fun x hx => .tail _ (ih.1 x hx), fun _ => ih.2 (by simp)⟩
    · exact ⟨fun x hx => hx, fun h => h⟩
theorem okL1_all : ∀ {l : List Stp}, Zkp l = true ↔ okA l
  | [] => ⟨fun _ x hx => (by cases hx), fun _ => rfl⟩
  | s :: r => by
    rw [Zkp, Bool.and_eq_true, okL1_all]
    constructor
    · rintro ⟨h1, h2⟩ x hx
      rcases List.mem_cons.1 hx with rfl | hx
      · exact h1
      · exact h2 x hx
    · exact fun h => ⟨h s (.head _), fun x hx => h x (.tail _ hx)⟩
theorem okL_all {l : List Stp} : okL l = true ↔ l ≠ [] ∧ okA l := by
  unfold okL
  rw [Bool.and_eq_true, okL1_all]
  cases l <;> simp
theorem orId_ok {l : List Stp} (h : okA l) : okL (Zn9 l) = true := by
  unfold Zn9
  cases l with
  | nil => rw [okL_all]; exact ⟨by simp, fun x hx => by simp at hx; subst hx; exact ok_id⟩
  | cons a r => rw [okL_all]; exact ⟨by simp, h⟩
theorem trimS_ok {l : List Stp} (h : okL l = true) : okL (trimS l) = true := by
  rw [okL_all] at h ⊢
  have := Zl4 l.reverse
  refine ⟨fun e => this.2 (by simpa using h.1) (by simpa [trimS] using e), fun x hx => h.2 x ?_⟩
  simp only [trimS, List.mem_reverse] at hx
  simpa using this.1 x hx
mutual
theorem rwS_ok : ∀ s : Stp, okS s = true → okS (rwS s) = true
  | .mk op nm nu pr va subs, h => by
    rw [rwS]
    rw [okS, Bool.and_eq_true] at h ⊢
    have := rwLL_ok op 0 subs h.2
    rw [this.2]
    exact ⟨h.1, this.1⟩
theorem rwA_ok : ∀ (l acc : List Stp), Zkp l = true → okA acc → okA (rwA l acc)
  | [], acc, h, ha => by rw [rwA]; exact ha
  | s :: r, acc, h, ha => by
    rw [Zkp, Bool.and_eq_true] at h
    rw [rwA]
    exact rwA_ok r _ h.2 (putR_ok acc _ ha (rwS_ok s h.1))
theorem rwLL_ok : ∀ (op : Int) (k : Nat) (ls : List (List Stp)), Zcb ls = true → Zcb (Z8k op k ls) = true ∧ (Z8k op k ls).length = ls.length
  | op, k, [], h => by rw [Z8k]; exact ⟨rfl, rfl⟩
  | op, k, l :: r, h => by
    rw [Zcb, Bool.and_eq_true, Bool.and_eq_true] at h
    obtain ⟨⟨h1, h2⟩, h3⟩ := h
    have ih := rwLL_ok op (k + 1) r h3
    have h4 : okL (Zn9 (rwA l []).reverse) = true := orId_ok fun x hx => rwA_ok l [] h2 (fun x hx => by cases hx) x (by simpa using hx)
    have h5 := trimS_ok h4
    unfold okL at h4 h5
    rw [Z8k, Zcb, List.length_cons, List.length_cons, ih.2]
    refine ⟨?_, rfl⟩
    rw [ih.1, Bool.and_true]
    split
    · exact h5
    · exact h4
end
theorem rwL_ok {l : List Stp} (h : okL l = true) : okL (rwL l) = true := orId_ok fun x hx => rwA_ok l [] (okL1_all.2 (okL_all.1 h).2) (fun x hx => by cases hx) x (by simpa using hx)
def chR : List Stp → Prop
  | [] => True
  | [_] => True
  | s :: a :: r => Zal a s = none ∧ chR (a :: r)
def endS (s : Stp) : Prop := rlS s = none ∧ s.op ≠ 60
def okN (l : List Stp) : Prop := l = [idS] ∨ (l ≠ [] ∧ (∀ s ∈ l, endS s) ∧ chR l.reverse)
mutual
def nfS : Stp → Prop
  | .mk op _ _ _ _ subs => nfLL op 0 subs
def nfA : List Stp → Prop
  | [] => True
  | s :: r => nfS s ∧ nfA r
def nfLL : Int → Nat → List (List Stp) → Prop
  | _, _, [] => True
  | op, k, l :: r => (nfA l ∧ okN l ∧ (askB op k = true → trimS l = l)) ∧ nfLL op (k + 1) r
end
theorem nfA_all : ∀ {l : List Stp}, nfA l ↔ ∀ s ∈ l, nfS s
  | [] => by rw [nfA]; simp
  | s :: r => by rw [nfA, nfA_all]; simp
theorem Zj7 (op : Int) (nm : List (List UInt8)) (nu : List Int) (pr : List Prd) (va : List Val) (subs : List (List Stp)) : nfS (.mk op nm nu pr va subs) = nfLL op 0 subs := by rw [nfS]
theorem nfLL_ask {op op' : Int} : ∀ (k : Nat) (ls : List (List Stp)), (∀ j, askB op' j = true → askB op j = true) → nfLL op k ls → nfLL op' k ls
  | k, [], h, hn => by rw [nfLL]; trivial
  | k, l :: r, h, hn => by
    rw [nfLL] at hn ⊢
    exact ⟨⟨hn.1.1, hn.1.2.1, fun ha => hn.1.2.2 (h k ha)⟩, nfLL_ask (k + 1) r h hn.2⟩
theorem ask_all {op : Int} (h : op = 20 ∨ op = 21 ∨ op = 22 ∨ op = 23) (j : Nat) : askB op j = true := by
  rcases h with rfl | rfl | rfl | rfl <;> rfl
theorem nf_head {op : Int} {subs : List (List Stp)} {x : Stp} (h : nfLL op 0 subs) (hx : subs.headD [] = [x]) : nfS x := by
  match subs, hx with
  | l :: r, hx =>
    simp only [List.headD_cons] at hx
    subst hx
    rw [nfLL, nfA] at h
    exact h.1.1.1
theorem nf_num (op n : Int) : nfS (numS op n) := by rw [numS, Zj7, nfLL]; trivial
theorem nf_id : nfS idS := by rw [idS, Zf, Zj7, nfLL]; trivial
theorem rlS_nf {s x : Stp} (hs : nfS s) (h : rlS s = some x) : nfS x := by
  obtain ⟨op, names, nums, preds, vals, subs⟩ := s
  replace h : rlO op nums subs = some x := h
  rw [Zj7] at hs
  unfold rlO at h
  split at h
  · rename_i ho
    split at h
    · injection h with h
      subst h
      rw [Zf, Zj7]
      exact nfLL_ask 0 subs (fun j _ => ask_all (by rcases ho with h | h <;> simp [h]) j) hs
    · cases h
  · split at h
    · obtain ⟨y, hy, rfl⟩ := Option.map_eq_some_iff.1 h
      obtain ⟨e1, e2⟩ := Z13 hy
      have hn := nf_head hs e1
      obtain ⟨o, nm, nu, pr, va, ss⟩ := y
      rw [Zj7] at hn
      have ho : o = 20 ∨ o = 21 := by
        have e2 : (decide (o = 20) || decide (o = 21)) = true := e2
        simpa using e2
      rw [notS, Zf, Zj7]
      exact nfLL_ask 0 ss (fun j _ => ask_all (by rcases ho with h | h <;> simp [h]) j) hn
    · split at h
      · exact nf_head hs (Z13 h).1
      · split at h
        · split at h
          · injection h with h; subst h; exact nf_id
          · cases h
        · split at h
          · exact nf_head hs (Z13 h).1
          · split at h
            · split at h
              · injection h with h; subst h; exact nf_num _ _
              · split at h
                · injection h with h; subst h; exact nf_num _ _
                · cases h
            · cases h
theorem simS_nf : ∀ s : Stp, nfS s → nfS (Z6a s) :=
  Zdk (fun s h hs => by rw [Z41 h]; exact hs) (fun s x h ih hs => by rw [Z7r h]; exact ih (rlS_nf hs h))
theorem joinS_of {a b x : Stp} (h : Zal a b = some x) : x = a ∨ x = b ∨ (∃ n, x = limS n) ∨ ∃ n, x = skS n := by
  unfold Zal at h
  split at h
  · split at h
    · injection h with h; exact .inr (.inl h.symm)
    · cases h
  · split at h
    · cases h
    · split at h
      · injection h with h; exact .inl h.symm
      · split at h
        · injection h with h; exact .inr (.inr (.inl ⟨_, h.symm⟩))
        · split at h
          · split at h
            · injection h with h; exact .inr (.inr (.inr ⟨_, h.symm⟩))
            · cases h
          · split at h
            · injection h with h; exact .inl h.symm
            · cases h
theorem joinS_nf {a b x : Stp} (ha : nfS a) (hb : nfS b) (h : Zal a b = some x) : nfS x := by
  rcases joinS_of h with rfl | rfl | ⟨n, rfl⟩ | ⟨n, rfl⟩
  · exact ha
  · exact hb
  · exact nf_num _ _
  · exact nf_num _ _
def goodR (l : List Stp) : Prop := (∀ s ∈ l, endS s ∧ nfS s) ∧ chR l
theorem chR_tail {a : Stp} {l : List Stp} (h : chR (a :: l)) : chR l := by
  cases l with
  | nil => trivial
  | cons b r => exact h.2
theorem putR_good : ∀ (l : List Stp) (s : Stp), goodR l → nfS s → goodR (Za3 l s)
  | [], s, hl, hs => by
    unfold Za3
    split
    · exact hl
    · rename_i h60
      refine ⟨fun x hx => ?_, trivial⟩
      simp only [List.mem_singleton] at hx
      subst hx
      exact ⟨⟨simS_end s, h60⟩, simS_nf s hs⟩
  | a :: r, s, hl, hs => by
    unfold Za3
    split
    · exact hl
    · rename_i h60
      split
      · rename_i x hx
        exact putR_good r x ⟨fun y hy => hl.1 y (.tail _ hy), chR_tail hl.2⟩ (joinS_nf (hl.1 a (.head _)).2 (simS_nf s hs) hx)
      · rename_i hj
        refine ⟨fun x hx => ?_, hj, hl.2⟩
        rcases List.mem_cons.1 hx with rfl | hx
        · exact ⟨⟨simS_end s, h60⟩, simS_nf s hs⟩
        · exact hl.1 x hx
theorem orId_nf {l : List Stp} (h : goodR l) : nfA (Zn9 l.reverse) ∧ okN (Zn9 l.reverse) := by
  unfold Zn9
  cases hl : l.reverse with
  | nil => exact ⟨by simp only [List.isEmpty_nil, if_true]; rw [nfA, nfA]; exact ⟨nf_id, trivial⟩, .inl rfl⟩
  | cons a r =>
    simp only [List.isEmpty_cons, Bool.false_eq_true, if_false]
    rw [← hl]
    refine ⟨nfA_all.2 fun s hs => (h.1 s (by simpa using hs)).2, .inr ⟨by rw [hl]; simp, fun s hs => (h.1 s (by simpa using hs)).1, by rw [List.reverse_reverse]; exact h.2⟩⟩
theorem trimR_ch : ∀ (l : List Stp), chR l → chR (Z9x l)
  | [], h => h
  | [s], h => h
  | s :: a :: r, h => by
    unfold Z9x
    split
    · exact trimR_ch (a :: r) h.2
    · exact h
theorem Zl3 : ∀ (l : List Stp), Z9x (Z9x l) = Z9x l
  | [] => rfl
  | [s] => rfl
  | s :: a :: r => by
    by_cases h : trB s = true
    · have e : Z9x (s :: a :: r) = Z9x (a :: r) := by rw [Z9x, if_pos h]
      rw [e]
      exact Zl3 (a :: r)
    · have e : Z9x (s :: a :: r) = s :: a :: r := by rw [Z9x, if_neg h]
      rw [e, e]
theorem trimS_twice (l : List Stp) : trimS (trimS l) = trimS l := by
  unfold trimS
  rw [List.reverse_reverse, Zl3]
theorem trimS_nf {l : List Stp} (h : nfA l) (hn : okN l) : nfA (trimS l) ∧ okN (trimS l) := by
  have hs := Zl4 l.reverse
  refine ⟨nfA_all.2 fun s hx => nfA_all.1 h s ?_, ?_⟩
  · simp only [trimS, List.mem_reverse] at hx
    simpa using hs.1 s hx
  · rcases hn with rfl | ⟨h1, h2, h3⟩
    · exact .inl rfl
    · refine .inr ⟨fun e => hs.2 (by simpa using h1) (by simpa [trimS] using e), fun s hx => h2 s ?_, ?_⟩
      · simp only [trimS, List.mem_reverse] at hx
        simpa using hs.1 s hx
      · unfold trimS
        rw [List.reverse_reverse]
        exact trimR_ch _ h3
mutual
theorem rwS_nf : ∀ s : Stp, nfS (rwS s)
  | .mk op nm nu pr va subs => by
    rw [rwS, Zj7]
    exact rwLL_nf op 0 subs
theorem rwA_nf : ∀ (l acc : List Stp), goodR acc → goodR (rwA l acc)
  | [], acc, h => by rw [rwA]; exact h
  | s :: r, acc, h => by
    rw [rwA]
    exact rwA_nf r _ (putR_good acc _ h (rwS_nf s))
theorem rwLL_nf : ∀ (op : Int) (k : Nat) (ls : List (List Stp)), nfLL op k (Z8k op k ls)
  | op, k, [] => by rw [Z8k, nfLL]; trivial
  | op, k, l :: r => by
    have h := orId_nf (rwA_nf l [] ⟨fun s hs => (by cases hs), trivial⟩)
    rw [Z8k, nfLL]
    refine ⟨?_, rwLL_nf op (k + 1) r⟩
    split
    · exact ⟨(trimS_nf h.1 h.2).1, (trimS_nf h.1 h.2).2, fun _ => trimS_twice _⟩
    · rename_i ha
      exact ⟨h.1, h.2, fun ha' => absurd ha' ha⟩
end
theorem rwL_nf (l : List Stp) : nfA (rwL l) ∧ okN (rwL l) := orId_nf (rwA_nf l [] ⟨fun s hs => (by cases hs), trivial⟩)
theorem putR_end {acc : List Stp} {s : Stp} (h : endS s) (hc : chR (s :: acc)) : Za3 acc s = s :: acc := by
  have hs := Z41 h.1
  cases acc with
  | nil => rw [Za3, hs, if_neg h.2]
  | cons a r =>
    rw [Za3, hs, if_neg h.2, hc.1]
theorem chR_app : ∀ (l : List Stp) {m : List Stp}, chR (l ++ m) → chR m
  | [], m, h => h
  | a :: l, m, h => chR_app l (chR_tail h)
mutual
theorem rwS_fix : ∀ s : Stp, nfS s → rwS s = s
  | .mk op nm nu pr va subs, h => by
    rw [Zj7] at h
    rw [rwS, rwLL_fix op 0 subs h]
theorem rwA_fix : ∀ (l acc : List Stp), nfA l → (∀ s ∈ l, endS s) → chR (l.reverse ++ acc) → rwA l acc = l.reverse ++ acc
  | [], acc, h, he, hc => by rw [rwA]; rfl
  | s :: r, acc, h, he, hc => by
    rw [nfA] at h
    rw [List.reverse_cons, List.append_assoc] at hc
    rw [rwA, rwS_fix s h.1, putR_end (acc := acc) (he s (.head _)) (chR_app _ hc), rwA_fix r (s :: acc) h.2 (fun x hx => he x (.tail _ hx)) hc]
    simp
theorem rwLL_fix : ∀ (op : Int) (k : Nat) (ls : List (List Stp)), nfLL op k ls → Z8k op k ls = ls
  | op, k, [], h => by rw [Z8k]
  | op, k, l :: r, h => by
    rw [nfLL] at h
    have h1 : Zn9 (rwA l []).reverse = l := by
      rcases h.1.2.1 with hl | ⟨e1, e2, e3⟩
      · subst hl
        have hi : rwS idS = idS := by rw [idS, Zf, rwS, Z8k]
        have hs : Z6a idS = idS := Z41 rfl
        rw [rwA, rwA, hi, Za3, hs]
        rfl
      · rw [rwA_fix l [] h.1.1 e2 (by simpa using e3)]
        simp only [List.append_nil, List.reverse_reverse, Zn9]
        cases l with
        | nil => exact absurd rfl e1
        | cons a b => rfl
    rw [Z8k, h1, rwLL_fix op (k + 1) r h.2]
    split
    · rename_i ha
      rw [h.1.2.2 ha]
    · rfl
end
theorem rwL_fix {l : List Stp} (h : nfA l) (hn : okN l) : rwL l = l := by
  have h1 : nfLL 0 0 [l] := by
    rw [nfLL, nfLL]
    exact ⟨⟨h, hn, fun ha => by cases ha⟩, trivial⟩
  have := rwLL_fix 0 0 [l] h1
  rw [Z8k, Z8k, if_neg (by decide)] at this
  injection this
theorem rwL_twice (l : List Stp) : rwL (rwL l) = rwL l := rwL_fix (rwL_nf l).1 (rwL_nf l).2
theorem cntL_app : ∀ (l m : List Stp), Zg (l ++ m) = Zg l + Zg m
  | [], m => by simp [Zg]
  | s :: r, m => by rw [List.cons_append, Zg, Zg, cntL_app r m]; omega
theorem Zks : ∀ (l : List Stp), Zg l.reverse = Zg l
  | [] => rfl
  | s :: r => by rw [List.reverse_cons, cntL_app, Zks r, Zg, Zg, Zg]; omega
theorem rlS_cnt {s x : Stp} (h : rlS s = some x) : Zef x ≤ Zef s := by
  have := Zdl h
  have f : ∀ o, flg o ≤ 1 := fun o => by unfold flg; split <;> omega
  have := f x.op
  have := f s.op
  unfold msS at *
  omega
theorem simS_cnt : ∀ s : Stp, Zef (Z6a s) ≤ Zef s :=
  Zdk (fun s h => by rw [Z41 h]; exact Nat.le_refl _) (fun s x h ih => by rw [Z7r h]; exact Nat.le_trans ih (rlS_cnt h))
theorem joinS_cnt {a b x : Stp} (h : Zal a b = some x) : Zef x ≤ Zef a + Zef b := by
  rcases joinS_of h with rfl | rfl | ⟨n, rfl⟩ | ⟨n, rfl⟩
  · omega
  · omega
  · rw [Zmk]; exact Nat.zero_le _
  · rw [Zmk]; exact Nat.zero_le _
theorem putR_cnt : ∀ (l : List Stp) (s : Stp), Zg (Za3 l s) ≤ Zg l + (1 + Zef s)
  | [], s => by
    unfold Za3
    have := simS_cnt s
    have e : Zg [] = 0 := rfl
    have e2 : Zg [Z6a s] = 1 + Zef (Z6a s) + Zg [] := rfl
    split <;> omega
  | a :: r, s => by
    unfold Za3
    have h1 := simS_cnt s
    split
    · omega
    · split
      · rename_i x hx
        have := putR_cnt r x
        have := joinS_cnt hx
        rw [Zg]
        omega
      · rw [Zg]; omega
theorem trimR_cnt : ∀ (l : List Stp), Zg (Z9x l) ≤ Zg l
  | [] => Nat.le_refl _
  | [s] => Nat.le_refl _
  | s :: a :: r => by
    unfold Z9x
    have := trimR_cnt (a :: r)
    split
    · rw [Zg]; omega
    · exact Nat.le_refl _
theorem trimS_cnt (l : List Stp) : Zg (trimS l) ≤ Zg l := by
  unfold trimS
  rw [Zks]
  have := trimR_cnt l.reverse
  rwa [Zks] at this
theorem orId_cnt {l m : List Stp} (hm : m ≠ []) (h : Zg l ≤ Zg m) : Zg (Zn9 l.reverse) ≤ Zg m := by
  unfold Zn9
  cases m with
  | nil => exact absurd rfl hm
  | cons a r =>
    split
    · have e : Zg [idS] = 1 := rfl
      rw [e, Zg]
      omega
    · rw [Zks]; exact h
mutual
theorem rwS_cnt : ∀ s : Stp, okS s = true → Zef (rwS s) ≤ Zef s
  | .mk op nm nu pr va subs, h => by
    rw [okS, Bool.and_eq_true] at h
    rw [rwS, Zef, Zef]
    exact rwLL_cnt op 0 subs h.2
theorem rwA_cnt : ∀ (l acc : List Stp), Zkp l = true → Zg (rwA l acc) ≤ Zg acc + Zg l
  | [], acc, h => by rw [rwA, Zg]; omega
  | s :: r, acc, h => by
    rw [Zkp, Bool.and_eq_true] at h
    rw [rwA, Zg]
    have h1 := rwA_cnt r (Za3 acc (rwS s)) h.2
    have h2 := putR_cnt acc (rwS s)
    have h3 := rwS_cnt s h.1
    omega
theorem rwLL_cnt : ∀ (op : Int) (k : Nat) (ls : List (List Stp)), Zcb ls = true → Z28 (Z8k op k ls) ≤ Z28 ls
  | op, k, [], h => by rw [Z8k]; exact Nat.le_refl _
  | op, k, l :: r, h => by
    rw [Zcb, Bool.and_eq_true, Bool.and_eq_true] at h
    obtain ⟨⟨h1, h2⟩, h3⟩ := h
    have ih := rwLL_cnt op (k + 1) r h3
    have h4 := rwA_cnt l [] h2
    have h5 : Zg (Zn9 (rwA l []).reverse) ≤ Zg l := orId_cnt (by intro e; subst e; cases h1) (by simpa [Zg] using h4)
    have h6 := trimS_cnt (Zn9 (rwA l []).reverse)
    rw [Z8k, Z28, Z28]
    split <;> omega
end
theorem rwL_cnt {l : List Stp} (h : okL l = true) : Zg (rwL l) ≤ Zg l := by
  obtain ⟨h1, h2⟩ := okL_all.1 h
  exact orId_cnt h1 (by simpa [Zg] using rwA_cnt l [] (okL1_all.2 h2))
mutual
def hgS : Stp → Nat
  | .mk _ _ _ _ _ subs => hgLL subs
def hgL : List Stp → Nat
  | [] => 0
  | s :: r => max (hgS s) (hgL r)
def hgLL : List (List Stp) → Nat
  | [] => 0
  | l :: r => max (1 + hgL l) (hgLL r)
end
theorem Zme (s : Stp) : hgS s = hgLL s.subs := by
  obtain ⟨op, nm, nu, pr, va, subs⟩ := s
  rw [hgS]
  rfl
theorem hgL_app : ∀ (l m : List Stp), hgL (l ++ m) = max (hgL l) (hgL m)
  | [], m => by simp [hgL]
  | s :: r, m => by rw [List.cons_append, hgL, hgL, hgL_app r m]; omega
theorem hgL_rev : ∀ (l : List Stp), hgL l.reverse = hgL l
  | [] => rfl
  | s :: r => by rw [List.reverse_cons, hgL_app, hgL_rev r, hgL, hgL, hgL]; omega
theorem hg_head {subs : List (List Stp)} {x : Stp} (hx : subs.headD [] = [x]) : hgS x ≤ hgLL subs := by
  match subs, hx with
  | l :: r, hx =>
    simp only [List.headD_cons] at hx
    subst hx
    rw [hgLL, hgL, hgL]
    omega
theorem rlS_hg {s x : Stp} (h : rlS s = some x) : hgS x ≤ hgS s := by
  obtain ⟨op, names, nums, preds, vals, subs⟩ := s
  replace h : rlO op nums subs = some x := h
  have e : hgS (.mk op names nums preds vals subs) = hgLL subs := Zme _
  rw [e]
  have hn : ∀ o n, hgS (numS o n) = 0 := fun o n => Zme _
  unfold rlO at h
  split at h
  · split at h
    · injection h with h; subst h; rw [Zme]; exact Nat.le_refl _
    · cases h
  · split at h
    · obtain ⟨y, hy, rfl⟩ := Option.map_eq_some_iff.1 h
      have := hg_head (Z13 hy).1
      rw [Zme] at this ⊢
      exact this
    · split at h
      · exact hg_head (Z13 h).1
      · split at h
        · split at h
          · injection h with h; subst h; rw [Zme]; exact Nat.zero_le _
          · cases h
        · split at h
          · exact hg_head (Z13 h).1
          · split at h
            · split at h
              · injection h with h; subst h; rw [hn]; exact Nat.zero_le _
              · split at h
                · injection h with h; subst h; rw [hn]; exact Nat.zero_le _
                · cases h
            · cases h
theorem simS_hg : ∀ s : Stp, hgS (Z6a s) ≤ hgS s :=
  Zdk (fun s h => by rw [Z41 h]; exact Nat.le_refl _) (fun s x h ih => by rw [Z7r h]; exact Nat.le_trans ih (rlS_hg h))
theorem joinS_hg {a b x : Stp} (h : Zal a b = some x) : hgS x ≤ max (hgS a) (hgS b) := by
  rcases joinS_of h with rfl | rfl | ⟨n, rfl⟩ | ⟨n, rfl⟩
  · omega
  · omega
  · rw [Zme]; exact Nat.zero_le _
  · rw [Zme]; exact Nat.zero_le _
theorem putR_hg : ∀ (l : List Stp) (s : Stp), hgL (Za3 l s) ≤ max (hgL l) (hgS s)
  | [], s => by
    unfold Za3
    have := simS_hg s
    have e : hgL [] = 0 := rfl
    have e2 : hgL [Z6a s] = max (hgS (Z6a s)) (hgL []) := rfl
    split <;> omega
  | a :: r, s => by
    unfold Za3
    have h1 := simS_hg s
    split
    · omega
    · split
      · rename_i x hx
        have := putR_hg r x
        have := joinS_hg hx
        rw [hgL]
        omega
      · rw [hgL]; omega
theorem trimR_hg : ∀ (l : List Stp), hgL (Z9x l) ≤ hgL l
  | [] => Nat.le_refl _
  | [s] => Nat.le_refl _
  | s :: a :: r => by
    unfold Z9x
    have := trimR_hg (a :: r)
    split
    · rw [hgL]; omega
    · exact Nat.le_refl _
theorem trimS_hg (l : List Stp) : hgL (trimS l) ≤ hgL l := by
  unfold trimS
  rw [hgL_rev]
  have := trimR_hg l.reverse
  rwa [hgL_rev] at this
theorem orId_hg (l : List Stp) : hgL (Zn9 l.reverse) ≤ hgL l := by
  unfold Zn9
  split
  · have e : hgL [idS] = 0 := rfl
    rw [e]
    omega
  · rw [hgL_rev]; exact Nat.le_refl _
mutual
theorem rwS_hg : ∀ s : Stp, hgS (rwS s) ≤ hgS s
  | .mk op nm nu pr va subs => by
    rw [rwS, hgS, hgS]
    exact rwLL_hg op 0 subs
theorem rwA_hg : ∀ (l acc : List Stp), hgL (rwA l acc) ≤ max (hgL acc) (hgL l)
  | [], acc => by rw [rwA, hgL]; omega
  | s :: r, acc => by
    rw [rwA, hgL]
    have h1 := rwA_hg r (Za3 acc (rwS s))
    have h2 := putR_hg acc (rwS s)
    have h3 := rwS_hg s
    omega
theorem rwLL_hg : ∀ (op : Int) (k : Nat) (ls : List (List Stp)), hgLL (Z8k op k ls) ≤ hgLL ls
  | op, k, [] => by rw [Z8k]; exact Nat.le_refl _
  | op, k, l :: r => by
    have ih := rwLL_hg op (k + 1) r
    have h4 := rwA_hg l []
    have h5 := orId_hg (rwA l [])
    have h6 := trimS_hg (Zn9 (rwA l []).reverse)
    have e : hgL ([] : List Stp) = 0 := rfl
    rw [Z8k, hgLL, hgLL]
    split <;> omega
end
theorem rwL_hg (l : List Stp) : hgL (rwL l) ≤ hgL l := by
  have h1 := orId_hg (rwA l [])
  have h2 := rwA_hg l []
  have e : hgL ([] : List Stp) = 0 := rfl
  unfold rwL
  omega
theorem wr_id {d : Int} (h0 : 0 ≤ d) (h : d < 4611686018427387904) : wr d = d + 1 := Zey (by unfold Zp; omega)
theorem mxI_max (a b : Int) : mxI a b = max a b := by unfold mxI; split <;> omega
mutual
theorem dpL_hg : ∀ (l : List Stp) (d acc : Int), 0 ≤ d → d + hgL l < 4611686018427387904 → d ≤ acc → dpL l d acc = max acc (d + hgL l)
  | [], d, acc, h0, h1, h2 => by rw [dpL, hgL]; omega
  | s :: r, d, acc, h0, h1, h2 => by
    rw [hgL] at h1
    have e1 := dpS_hg s d acc h0 (by omega) h2
    have e2 := dpL_hg r d (dpS s d acc) h0 (by omega) (by omega)
    rw [dpL, hgL, e2, e1]
    omega
theorem dpS_hg : ∀ (s : Stp) (d acc : Int), 0 ≤ d → d + hgS s < 4611686018427387904 → d ≤ acc → dpS s d acc = max acc (d + hgS s)
  | .mk op nm nu pr va subs, d, acc, h0, h1, h2 => by
    rw [hgS] at h1
    rw [dpS, hgS]
    exact dpLL_hg subs d acc h0 h1 h2
theorem dpLL_hg : ∀ (ls : List (List Stp)) (d acc : Int), 0 ≤ d → d + hgLL ls < 4611686018427387904 → d ≤ acc → dpLL ls d acc = max acc (d + hgLL ls)
  | [], d, acc, h0, h1, h2 => by rw [dpLL, hgLL]; omega
  | l :: r, d, acc, h0, h1, h2 => by
    rw [hgLL] at h1
    have e0 := wr_id h0 (by omega)
    have e1 := dpL_hg l (d + 1) (d + 1) (by omega) (by omega) (Int.le_refl _)
    rw [dpLL, hgLL, e0, e1, mxI_max]
    have e2 := dpLL_hg r d (max acc (max (d + 1) (d + 1 + hgL l))) h0 (by omega) (by omega)
    rw [e2]
    omega
end
mutual
theorem hgL_cnt : ∀ l : List Stp, hgL l ≤ Zg l
  | [] => by rw [hgL]; omega
  | s :: r => by
    have := hgS_cnt s
    have := hgL_cnt r
    rw [hgL, Zg]
    omega
theorem hgS_cnt : ∀ s : Stp, hgS s ≤ 1 + Zef s
  | .mk op nm nu pr va subs => by
    have := hgLL_cnt subs
    rw [hgS, Zef]
    exact this
theorem hgLL_cnt : ∀ ls : List (List Stp), hgLL ls ≤ 1 + Z28 ls
  | [] => by rw [hgLL]; omega
  | l :: r => by
    have := hgL_cnt l
    have := hgLL_cnt r
    rw [hgLL, Z28]
    omega
end
theorem chk_ok {l : List Stp} : Zkt l = 0 ↔ okL l = true ∧ ¬ (256 < IntKind.i64.wrap (Zg l)) ∧ ¬ (8 < dpL l 1 1) := by
  unfold Zkt
  split
  · rename_i h
    split
    · rename_i h2
      constructor
      · intro h3; cases h3
      · rintro ⟨_, h3, h4⟩; rcases h2 with h2 | h2 <;> contradiction
    · rename_i h2
      rw [not_or] at h2
      exact ⟨fun _ => ⟨h, h2⟩, fun _ => rfl⟩
  · rename_i h
    constructor
    · intro h3; cases h3
    · rintro ⟨h3, _⟩; exact absurd h3 h
theorem chk_rw {l : List Stp} (h : Zkt l = 0) (hc : Zg l ≤ 1048576) : Zkt (rwL l) = 0 := by
  obtain ⟨h1, h2, h3⟩ := chk_ok.1 h
  have c1 := rwL_cnt h1
  have c2 := rwL_hg l
  have c3 := hgL_cnt l
  have c4 := hgL_cnt (rwL l)
  rw [Zey (by unfold Zp; omega)] at h2
  rw [dpL_hg l 1 1 (by decide) (by omega) (Int.le_refl _)] at h3
  refine chk_ok.2 ⟨rwL_ok h1, ?_, ?_⟩
  · rw [Zey (by unfold Zp; omega)]
    omega
  · rw [dpL_hg (rwL l) 1 1 (by decide) (by omega) (Int.le_refl _)]
    omega
def OwnL (n : Nat) (st : St) (v : PV) (L : List Stp) : Prop := (v = .nilSl ∧ L = []) ∨ ∃ t g es, v = .osl t g 0 L.length false ∧ st.get t = some (.row g 6 es true) ∧ t < st.next ∧ L.length ≤ es.length ∧ ∀ (j : Nat) (s : Stp) (cs : List PV), L[j]? = some s → es[j]? = some cs → SC n s cs
theorem OwnL.nil (n : Nat) (st : St) : OwnL n st .nilSl [] := .inl ⟨rfl, rfl⟩
theorem OwnL.len {n : Nat} {st : St} {v : PV} {L : List Stp} (h : OwnL n st v L) : lenOf v = some L.length ∧ Zb2 v = false := by
  rcases h with ⟨rfl, rfl⟩ | ⟨t, g, es, rfl, _⟩
  · exact ⟨rfl, rfl⟩
  · exact ⟨rfl, rfl⟩
theorem OwnL.one {n : Nat} {st : St} {v : PV} {L : List Stp} (h : OwnL n st v L) : PV.one v = true := by
  rcases h with ⟨rfl, rfl⟩ | ⟨t, g, es, rfl, _⟩ <;> rfl
theorem OwnL.keep {n : Nat} {st st' : St} {v : PV} {L : List Stp} (h : OwnL n st v L) (hn : st.next ≤ st'.next) (hk : ∀ u, Z0i v = some u → st'.get u = st.get u) : OwnL n st' v L := by
  rcases h with ⟨rfl, rfl⟩ | ⟨t, g, es, rfl, h1, h2, h3, h4⟩
  · exact .inl ⟨rfl, rfl⟩
  · exact .inr ⟨t, g, es, rfl, by rw [hk t rfl]; exact h1, by omega, h3, h4⟩
theorem OwnL.tok {n : Nat} {st : St} {v : PV} {L : List Stp} (h : OwnL n st v L) {u : Nat} (hu : Z0i v = some u) : u < st.next ∧ ∃ g es, st.get u = some (.row g 6 es true) := by
  rcases h with ⟨rfl, rfl⟩ | ⟨t, g, es, rfl, h1, h2, h3, h4⟩
  · cases hu
  · injection hu with hu
    subst hu
    exact ⟨h2, g, es, h1⟩
theorem OwnL.at {n : Nat} {st : St} {v : PV} {L : List Stp} (h : OwnL n st v L) {j : Nat} {s : Stp} (hs : L[j]? = some s) : ∃ p cs, indexS? st.get 6 (j : Int) v = some p ∧ loadAt st.get 6 true p = some (.agg cs) ∧ SC n s cs := by
  have hj := (List.getElem?_eq_some_iff.1 hs).1
  rcases h with ⟨rfl, rfl⟩ | ⟨t, g, es, rfl, h1, h2, h3, h4⟩
  · simp at hs
  · have he : es[j]? = some es[j] := List.getElem?_eq_getElem (by omega)
    have hc := h4 j s _ hs he
    have h6 := hc.len6
    refine ⟨.rptr t g j 0, es[j], ?_, ?_, hc⟩
    · simp only [indexS?]
      rw [if_pos ⟨by omega, by omega⟩]
      simp only [h1, and_self, if_true, Int.toNat_natCast, Nat.zero_add]
    · simp only [loadAt, behind, h1, if_true, he, Option.map_some, Option.bind_some, slice?]
      rw [if_pos (by omega)]
      simp [List.take_of_length_le (Nat.le_of_eq h6)]
theorem OwnL.take {n : Nat} {st : St} {v : PV} {L : List Stp} (h : OwnL n st v L) {m : Nat} (hm : m ≤ L.length) : ∃ v', sliceSl? st.get 6 none (some (.int .i64 (m : Int))) none v = some v' ∧ OwnL n st v' (L.take m) ∧ Z0i v' = Z0i v := by
  rcases h with ⟨rfl, rfl⟩ | ⟨t, g, es, rfl, h1, h2, h3, h4⟩
  · have : m = 0 := by simpa using hm
    subst this
    exact ⟨.nilSl, rfl, .inl ⟨rfl, by simp⟩, rfl⟩
  · refine ⟨.osl t g 0 m false, ?_, .inr ⟨t, g, es, by simp [Nat.min_eq_left hm], h1, h2, by simp; omega, fun j s cs hj he => ?_⟩, rfl⟩
    · simp only [sliceSl?, lenOf, Z4l?, Option.bind_some, h1]
      simp [hm]
    · rw [List.getElem?_take] at hj
      split at hj
      · exact h4 j s cs hj he
      · cases hj
theorem OwnL.app {n : Nat} {st : St} {v : PV} {L : List Stp} (h : OwnL n st v L) {s : Stp} {cs : List PV} (hs : SC n s cs) {bytes : Nat} (hb : (L.length + 1) * bytes ≤ Z04) : ∃ v' st', Z0k st 6 bytes v [cs] = some (v', st') ∧ OwnL n st' v' (L ++ [s]) ∧ Grow st v st' v' := by
  rcases h with ⟨rfl, rfl⟩ | ⟨t, g, es, rfl, h1, h2, h3, h4⟩
  · refine ⟨.osl st.next 0 0 1 false, st.new (.row 0 6 [cs] true), ?_, .inr ⟨st.next, 0, [cs], rfl, St.get_new, by simp [St.new], by simp, fun j x c hj he => ?_⟩, rfl, by simp [St.new], .inr ⟨st.next, rfl, Nat.le_refl _⟩, fun u hu _ => St.get_new_old hu⟩
    · exact Z9k (by simp) (by simpa using hb)
    · cases j with
      | zero => simp at hj he; subst hj he; exact hs
      | succ j => simp at hj
  · refine ⟨.osl t (g + 1) 0 (L.length + 1) false, st.put t (.row (g + 1) 6 (es.take L.length ++ [cs]) true), ?_, .inr ⟨t, g + 1, es.take L.length ++ [cs], by simp, St.get_put, by simpa [St.put] using h2, by simp [h3], fun j x c hj he => ?_⟩, rfl, Nat.le_refl _, .inl rfl, fun u hu hne => St.get_put_old (fun e => hne (by rw [← e]; rfl))⟩
    · unfold Z0k
      rw [if_neg (by simp)]
      simp only [h1]
      rw [if_pos ⟨trivial, trivial, by omega, by simpa using hb⟩]
      simp
    · rcases Nat.lt_or_ge j L.length with hlt | hge
      · rw [List.getElem?_append_left hlt] at hj
        rw [List.getElem?_append_left (by simp; omega), List.getElem?_take, if_pos hlt] at he
        exact h4 j x c hj he
      · rw [List.getElem?_append_right hge] at hj
        rw [List.getElem?_append_right (by simp; omega)] at he
        have hl : (es.take L.length).length = L.length := by simp [h3]
        rw [hl] at he
        cases hz : j - L.length with
        | zero => rw [hz] at hj he; simp at hj he; subst hj he; exact hs
        | succ k => rw [hz] at hj; simp at hj
theorem OwnL.plain {n : Nat} {st : St} {v : PV} {L : List Stp} (h : OwnL n st v L) (hl : L.length ≤ 140737488355328) : (v = .nilSl ∧ L = []) ∨ ∃ t g es q, Z0i v = some t ∧ st.get t = some (.row g 6 es true) ∧ SL n q L ∧ PV.one q = true ∧ ∀ S', st.put t (.row g 6 es false) = S' → SeenV S' v q := by
  rcases h with ⟨rfl, rfl⟩ | ⟨t, g, es, rfl, h1, h2, h3, h4⟩
  · exact .inl ⟨rfl, rfl⟩
  · refine .inr ⟨t, g, es, .sl (es.take L.length) false, rfl, h1, .inr ⟨_, false, rfl, hl, by simp [h3], fun j s cs hj he => ?_⟩, rfl, ?_⟩
    · rw [List.getElem?_take] at he
      split at he
      · exact h4 j s cs hj he
      · cases he
    · rintro S' rfl
      refine seen_osl St.get_put h3 fun cs hcs c hc => ?_
      obtain ⟨j, hj⟩ := List.getElem?_of_mem hcs
      rw [List.getElem?_take] at hj
      split at hj
      · rename_i hlt
        exact (h4 j L[j] cs (List.getElem?_eq_getElem hlt) hj).pl c hc
      · cases hj
theorem OwnL.view {n : Nat} {st : St} {v : PV} {L : List Stp} (h : OwnL n st v L) (hl : L.length ≤ 140737488355328) : ∃ q, View true st.get v q ∧ SL n q L := by
  rcases h with ⟨rfl, rfl⟩ | ⟨t, g, es, rfl, h1, h2, h3, h4⟩
  · exact ⟨.nilSl, .nilSl, .inl ⟨rfl, rfl⟩⟩
  · have hpl : ∀ cs ∈ es.take L.length, ∀ c ∈ cs, Pl c := fun cs hcs c hc => by
      obtain ⟨j, hj⟩ := List.getElem?_of_mem hcs
      rw [List.getElem?_take] at hj
      split at hj
      · rename_i hlt
        exact (h4 j L[j] cs (List.getElem?_eq_getElem hlt) hj).pl c hc
      · cases hj
    refine ⟨.sl (es.take L.length) false, .osl t g 0 L.length false 6 es true _ h1 (.inl rfl) (by omega) (by simp) (fun j cs ds e1 e2 => ?_) (fun j cs ds i c d e1 e2 e3 e4 => ?_), .inr ⟨_, false, rfl, hl, by simp [h3], fun j s cs hj he => ?_⟩⟩
    · rw [List.drop_zero, e2] at e1
      injection e1 with e1
      rw [e1]
    · rw [List.drop_zero, e2] at e1
      injection e1 with e1
      subst e1
      rw [e3] at e4
      injection e4 with e4
      subst e4
      exact (hpl ds (List.mem_of_getElem? e2) c (List.mem_of_getElem? e3)).view
    · rw [List.getElem?_take] at he
      split at he
      · exact h4 j s cs hj he
      · cases he
def OSubs (R : St → PV → List Stp → List Nat → Prop) (st : St) (pe : PV) (subs : List (List Stp)) (F : List Nat) : Prop :=
  ∃ (es : List (List PV)) (Fs : List (List Nat)), AccT 1 st pe es ∧ es.length = subs.length ∧ Fs.length = subs.length ∧ F = (Z0i pe).toList ++ Fs.flatten ∧ ∀ (k : Nat) (l : List Stp) (cs : List PV) (G : List Nat), subs[k]? = some l → es[k]? = some cs → Fs[k]? = some G → ∃ q, cs = [q] ∧ R st q l G
def OS (R : St → PV → List Stp → List Nat → Prop) (st : St) (cs : List PV) (s : Stp) (F : List Nat) : Prop :=
  Zp s.op ∧ ∃ pa pb pc pd pe, cs = [.int .i64 s.op, pa, pb, pc, pd, pe] ∧ LR NmC pa s.names ∧ LR NuC pb s.nums ∧ LR PrC pc s.preds ∧ LR VC pd s.vals ∧ OSubs R st pe s.subs F
def OT : Nat → St → PV → List Stp → List Nat → Prop
  | 0, st, p, l, F => p = .nilSl ∧ l = [] ∧ F = []
  | n + 1, st, p, l, F => ∃ (es : List (List PV)) (Fs : List (List Nat)), AccT 6 st p es ∧ es.length = l.length ∧ Fs.length = l.length ∧ F = (Z0i p).toList ++ Fs.flatten ∧ ∀ (j : Nat) (s : Stp) (cs : List PV) (G : List Nat), l[j]? = some s → es[j]? = some cs → Fs[j]? = some G → OS (OT n) st cs s G
theorem Z5d {Fs : List (List Nat)} {j : Nat} {G : List Nat} (h : Fs[j]? = some G) {u : Nat} (hu : u ∈ G) : u ∈ Fs.flatten := List.mem_flatten.2 ⟨G, List.mem_of_getElem? h, hu⟩
theorem Zi0 {sz : Nat} {st st' : St} {v : PV} {es : List (List PV)} (h : AccT sz st v es) (hn : st.next ≤ st'.next) (hk : ∀ u, Z0i v = some u → st'.get u = st.get u) : AccT sz st' v es := by
  rcases h with ⟨rfl, h⟩ | ⟨t, g, rfl, h1, h2⟩
  · exact .inl ⟨rfl, h⟩
  · exact .inr ⟨t, g, rfl, by rw [hk t rfl]; exact h1, by omega⟩
theorem OSubs.keep {R : St → PV → List Stp → List Nat → Prop} {st st' : St} (hR : ∀ p l F, R st p l F → (∀ u ∈ F, st'.get u = st.get u) → R st' p l F) {pe : PV} {subs : List (List Stp)} {F : List Nat} (h : OSubs R st pe subs F) (hn : st.next ≤ st'.next) (hk : ∀ u ∈ F, st'.get u = st.get u) : OSubs R st' pe subs F := by
  obtain ⟨es, Fs, h1, h2, h3, rfl, h5⟩ := h
  refine ⟨es, Fs, Zi0 h1 hn (fun u hu => hk u (by simp [hu])), h2, h3, rfl, fun k l cs G a b c => ?_⟩
  obtain ⟨q, e, hq⟩ := h5 k l cs G a b c
  exact ⟨q, e, hR q l G hq fun u hu => hk u (List.mem_append_right _ (Z5d c hu))⟩
theorem OS.keep {R : St → PV → List Stp → List Nat → Prop} {st st' : St} (hR : ∀ p l F, R st p l F → (∀ u ∈ F, st'.get u = st.get u) → R st' p l F) {cs : List PV} {s : Stp} {F : List Nat} (h : OS R st cs s F) (hn : st.next ≤ st'.next) (hk : ∀ u ∈ F, st'.get u = st.get u) : OS R st' cs s F := by
  obtain ⟨h0, pa, pb, pc, pd, pe, e, h1, h2, h3, h4, h5⟩ := h
  exact ⟨h0, pa, pb, pc, pd, pe, e, h1, h2, h3, h4, h5.keep hR hn hk⟩
theorem OT.keep : ∀ (n : Nat) {st st' : St} {p : PV} {l : List Stp} {F : List Nat}, OT n st p l F → st.next ≤ st'.next → (∀ u ∈ F, st'.get u = st.get u) → OT n st' p l F
  | 0, st, st', p, l, F, h, hn, hk => h
  | n + 1, st, st', p, l, F, h, hn, hk => by
    obtain ⟨es, Fs, h1, h2, h3, rfl, h5⟩ := h
    exact ⟨es, Fs, Zi0 h1 hn (fun u hu => hk u (by simp [hu])), h2, h3, rfl, fun j s cs G a b c => (h5 j s cs G a b c).keep (fun p l F h hk => OT.keep n h hn hk) hn fun u hu => hk u (List.mem_append_right _ (Z5d c hu))⟩
end Go.Proofs.YtnedeokclnbcpaaGreatDoor
