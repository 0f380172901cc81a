/- AM28: loops told apart; rows of one's own that grow. -/
import Derived.Test.YthoknkogdldgcaaAm27
set_option linter.unusedVariables false
set_option linter.unusedSimpArgs false
namespace Go.AM
open Go.RowKit

/-- What holds in the end, by what is known of the temporaries. -/
def PE (P : EX → EC → St → Prop) : Post := fun x ρ st => ∃ e, Sub e ρ ∧ P x e st
section
variable {T : Tb} {Q : Post} {k : List Fr} {ρ : EC} {st : St} {l : List POp} {kill : List Nat} {P : EX → EC → St → Prop}
theorem V_endP {x x' : EX} (ha : adv 200 k x = ([], x')) (h : P x' ρ st) : V T (PE P) k x ρ st := V_end ha fun r hr => ⟨ρ, hr, h⟩
theorem V_cutP {c : PC} (h : V T (PE P) [.code c] .normal ρ st) (hk : ∀ x e st', P x e st' → V T Q k x e st') : V T Q (.code c :: k) .normal ρ st := fun r hr =>
  W_cut (h r hr) fun x ρ' st' ⟨e, he, hp⟩ => hk x e st' hp ρ' he
theorem V_cutA {c : PC} {x : EX} {k' : List Fr} (ha : adv 200 k' x = (.code c :: k, .normal)) (h : V T (PE P) [.code c] .normal ρ st) (hk : ∀ x e st', P x e st' → V T Q k x e st') : V T Q k' x ρ st := V_adv ha (V_cutP h hk)
theorem V_monoP {P' : EX → EC → St → Prop} {x : EX} (h : V T (PE P) k x ρ st) (hP : ∀ x e st, P x e st → P' x e st) : V T (PE P') k x ρ st := fun r hr =>
  W_mono (fun x ρ st ⟨e, he, hp⟩ => ⟨e, he, hP x e st hp⟩) _ _ _ _ (h r hr)

theorem appendTo_nil {sz bytes : Nat} {src : List (List PV)} (hne : src ≠ []) (hr : src.length * bytes ≤ roomLen) : appendTo st sz bytes .nilSl src = some (.osl st.next 0 0 src.length false, st.new (.row 0 sz src true)) := by
  unfold appendTo
  rw [if_neg hne]
  simp only []
  rw [if_pos hr]
theorem appendTo_full {sz bytes : Nat} {xs src : List (List PV)} (hne : src ≠ []) (hr : (xs.length + src.length) * bytes ≤ roomLen) (ha : allOf sz xs = true) : appendTo st sz bytes (.sl xs true) src = some (.osl st.next 0 0 (xs.length + src.length) false, st.new (.row 0 sz (xs ++ src) true)) := by
  unfold appendTo
  rw [if_neg hne]
  simp only []
  rw [if_pos ⟨hr, ha⟩]
theorem appendTo_own {sz bytes t g : Nat} {es src : List (List PV)} (hne : src ≠ []) (hg : st.get t = some (.row g sz es true)) (hr : (es.length + src.length) * bytes ≤ roomLen) : appendTo st sz bytes (.osl t g 0 es.length false) src = some (.osl t (g + 1) 0 (es.length + src.length) false, st.put t (.row (g + 1) sz (es ++ src) true)) := by
  unfold appendTo
  rw [if_neg hne]
  simp only [hg]
  rw [if_pos (by refine ⟨?_, ?_, ?_, hr⟩ <;> first | trivial | omega)]
  simp
theorem appendTo_none {sz bytes : Nat} {s : PV} (hs : s = .nilSl ∨ (∃ xs f, s = .sl xs f) ∨ ∃ t g off len f, s = .osl t g off len f) : appendTo st sz bytes s [] = some (s, st) := by
  unfold appendTo
  rw [if_pos rfl]
  rcases hs with rfl | ⟨xs, f, rfl⟩ | ⟨t, g, off, len, f, rfl⟩ <;> rfl
/-- Append. -/
theorem O_append {d : Option Nat} {sz bytes : Nat} {z : List PV} {s x : Opd} {p q r : PV} {src : List (List PV)} {st' : St} (hs : s.get ρ = some p) (hx : x.get ρ = some q) (hsrc : srcOf st q = some src) (hok : okEls sz src = true) (hsz : 0 < sz) (hby : 0 < bytes)
    (ha : appendTo st sz bytes p src = some (r, st')) (h : VO T Q l kill k (ρ.sets d r) st') : VO T Q (⟨d, none, .append sz bytes z s x⟩ :: l) kill k ρ st := by
  refine O_stepL ?_ h
  simp only [stepL, hs, hx, hsrc, Option.bind_some]
  rw [if_pos ⟨hok, hsz, hby⟩]
  exact ha
end

/-- A list of cells of one's own that grows: nothing yet, or the only row. -/
def Acc (sz : Nat) (st : St) (v : PV) (es : List (List PV)) : Prop := (v = .nilSl ∧ es = [] ∧ st = ⟨0, 0, []⟩) ∨ ∃ g, v = .osl 0 g 0 es.length false ∧ st = ⟨0, 1, [(0, .row g sz es true)]⟩
theorem Acc.append {sz bytes : Nat} {st : St} {v : PV} {es src : List (List PV)} (h : Acc sz st v es) (hne : src ≠ []) (hr : (es.length + src.length) * bytes ≤ roomLen) : ∃ v' st', appendTo st sz bytes v src = some (v', st') ∧ Acc sz st' v' (es ++ src) := by
  rcases h with ⟨rfl, rfl, rfl⟩ | ⟨g, rfl, rfl⟩
  · exact ⟨_, _, appendTo_nil hne (by simpa using hr), .inr ⟨0, by simp, rfl⟩⟩
  · refine ⟨_, _, appendTo_own (es := es) hne rfl hr, .inr ⟨g + 1, by simp, rfl⟩⟩
theorem Acc.view {sz : Nat} {st : St} {v : PV} {es : List (List PV)} (h : Acc sz st v es) (hp : ∀ cs ∈ es, ∀ c ∈ cs, Pl c) : View true st.get v (if es = [] ∧ st.next = 0 then .nilSl else .sl es false) := by
  rcases h with ⟨rfl, rfl, rfl⟩ | ⟨g, rfl, rfl⟩
  · exact .nilSl
  · rw [if_neg (by simp)]
    exact view_osl0 rfl (.inl rfl) rfl hp
end Go.AM
