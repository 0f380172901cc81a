/- Steps: what they are over plain cells. -/
import Derived.Test.YtinojffgmgjblaaGreatDoorValJ
import Derived.Test.YtinojffgmgjblaaGreatDoorGenA
set_option linter.unusedVariables false
set_option linter.unusedSimpArgs false
namespace Go.Proofs.YtinojffgmgjblaaGreatDoor
open Go Go.AM Go.RowKit
inductive Prd where
  | mk (op : Int) (l : List Val)
inductive Stp where
  | mk (op : Int) (names : List (List UInt8)) (nums : List Int) (preds : List Prd) (vals : List Val) (subs : List (List Stp))
def Stp.op : Stp → Int
  | .mk o _ _ _ _ _ => o
def Stp.names : Stp → List (List UInt8)
  | .mk _ n _ _ _ _ => n
def Stp.nums : Stp → List Int
  | .mk _ _ n _ _ _ => n
def Stp.preds : Stp → List Prd
  | .mk _ _ _ n _ _ => n
def Stp.vals : Stp → List Val
  | .mk _ _ _ _ n _ => n
def Stp.subs : Stp → List (List Stp)
  | .mk _ _ _ _ _ n => n
def NmC (s : List UInt8) (cs : List PV) : Prop := s.length ≤ 140737488355328 ∧ cs = [.str s]
def NuC (n : Int) (cs : List PV) : Prop := I64 n ∧ cs = [.int .i64 n]
def PrC : Prd → List PV → Prop
  | .mk op l, cs => I64 op ∧ ∃ p, cs = [.int .i64 op, p] ∧ LR VC p l
def SubC (R : Stp → List PV → Prop) (l : List Stp) (cs : List PV) : Prop := ∃ p, cs = [p] ∧ LR R p l
def SC : Nat → Stp → List PV → Prop
  | 0, _, _ => False
  | n + 1, .mk op names nums preds vals subs, cs => I64 op ∧ ∃ pa pb pc pd pe, cs = [.int .i64 op, pa, pb, pc, pd, pe] ∧ LR NmC pa names ∧ LR NuC pb nums ∧ LR PrC pc preds ∧ LR VC pd vals ∧ LR (SubC (SC n)) pe subs
theorem NmC.pl {s : List UInt8} {cs : List PV} (h : NmC s cs) : ∀ c ∈ cs, Pl c := by
  obtain ⟨_, rfl⟩ := h
  exact pl_cons (.str _) pl_nil
theorem NuC.pl {s : Int} {cs : List PV} (h : NuC s cs) : ∀ c ∈ cs, Pl c := by
  obtain ⟨_, rfl⟩ := h
  exact pl_cons (.int _ _) pl_nil
theorem PrC.pl {s : Prd} {cs : List PV} (h : PrC s cs) : ∀ c ∈ cs, Pl c := by
  obtain ⟨op, l⟩ := s
  obtain ⟨_, p, rfl, hp⟩ := h
  exact pl_cons (.int _ _) (pl_cons (hp.pl fun a _ cs h => h.pl) pl_nil)
theorem SubC.pl {R : Stp → List PV → Prop} {l : List Stp} {cs : List PV} (hR : ∀ s cs, R s cs → ∀ c ∈ cs, Pl c) (h : SubC R l cs) : ∀ c ∈ cs, Pl c := by
  obtain ⟨p, rfl, hp⟩ := h
  exact pl_cons (hp.pl fun a _ cs h => hR a cs h) pl_nil
theorem SC.pl : ∀ {n : Nat} {s : Stp} {cs : List PV}, SC n s cs → ∀ c ∈ cs, Pl c
  | 0, _, _, h => h.elim
  | n + 1, .mk op names nums preds vals subs, cs, h => by
    obtain ⟨_, pa, pb, pc, pd, pe, rfl, h1, h2, h3, h4, h5⟩ := h
    exact pl_cons (.int _ _) (pl_cons (h1.pl fun a _ cs h => h.pl) (pl_cons (h2.pl fun a _ cs h => h.pl) (pl_cons (h3.pl fun a _ cs h => h.pl) (pl_cons (h4.pl fun a _ cs h => h.pl) (pl_cons (h5.pl fun a _ cs h => h.pl fun s cs h => SC.pl h) pl_nil)))))
theorem SC.len6 : ∀ {n : Nat} {s : Stp} {cs : List PV}, SC n s cs → cs.length = 6
  | 0, _, _, h => h.elim
  | n + 1, .mk op names nums preds vals subs, cs, h => by
    obtain ⟨_, pa, pb, pc, pd, pe, rfl, _⟩ := h
    rfl
theorem SC.one : ∀ {n : Nat} {s : Stp} {cs : List PV}, SC n s cs → ∀ c ∈ cs, PV.one c = true
  | 0, _, _, h => h.elim
  | n + 1, .mk op names nums preds vals subs, cs, h => by
    obtain ⟨_, pa, pb, pc, pd, pe, rfl, h1, h2, h3, h4, h5⟩ := h
    have one : ∀ {α : Type} {R : α → List PV → Prop} {p : PV} {l : List α}, LR R p l → PV.one p = true := fun h => by
      rcases h with ⟨rfl, _⟩ | ⟨_, _, rfl, _⟩ <;> rfl
    intro c hc
    simp only [List.mem_cons, List.not_mem_nil, or_false] at hc
    rcases hc with rfl | rfl | rfl | rfl | rfl | rfl
    · rfl
    · exact one h1
    · exact one h2
    · exact one h3
    · exact one h4
    · exact one h5
theorem NmC.len1 {s : List UInt8} {cs : List PV} (h : NmC s cs) : cs.length = 1 := by obtain ⟨_, rfl⟩ := h; rfl
theorem NuC.len1 {s : Int} {cs : List PV} (h : NuC s cs) : cs.length = 1 := by obtain ⟨_, rfl⟩ := h; rfl
theorem PrC.len2 {s : Prd} {cs : List PV} (h : PrC s cs) : cs.length = 2 := by
  obtain ⟨op, l⟩ := s
  obtain ⟨_, p, rfl, hp⟩ := h
  rfl
theorem SubC.len1 {R : Stp → List PV → Prop} {l : List Stp} {cs : List PV} (h : SubC R l cs) : cs.length = 1 := by obtain ⟨p, rfl, _⟩ := h; rfl
theorem SC.mono : ∀ {n m : Nat} {s : Stp} {cs : List PV}, n ≤ m → SC n s cs → SC m s cs
  | 0, _, _, _, _, h => h.elim
  | n + 1, 0, _, _, hm, h => by omega
  | n + 1, m + 1, .mk op names nums preds vals subs, cs, hm, h => by
    obtain ⟨h0, pa, pb, pc, pd, pe, e, h1, h2, h3, h4, h5⟩ := h
    refine ⟨h0, pa, pb, pc, pd, pe, e, h1, h2, h3, h4, h5.mono fun l _ cs ⟨p, hc, hp⟩ => ⟨p, hc, hp.mono fun s _ cs h => SC.mono (by omega) h⟩⟩
abbrev SL (n : Nat) (p : PV) (l : List Stp) : Prop := LR (SC n) p l
theorem SL.pl {n : Nat} {p : PV} {l : List Stp} (h : SL n p l) : Pl p := LR.pl h fun a _ cs h => h.pl
theorem SL.at {n : Nat} {p : PV} {l : List Stp} (h : SL n p l) {j : Nat} {s : Stp} (hs : l[j]? = some s) : ∃ cs, At 6 p j cs ∧ SC n s cs := LR.at h (fun _ _ h => h.len6) hs
theorem i64_of_len {n : Nat} (h : n ≤ 140737488355328) : I64 n := by unfold I64; omega
theorem wrap_id {n : Int} (h : I64 n) : IntKind.i64.wrap n = n := by unfold I64 at h; rw [wrap_i64]; omega
theorem wrap_add (a b : Int) : IntKind.i64.wrap (IntKind.i64.wrap a + IntKind.i64.wrap b) = IntKind.i64.wrap (a + b) := by rw [wrap_i64, wrap_i64, wrap_i64, wrap_i64]; omega
theorem wrap_addL (a b : Int) : IntKind.i64.wrap (IntKind.i64.wrap a + b) = IntKind.i64.wrap (a + b) := by rw [wrap_i64, wrap_i64, wrap_i64]; omega
end Go.Proofs.YtinojffgmgjblaaGreatDoor
