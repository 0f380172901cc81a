/- AM22: a run of plain code is a run of the machine. -/
import Derived.Test.YthoknkogdldgcaaAm21
set_option linter.unusedVariables false
set_option linter.unusedSimpArgs false
namespace Go.AM
open Go.RowKit

section
variable {P : Program} {X : Cx} {st : St} {G : Gh} {w : World} {n : Nat} {ρ : Env} {a : Act}

/-! ### Less is known -/
def ghBel (G : Gh) (m : Nat) : Gh := fun t g => if t < m then G t g else none
theorem rep_bel {own own' : Nat → Prop} {m : Nat} (ho : ∀ b, own' b → own b) {v : Value} {p : PV} (h : Rep G own w v p) : Bel m p → Rep (ghBel G m) own' w v p := by
  have g : ∀ {t g' : Nat} {L : Loc}, t < m → G t g' = some L → ghBel G m t g' = some L := fun h1 h2 => by simp [ghBel, h1, h2]
  have mem : ∀ {α : Type} {l : List α} {i : Nat} {x : α}, l[i]? = some x → x ∈ l := fun h => List.mem_of_getElem? h
  induction h with
  | junk v => intro _; exact .junk v
  | bool b => intro _; exact .bool b
  | int k n => intro _; exact .int k n
  | str s => intro _; exact .str s
  | nilPtr => intro _; exact .nilPtr
  | ptr t off L h => intro hb; cases hb with | ptr _ _ h' => exact .ptr t off L (g h' h)
  | rptr t g' i off L h => intro hb; cases hb with | rptr _ _ _ _ h' => exact .rptr t g' i off L (g h' h)
  | iptr cells off b o u hc hr ih => intro hb; cases hb with | iptr _ _ h' => exact .iptr cells off b o u (fun i c hi => ⟨(hc i c hi).1, fun x => (hc i c hi).2 (ho b x)⟩) (fun i c hi => ih i c hi (h' c (mem hi)))
  | nilSl => intro _; exact .nilSl
  | sl xs full b o cap sz adr u hcap hfull hadr hsz hc hr ih =>
    intro hb
    cases hb with
    | sl _ _ h' => exact .sl xs full b o cap sz adr u hcap hfull hadr hsz (fun j cs i c hj hi => ⟨(hc j cs i c hj hi).1, fun x => (hc j cs i c hj hi).2 (ho b x)⟩) (fun j cs i c hj hi => ih j cs i c hj hi (h' cs (mem hj) c (mem hi)))
  | osl t g' off len full L cap a h hcap hL hfull ha hs => intro hb; cases hb with | osl _ _ _ _ _ h' => exact .osl t g' off len full L cap a (g h' h) hcap hL hfull ha hs
  | vsl t off sz len L cap a h hcap ha hs => intro hb; cases hb with | vsl _ _ _ _ h' => exact .vsl t off sz len L cap a (g h' h) hcap ha hs
  | func f caps vs hs h ih => intro hb; cases hb with | func _ _ h' => exact .func f caps vs hs (fun i c hi => ih i c hi (h' c (mem hi)))
  | nilFunc => intro _; exact .nilFunc
  | iface ty v p h ih => intro hb; cases hb with | iface _ _ h' => exact .iface ty v p (ih h')
  | nilIface => intro _; exact .nilIface
  | agg cs vs hs h ih => intro hb; cases hb with | agg _ h' => exact .agg cs vs hs (fun i c hi => ih i c hi (h' c (mem hi)))
  | tuple cs vs hs h ih => intro hb; cases hb with | tuple _ h' => exact .tuple cs vs hs (fun i c hi => ih i c hi (h' c (mem hi)))

theorem weak_inv (hI : Inv X st G w) (hE : EnvRep G (OwnF X st G) w n ρ a) {ρ' : Env} {st' : St} (hw : Weak ρ st ρ' st') : ∃ G', Inv X st' G' w ∧ EnvRep G' (OwnF X st' G') w n ρ' a := by
  have gb : ∀ {t g : Nat} {L : Loc}, ghBel G st'.next t g = some L → t < st'.next ∧ G t g = some L := by
    intro t g L h
    unfold ghBel at h
    split at h
    · rename_i hlt; exact ⟨hlt, h⟩
    · cases h
  have bg : ∀ {t g : Nat} {L : Loc}, t < st'.next → G t g = some L → ghBel G st'.next t g = some L := fun h1 h2 => by simp [ghBel, h1, h2]
  have hlive : ∀ {t : Nat} {k : Tok}, st'.get t = some k → k.live = true → st.get t = some k := by
    intro t k h hl
    rcases (hw.toks t k h).2.2 with h1 | ⟨g, sz, es, rfl, _⟩
    · exact h1
    · cases hl
  have hown : ∀ b, Own st' (ghBel G st'.next) b → Own st G b := by
    rintro b ⟨t, k, L, h1, h2, h3, h4⟩
    exact ⟨t, k, L, hlive h1 h2, h2, (gb h3).2, h4⟩
  have hownF : ∀ b, OwnF X st' (ghBel G st'.next) b → OwnF X st G b := fun b h => h.imp id (hown b)
  have hbn := hw.next
  have hbb := hw.base
  refine ⟨ghBel G st'.next, ⟨fun t g L h => ⟨(gb h).1, (hI.low t g L (gb h).2).2⟩, hbn.1, fun t g L h => ?_, fun t k h => ?_, fun t k g L h hg => ?_, ?_, fun t g L h => ?_, fun t k h => ?_, hI.frame, fun b h => hI.ownb b (hown b h), hI.foreign⟩, hE.defers, hE.size, fun t p hp => ?_⟩
  · have := hI.old t g L h
    exact ⟨by omega, bg (by omega) this.2⟩
  · obtain ⟨hlt, hbel, hk⟩ := hw.toks t k h
    rcases hk with hk | ⟨g, sz, es, rfl, hk⟩
    · have htr := hI.toks t k hk
      cases k with
      | var cs =>
        obtain ⟨L, h1, h2, h3⟩ := htr
        exact ⟨L, bg hlt h1, h2, fun i p hi => by
          obtain ⟨v, e1, e2⟩ := h3 i p hi
          exact ⟨v, e1, rep_bel hownF e2 (hbel p (List.mem_of_getElem? hi))⟩⟩
      | row g sz es lv =>
        obtain ⟨L, h1, h2, h3, h4, h5, h6⟩ := htr
        exact ⟨L, bg hlt h1, h2, h3, h4, fun j cs hj => ⟨(h5 j cs hj).1, fun i p hi => by
          obtain ⟨v, e1, e2⟩ := (h5 j cs hj).2 i p hi
          exact ⟨v, e1, rep_bel hownF e2 (hbel cs (List.mem_of_getElem? hj) p (List.mem_of_getElem? hi))⟩⟩, fun hl ho => h6 hl (hownF _ ho)⟩
    · obtain ⟨L, h1, h2, h3, h4, h5, h6⟩ := hI.toks t _ hk
      refine ⟨L, bg hlt h1, h2, h3, h4, fun j cs hj => ⟨(h5 j cs hj).1, fun i p hi => by
          obtain ⟨v, e1, e2⟩ := (h5 j cs hj).2 i p hi
          exact ⟨v, e1, rep_bel hownF e2 (hbel cs (List.mem_of_getElem? hj) p (List.mem_of_getElem? hi))⟩⟩, fun _ ho => ?_⟩
      rcases ho with ho | ⟨t', k', L', e1, e2, e3, e4⟩
      · exact hI.f_own ho ⟨t, _, L, hk, rfl, h1, rfl⟩
      · have := hI.inj t' t k' _ L' L (hlive e1 e2) hk e2 rfl (gb e3).2 h1 e4
        subst this
        rw [h] at e1
        injection e1 with e1
        subst e1
        cases e2
  · obtain ⟨hlt, hbel, hk⟩ := hw.toks t k h
    rcases hk with hk | ⟨g', sz, es, rfl, hk⟩
    · exact hI.gens t k g L hk (gb hg).2
    · exact (hI.gens t _ g L hk (gb hg).2 : g ≤ g')
  · intro t t' k k' L L' h1 h2 l1 l2 g1 g2 he
    exact hI.inj t t' k k' L L' (hlive h1 l1) (hlive h2 l2) l1 l2 (gb g1).2 (gb g2).2 he
  · rw [hbb]
    exact hI.newg t g L (gb h).2
  · rw [hbb]
    rcases (hw.toks t k h).2.2 with h1 | ⟨g, sz, es, _, h1⟩
    · exact hI.dom t k h1
    · exact hI.dom t _ h1
  · rcases hw.env t p hp with rfl | ⟨h1, h2⟩
    · exact .junk _
    · exact rep_bel hownF (hE.reps t p h1) h2

/-! ### What is handed back -/
def resV (tmps : Array Value) : ResultVar → Sem Value
  | .tmp t => pure (tmps.getD t undef)
  | .cell x t => do loadVar t (← asAddr (tmps.getD x undef))
theorem results_eq (fn : Func) (tmps : Array Value) : results fn tmps = (do
    let vs ← fn.results.mapM (resV tmps)
    pure (if h : vs.size = 1 then vs[0] else .tuple vs)) := by
  unfold results
  congr
theorem res_run (hI : Inv X st G w) (hE : EnvRep G (OwnF X st G) w n ρ a) : ∀ {rs : List ResultVar} {ps : List PRes} {vs : List PV}, cRess P rs = some ps → mapO (res1 ρ st.get) ps = some vs →
    ∃ us : List Value, (rs.mapM (resV a.tmps)).run P w = .ok us w ∧ us.length = vs.length ∧ ∀ (i : Nat) (u : Value) (c : PV), us[i]? = some u → vs[i]? = some c → Rep G (OwnF X st G) w u c
  | [], ps, vs, h, hm => by
    injection h with h
    subst h
    injection hm with hm
    subst hm
    exact ⟨[], rfl, rfl, fun i u c h => by simp at h⟩
  | r :: rs, ps, vs, h, hm => by
    simp only [cRess] at h
    split at h
    · rename_i p ps' h1 h2
      injection h with h
      subst h
      simp only [mapO] at hm
      split at hm
      · rename_i y ys hy hys
        injection hm with hm
        subst hm
        obtain ⟨us, k1, k2, k3⟩ := res_run hI hE h2 hys
        have one : ∃ u, (resV a.tmps r).run P w = .ok u w ∧ Rep G (OwnF X st G) w u y := by
          cases r with
          | tmp t =>
            injection h1 with h1
            subst h1
            injection hy with hy
            subst hy
            exact ⟨_, rfl, hE.at t⟩
          | cell x t =>
            simp only [cRes] at h1
            split at h1
            · rename_i d i hT
              split at h1
              · rename_i hag
                injection h1 with h1
                subst h1
                simp only [res1, loadAt] at hy
                obtain ⟨⟨cs, off⟩, hb, hs⟩ := Option.bind_eq_some_iff.1 hy
                obtain ⟨b, ob, hv, hcells⟩ := behind_rep hI (hE.at x) hb
                obtain ⟨u, hu, hru⟩ := run_loadVar_cells (P := P) hT hag hcells hs
                refine ⟨u, ?_, hru⟩
                simp only [resV, hv, asAddr, Sem.run_bind, Sem.run_pure, Result.andThen_ok, hu]
              · cases h1
            · cases h1
        obtain ⟨u, e1, e2⟩ := one
        refine ⟨u :: us, ?_, by simp [k2], fun i v c hv hc => ?_⟩
        · rw [List.mapM_cons, Sem.run_bind, e1, Result.andThen_ok, Sem.run_bind, k1]
          rfl
        · cases i with
          | zero => simp at hv hc; subst hv hc; exact e2
          | succ i => exact k3 i v c (by simpa using hv) (by simpa using hc)
      · cases hm
    · cases h
theorem results_run (hI : Inv X st G w) (hE : EnvRep G (OwnF X st G) w n ρ a) {fn : Func} {ps : List PRes} (hc : cRess P fn.results.toList = some ps) {r : PV} (hr : resOf ρ st.get ps = some r) : ∃ u, (results fn a.tmps).run P w = .ok u w ∧ Rep G (OwnF X st G) w u r := by
  unfold resOf at hr
  have main : ∀ vs, mapO (res1 ρ st.get) ps = some vs → ∃ us : Array Value, (results fn a.tmps).run P w = .ok (if h : us.size = 1 then us[0] else .tuple us) w ∧ us.size = vs.length ∧ ∀ (i : Nat) (u : Value) (c : PV), us[i]? = some u → vs[i]? = some c → Rep G (OwnF X st G) w u c := by
    intro vs hvs
    obtain ⟨us, k1, k2, k3⟩ := res_run (P := P) hI hE hc hvs
    refine ⟨us.toArray, ?_, by simpa using k2, fun i u c h h' => k3 i u c (by simpa using h) h'⟩
    rw [results_eq, Sem.run_bind, Array.mapM_eq_mapM_toList, Sem.run_map, k1]
    rfl
  split at hr
  · rename_i v hv
    injection hr with hr
    subst hr
    obtain ⟨us, k1, k2, k3⟩ := main _ hv
    have h1 : us.size = 1 := by simpa using k2
    rw [dif_pos h1] at k1
    exact ⟨_, k1, k3 0 _ v (by simp) rfl⟩
  · rename_i vs hne hv
    injection hr with hr
    subst hr
    obtain ⟨us, k1, k2, k3⟩ := main _ hv
    have h1 : us.size ≠ 1 := by
      intro h
      rw [k2] at h
      match vs, h with
      | [v], _ => exact hne v rfl
    rw [dif_neg h1] at k1
    refine ⟨_, k1, .tuple vs us k2 fun i c hi => ?_⟩
    have hlt : i < us.size := by rw [k2]; exact (List.getElem?_eq_some_iff.1 hi).1
    have := k3 i us[i] c (Array.getElem?_eq_getElem hlt) hi
    rw [Array.getD_eq_getD_getElem?, Array.getElem?_eq_getElem hlt]
    exact this
  · cases hr

/-! ### The beginning of a call -/
theorem getA_envFrom (t : Nat) : ∀ (k : Nat) (args : List PV), getA t (envFrom k args) = if k ≤ t then args[t - k]? else none
  | k, [] => by simp [envFrom, getA]
  | k, p :: r => by
    simp only [envFrom, getA]
    by_cases h : k = t
    · subst h; simp
    · rw [if_neg h, getA_envFrom t (k + 1) r]
      by_cases h1 : k ≤ t
      · rw [if_pos h1, if_pos (by omega), show t - k = (t - (k + 1)) + 1 by omega]
        simp
      · rw [if_neg h1, if_neg (by omega)]
theorem env_begin {own : Nat → Prop} {vals : Array Value} {args : List PV} (hs : vals.size = args.length) (hr : ∀ (i : Nat) (c : PV), args[i]? = some c → Rep G own w (vals.getD i undef) c) {m : Nat} (hm : args.length ≤ m) :
    EnvRep G own w m (envFrom 0 args) { tmps := vals ++ Array.replicate (m - vals.size) undef, defers := [] } := by
  refine ⟨rfl, by simp; omega, fun t p hp => ?_⟩
  rw [getA_envFrom, if_pos (Nat.zero_le _), Nat.sub_zero] at hp
  have hlt : t < vals.size := by rw [hs]; exact (List.getElem?_eq_some_iff.1 hp).1
  have := hr t p hp
  rw [Array.getD_eq_getD_getElem?] at this ⊢
  rwa [Array.getElem?_append_left hlt]
end

/-! ### All together -/
def SemJ (P : Program) : J → Prop
  | .code c ρ st x ρ' st' => SemCode P c ρ st x ρ' st'
  | .ops l ρ st ρ' st' => SemOps P l ρ st ρ' st'
  | .drawn l ρ st ρ' => LexD P st l ρ ρ'
  | .call f args r => SemCall P f args r
  | .raw f args st r st' => SemRaw P f args st r st'

theorem exC_ne {x : EX} (h : x ≠ .normal) : exC x ≠ .normal := by cases x <;> simp [exC] at * 

theorem dropA_env {G : Gh} {own : Nat → Prop} {w : World} {n : Nat} {ρ : Env} {a : Act} (kill : List Nat) (h : EnvRep G own w n ρ a) : EnvRep G own w n (dropA kill ρ) a :=
  ⟨h.defers, h.size, fun t p hp => h.reps t p (by rw [getA_dropA] at hp; split at hp; (· cases hp); exact hp)⟩

theorem cOps_cons {P : Program} {ops : Array Oper} {n : Nat} {lo : List Oper} {o : POp} {l : List POp} (h : cOps P ops n lo = some (o :: l)) : ∃ O lo', lo = O :: lo' ∧ cPOp P ops n O = some o ∧ cOps P ops n lo' = some l := by
  cases lo with
  | nil => injection h with h; cases h
  | cons O lo' =>
    simp only [cOps] at h
    split at h
    · rename_i p ps h1 h2
      injection h with h
      injection h with h3 h4
      subst h3 h4
      exact ⟨O, lo', rfl, h1, h2⟩
    · cases h

def CodeInv (P : Program) (n : Nat) (kill : Nat → List Nat) (gc : Code) : PC → Prop
  | .skip => gc = .skip
  | .ops l k => ∃ id ops, gc = .region id ops false ∧ cOps P ops n ops.toList = some l ∧ k = kill id
  | .drawn l k => ∃ id ops, gc = .region id ops true ∧ cOps P ops n ops.toList = some l ∧ k = kill id ∧ P.follows .mixedOrders = true ∧ Region.lexB .any ops = true ∧ tmpsOk ops ops.toList l = true
  | .seq x y => ∃ a b, gc = .seq a b ∧ cCode P n kill a = some x ∧ cCode P n kill b = some y
  | .cond z x y => ∃ c a b, gc = .cond c a b ∧ cOpd c = some z ∧ cCode P n kill a = some x ∧ cCode P n kill b = some y
  | .block id x => ∃ c, gc = .block id c ∧ cCode P n kill c = some x
  | .loop x => ∃ c, gc = .loop c ∧ cCode P n kill c = some x
  | .exit id => gc = .exit id
  | .ret => gc = .ret
theorem cCode_inv {P : Program} {n : Nat} {kill : Nat → List Nat} {gc : Code} {pc : PC} (h : cCode P n kill gc = some pc) : CodeInv P n kill gc pc := by
  cases gc with
  | skip => injection h with h; subst h; rfl
  | region id ops draw =>
    simp only [cCode] at h
    split at h
    · rename_i l hl
      cases draw with
      | true =>
        simp only [if_true] at h
        split at h
        · rename_i hc
          injection h with h
          subst h
          exact ⟨id, ops, rfl, hl, rfl, hc.1, hc.2.1, hc.2.2⟩
        · cases h
      | false =>
        simp only [Bool.false_eq_true, if_false] at h
        injection h with h
        subst h
        exact ⟨id, ops, rfl, hl, rfl⟩
    · cases h
  | seq a b =>
    simp only [cCode] at h
    split at h
    · rename_i x y h1 h2
      injection h with h
      subst h
      exact ⟨a, b, rfl, h1, h2⟩
    · cases h
  | cond c a b =>
    simp only [cCode] at h
    split at h
    · rename_i z x y h1 h2 h3
      injection h with h
      subst h
      exact ⟨c, a, b, rfl, h1, h2, h3⟩
    · cases h
  | block id c =>
    obtain ⟨x, h1, rfl⟩ := Option.map_eq_some_iff.1 h
    exact ⟨c, rfl, h1⟩
  | loop c =>
    obtain ⟨x, h1, rfl⟩ := Option.map_eq_some_iff.1 h
    exact ⟨c, rfl, h1⟩
  | exit id => injection h with h; subst h; rfl
  | ret => injection h with h; subst h; rfl
  | _ => cases h

theorem run_sound {P : Program} {tbl : Nat → Option PF} {prim ext : Nat → List PV → PV → Prop} (htbl : ∀ f pf, tbl f = some pf → FnOK P f pf) (hprim : ∀ f args r, prim f args r → SemCall P f args r) (hext : ∀ f args r, ext f args r → SemExt P f args r) {j : J} (h : Run tbl prim ext j) : SemJ P j := by
  induction h with
  | skip ρ st =>
    intro n kill gc hc X G w a hI hE
    obtain rfl : gc = .skip := cCode_inv hc
    exact ⟨wp_skip ⟨rfl, G, hI, hE⟩, fun c0 h => by cases h⟩
  | exit id ρ st =>
    intro n kill gc hc X G w a hI hE
    obtain rfl : gc = .exit id := cCode_inv hc
    exact ⟨wp_exit ⟨rfl, G, hI, hE⟩, fun c0 h => by cases h⟩
  | ret ρ st =>
    intro n kill gc hc X G w a hI hE
    obtain rfl : gc = .ret := cCode_inv hc
    exact ⟨wp_ret ⟨rfl, G, hI, hE⟩, fun c0 h => by cases h⟩
  | ops l kill ρ st ρ' st' h ih =>
    intro n kl gc hc X G w a hI hE
    obtain ⟨id, ops, rfl, h1, rfl⟩ := cCode_inv hc
    exact ⟨wp_region_list (ih n ops ops.toList h1 X G w a _ hI hE (fun G' w' a' k1 k2 => ⟨rfl, G', k1, dropA_env _ k2⟩)), fun c0 h => by cases h⟩
  | drawn l kill ρ st ρ' h ih =>
    intro n kl gc hc X G w a hI hE
    obtain ⟨id, ops, rfl, h1, rfl, h2, h3, h4⟩ := cCode_inv hc
    exact ⟨wp_drawn h2 h3 h4 h1 hI hE ih (fun a' w' k1 k2 => ⟨rfl, G, k1, dropA_env _ k2⟩), fun c0 h => by cases h⟩
  | seqN c d ρ st ρ1 st1 x ρ' st' h k ih1 ih2 =>
    intro n kl gc hc X G w a hI hE
    obtain ⟨c1, d1, rfl, h1, h2⟩ := cCode_inv hc
    refine ⟨wp_seq (wp_mono (ih1 n kl c1 h1 X G w a hI hE).1 fun e a1 w1 hp => ?_), fun c0 h => by cases h⟩
    obtain ⟨rfl, G1, k1, k2⟩ := hp
    exact (ih2 n kl d1 h2 X G1 w1 a1 k1 k2).1
  | seqX c d ρ st x ρ' st' hx h ih =>
    intro n kl gc hc X G w a hI hE
    obtain ⟨c1, d1, rfl, h1, h2⟩ := cCode_inv hc
    refine ⟨wp_seq (wp_mono (ih n kl c1 h1 X G w a hI hE).1 fun e a1 w1 hp => ?_), fun c0 h => by cases h⟩
    have he := hp.1
    cases x with
    | normal => exact absurd rfl hx
    | exit id => subst he; exact hp
    | ret => subst he; exact hp
  | cond c x y ρ st t ex ρ' st' hcv h ih =>
    intro n kl gc hc X G w a hI hE
    obtain ⟨c1, a1, b1, rfl, h1, h2, h3⟩ := cCode_inv hc
    have hr := opd_rep hE h1
    rw [hcv] at hr
    refine ⟨wp_cond (rep_bool hr) ?_, fun c0 h => by cases h⟩
    cases t with
    | true => exact (ih n kl a1 h2 X G w a hI hE).1
    | false => exact (ih n kl b1 h3 X G w a hI hE).1
  | block id c ρ st x ρ' st' h ih =>
    intro n kl gc hc X G w a hI hE
    obtain ⟨c1, rfl, h1⟩ := cCode_inv hc
    refine ⟨wp_block (wp_mono (ih n kl c1 h1 X G w a hI hE).1 fun e a1 w1 hp => ?_), fun c0 h => by cases h⟩
    obtain ⟨rfl, G1, k1, k2⟩ := hp
    cases x with
    | normal => exact ⟨by simp [exC], G1, k1, k2⟩
    | ret => exact ⟨by simp [exC], G1, k1, k2⟩
    | exit id' =>
      simp only [exC, Exit.inBlock]
      by_cases hid : id' = id
      · subst hid
        rw [if_pos rfl]
        exact ⟨by simp [exC], G1, k1, k2⟩
      · rw [if_neg hid]
        exact ⟨by simp [hid, exC], G1, k1, k2⟩
  | loopN c ρ st ρ1 st1 x ρ' st' h k ih1 ih2 =>
    intro n kl gc hc X G w a hI hE
    have hc0 := hc
    obtain ⟨c1, rfl, h1⟩ := cCode_inv hc
    have key : wpIn P c1 (PostC X n x ρ' st') a w := wpIn_unroll (wp_mono (ih1 n kl c1 h1 X G w a hI hE).1 fun e a1 w1 hp => by
      obtain ⟨rfl, G1, k1, k2⟩ := hp
      exact (ih2 n kl (.loop c1) hc0 X G1 w1 a1 k1 k2).2 c1 rfl)
    exact ⟨wp_of_wpIn key, fun c0 h => by injection h with h; subst h; exact key⟩
  | loopX c ρ st x ρ' st' hx h ih =>
    intro n kl gc hc X G w a hI hE
    obtain ⟨c1, rfl, h1⟩ := cCode_inv hc
    have key : wpIn P c1 (PostC X n x ρ' st') a w := wpIn_unroll (wp_mono (ih n kl c1 h1 X G w a hI hE).1 fun e a1 w1 hp => by
      have he := hp.1
      cases x with
      | normal => exact absurd rfl hx
      | exit id => subst he; exact hp
      | ret => subst he; exact hp)
    exact ⟨wp_of_wpIn key, fun c0 h => by injection h with h; subst h; exact key⟩
  | weak c ρ st ρ1 st1 x ρ' st' hw h ih =>
    intro n kl gc hc X G w a hI hE
    obtain ⟨G1, k1, k2⟩ := weak_inv hI hE hw
    exact ih n kl gc hc X G1 w a k1 k2
  | opsNil ρ st =>
    intro n ops lo hc X G w a Q hI hE hQ
    have : lo = [] := by
      have := (cOps_get hc).1
      exact List.eq_nil_of_length_eq_zero (by simpa using this)
    subst this
    exact wpList_nil (hQ G w a hI hE)
  | opsSkip o l ρ st ρ' st' hg h ih =>
    intro n ops lo hc X G w a Q hI hE hQ
    obtain ⟨O, lo', rfl, h1, h2⟩ := cOps_cons hc
    obtain ⟨e1, e2, e3, e4⟩ := cPOp_spec h1
    refine wpList_step fun K hK => ?_
    rw [gd_wanted hE e1 hg]
    simp only [Bool.false_eq_true, if_false]
    refine hK _ _ (ih n ops lo' h2 X G w _ Q hI ?_ hQ)
    rw [e3]
    exact hE.put (dst_lt e4) undef_rep
  | opsQuiet o l ρ st p ρ' st' hg hq h ih =>
    intro n ops lo hc X G w a Q hI hE hQ
    obtain ⟨O, lo', rfl, h1, h2⟩ := cOps_cons hc
    obtain ⟨e1, e2, e3, e4⟩ := cPOp_spec h1
    refine wpList_step fun K hK => ?_
    rw [gd_wanted hE e1 hg]
    simp only [if_true]
    refine wp_lok hE e3.symm (by rw [e3]; exact e4) (((step_sound hI hE e2).1 p hq).lok hI) fun G' w' a' k1 k2 => hK _ _ (ih n ops lo' h2 X G' w' a' Q k1 k2 hQ)
  | opsLoud o l ρ st p st1 ρ' st' hg hq h ih =>
    intro n ops lo hc X G w a Q hI hE hQ
    obtain ⟨O, lo', rfl, h1, h2⟩ := cOps_cons hc
    obtain ⟨e1, e2, e3, e4⟩ := cPOp_spec h1
    refine wpList_step fun K hK => ?_
    rw [gd_wanted hE e1 hg]
    simp only [if_true]
    refine wp_lok hE e3.symm (by rw [e3]; exact e4) ((step_sound hI hE e2).2 p st1 hq) fun G' w' a' k1 k2 => hK _ _ (ih n ops lo' h2 X G' w' a' Q k1 k2 hQ)
  | opsCall o l ρ st f xs g caps args r ρ' st' hg ho hf hv hcall h ihc ih =>
    intro n ops lo hc X G w a Q hI hE hQ
    obtain ⟨O, lo', rfl, h1, h2⟩ := cOps_cons hc
    obtain ⟨e1, e2, e3, e4⟩ := cPOp_spec h1
    refine wpList_step fun K hK => ?_
    rw [gd_wanted hE e1 hg]
    simp only [if_true]
    rw [ho] at e2
    exact wp_call hI hE e3.symm (by rw [e3]; exact e4) e2 hf ihc (.inl hv) fun w' a' k1 k2 => hK _ _ (ih n ops lo' h2 X G w' a' Q k1 k2 hQ)
  | opsCallS o l ρ st f xs g caps args r ρ' st' hg ho hf hv hr hcall h ihc ih =>
    intro n ops lo hc X G w a Q hI hE hQ
    obtain ⟨O, lo', rfl, h1, h2⟩ := cOps_cons hc
    obtain ⟨e1, e2, e3, e4⟩ := cPOp_spec h1
    refine wpList_step fun K hK => ?_
    rw [gd_wanted hE e1 hg]
    simp only [if_true]
    rw [ho] at e2
    exact wp_call hI hE e3.symm (by rw [e3]; exact e4) e2 hf ihc (.inr ⟨hv, hr⟩) fun w' a' k1 k2 => hK _ _ (ih n ops lo' h2 X G w' a' Q k1 k2 hQ)
  | opsExt o l ρ st f xs g caps args r ρ' st' hg ho hf hv hr hcall h ih =>
    intro n ops lo hc X G w a Q hI hE hQ
    obtain ⟨O, lo', rfl, h1, h2⟩ := cOps_cons hc
    obtain ⟨e1, e2, e3, e4⟩ := cPOp_spec h1
    refine wpList_step fun K hK => ?_
    rw [gd_wanted hE e1 hg]
    simp only [if_true]
    rw [ho] at e2
    exact wp_ext hI hE e3.symm (by rw [e3]; exact e4) e2 hf (hext _ _ _ hcall) hv hr fun G' w' a' k1 k2 => hK _ _ (ih n ops lo' h2 X G' w' a' Q k1 k2 hQ)
  | opsRaw o l ρ st f xs g caps q τ r st1 ρ' st' hg ho hf hp hb hcall h ihc ih =>
    intro n ops lo hc X G w a Q hI hE hQ
    obtain ⟨O, lo', rfl, h1, h2⟩ := cOps_cons hc
    obtain ⟨e1, e2, e3, e4⟩ := cPOp_spec h1
    refine wpList_step fun K hK => ?_
    rw [gd_wanted hE e1 hg]
    simp only [if_true]
    rw [ho] at e2
    exact wp_raw hI hE e3.symm (by rw [e3]; exact e4) e2 hf hp hb ihc fun G' w' a' k1 k2 => hK _ _ (ih n ops lo' h2 X G' w' a' Q k1 k2 hQ)
  | drawnNil ρ st => exact rfl
  | drawnSkip o l ρ st ρ' hg h ih => exact ⟨_, .inl ⟨hg, rfl⟩, ih⟩
  | drawnQuiet o l ρ st p ρ' hg hq h ih => exact ⟨p, .inr ⟨hg, .inl hq⟩, ih⟩
  | drawnCall o l ρ st f xs g caps args r ρ' hg ho hf hv hcall h ihc ih => exact ⟨r, .inr ⟨hg, .inr ⟨f, xs, g, caps, args, ho, hf, ihc, .inl hv⟩⟩, ih⟩
  | drawnCallS o l ρ st f xs g caps args r ρ' hg ho hf hv hr hcall h ihc ih => exact ⟨r, .inr ⟨hg, .inr ⟨f, xs, g, caps, args, ho, hf, ihc, .inr ⟨hv, hr⟩⟩⟩, ih⟩
  | call f pf args x ρ' st' r0 r hf hn h hx hr hv ih =>
    obtain ⟨fn, c, kill, h1, h2, h3, h4, h5, h6⟩ := (htbl f pf hf).ok
    refine ⟨⟨fn, c, h1, h2, h6⟩, fun F w vals hF hs hrep => ?_⟩
    refine calls_of_wp h1 h2 ?_
    rw [h4] at hn
    have hE0 : EnvRep noG (OwnF (callCx w F) emptySt noG) w fn.ntmps (envFrom 0 args) { tmps := vals ++ Array.replicate (fn.ntmps - vals.size) undef, defers := [] } := by
      rw [ownF_empty]
      exact env_begin hs hrep hn
    refine wp_mono (ih fn.ntmps kill c h3 (callCx w F) noG w _ (inv_empty hF) hE0).1 fun e a' w' hp => ?_
    obtain ⟨rfl, G', k1, k2⟩ := hp
    obtain ⟨u, hu, hru⟩ := results_run (P := P) k1 k2 h5 hr
    have hvr := view_rep k1 (own := F) (fun b hb => .inl hb) (fun _ b hb => hb) hv hru
    have fin : a'.defers = [] ∧ ∃ v, (results fn a'.tmps).run P w' = .ok v w' ∧ ∃ u, Ending.returned v = .returned u ∧ Below w.heap.size w w' ∧ Rep noG F w' u r := ⟨k2.defers, u, hu, u, rfl, (k1.frame : Chg (fun _ => False) w w').below, hvr⟩
    rcases hx with rfl | rfl
    · exact fin
    · exact fin
  | prim f args r h => exact hprim f args r h
  | raw f pf args st x ρ' st' r hf hn h hx hr ih =>
    obtain ⟨fn, c, kill, h1, h2, h3, h4, h5, h6⟩ := (htbl f pf hf).ok
    refine ⟨⟨fn, c, h1, h2, h6⟩, fun X G w vals hI hs hrep => ?_⟩
    refine calls_of_wp h1 h2 ?_
    rw [h4] at hn
    refine wp_mono (ih fn.ntmps kill c h3 X G w _ hI (env_begin hs hrep hn)).1 fun e a' w' hp => ?_
    obtain ⟨rfl, G', k1, k2⟩ := hp
    obtain ⟨u, hu, hru⟩ := results_run (P := P) k1 k2 h5 hr
    have fin : a'.defers = [] ∧ ∃ v, (results fn a'.tmps).run P w' = .ok v w' ∧ ∃ u, Ending.returned v = .returned u ∧ ∃ G', Inv X st' G' w' ∧ Rep G' (OwnF X st' G') w' u r := ⟨k2.defers, u, hu, u, rfl, G', k1, hru⟩
    rcases hx with rfl | rfl
    · exact fin
    · exact fin
#print axioms run_sound
end Go.AM
