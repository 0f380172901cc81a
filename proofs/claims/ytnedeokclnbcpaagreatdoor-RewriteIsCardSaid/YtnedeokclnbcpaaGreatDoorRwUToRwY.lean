/- rewrite.shorter: what is within a step. · rewrite.shorter. · rewrite.shorter, rewrite.Rewrite. · The statement's few (ramblelaw20): it answers. -/
import Derived.Test.YtnedeokclnbcpaaGreatDoorRwRToRwS
import Derived.Test.YtnedeokclnbcpaaGreatDoorRwIToRwM
import Derived.Test.YtnedeokclnbcpaaGreatDoorRwPToRwA
set_option linter.unusedVariables false
set_option linter.unusedSimpArgs false
namespace Go.Proofs.YtnedeokclnbcpaaGreatDoor
open Go Go.AM Go.RowKit
def Res (n:Nat) (st:St) (v:PV) (L:List Stp):Prop:=OwnL n st v L∨SL n v L
theorem Res.keep {n:Nat} {st st':St} {v:PV} {L:List Stp} (h:Res n st v L) (hn:st.next≤st'.next) (hk:∀u, Z0g v=some u→st'.get u=st.get u):Res n st' v L:=by
 rcases h with h|h
 ·exact .inl (h.keep hn hk)
 ·exact .inr h
theorem Sh.cells {p:PV} (h:Sh p):p.cells=[p]∧p.isJunk=false:=by rcases h with rfl|⟨_, _, rfl⟩<;>exact ⟨rfl, rfl⟩
theorem SL.sh {n:Nat} {p:PV} {l:List Stp} (h:SL n p l):Sh p:=by
 rcases h with ⟨rfl, _⟩|⟨xs, f, rfl, _⟩
 ·exact .inl rfl
 ·exact .inr ⟨_, _, rfl⟩
theorem Res.cell {n:Nat} {st:St} {v:PV} {L:List Stp} (h:Res n st v L):v.cells=[v]∧PV.one v=true:=by
 rcases h with h|h
 ·rcases h with ⟨rfl, _⟩|⟨t, g, es, rfl, _⟩<;>exact ⟨rfl, rfl⟩
 ·exact ⟨(SL.sh h).cells.1, (SL.sh h).one⟩
def Zni (n:Nat):Prop:=∀(l:List Stp) (p:PV) (F:List Nat) (st:St), OT n st p l F→okL l=true→bdL l→Fsh 0 F st→
 ∃v' st', T.R (.raw Zky [p] ⟨st.next, st.next, st.toks⟩ v' st')∧Res n st' v' (rwL l)∧st'.base=st.next∧st.next≤st'.next∧(∀u, Z0g v'=some u→st.next≤u)∧∀u, u<st.next→u∉F→st'.get u=st.get u
theorem rwLL_get:∀(op:Int) (k:Nat) (subs:List (List Stp)) (j:Nat) (l:List Stp), subs[j]?=some l→(Zbb op k subs)[j]?=some (if askB op (k+j) then trimS (rwL l) else rwL l)
 |op, k, [], j, l, h=>by simp at h
 |op, k, x::r, 0, l, h=>by
  simp at h
  subst h
  rw [Zbb]
  rfl
 |op, k, x::r, j+1, l, h=>by
  rw [Zbb, List.getElem?_cons_succ, rwLL_get op (k+1) r j l (by simpa using h)]
  have e:k+1+j=k+(j+1):=by omega
  rw [e]
theorem ld1 {look:Nat→Option Tok} {t g i:Nat} {es:List (List PV)} {lv:Bool} {q:PV} (hg:look t=some (.row g 1 es lv)) (hc:es[i]?=some [q]):loadAt look 1 false (.rptr t g i 0)=some q:=by
 simp only [loadAt, behind, hg, if_true, hc, Option.map_some, Option.bind_some, slice?]
 rfl
theorem storeEl {st:St} {t g i:Nat} {es:List (List PV)} {q v:PV} (hg:st.get t=some (.row g 1 es true)) (hc:es[i]?=some [q]) (hv:v.cells=[v]) (h1:PV.one v=true) {e:EC} {a x:Opd} (ha:a.get e=some (.rptr t g i 0)) (hx:x.get e=some v):Z13 st e (.store 1 a x)=some (.tuple [], st.put t (.row g 1 (es.set i [v]) true)):=by
 simp only [Z13, ha, hx, hv]
 rw [if_pos ⟨by simp [h1], rfl, by decide⟩]
 simp only [storeAt, hg, if_true, hc, hv]
 rw [if_pos (by simp)]
 simp [Zad]
def SubsI (n:Nat) (st:St) (t g:Nat) (subs done:List (List Stp)) (k:Nat) (Fs:List (List Nat)):Prop:=
 ∃es, st.get t=some (.row g 1 es true)∧es.length=subs.length∧(∀(j:Nat) (l:List Stp) (cs:List PV), j<k→done[j]?=some l→es[j]?=some cs→∃q, cs=[q]∧SL n q l)∧∀(j:Nat) (l:List Stp) (cs:List PV) (G:List Nat), k≤j→subs[j]?=some l→es[j]?=some cs→Fs[j]?=some G→∃q, cs=[q]∧OT n st q l G
theorem row_plain {n:Nat} {st:St} {b t g k:Nat} {es:List (List PV)} {v:PV} {L:List Stp} (hr:Res n st v L) (hg:st.get t=some (.row g 1 (es.set k [v]) true)) (hk:k<es.length) (ht:t<b) (hb:∀u, Z0g v=some u→b≤u) (hL:L.length≤134217729):
  ∃S' q, SL n q L∧S'.get t=some (.row g 1 (es.set k [q]) true)∧S'.base=st.base∧S'.next=st.next∧(∀u, u<b→u≠t→S'.get u=st.get u)∧∀ {Q:Z6k} {kk k':List Fr} {x:EX} {ρ:EC} {c:PC}, Zs 200 kk x=(.code c::k', .normal)→Zs 200 (.code c::k') .normal=(.code c::k', .normal)→V T Q (.code c::k') .normal ρ S'→V T Q kk x ρ st:=by
 have triv:SL n v L→∃S' q, SL n q L∧S'.get t=some (.row g 1 (es.set k [q]) true)∧S'.base=st.base∧S'.next=st.next∧(∀u, u<b→u≠t→S'.get u=st.get u)∧∀ {Q:Z6k} {kk k':List Fr} {x:EX} {ρ:EC} {c:PC}, Zs 200 kk x=(.code c::k', .normal)→Zs 200 (.code c::k') .normal=(.code c::k', .normal)→V T Q (.code c::k') .normal ρ S'→V T Q kk x ρ st:=
  fun h=>⟨st, v, h, hg, rfl, rfl, fun _ _ _=>rfl, fun {Q kk k' x ρ c} ha _ h=>Z5j ha h⟩
 rcases hr with hr|hr
 ·rcases hr.plain (by omega) with ⟨rfl, rfl⟩|⟨t1, g1, es1, q, k1, k2, k3, k4, k5⟩
  ·exact triv (.inl ⟨rfl, rfl⟩)
  ·have hb1:=hb t1 k1
   obtain ⟨S1, hS1⟩:∃S, st.put t1 (.row g1 6 es1 false)=S:=⟨_, rfl⟩
   have g1':S1.get t=some (.row g 1 (es.set k [v]) true):=by rw [←hS1];exact (St.get_put_old (by omega)).trans hg
   obtain ⟨S2, hS2⟩:∃S, S1.put t (.row g 1 (es.set k [q]) true)=S:=⟨_, rfl⟩
   refine ⟨S2, q, k3, by rw [←hS2];exact St.get_put, by rw [←hS2, ←hS1];rfl, by rw [←hS2, ←hS1];rfl, fun u hu hne=>by rw [←hS2, ←hS1];exact (St.get_put_old (fun e=>hne e.symm)).trans (St.get_put_old (by omega)), fun {Q kk k' x ρ c} ha ha2 h=>?_⟩
   refine Znh k2 hS1 ha ?_
   refine V_lookRowE g1' (by simp) (fun j cs ds e1 e2=>?_) hS2 ha2 h
   by_cases hj:k=j
   ·subst hj
    rw [List.getElem?_set_self hk] at e1 e2
    simp at e1 e2
    subst e1 e2
    refine ⟨rfl, fun i c d h1 h2=>?_⟩
    match i, h1, h2 with
    |0, h1, h2=>simp at h1 h2;subst h1 h2;exact k5 _ hS1
    |i+1, h1, h2=>simp at h1
   ·rw [List.getElem?_set_ne hj] at e1 e2
    rw [e1] at e2
    injection e2 with e2
    subst e2
    exact ⟨rfl, fun i c d h1 h2=>.inl (by rw [h1] at h2;injection h2)⟩
 ·exact triv hr
theorem Zoc:∀ {subs:List (List Stp)}, Ze7 subs=true→∀ {l:List Stp}, l∈subs→okL l=true
 |[], _, l, hl=>by cases hl
 |x::r, h, l, hl=>by
  unfold Ze7 at h
  simp only [Bool.and_eq_true] at h
  rcases List.mem_cons.1 hl with rfl|hl
  ·unfold okL
   simp only [Bool.and_eq_true]
   exact h.1
  ·exact Zoc h.2 hl
theorem nodup_mem {l:List (List Nat)} (h:l.flatten.Nodup):∀ {i:Nat} {G:List Nat}, l[i]?=some G→G.Nodup:=by
 induction l with
 |nil=>intro i G e;simp at e
 |cons x r ih=>
  rw [List.flatten_cons] at h
  obtain ⟨h1, h2, _⟩:=List.nodup_append.1 h
  intro i G e
  match i, e with
  |0, e=>simp at e;subst e;exact h1
  |i+1, e=>exact ih h2 (by simpa using e)
theorem Zof {l:List (List Nat)} (h:l.flatten.Nodup):∀ {i j:Nat} {G H:List Nat}, l[i]?=some G→l[j]?=some H→i≠j→∀u∈G, u∉H:=by
 induction l with
 |nil=>intro i j G H e1;simp at e1
 |cons x r ih=>
  rw [List.flatten_cons] at h
  obtain ⟨h1, h2, h3⟩:=List.nodup_append.1 h
  intro i j G H e1 e2 hne u hu hu'
  match i, j, e1, e2, hne with
  |0, 0, _, _, hne=>exact hne rfl
  |0, j+1, e1, e2, _=>
   simp at e1 e2
   subst e1
   exact h3 u hu u (Z6n e2 hu') rfl
  |i+1, 0, e1, e2, _=>
   simp at e1 e2
   subst e2
   exact h3 u hu' u (Z6n e1 hu) rfl
  |i+1, j+1, e1, e2, hne=>
   simp at e1 e2
   exact ih h2 e1 e2 (by omega) u hu hu'
theorem SubsI.step {n:Nat} {st st':St} {t g k:Nat} {subs done:List (List Stp)} {Fs:List (List Nat)} {es:List (List PV)} {q:PV} {l:List Stp} (hl:es.length=subs.length)
  (h1:∀(j:Nat) (l:List Stp) (cs:List PV), j<k→done[j]?=some l→es[j]?=some cs→∃q, cs=[q]∧SL n q l)
  (h2:∀(j:Nat) (l:List Stp) (cs:List PV) (G:List Nat), k≤j→subs[j]?=some l→es[j]?=some cs→Fs[j]?=some G→∃q, cs=[q]∧OT n st q l G)
  (hg:st'.get t=some (.row g 1 (es.set k [q]) true)) (hn:st.next≤st'.next) (hk:k<es.length) (hd:done[k]?=some l) (hq:SL n q l) (hkeep:∀(j:Nat) (G:List Nat), k<j→Fs[j]?=some G→∀u∈G, st'.get u=st.get u):SubsI n st' t g subs done (k+1) Fs:=by
 refine ⟨_, hg, by simpa using hl, fun j x cs hj e1 e2=>?_, fun j x cs G hj e1 e2 e3=>?_⟩
 ·by_cases hjk:k=j
  ·subst hjk
   rw [List.getElem?_set_self hk] at e2
   rw [hd] at e1
   injection e1 with e1
   injection e2 with e2
   subst e1 e2
   exact ⟨q, rfl, hq⟩
  ·rw [List.getElem?_set_ne hjk] at e2
   exact h1 j x cs (by omega) e1 e2
 ·rw [List.getElem?_set_ne (by omega)] at e2
  obtain ⟨w, e, hw⟩:=h2 j x cs G (by omega) e1 e2 e3
  exact ⟨w, e, hw.keep n hn (hkeep j G (by omega) e3)⟩
set_option maxHeartbeats 8000000 in
theorem ssubs_loop {n:Nat} (ihs:Zni n) {subs:List (List Stp)} (hb:subs.length≤32) (hok:Ze7 subs=true) (hcn:bdLL subs) {Fs:List (List Nat)} (hFs:Fs.length=subs.length) {t g m:Nat} {op:Int} {v p L I pa pb pc pd:PV} (hnd:(t::Fs.flatten).Nodup) (hFm:∀u∈t::Fs.flatten, u<m):∀(rest pre:List (List Stp)) (st:St), subs=pre++rest→
  st.get m=some (.var [.int .i64 op, pa, pb, pc, pd, .osl t g 0 subs.length false])→m<st.next→SubsI n st t g subs (Zbb op 0 subs) pre.length Fs→
  V T (PE fun x e st'=>x=.exit 2∧e=Ze [(3, v), (5, .ptr m 0), (8, p), (9, L), (10, I)]∧SubsI n st' t g subs (Zbb op 0 subs) subs.length Fs∧st'.get m=some (.var [.int .i64 op, pa, pb, pc, pd, .osl t g 0 subs.length false])∧st'.base=st.base∧st.next≤st'.next∧∀u, u<st.next→u∉t::Fs.flatten→st'.get u=st.get u)
   [.code (.loop Z24)] .normal (Ze [(3, v), (5, .ptr m 0), (8, p), (9, L), (10, I), (15, .osl t g 0 subs.length false), (16, .int .i64 subs.length), (17, .int .i64 pre.length)]) st:=by
 intro rest
 induction rest with
 |nil=>
  intro pre st hl hg hm hI
  have hlt:decide ((pre.length:Int)<subs.length)=false:=decide_eq_false (by subst hl;simp)
  have hI':SubsI n st t g subs (Zbb op 0 subs) subs.length Fs:=by
   have:pre.length=subs.length:=by rw [hl, List.append_nil]
   rw [←this]
   exact hI
  refine Zf ?_
  repeat' first|((with_reducible show V _ _ _ _ _ _);first|refine Z48 hlt rfl rfl ?_|refine Zr [(3, v), (5, .ptr m 0), (8, p), (9, L), (10, I)] rfl ⟨rfl, rfl, rfl, rfl, rfl, trivial⟩ ⟨rfl, rfl, hI', hg, rfl, Nat.le_refl _, fun _ _ _=>rfl⟩|refine Z1 rfl ?_)|refine Z0 rfl ?_|refine Z2 ?_
 |cons y rest ihr=>
  intro pre st hl hg hm hI
  have hlt:decide ((pre.length:Int)<subs.length)=true:=decide_eq_true (by subst hl;simp;omega)
  have hpl:pre.length<subs.length:=by subst hl;simp
  have hy:subs[pre.length]?=some y:=by subst hl;simp
  have hymem:y∈subs:=by subst hl;simp
  obtain ⟨es, ht, hes, hdone, hrest⟩:=hI
  have hke:pre.length<es.length:=by omega
  obtain ⟨G, hG⟩:∃G, Fs[pre.length]?=some G:=⟨_, List.getElem?_eq_getElem (by omega)⟩
  obtain ⟨cs0, hcs0⟩:∃cs, es[pre.length]?=some cs:=⟨_, List.getElem?_eq_getElem hke⟩
  obtain ⟨q, rfl, hq⟩:=hrest _ _ _ _ (Nat.le_refl _) hy hcs0 hG
  have hoky:okL y=true:=Zoc hok hymem
  have hcy:bdL y:=Zke hcn hymem
  have hnG:G.Nodup:=(nodup_mem (List.nodup_cons.1 hnd).2 hG)
  have hGF:∀u∈G, u∈Fs.flatten:=fun u hu=>Z6n hG hu
  have htG:t∉G:=fun h=>(List.nodup_cons.1 hnd).1 (hGF t h)
  have htm:t<m:=hFm t (List.mem_cons_self ..)
  have hGm:∀u∈G, u<m:=fun u hu=>hFm u (List.mem_cons_of_mem _ (hGF u hu))
  obtain ⟨v1, st1, c1, c2, c3, c4, c5, c6⟩:=ihs y q G st hq hoky hcy ⟨hnG, fun u hu=>⟨Nat.zero_le _, Nat.lt_trans (hGm u hu) hm⟩⟩
  obtain ⟨S1, hS1⟩:∃S:St, (⟨st.base, st1.next, st1.toks⟩:St)=S:=⟨_, rfl⟩
  have n1:st.next≤S1.next:=by rw [←hS1];exact c4
  have e1:S1.base=st.base:=by rw [←hS1]
  have k1:∀u, u<st.next→u∉G→S1.get u=st.get u:=fun u hu hn=>by rw [←hS1];exact c6 u hu hn
  have w1:Res n S1 v1 (rwL y):=c2.keep (by rw [←hS1];exact Nat.le_refl _) (fun u _=>by rw [←hS1];rfl)
  have g1:S1.get m=some (.var [.int .i64 op, pa, pb, pc, pd, .osl t g 0 subs.length false]):=(k1 m hm (fun h=>by have:=hGm m h;omega)).trans hg
  have t1:S1.get t=some (.row g 1 es true):=(k1 t (by omega) htG).trans ht
  obtain ⟨S2, hS2⟩:∃S, S1.put t (.row g 1 (es.set pre.length [v1]) true)=S:=⟨_, rfl⟩
  have t2:S2.get t=some (.row g 1 (es.set pre.length [v1]) true):=by rw [←hS2];exact St.get_put
  have n2:S2.next=S1.next:=by rw [←hS2];rfl
  have e2:S2.base=st.base:=by rw [←hS2];exact e1
  have k2:∀u, u≠t→S2.get u=S1.get u:=fun u hu=>by rw [←hS2];exact St.get_put_old (fun e=>hu e.symm)
  have w2:Res n S2 v1 (rwL y):=w1.keep (by omega) (fun u hu=>k2 u (by have:=c5 u hu;omega))
  have g2:S2.get m=some (.var [.int .i64 op, pa, pb, pc, pd, .osl t g 0 subs.length false]):=(k2 m (by omega)).trans g1
  have hlen:(rwL y).length≤134217729:=Nat.le_trans (rwL_len y) (Nat.succ_le_succ hcy.1)
  obtain ⟨S4, q1, y1, y2, y3, y4, y5, y6⟩:=row_plain w2 t2 hke (b:=st.next) (by omega) c5 hlen
  have g4:S4.get m=some (.var [.int .i64 op, pa, pb, pc, pd, .osl t g 0 subs.length false]):=(y5 m hm (by omega)).trans g2
  have k4:∀u, u<st.next→u≠t→u∉G→S4.get u=st.get u:=fun u hu hne hn=>(y5 u hu hne).trans ((k2 u hne).trans (k1 u hu hn))
  have plq1:Pl q1:=SL.pl y1
  have hak:=run_asked op pre.length
  have hw:IntKind.i64.wrap ((pre.length:Int)+1)=((pre++[y]).length:Int):=by rw [Z01];simp;omega
  have hpre1:(pre++[y]).length=pre.length+1:=by simp
  have hallm:=Zcu (Q:=fun s'=>s'.get m=some (.var [.int .i64 op, pa, pb, pc, pd, .osl t g 0 subs.length false])) (a:=st) (r:=[S1, S2]) ⟨hg, g1, g2⟩
  have hallt:=Zcu (Q:=fun s'=>∃es', s'.get t=some (.row g 1 es' true)) (a:=st) (r:=[S1, S2]) ⟨⟨_, ht⟩, ⟨_, t1⟩, ⟨_, t2⟩⟩
  have hix:∀(i:Nat) {e:EC} {x j:Opd}, x.get e=some (.osl t g 0 subs.length false)→j.get e=some (.int .i64 (pre.length:Int))→Zl ((mkC [4, 6] [some 26, none] st [S1, S2] none).S i).get e (.indexS x j 1)=some (.rptr t g pre.length 0):=fun i {e x j} hx hj=>by
   obtain ⟨es', h⟩:=hallt i
   exact Zn0 hx hj (Zld h hpl)
  have hcell:=w1.cell
  have hst2:∀ {e:EC} {a x:Opd}, a.get e=some (.rptr t g pre.length 0)→x.get e=some v1→Z13 S1 e (.store 1 a x)=some (.tuple [], S2):=fun {e a x} ha hx=>by
   rw [storeEl t1 hcs0 hcell.1 hcell.2 ha hx, hS2]
  have hfin:∀S5 q2, S5.get t=some (.row g 1 (es.set pre.length [q2]) true)→S5.get m=some (.var [.int .i64 op, pa, pb, pc, pd, .osl t g 0 subs.length false])→S5.base=st.base→S4.next≤S5.next→(∀u, u≠t→S5.get u=S4.get u)→SL n q2 (if askB op pre.length then trimS (rwL y) else rwL y)→
    V T (PE fun x e st'=>x=.exit 2∧e=Ze [(3, v), (5, .ptr m 0), (8, p), (9, L), (10, I)]∧SubsI n st' t g subs (Zbb op 0 subs) subs.length Fs∧st'.get m=some (.var [.int .i64 op, pa, pb, pc, pd, .osl t g 0 subs.length false])∧st'.base=st.base∧st.next≤st'.next∧∀u, u<st.next→u∉t::Fs.flatten→st'.get u=st.get u)
     [.code (.loop Z24)] .normal (Ze [(3, v), (5, .ptr m 0), (8, p), (9, L), (10, I), (15, .osl t g 0 subs.length false), (16, .int .i64 subs.length), (17, .int .i64 ((pre++[y]).length:Int))]) S5:=fun S5 q2 a1 a2 a3 a4 a5 a6=>by
   have hd:(Zbb op 0 subs)[pre.length]?=some (if askB op pre.length then trimS (rwL y) else rwL y):=by
    rw [rwLL_get op 0 subs _ _ hy, Nat.zero_add]
   have hI5:SubsI n S5 t g subs (Zbb op 0 subs) (pre++[y]).length Fs:=by
    rw [hpre1]
    refine SubsI.step hes hdone hrest a1 (by omega) hke hd a6 (fun j H hj hH u hu=>?_)
    have huF:=Z6n hH hu
    have hut:u≠t:=fun e=>(List.nodup_cons.1 hnd).1 (e ▸ huF)
    have hum:=hFm u (List.mem_cons_of_mem _ huF)
    exact (a5 u hut).trans (k4 u (by omega) hut (Zof (List.nodup_cons.1 hnd).2 hH hG (by omega) u hu))
   refine Z3w (ihr (pre++[y]) S5 (by rw [hl];simp) a2 (by omega) hI5) ?_
   rintro x e st' ⟨rfl, rfl, z1, z2, z3, z4, z5⟩
   refine ⟨rfl, rfl, z1, z2, z3.trans a3, by omega, fun u hu hn=>(z5 u (by omega) hn).trans ((a5 u fun e=>hn (e ▸ List.mem_cons_self ..)).trans (k4 u hu (fun e=>hn (e ▸ List.mem_cons_self ..)) fun h=>hn (List.mem_cons_of_mem _ (hGF u h))))⟩
  cases hask:askB op pre.length with
  |false=>
   rw [hask] at hak
   have hi:=hfin S4 q1 y2 g4 (y3.trans e2) (Nat.le_refl _) (fun _ _=>rfl) (by rw [hask];exact y1)
   refine Zf ?_
   repeat' first|((with_reducible show V _ _ _ _ _ _);first|refine Z15 hlt rfl rfl ?_|refine V_C (mkC [4, 6] [some 26, none] st [S1, S2] none) rfl rfl ?_|refine Z7z rfl hi ⟨rfl, rfl, rfl, rfl, rfl, rfl, rfl, Z04 hw, trivial⟩|refine Z1 rfl ?_|refine Z9 rfl rfl ?_)|((with_reducible show VO _ _ _ _ _ _ _);first|refine Z0 (Zn0 rfl rfl (Zld ht hpl)) ?_|refine Z0 (Zl3 rfl (ld1 ht hcs0)) ?_|refine Z81 rfl g4 rfl ?_|refine Z5 rfl rfl hak ?_|refine Z0 rfl ?_|refine Z2 ?_)|((with_reducible show Go.AM.VC _ _ _ _ _ _ _ _ _ _);first|refine Znj rfl rfl rfl rfl rfl rfl rfl rfl c1 c3 hS1.symm ?_|refine Zki rfl rfl rfl rfl rfl (hst2 rfl rfl) ?_|refine Zpq rfl rfl rfl hallm rfl ?_|refine Zpp rfl rfl (fun i=>hix i rfl rfl) ?_|refine Z9z rfl rfl (fun _=>rfl) ?_|refine C_nil rfl rfl (y6 rfl rfl ?_))
  |true=>
   rw [hask] at hak
   obtain ⟨q2, r1, r2⟩:=run_Trim y1
   obtain ⟨S5, hS5⟩:∃S, S4.put t (.row g 1 (es.set pre.length [q2]) true)=S:=⟨_, rfl⟩
   have t5:S5.get t=some (.row g 1 (es.set pre.length [q2]) true):=by rw [←hS5];exact St.get_put
   have k5:∀u, u≠t→S5.get u=S4.get u:=fun u hu=>by rw [←hS5];exact St.get_put_old (fun e=>hu e.symm)
   have g5:S5.get m=some (.var [.int .i64 op, pa, pb, pc, pd, .osl t g 0 subs.length false]):=(k5 m (by omega)).trans g4
   have hi:=hfin S5 q2 t5 g5 (by rw [←hS5];exact y3.trans e2) (by rw [←hS5];exact Nat.le_refl _) k5 (by rw [hask];exact r2)
   have hallm4:=Zcu (Q:=fun s'=>s'.get m=some (.var [.int .i64 op, pa, pb, pc, pd, .osl t g 0 subs.length false])) (a:=S4) (r:=[S4, S4, S5]) ⟨g4, g4, g4, g5⟩
   have hallt4:=Zcu (Q:=fun s'=>∃es', s'.get t=some (.row g 1 es' true)) (a:=S4) (r:=[S4, S4, S5]) ⟨⟨_, y2⟩, ⟨_, y2⟩, ⟨_, y2⟩, ⟨_, t5⟩⟩
   have hix4:∀(i:Nat) {e:EC} {x j:Opd}, x.get e=some (.osl t g 0 subs.length false)→j.get e=some (.int .i64 (pre.length:Int))→Zl ((mkC [7, 8, 10] [some 39, some 40, none] S4 [S4, S4, S5] none).S i).get e (.indexS x j 1)=some (.rptr t g pre.length 0):=fun i {e x j} hx hj=>by
    obtain ⟨es', h⟩:=hallt4 i
    exact Zn0 hx hj (Zld h hpl)
   have hc4:(es.set pre.length [q1])[pre.length]?=some [q1]:=List.getElem?_set_self hke
   have hst5:∀ {e:EC} {a x:Opd}, a.get e=some (.rptr t g pre.length 0)→x.get e=some q2→Z13 S4 e (.store 1 a x)=some (.tuple [], S5):=fun {e a x} ha hx=>by
    rw [storeEl y2 hc4 (SL.sh r2).cells.1 (SL.sh r2).one ha hx, List.set_set, hS5]
   refine Zf ?_
   repeat' first|((with_reducible show V _ _ _ _ _ _);first|refine Z15 hlt rfl rfl ?_|refine V_C (mkC [4, 6] [some 26, none] st [S1, S2] none) rfl rfl ?_|refine V_C (mkC [7, 8, 10] [some 39, some 40, none] S4 [S4, S4, S5] none) rfl rfl ?_|refine Z7z rfl hi ⟨rfl, rfl, rfl, rfl, rfl, rfl, rfl, Z04 hw, trivial⟩|refine Z1 rfl ?_|refine Za rfl rfl ?_)|((with_reducible show VO _ _ _ _ _ _ _);first|refine Z0 (Zn0 rfl rfl (Zld ht hpl)) ?_|refine Z0 (Zl3 rfl (ld1 ht hcs0)) ?_|refine Z81 rfl g4 rfl ?_|refine Z5 rfl rfl hak ?_|refine Z0 rfl ?_|refine Z2 ?_)|((with_reducible show Go.AM.VC _ _ _ _ _ _ _ _ _ _);first|refine Znj rfl rfl rfl rfl rfl rfl rfl rfl c1 c3 hS1.symm ?_|refine Zki rfl rfl rfl rfl rfl (hst2 rfl rfl) ?_|refine Zki rfl rfl rfl rfl rfl (hst5 rfl rfl) ?_|refine Zpo rfl rfl rfl rfl rfl rfl rfl (Zl3 rfl (ld1 y2 hc4)) ?_|refine C_mcall rfl rfl rfl rfl rfl rfl rfl rfl rfl (Z0c) r1 ?_|refine Zpq rfl rfl rfl hallm rfl ?_|refine Zpq rfl rfl rfl hallm4 rfl ?_|refine Zpp rfl rfl (fun i=>hix i rfl rfl) ?_|refine Zpp rfl rfl (fun i=>hix4 i rfl rfl) ?_|refine Z9z rfl rfl (fun _=>rfl) ?_|refine C_nil rfl rfl (y6 rfl rfl ?_)|refine C_nil rfl rfl ?_)
theorem O_rawE {T:Tb} {Q:Z6k} {k:List Fr} {ρ:EC} {st S':St} {l:List POp} {kill:List Nat} {d:Option Nat} {f:Opd} {xs:List Opd} {g:Nat} {caps vals:List PV} {r:PV} {st1:St} (hc:T.R (.raw g (vals++caps) ⟨st.next, st.next, st.toks⟩ r st1)) (hb:st1.base=st.next) (hS:(⟨st.base, st1.next, st1.toks⟩:St)=S') (hf:f.get ρ=some (.func g caps)) (hx:Zqr ρ xs=some vals) (h:VO T Q l kill k (ρ.sets d r) S'):VO T Q (⟨d, none, .call f xs⟩::l) kill k ρ st:=by
 subst hS
 exact O_rawAll hc hb hf hx h
def SubsD (n:Nat) (st0 st:St) (m:Nat) (op:Int) (pa pb pc pd pe:PV) (subs:List (List Stp)) (G:List Nat):Prop:=
 st.get m=some (.var [.int .i64 op, pa, pb, pc, pd, pe])∧st.base=st0.base∧st0.next≤st.next∧(∀u, u<st0.next→u∉G→st.get u=st0.get u)∧
  ((pe=.nilSl∧subs=[])∨∃t g Fs, pe=.osl t g 0 subs.length false∧t<m∧SubsI n st t g subs (Zbb op 0 subs) subs.length Fs)
set_option maxHeartbeats 4000000 in
theorem ssubs_any {n:Nat} (ihs:Zni n) {subs:List (List Stp)} (hb:subs.length≤32) (hok:Ze7 subs=true) (hcn:bdLL subs) {m:Nat} {op:Int} {v p L I pa pb pc pd pe:PV} {G:List Nat} {st:St} (hT:OSubs (OT n) st pe subs G) (hnd:G.Nodup) (hFm:∀u∈G, u<m)
  (hg:st.get m=some (.var [.int .i64 op, pa, pb, pc, pd, pe])) (hm:m<st.next):
  V T (PE fun x e st'=>x=.exit 2∧e=Ze [(3, v), (5, .ptr m 0), (8, p), (9, L), (10, I)]∧SubsD n st st' m op pa pb pc pd pe subs G)
   [.code (.loop Z24)] .normal (Ze [(3, v), (5, .ptr m 0), (8, p), (9, L), (10, I), (15, pe), (16, .int .i64 subs.length), (17, .int .i64 0)]) st:=by
 obtain ⟨es, Fs, h1, h2, h3, rfl, h5⟩:=hT
 rcases h1 with ⟨rfl, rfl⟩|⟨t, g, rfl, k1, k2⟩
 ·have:subs=[]:=List.length_eq_zero_iff.1 (by simpa using h2.symm)
  subst this
  have hlt:decide ((0:Int)<(([]:List (List Stp)).length:Int))=false:=by decide
  refine Zf ?_
  repeat' first|((with_reducible show V _ _ _ _ _ _);first|refine Z48 hlt rfl rfl ?_|refine Zr [(3, v), (5, .ptr m 0), (8, p), (9, L), (10, I)] rfl ⟨rfl, rfl, rfl, rfl, rfl, trivial⟩ ⟨rfl, rfl, hg, rfl, Nat.le_refl _, fun _ _ _=>rfl, .inl ⟨rfl, rfl⟩⟩|refine Z1 rfl ?_)|refine Z0 rfl ?_|refine Z2 ?_
 ·have hnd':(t::Fs.flatten).Nodup:=hnd
  have hFm':∀u∈t::Fs.flatten, u<m:=hFm
  rw [h2]
  rw [h2] at hg
  have hlp:=ssubs_loop ihs hb hok hcn h3 (g:=g) (op:=op) (v:=v) (p:=p) (L:=L) (I:=I) (pa:=pa) (pb:=pb) (pc:=pc) (pd:=pd) hnd' hFm' subs [] st rfl hg hm ⟨es, k1, h2, fun j l cs hj=>by simp at hj, fun j l cs G _ e1 e2 e3=>h5 j l cs G e1 e2 e3⟩
  refine Z3w hlp ?_
  rintro x e st' ⟨rfl, rfl, z1, z2, z3, z4, z5⟩
  exact ⟨rfl, rfl, z2, z3, z4, z5, .inr ⟨t, g, Fs, rfl, hFm' t (List.mem_cons_self ..), z1⟩⟩
theorem Zn9:∀(op:Int) (k:Nat) (ls:List (List Stp)), (Zbb op k ls).length=ls.length
 |op, k, []=>by rw [Zbb]
 |op, k, l::r=>by rw [Zbb, List.length_cons, List.length_cons, Zn9 op (k+1) r]
theorem subs_plain {n:Nat} {st0 st:St} {m:Nat} {op:Int} {pa pb pc pd pe:PV} {subs:List (List Stp)} {G:List Nat} (h:SubsD n st0 st m op pa pb pc pd pe subs G) (hb:subs.length≤32) (hG:∀t, Z0g pe=some t→t∈G) (hm:m<st0.next):
  ∃S' q, LR (SubC (SC n)) q (Zbb op 0 subs)∧S'.get m=some (.var [.int .i64 op, pa, pb, pc, pd, q])∧S'.base=st0.base∧st0.next≤S'.next∧(∀u, u<m→u∉G→S'.get u=st0.get u)∧∀ {Q:Z6k} {kk k':List Fr} {x:EX} {ρ:EC} {c:PC}, Zs 200 kk x=(.code c::k', .normal)→Zs 200 (.code c::k') .normal=(.code c::k', .normal)→V T Q (.code c::k') .normal ρ S'→V T Q kk x ρ st:=by
 obtain ⟨h1, h2, h3, h4, h5⟩:=h
 rcases h5 with ⟨rfl, rfl⟩|⟨t, g, Fs, rfl, htm, hI⟩
 ·exact ⟨st, .nilSl, .inl ⟨rfl, by rw [Zbb]⟩, h1, h2, h3, fun u hu hn=>h4 u (by omega) hn, fun {Q kk k' x ρ c} ha _ h=>Z5j ha h⟩
 ·obtain ⟨es, i1, i2, i3, i4⟩:=hI
  have htG:=hG t rfl
  have hll:=Zn9 op 0 subs
  have hget:∀(j:Nat) (cs:List PV), es[j]?=some cs→∃q l, cs=[q]∧SL n q l:=fun j cs hc=>by
   have hj:j<es.length:=(List.getElem?_eq_some_iff.1 hc).1
   obtain ⟨l, hl⟩:∃l, (Zbb op 0 subs)[j]?=some l:=⟨_, List.getElem?_eq_getElem (by omega)⟩
   obtain ⟨q, e, hq⟩:=i3 j l cs (by omega) hl hc
   exact ⟨q, l, e, hq⟩
  obtain ⟨S1, hS1⟩:∃S, st.put t (.row g 1 es false)=S:=⟨_, rfl⟩
  have g1:S1.get m=some (.var [.int .i64 op, pa, pb, pc, pd, .osl t g 0 subs.length false]):=by rw [←hS1];exact (St.get_put_old (by omega)).trans h1
  have t1:S1.get t=some (.row g 1 es false):=by rw [←hS1];exact St.get_put
  obtain ⟨S2, hS2⟩:∃S, S1.put m (.var [.int .i64 op, pa, pb, pc, pd, .sl es false])=S:=⟨_, rfl⟩
  have hseen:Zq9 S1 (.osl t g 0 subs.length false) (.sl es false):=by
   have:=seen_osl (f:=false) (len:=subs.length) t1 (by omega) (fun cs hcs c hc=>by
    obtain ⟨j, hj⟩:=List.getElem?_of_mem (List.mem_of_mem_take hcs)
    obtain ⟨q, l, rfl, hq⟩:=hget j cs hj
    simp at hc
    subst hc
    exact SL.pl hq)
   rwa [List.take_of_length_le (by omega)] at this
  refine ⟨S2, .sl es false, .inr ⟨es, false, rfl, by omega, by omega, fun j l cs e1 e2=>?_⟩, by rw [←hS2];exact St.get_put, by rw [←hS2, ←hS1];exact h2, by rw [←hS2, ←hS1];exact h3, fun u hu hn=>?_, fun {Q kk k' x ρ c} ha ha2 h=>?_⟩
  ·have hj:j<es.length:=(List.getElem?_eq_some_iff.1 e2).1
   exact i3 j l cs (by omega) e1 e2
  ·have hut:t≠u:=fun e=>hn (e ▸ htG)
   rw [←hS2, ←hS1]
   exact (St.get_put_old (by omega)).trans ((St.get_put_old hut).trans (h4 u (by omega) hn))
  ·refine Znh i1 hS1 ha ?_
   refine Zlj g1 (ds:=[.int .i64 op, pa, pb, pc, pd, .sl es false]) ⟨rfl, fun i c d e1 e2=>?_⟩ hS2 ha2 h
   match i, e1, e2 with
   |0, e1, e2=>simp at e1 e2;subst e1 e2;exact .inl rfl
   |1, e1, e2=>simp at e1 e2;subst e1 e2;exact .inl rfl
   |2, e1, e2=>simp at e1 e2;subst e1 e2;exact .inl rfl
   |3, e1, e2=>simp at e1 e2;subst e1 e2;exact .inl rfl
   |4, e1, e2=>simp at e1 e2;subst e1 e2;exact .inl rfl
   |5, e1, e2=>simp at e1 e2;subst e1 e2;exact hseen
   |i+6, e1, e2=>simp at e1
set_option maxHeartbeats 8000000 in
theorem sstep_loop {n:Nat} (ihs:Zni n) {l:List Stp} (hok:Zlv l=true) (hcn:bdL l) {es:List (List PV)} {Fs:List (List Nat)} (hes:es.length=l.length) (hFs:Fs.length=l.length) {tp gp b:Nat} (hnd:(tp::Fs.flatten).Nodup) (hFb:∀u∈tp::Fs.flatten, u<b):∀(rest pre acc:List Stp) (st:St) (v:PV), l=pre++rest→
  st.get tp=some (.row gp 6 es true)→(∀(j:Nat) (s:Stp) (cs:List PV) (G:List Nat), pre.length≤j→l[j]?=some s→es[j]?=some cs→Fs[j]?=some G→StpT n st s cs G)→
  OwnL (n+1) st v acc.reverse→(∀u, Z0g v=some u→b≤u)→b≤st.next→okA acc→acc.length≤pre.length→
  V T (PE fun x e st'=>x=.exit 0∧∃v', e=Ze [(3, v')]∧OwnL (n+1) st' v' (rwA rest acc).reverse∧(∀u, Z0g v'=some u→b≤u)∧st'.base=st.base∧st.next≤st'.next∧∀u, u<b→u∉tp::Fs.flatten→st'.get u=st.get u)
   [.code (.loop Z8g)] .normal (Ze [(3, v), (8, .osl tp gp 0 l.length false), (9, .int .i64 l.length), (10, .int .i64 pre.length)]) st:=by
 have hbig:=hcn.1
 intro rest
 induction rest with
 |nil=>
  intro pre acc st v hl htp hel hv hvb hbn hacc hlen
  have hlt:decide ((pre.length:Int)<l.length)=false:=decide_eq_false (by subst hl;simp)
  have hv':OwnL (n+1) st v (rwA [] acc).reverse:=by rw [rwA];exact hv
  refine Zf ?_
  repeat' first|((with_reducible show V _ _ _ _ _ _);first|refine Z48 hlt rfl rfl ?_|refine Zr [(3, v)] rfl ⟨rfl, trivial⟩ ⟨rfl, v, rfl, hv', hvb, rfl, Nat.le_refl _, fun _ _ _=>rfl⟩|refine Z1 rfl ?_)|refine Z0 rfl ?_|refine Z2 ?_
 |cons y rest ihr=>
  intro pre acc st v hl htp hel hv hvb hbn hacc hlen
  have hlt:decide ((pre.length:Int)<l.length)=true:=decide_eq_true (by subst hl;simp;omega)
  have hpl:pre.length<l.length:=by subst hl;simp
  have hy:l[pre.length]?=some y:=by subst hl;simp
  have hymem:y∈l:=by subst hl;simp
  have hoky:=Zjp hok hymem
  have hokr:=rwS_ok y hoky
  have hcy:=Zpi hcn.2 hymem
  obtain ⟨G, hG⟩:∃G, Fs[pre.length]?=some G:=⟨_, List.getElem?_eq_getElem (by omega)⟩
  obtain ⟨cs, hcs⟩:∃cs, es[pre.length]?=some cs:=⟨_, List.getElem?_eq_getElem (by omega)⟩
  have hS:=hel _ _ _ _ (Nat.le_refl _) hy hcs hG
  have hnG:G.Nodup:=nodup_mem (List.nodup_cons.1 hnd).2 hG
  have hGF:∀u∈G, u∈Fs.flatten:=fun u hu=>Z6n hG hu
  have hGb:∀u∈G, u<b:=fun u hu=>hFb u (List.mem_cons_of_mem _ (hGF u hu))
  have htpG:tp∉G:=fun h=>(List.nodup_cons.1 hnd).1 (hGF tp h)
  have htpb:tp<b:=hFb tp (List.mem_cons_self ..)
  obtain ⟨op, names, nums, preds, vals, subs⟩:=y
  obtain ⟨io, pa, pb, pc, pd, pe, rfl, ha, hb, hc, hd, he⟩:=hS
  simp only [Stp.op, Stp.names, Stp.nums, Stp.preds, Stp.vals, Stp.subs] at io ha hb hc hd he
  have hokk:=hoky
  unfold okS at hokk
  simp only [Bool.and_eq_true] at hokk
  obtain ⟨hst, hsub⟩:=hokk
  obtain ⟨_, _, _, _, b5, _, _⟩:=Zir hst
  have pla:Pl pa:=ha.pl fun _ _ _ h=>h.pl
  have plb:Pl pb:=hb.pl fun _ _ _ h=>h.pl
  have plc:Pl pc:=hc.pl fun _ _ _ h=>h.pl
  have pld:Pl pd:=hd.pl fun _ _ _ h=>h.pl
  obtain ⟨le1, le2, le3, _, _⟩:=TR.shape (osubs_tr.1 he)
  have hone:∀c∈[PV.int .i64 op, pa, pb, pc, pd, pe], PV.one c=true:=by
   simp only [List.mem_cons, List.not_mem_nil, or_false, forall_eq_or_imp, forall_eq, (Z3i ha).one, (Z3i hb).one, (Z3i hc).one, (Z3i hd).one, le3, and_self, and_true]
   rfl
  obtain ⟨m, hmm⟩:∃m, st.next=m:=⟨_, rfl⟩
  obtain ⟨S1, hS1⟩:∃S, st.new (.var z6)=S:=⟨_, rfl⟩
  have a1:S1.get m=some (.var z6):=by rw [←hS1, ←hmm];exact St.get_new
  have n1:S1.next=m+1:=by rw [←hS1, ←hmm];rfl
  have k1:∀u, u<m→S1.get u=st.get u:=fun u hu=>by rw [←hS1];exact St.get_new_old (by omega)
  obtain ⟨S2, hS2⟩:∃S, S1.put m (.var [.int .i64 op, pa, pb, pc, pd, pe])=S:=⟨_, rfl⟩
  have a2:S2.get m=some (.var [.int .i64 op, pa, pb, pc, pd, pe]):=by rw [←hS2];exact St.get_put
  have n2:S2.next=m+1:=by rw [←hS2];exact n1
  have e2:S2.base=st.base:=by rw [←hS2, ←hS1];rfl
  have k2:∀u, u<m→S2.get u=st.get u:=fun u hu=>by rw [←hS2];exact (St.get_put_old (by omega)).trans (k1 u hu)
  have he2:OSubs (OT n) S2 pe subs G:=osubs_tr.2 (TR.keep (SubT.mono n) (osubs_tr.1 he) (by omega) (fun u hu=>k2 u (by have:=hGb u hu;omega)))
  have hlp:=ssubs_any ihs b5 hsub (by rw [bdS] at hcy;exact hcy) (v:=v) (p:=.osl tp gp 0 l.length false) (L:=.int .i64 l.length) (I:=.int .i64 pre.length) he2 hnG (fun u hu=>by have:=hGb u hu;omega) a2 (by omega)
  have hix:Zl st.get (Ze []) (.move (.c .nilSl))=some .nilSl:=rfl
  refine Zf ?_
  repeat' first|((with_reducible show V _ _ _ _ _ _);first|refine Z15 hlt rfl rfl ?_|refine Z08 rfl hlp ⟨rfl, rfl, rfl, rfl, rfl, rfl, rfl, rfl, trivial⟩ ?_|refine Z1 rfl ?_)|((with_reducible show VO _ _ _ _ _ _ _);first|refine Z0 (Zn0 rfl rfl (Zld htp hpl)) ?_|refine Z0 (Zl3 rfl (ld_row htp hcs rfl)) ?_|refine Z0b hS1 hmm ?_|refine Z0j hS2 a1 hone rfl rfl rfl rfl rfl ?_|refine Z81 rfl a2 rfl ?_|refine Z4 rfl le1 le2 ?_|refine Z0 rfl ?_|refine Z2 ?_)
  rintro x e st5 ⟨rfl, rfl, hD⟩
  obtain ⟨S6, q, w1, w2, w3, w4, w5, w6⟩:=subs_plain hD b5 (fun t ht=>TR.mem (osubs_tr.1 he) ht) (by omega)
  have k6:∀u, u<m→u∉G→S6.get u=st.get u:=fun u hu hn=>(w5 u hu hn).trans (k2 u hu)
  have hsc:SC (n+1) (rwS (.mk op names nums preds vals subs)) [.int .i64 op, pa, pb, pc, pd, q]:=by
   rw [rwS]
   exact ⟨io, pa, pb, pc, pd, q, rfl, ha, hb, hc, hd, w1⟩
  have hvt:∀u, Z0g v=some u→u<m∧u∉G:=fun u hu=>by
   have h1:=(hv.tok hu).1
   exact ⟨by omega, fun h=>by have:=hGb u h;have:=hvb u hu;omega⟩
  have hv6:OwnL (n+1) ⟨S6.next, S6.next, S6.toks⟩ v acc.reverse:=hv.keep (show st.next≤S6.next by omega) (fun u hu=>k6 u (hvt u hu).1 (hvt u hu).2)
  have hokR:okA acc.reverse:=fun x hx=>hacc x (by simpa using hx)
  obtain ⟨v', st1, r1, r2, r3⟩:=putRaw (n:=n+1) acc.reverse.length acc.reverse (Nat.le_refl _) (by rw [List.length_reverse];omega) hokR ⟨S6.next, S6.next, S6.toks⟩ v _ _ rfl hv6 hsc hokr
  obtain ⟨S7, hS7⟩:∃S:St, (⟨S6.base, st1.next, st1.toks⟩:St)=S:=⟨_, rfl⟩
  have n7:S6.next≤S7.next:=by rw [←hS7];exact r3.2.1
  have e7:S7.base=st.base:=by rw [←hS7];exact w3.trans e2
  have k7:∀u, u<S6.next→Z0g v≠some u→S7.get u=S6.get u:=fun u hu hne=>by rw [←hS7];exact r3.2.2.2 u hu hne
  have hputF:putF acc.reverse (rwS (.mk op names nums preds vals subs))=(Zkj acc (rwS (.mk op names nums preds vals subs))).reverse:=by
   unfold putF
   rw [List.reverse_reverse]
  have hv7:OwnL (n+1) S7 v' (Zkj acc (rwS (.mk op names nums preds vals subs))).reverse:=by
   rw [←hputF]
   exact r2.keep (by rw [←hS7];exact Nat.le_refl _) (fun u _=>by rw [←hS7];rfl)
  have hvb7:∀u, Z0g v'=some u→b≤u:=fun u hu=>by
   rcases r3.2.2.1 with e|⟨t, e, h⟩
   ·exact hvb u (e ▸ hu)
   ·rw [e] at hu
    injection hu with hu
    have h':S6.next≤t:=h
    omega
  have kk:∀u, u<b→u∉G→S7.get u=st.get u:=fun u hu hn=>(k7 u (by omega) (fun e=>by have:=hvb u e;omega)).trans (k6 u (by omega) hn)
  have hw:IntKind.i64.wrap ((pre.length:Int)+1)=((pre++[Stp.mk op names nums preds vals subs]).length:Int):=by rw [Z01];simp;omega
  have hlen1:(pre++[Stp.mk op names nums preds vals subs]).length=pre.length+1:=by simp
  have hi:=ihr (pre++[.mk op names nums preds vals subs]) (Zkj acc (rwS (.mk op names nums preds vals subs))) S7 v' (by rw [hl];simp) ((kk tp htpb htpG).trans htp) (fun j s cs' H hj e1 e2 e3=>by
   rw [hlen1] at hj
   refine StpT.mono n _ _ _ _ _ (hel j s cs' H (by omega) e1 e2 e3) (by omega) fun u hu=>kk u (hFb u (List.mem_cons_of_mem _ (Z6n e3 hu))) ?_
   exact Zof (List.nodup_cons.1 hnd).2 e3 hG (by omega) u hu) hv7 hvb7 (by omega) (putR_ok acc _ hacc hokr) (by
   have:=Zna acc (rwS (.mk op names nums preds vals subs))
   omega)
  refine w6 rfl rfl ?_
  repeat' first|refine Z3w (Z7z rfl hi ⟨rfl, rfl, rfl, Z04 hw, trivial⟩) ?_|refine Z1 rfl ?_|((with_reducible show VO _ _ _ _ _ _ _);first|refine Zt rfl w2 rfl ?_|refine O_rawE r1 r3.1 hS7 rfl rfl ?_|refine Z0 rfl ?_|refine Z2 ?_)
  rintro x e st' ⟨rfl, v'', rfl, z1, z2, z3, z4, z5⟩
  refine ⟨rfl, v'', rfl, by rw [rwA];exact z1, z2, ?_, by omega, fun u hu hn=>(z5 u hu hn).trans (kk u hu fun h=>hn (List.mem_cons_of_mem _ (hGF u h)))⟩
  exact z3.trans e7
theorem orId_nil {L:List Stp} (h:L=[]):orId L=[idS]:=by subst h;rfl
theorem orId_cons {L:List Stp} (h:L≠[]):orId L=L:=by
 unfold orId
 cases L with
 |nil=>exact absurd rfl h
 |cons a r=>rfl
set_option maxHeartbeats 4000000 in
theorem Zqf:∀n:Nat, Zni n
 |0, l, p, F, st, hT, hok, hcn, hF=>by
  obtain ⟨_, rfl, _⟩:=hT
  cases hok
 |n+1, l, p, F, st, hT, hok, hcn, hF=>by
  obtain ⟨hne, hokA⟩:=okL_all.1 hok
  have hok1:=okL1_all.2 hokA
  obtain ⟨es, Fs, h1, h2, h3, rfl, h5⟩:=ot_tr.1 hT
  rcases h1 with ⟨rfl, rfl⟩|⟨tp, gp, rfl, k1, k2⟩
  ·exact absurd (List.length_eq_zero_iff.1 (by simpa using h2.symm)) hne
  obtain ⟨S0, hS0⟩:∃S:St, (⟨st.next, st.next, st.toks⟩:St)=S:=⟨_, rfl⟩
  have n0:S0.next=st.next:=by rw [←hS0]
  have b0:S0.base=st.next:=by rw [←hS0]
  have g0:∀u, S0.get u=st.get u:=fun u=>by rw [←hS0];rfl
  have hnd:(tp::Fs.flatten).Nodup:=hF.1
  have hFb:∀u∈tp::Fs.flatten, u<st.next:=fun u hu=>(hF.2 u hu).2
  have hlp:=sstep_loop (Zqf n) hok1 hcn h2 h3 (gp:=gp) (b:=st.next) hnd hFb l [] [] S0 .nilSl rfl ((g0 tp).trans k1) (fun j s cs G _ e1 e2 e3=>StpT.mono n _ _ _ _ _ (h5 j s cs G e1 e2 e3) (by omega) fun u _=>g0 u) (OwnL.nil _ _) (fun u hu=>by cases hu) (by omega) (fun x hx=>by cases hx) (Nat.le_refl _)
  have hid:=Zlp
  rw [h2]
  rw [hS0]
  refine Zeb (Q:=fun v' st'=>Res (n+1) st' v' (rwL l)∧st'.base=st.next∧st.next≤st'.next∧(∀u, Z0g v'=some u→st.next≤u)∧∀u, u<st.next→u∉tp::Fs.flatten→st'.get u=st.get u) rfl rfl ?_
  repeat' first|refine Z08 rfl hlp ⟨rfl, rfl, rfl, rfl, trivial⟩ ?_|refine Z1 rfl ?_|refine Z0 rfl ?_|refine Z2 ?_
  rintro x e st' ⟨rfl, v', rfl, z1, z2, z3, z4, z5⟩
  obtain ⟨f1, f2⟩:=z1.len
  by_cases hnil:(rwA l []).reverse=[]
  ·have hr:rwL l=[idS]:=orId_nil hnil
   have hres:Res (n+1) st' (.sl [idC] true) (rwL l):=by
    rw [hr]
    exact .inr (Zlm (Zkn n))
   have hc6:=(Zkn n).c6
   have htok:∀u, Z0g (.sl [idC] true)=some u→st.next≤u:=fun u hu=>by cases hu
   have d1:=Z0f (p:=(((rwA l []).reverse.length:Nat):Int)=0) (by rw [hnil];rfl)
   repeat' first|((with_reducible show V _ _ _ _ _ _);first|refine Z80 rfl rfl ⟨hres, z3.trans b0, by omega, htok, fun u hu hn=>(z5 u hu hn).trans (g0 u)⟩|refine Z1 rfl ?_|refine Za rfl rfl ?_)|((with_reducible show VO _ _ _ _ _ _ _);first|refine Z4 rfl f1 f2 ?_|refine Z3 d1 rfl ?_|refine Z5 rfl rfl hid ?_|refine Z0 (Z49 hc6 rfl) ?_|refine Z0 rfl ?_|refine Z2 ?_)
  ·have hr:rwL l=(rwA l []).reverse:=orId_cons hnil
   have hres:Res (n+1) st' v' (rwL l):=by
    rw [hr]
    exact .inl z1
   have hlen0:(rwA l []).reverse.length≠0:=fun h=>hnil (List.length_eq_zero_iff.1 h)
   have d1:=Zb (p:=(((rwA l []).reverse.length:Nat):Int)=0) (by omega)
   repeat' first|((with_reducible show V _ _ _ _ _ _);first|refine Z80 rfl rfl ⟨hres, z3.trans b0, by omega, z2, fun u hu hn=>(z5 u hu hn).trans (g0 u)⟩|refine Z1 rfl ?_|refine Z9 rfl rfl ?_)|((with_reducible show VO _ _ _ _ _ _ _);first|refine Z4 rfl f1 f2 ?_|refine Z3 d1 rfl ?_|refine Z0 rfl ?_|refine Z2 ?_)
theorem Res.view {n:Nat} {st:St} {v:PV} {L:List Stp} (h:Res n st v L) (hl:L.length≤134217729):∃q, View true st.get v q∧SL n q L:=by
 rcases h with h|h
 ·exact h.view (by omega)
 ·exact ⟨v, (SL.pl h).view, h⟩
theorem view_two {look:Nat→Option Tok} {v q:PV} (h:View true look v q) (k:Int):View true look (.tuple [v, .int .i64 k]) (.tuple [q, .int .i64 k]):=.tuple _ _ rfl (fun i c d h1 h2=>by
 match i, h1, h2 with
 |0, h1, h2=>simp at h1 h2;subst h1 h2;exact h
 |1, h1, h2=>simp at h1 h2;subst h1 h2;exact .int _ _
 |i+2, h1, h2=>simp at h1)
theorem chk_okX {l:List Stp} (h:Zpb l=0):okL l=true:=by
 unfold Zpb at h
 cases hok:okL l with
 |true=>rfl
 |false=>rw [hok] at h;simp at h
set_option maxHeartbeats 4000000 in
theorem Zny {n:Nat} {l:List Stp} {p:PV} (hp:SL n p l) (hcn:bdL l):∃q, T.R (.call Zbt [p] (.tuple [q, .int .i64 (Zpb l)]))∧((Zpb l=0∧SL n q (rwL l))∨(Zpb l≠0∧q=.nilSl)):=by
 have hch:=run_PCheck hp
 have plp:=SL.pl hp
 have key:∃r, T.R (.call Zbt [p] r)∧∃q, r=.tuple [q, .int .i64 (Zpb l)]∧((Zpb l=0∧SL n q (rwL l))∨(Zpb l≠0∧q=.nilSl)):=by
  by_cases h0:Zpb l=0
  ·have hok:=chk_okX h0
   obtain ⟨hne, hokA⟩:=okL_all.1 hok
   obtain ⟨v1, st1, F, c1, c2, c3, c4⟩:=cloneRaw n l p hp (okL1_all.2 hokA) hcn emptySt
   obtain ⟨S1, hS1⟩:∃S:St, (⟨0, st1.next, st1.toks⟩:St)=S:=⟨_, rfl⟩
   have w1:OT n S1 v1 l F:=c2.keep n (by rw [←hS1];exact Nat.le_refl _) (fun u _=>by rw [←hS1];rfl)
   have f1:Fsh 0 F S1:=⟨c3.1, fun u hu=>⟨Nat.zero_le _, by rw [←hS1];exact (c3.2 u hu).2⟩⟩
   obtain ⟨v2, st2, r1, r2, r3, r4, r5, r6⟩:=Zqf n l v1 F S1 w1 hok hcn f1
   obtain ⟨S2, hS2⟩:∃S:St, (⟨S1.base, st2.next, st2.toks⟩:St)=S:=⟨_, rfl⟩
   have w2:Res n S2 v2 (rwL l):=r2.keep (by rw [←hS2];exact Nat.le_refl _) (fun u _=>by rw [←hS2];rfl)
   obtain ⟨q, x1, x2⟩:=w2.view (Nat.le_trans (rwL_len l) (Nat.succ_le_succ hcn.1))
   have hv:=view_two x1 0
   rw [h0] at hch ⊢
   refine Z1z rfl rfl ?_
   repeat' first|((with_reducible show V _ _ _ _ _ _);first|refine Z8u rfl rfl hv ⟨q, rfl, .inl ⟨rfl, x2⟩⟩|refine Z1 rfl ?_|refine Z9 rfl rfl ?_)|((with_reducible show VO _ _ _ _ _ _ _);first|refine Z5 rfl rfl hch ?_|refine O_rawE c1 c4.1 hS1 rfl rfl ?_|refine O_rawE r1 r3 hS2 rfl rfl ?_|refine Z0 rfl ?_|refine Z2 ?_)
  ·have d1:=Z0e (p:=Zpb l=0) h0
   refine Z1z rfl rfl ?_
   repeat' first|((with_reducible show V _ _ _ _ _ _);first|refine Z8u rfl rfl (view_two .nilSl _) ⟨.nilSl, rfl, .inr ⟨h0, rfl⟩⟩|refine Z1 rfl ?_|refine Za rfl rfl ?_)|((with_reducible show VO _ _ _ _ _ _ _);first|refine Z5 rfl rfl hch ?_|refine Z3 d1 rfl ?_|refine Z0 rfl ?_|refine Z2 ?_)
 obtain ⟨r, r1, q, rfl, r2⟩:=key
 exact ⟨q, r1, r2⟩
theorem sc_opn:∀ {n:Nat} {op:Int} {names:List (List UInt8)} {nums:List Int} {preds:List Prd} {vals:List Val} {subs:List (List Stp)} {cs:List PV}, SC n (.mk op names nums preds vals subs) cs→
  ∃m pa pb pc pd pe, n=m+1∧Zn op∧cs=[.int .i64 op, pa, pb, pc, pd, pe]∧LR NmC pa names∧LR NuC pb nums∧LR PrC pc preds∧LR VC pd vals∧LR (SubC (SC m)) pe subs∧Pl pa∧Pl pb∧Pl pc∧Pl pd∧Pl pe
 |0, _, _, _, _, _, _, _, h=>h.elim
 |n+1, op, names, nums, preds, vals, subs, cs, h=>by
  have plcs:=h.pl
  obtain ⟨ho, pa, pb, pc, pd, pe, rfl, h1, h2, h3, h4, h5⟩:=h
  exact ⟨n, pa, pb, pc, pd, pe, rfl, ho, rfl, h1, h2, h3, h4, h5, plcs _ (by simp), plcs _ (by simp), plcs _ (by simp), plcs _ (by simp), plcs _ (by simp)⟩
theorem few_in {n:Nat} {pe:PV} {subs:List (List Stp)} (hp:LR (SubC (SC n)) pe subs) (d:Int) (st:St) (hd:∀x∈subs, ∀q, SL n q x→∃b:Bool, T.R (.call Z1j [q, .int .i64 (wr d)] (.bool b))∧(b=true→bdL x)) (p p0:PV) (L I:Int) (plp:Pl p) (plp0:Pl p0):
  ∀(rest pre:List (List Stp)), subs=pre++rest→
  V T (PE fun x e st'=>st'=st∧((x=.exit 2∧bdLL rest∧e=Ze [(0, p0), (1, .int .i64 d), (16, p), (17, .int .i64 L), (18, .int .i64 I)])∨(x=.ret∧e=Ze [(4, .bool false)])))
   [.code (.loop Z3t)] .normal (Ze [(0, p0), (1, .int .i64 d), (16, p), (17, .int .i64 L), (18, .int .i64 I), (27, pe), (28, .int .i64 subs.length), (29, .int .i64 pre.length)]) st:=by
 have ple:Pl pe:=LR.pl hp fun _ _ _ h=>h.pl fun _ _ h=>h.pl
 obtain ⟨le1, le2, le3⟩:=hp.len
 intro rest
 induction rest with
 |nil=>
  intro pre ha
  have hlt:¬(pre.length:Int)<subs.length:=by subst ha;simp
  refine Zf ?_
  repeat' first|((with_reducible show V _ _ _ _ _ _);first|refine Ze4 rfl rfl hlt ?_|refine Zr [(0, p0), (1, .int .i64 d), (16, p), (17, .int .i64 L), (18, .int .i64 I)] rfl ⟨rfl, rfl, rfl, rfl, rfl, trivial⟩ ⟨rfl, .inl ⟨rfl, (by rw [bdLL];trivial), rfl⟩⟩|refine Z1 rfl ?_)|refine Z0 rfl ?_|refine Z2 ?_
 |cons y rest ih=>
  intro pre ha
  have hlt:(pre.length:Int)<subs.length:=by subst ha;simp;omega
  have hll:pre.length<subs.length:=by subst ha;simp
  have hy:subs[pre.length]?=some y:=by subst ha;simp
  obtain ⟨cy, ay, q, rfl, hq⟩:=hp.at (sz:=1) (fun _ _ h=>h.len1) hy
  have plq:=SL.pl hq
  obtain ⟨b, hcall, hbd⟩:=hd y (by subst ha;simp) q hq
  have hw:IntKind.i64.wrap ((pre.length:Int)+1)=((pre++[y]).length:Int):=by rw [Z01];simp;omega
  have hi:=ih (pre++[y]) (by rw [ha];simp)
  refine Zf ?_
  cases b with
  |true=>
   have hi':V T (PE fun x e st'=>st'=st∧((x=.exit 2∧bdLL (y::rest)∧e=Ze [(0, p0), (1, .int .i64 d), (16, p), (17, .int .i64 L), (18, .int .i64 I)])∨(x=.ret∧e=Ze [(4, .bool false)])))
     [.code (.loop Z3t)] .normal (Ze [(0, p0), (1, .int .i64 d), (16, p), (17, .int .i64 L), (18, .int .i64 I), (27, pe), (28, .int .i64 subs.length), (29, .int .i64 (pre++[y]).length)]) st:=by
    refine Z3w hi ?_
    rintro x e st' ⟨h0, ⟨g1, g2, g3⟩|g⟩
    ·exact ⟨h0, .inl ⟨g1, (by rw [bdLL];exact ⟨hbd rfl, g2⟩), g3⟩⟩
    ·exact ⟨h0, .inr g⟩
   repeat' first|((with_reducible show V _ _ _ _ _ _);first|refine Z2s rfl rfl hlt ?_|refine Z7z rfl hi' ⟨rfl, rfl, rfl, rfl, rfl, rfl, rfl, Z04 hw, trivial⟩|refine Z1 rfl ?_|refine Z9 rfl rfl ?_)|((with_reducible show VO _ _ _ _ _ _ _);first|refine Zg rfl rfl ay ?_|refine Z5 rfl rfl hcall ?_|refine Z0 rfl ?_|refine Z2 ?_)
  |false=>
   repeat' first|((with_reducible show V _ _ _ _ _ _);first|refine Z2s rfl rfl hlt ?_|refine Zr [(4, .bool false)] rfl ⟨rfl, trivial⟩ ⟨rfl, .inr ⟨rfl, rfl⟩⟩|refine Z1 rfl ?_|refine Za rfl rfl ?_)|((with_reducible show VO _ _ _ _ _ _ _);first|refine Zg rfl rfl ay ?_|refine Z5 rfl rfl hcall ?_|refine Z0 rfl ?_|refine Z2 ?_)
theorem few_out {n:Nat} {p:PV} {l:List Stp} (hp:SL n p l) (d:Int) (hd:∀m, n=m+1→∀x, ∀q, SL m q x→∃b:Bool, T.R (.call Z1j [q, .int .i64 (wr d)] (.bool b))∧(b=true→bdL x)):
  ∀(rest pre:List Stp), l=pre++rest→
  V T (PE fun x e st'=>(x=.exit 0∧bdT rest∧e=Ze [(0, p)])∨(x=.ret∧e=Ze [(4, .bool false)]))
   [.code (.loop Z3s)] .normal (Ze [(0, p), (1, .int .i64 d), (16, p), (17, .int .i64 l.length), (18, .int .i64 pre.length)]) emptySt:=by
 have plp:Pl p:=SL.pl hp
 obtain ⟨lp1, lp2, lp3⟩:=hp.len
 intro rest
 induction rest with
 |nil=>
  intro pre ha
  have hlt:¬(pre.length:Int)<l.length:=by subst ha;simp
  refine Zf ?_
  repeat' first|((with_reducible show V _ _ _ _ _ _);first|refine Ze4 rfl rfl hlt ?_|refine Zr [(0, p)] rfl ⟨rfl, trivial⟩ (.inl ⟨rfl, (by rw [bdT];trivial), rfl⟩)|refine Z1 rfl ?_)|refine Z0 rfl ?_|refine Z2 ?_
 |cons y rest ih=>
  intro pre ha
  have hlt:(pre.length:Int)<l.length:=by subst ha;simp;omega
  have hll:pre.length<l.length:=by subst ha;simp
  have hy:l[pre.length]?=some y:=by subst ha;simp
  obtain ⟨cy, ay, hc⟩:=SL.at hp hy
  have onec:=hc.one
  have len6:=hc.len6
  have hw:IntKind.i64.wrap ((pre.length:Int)+1)=((pre++[y]).length:Int):=by rw [Z01];simp;omega
  have hi:=ih (pre++[y]) (by rw [ha];simp)
  obtain ⟨op, names, nums, preds, vals, subs⟩:=y
  obtain ⟨m, pa, pb, pc, pd, pe, em, ho, rfl, h1, h2, h3, h4, h5, pla, plb, plc, pld, ple⟩:=(sc_opn hc)
  obtain ⟨le1, le2, le3⟩:=h5.len
  have hin:=few_in h5 d ((emptySt.new (.var [.int .i64 0, .nilSl, .nilSl, .nilSl, .nilSl, .nilSl])).put 0 (.var [.int .i64 op, pa, pb, pc, pd, pe])) (fun x _ q hq=>hd m em x q hq) p p l.length pre.length plp plp subs [] rfl
  refine Zf ?_
  by_cases h40:(40:Int)<(subs.length:Int)
  ·repeat' first|((with_reducible show V _ _ _ _ _ _);first|refine Z2s rfl rfl hlt ?_|refine Zr [(4, .bool false)] rfl ⟨rfl, trivial⟩ (.inr ⟨rfl, rfl⟩)|refine Z1 rfl ?_|refine Za rfl rfl ?_)|((with_reducible show VO _ _ _ _ _ _ _);first|refine Zg rfl rfl ay ?_|refine Z07 rfl len6 ?_|refine Z3 (Z0f h40) rfl ?_|refine Z0 rfl ?_|refine Z03 rfl rfl onec rfl rfl rfl rfl ?_|refine Z4 rfl le1 le2 ?_|refine Zc rfl ?_|refine Z2 ?_)
  ·repeat' first|((with_reducible show V _ _ _ _ _ _);first|refine Z2s rfl rfl hlt ?_|refine Z08 rfl hin ⟨rfl, rfl, rfl, rfl, rfl, rfl, rfl, rfl, trivial⟩ ?_|refine Z1 rfl ?_|refine Z9 rfl rfl ?_)|((with_reducible show VO _ _ _ _ _ _ _);first|refine Zg rfl rfl ay ?_|refine Z07 rfl len6 ?_|refine Z3 (Zb h40) rfl ?_|refine Z0 rfl ?_|refine Z03 rfl rfl onec rfl rfl rfl rfl ?_|refine Z4 rfl le1 le2 ?_|refine Zc rfl ?_|refine Z2 ?_)
   rintro x e' st' ⟨rfl, ⟨rfl, hb2, rfl⟩|⟨rfl, rfl⟩⟩
   ·have hi':V T (PE fun x e st'=>(x=.exit 0∧bdT (Stp.mk op names nums preds vals subs::rest)∧e=Ze [(0, p)])∨(x=.ret∧e=Ze [(4, .bool false)]))
      [.code (.loop Z3s)] .normal (Ze [(0, p), (1, .int .i64 d), (16, p), (17, .int .i64 l.length), (18, .int .i64 (pre++[Stp.mk op names nums preds vals subs]).length)]) emptySt:=by
     refine Z3w hi ?_
     rintro x e st' (⟨g1, g2, g3⟩|g)
     ·exact .inl ⟨g1, (by rw [bdT, bdS];exact ⟨hb2, g2⟩), g3⟩
     ·exact .inr g
    repeat' first|refine V_reF rfl hi' rfl ⟨rfl, rfl, rfl, rfl, Z04 hw, trivial⟩ ⟨plp, .int _ _, plp, .int _ _, .int _ _, trivial⟩|refine Z1 rfl ?_|refine Z0 rfl ?_|refine Z2 ?_
   ·repeat' first|refine Zr [(4, .bool false)] rfl ⟨rfl, trivial⟩ (.inr ⟨rfl, rfl⟩)
theorem run_few:∀(n:Nat) (l:List Stp) (p:PV) (d:Int), SL n p l→∃b:Bool, T.R (.call Z1j [p, .int .i64 d] (.bool b))∧(b=true→bdL l):=by
 have main:∀(n:Nat) (l:List Stp) (p:PV) (d:Int), SL n p l→(∀m, n=m+1→∀(l:List Stp) (p:PV) (d:Int), SL m p l→∃b:Bool, T.R (.call Z1j [p, .int .i64 d] (.bool b))∧(b=true→bdL l))→∃b:Bool, T.R (.call Z1j [p, .int .i64 d] (.bool b))∧(b=true→bdL l):=by
  intro n l p d hp ih
  have plp:Pl p:=SL.pl hp
  obtain ⟨lp1, lp2, lp3⟩:=hp.len
  have hout:=few_out hp d (fun m em x q hq=>ih m em x q (wr d) hq) l [] rfl
  have h:∃r, T.R (.call Z1j [p, .int .i64 d] r)∧∃b:Bool, r=.bool b∧(b=true→bdL l):=by
   by_cases h1:(40:Int)<(l.length:Int)
   ·refine Z1z rfl rfl ?_
    repeat' first|((with_reducible show V _ _ _ _ _ _);first|refine Z1 rfl ?_|refine Za rfl rfl ?_|refine Z6 rfl rfl ?_)|((with_reducible show VO _ _ _ _ _ _ _);first|refine Z4 rfl lp1 lp2 ?_|refine Z3 (Z0f h1) rfl ?_|refine Z0 rfl ?_|refine Z2 ?_|refine Zk rfl rfl ?_)
    exact ⟨false, rfl, fun h=>by cases h⟩
   ·by_cases h2:(12:Int)<d
    ·refine Z1z rfl rfl ?_
     repeat' first|((with_reducible show V _ _ _ _ _ _);first|refine Z1 rfl ?_|refine Za rfl rfl ?_|refine Z6 rfl rfl ?_)|((with_reducible show VO _ _ _ _ _ _ _);first|refine Z4 rfl lp1 lp2 ?_|refine Z3 (Zb h1) rfl ?_|refine Z3 (Z0f h2) rfl ?_|refine Z0 rfl ?_|refine Z2 ?_|refine Zh rfl ?_)
     exact ⟨false, rfl, fun h=>by cases h⟩
    ·refine Z1z rfl rfl ?_
     repeat' first|((with_reducible show V _ _ _ _ _ _);first|refine Z08 rfl hout ⟨rfl, rfl, rfl, rfl, rfl, trivial⟩ ?_|refine Z1 rfl ?_|refine Z9 rfl rfl ?_)|((with_reducible show VO _ _ _ _ _ _ _);first|refine Z4 rfl lp1 lp2 ?_|refine Z3 (Zb h1) rfl ?_|refine Z3 (Zb h2) rfl ?_|refine Z0 rfl ?_|refine Z2 ?_|refine Zh rfl ?_)
     rintro x e' st' (⟨rfl, hbT, rfl⟩|⟨rfl, rfl⟩)
     ·repeat' first|refine Z1 rfl ?_|refine Z6 rfl rfl ?_|refine Z0 rfl ?_|refine Z2 ?_
      exact ⟨true, rfl, fun _=>⟨by omega, hbT⟩⟩
     ·repeat' first|refine Z6 rfl rfl ?_
      exact ⟨false, rfl, fun h=>by cases h⟩
  obtain ⟨r, h1, a, rfl, h2⟩:=h
  exact ⟨a, h1, h2⟩
 intro n
 induction n with
 |zero=>exact fun l p d hp=>main 0 l p d hp (fun m e=>by omega)
 |succ n ih=>exact fun l p d hp=>main (n+1) l p d hp (fun m e=>by
   have h:m=n:=by omega
   subst h
   exact ih)
end Go.Proofs.YtnedeokclnbcpaaGreatDoor
