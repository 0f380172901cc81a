/- parse.Clone: a tree of rows of one's own. · parse.Clone. -/
import Derived.Test.YtnedeokclnbcpaaGreatDoorRwIToRwM
set_option linter.unusedVariables false
set_option linter.unusedSimpArgs false
namespace Go.Proofs.YtnedeokclnbcpaaGreatDoor
open Go Go.AM Go.RowKit
def TR {α:Type} (R:St→α→List PV→List Nat→Prop) (sz:Nat) (st:St) (v:PV) (L:List α) (F:List Nat):Prop:=
 ∃(es:List (List PV)) (Fs:List (List Nat)), AccT sz st v es∧es.length=L.length∧Fs.length=L.length∧F=(Z0g v).toList++Fs.flatten∧∀(j:Nat) (a:α) (cs:List PV) (G:List Nat), L[j]?=some a→es[j]?=some cs→Fs[j]?=some G→R st a cs G
def Mono {α:Type} (R:St→α→List PV→List Nat→Prop):Prop:=∀(st st':St) (a:α) (cs:List PV) (G:List Nat), R st a cs G→st.next≤st'.next→(∀u∈G, st'.get u=st.get u)→R st' a cs G
def Fsh (b:Nat) (F:List Nat) (st:St):Prop:=F.Nodup∧∀u∈F, b≤u∧u<st.next
theorem Fsh.keep {b:Nat} {F:List Nat} {st st':St} (h:Fsh b F st) (hn:st.next≤st'.next):Fsh b F st':=⟨h.1, fun u hu=>⟨(h.2 u hu).1, Nat.lt_of_lt_of_le (h.2 u hu).2 hn⟩⟩
theorem Fsh.app {b:Nat} {F G:List Nat} {st st':St} (h:Fsh b F st) (k:Fsh st.next G st') (hn:st.next≤st'.next) (hb:b≤st.next):Fsh b (F++G) st':=⟨List.nodup_append.2 ⟨h.1, k.1, fun u hu v hv e=>by
  have:=(h.2 u hu).2
  have:=(k.2 v hv).1
  omega⟩, fun u hu=>by
  rcases List.mem_append.1 hu with hu|hu
  ·have:=h.2 u hu
   omega
  ·have:=k.2 u hu
   omega⟩
section
variable {α:Type} {R:St→α→List PV→List Nat→Prop} {sz:Nat} {st:St} {v:PV} {L:List α} {F:List Nat}
theorem TR.nil:TR R sz st .nilSl ([]:List α) []:=⟨[], [], .inl ⟨rfl, rfl⟩, rfl, rfl, rfl, fun j a cs G h=>by simp at h⟩
theorem TR.keep (hm:Mono R) {st':St} (h:TR R sz st v L F) (hn:st.next≤st'.next) (hk:∀u∈F, st'.get u=st.get u):TR R sz st' v L F:=by
 obtain ⟨es, Fs, h1, h2, h3, rfl, h5⟩:=h
 exact ⟨es, Fs, Zkg h1 hn (fun u hu=>hk u (by simp [hu])), h2, h3, rfl, fun j a cs G e1 e2 e3=>hm _ _ _ _ _ (h5 j a cs G e1 e2 e3) hn fun u hu=>hk u (List.mem_append_right _ (Z6n e3 hu))⟩
theorem TR.shape (h:TR R sz st v L F):lenOf v=some L.length∧Zco v=false∧PV.one v=true∧v.cells=[v]∧v.isJunk=false:=by
 obtain ⟨es, Fs, h1, h2, _⟩:=h
 rcases h1 with ⟨rfl, rfl⟩|⟨t, g, rfl, _⟩
 ·have:L=[]:=List.length_eq_zero_iff.1 (by simpa using h2.symm)
  subst this
  exact ⟨rfl, rfl, rfl, rfl, rfl⟩
 ·exact ⟨by simp [lenOf, h2], rfl, rfl, rfl, rfl⟩
theorem TR.mem (h:TR R sz st v L F) {u:Nat} (hu:Z0g v=some u):u∈F:=by
 obtain ⟨es, Fs, h1, h2, h3, rfl, h5⟩:=h
 simp [hu]
theorem TR.app (hm:Mono R) (h:TR R sz st v L F) {a:α} {cs:List PV} {G:List Nat} (ha:R st a cs G) {b bytes:Nat} (hf:Fsh b (F++G) st) (hbn:b≤st.next) (hb:(L.length+1) * bytes≤Z05):
  ∃v' st' F', Z0n st sz bytes v [cs]=some (v', st')∧TR R sz st' v' (L++[a]) F'∧Fsh b F' st'∧Grow st v st' v':=by
 obtain ⟨es, Fs, h1, h2, h3, rfl, h5⟩:=h
 obtain ⟨v', st', k1, k2, k3⟩:=h1.grow (bytes:=bytes) (src:=[cs]) (by simp) (by rw [h2];simpa using hb)
 obtain ⟨f1, f2⟩:=hf
 have hk:∀u, u∈Fs.flatten∨u∈G→st'.get u=st.get u:=fun u hu=>by
  have hmem:u∈Fs.flatten++G:=List.mem_append.2 hu
  refine k3.2.2.2 u (f2 u (by rw [List.append_assoc];exact List.mem_append_right _ hmem)).2 fun e=>?_
  rw [List.append_assoc, e] at f1
  exact (List.nodup_cons.1 f1).1 hmem
 have hfl:(Fs++[G]).flatten=Fs.flatten++G:=by simp
 refine ⟨v', st', (Z0g v').toList++(Fs++[G]).flatten, k1, ⟨_, Fs++[G], k2, by simp [h2], by simp [h3], rfl, fun j x ds H e1 e2 e3=>?_⟩, ?_, k3⟩
 ·rcases Nat.lt_or_ge j L.length with hlt|hge
  ·rw [List.getElem?_append_left hlt] at e1
   rw [List.getElem?_append_left (by omega)] at e2 e3
   exact hm _ _ _ _ _ (h5 j x ds H e1 e2 e3) k3.2.1 fun u hu=>hk u (.inl (Z6n e3 hu))
  ·rw [List.getElem?_append_right hge] at e1
   rw [List.getElem?_append_right (by omega), h2] at e2
   rw [List.getElem?_append_right (by omega), h3] at e3
   cases hz:j-L.length with
   |zero=>
    rw [hz] at e1 e2 e3
    simp at e1 e2 e3
    subst e1 e2 e3
    exact hm _ _ _ _ _ ha k3.2.1 fun u hu=>hk u (.inr hu)
   |succ i=>rw [hz] at e1;simp at e1
 ·rw [hfl]
  rcases k3.2.2.1 with e|⟨t, e, ht⟩
  ·rw [e, ←List.append_assoc]
   exact ⟨f1, fun u hu=>⟨(f2 u hu).1, Nat.lt_of_lt_of_le (f2 u hu).2 k3.2.1⟩⟩
  ·rw [e]
   have hlt:t<st'.next:=by
    rcases k2 with ⟨rfl, _⟩|⟨t', g, rfl, _, hl⟩
    ·cases e
    ·injection e with e
     subst e
     exact hl
   rw [List.append_assoc] at f1 f2
   refine ⟨List.nodup_cons.2 ⟨fun hu=>?_, (List.nodup_append.1 f1).2.1⟩, fun u hu=>?_⟩
   ·have:=(f2 t (List.mem_append_right _ hu)).2
    omega
   ·rcases List.mem_cons.1 hu with rfl|hu
    ·omega
    ·have:=f2 u (List.mem_append_right _ hu)
     have:=k3.2.1
     omega
end
def SubT (n:Nat) (st:St) (l:List Stp) (cs:List PV) (G:List Nat):Prop:=∃q, cs=[q]∧OT n st q l G
def StpT (n:Nat) (st:St) (s:Stp) (cs:List PV) (G:List Nat):Prop:=OS (OT n) st cs s G
theorem SubT.mono (n:Nat):Mono (SubT n):=fun st st' a cs G ⟨q, e, h⟩ hn hk=>⟨q, e, h.keep n hn hk⟩
theorem StpT.mono (n:Nat):Mono (StpT n):=fun st st' a cs G h hn hk=>OS.keep (fun p l F h hk=>OT.keep n h hn hk) h hn hk
theorem ot_tr {n:Nat} {st:St} {p:PV} {l:List Stp} {F:List Nat}:OT (n+1) st p l F↔TR (StpT n) 6 st p l F:=Iff.rfl
theorem osubs_tr {n:Nat} {st:St} {p:PV} {l:List (List Stp)} {F:List Nat}:OSubs (OT n) st p l F↔TR (SubT n) 1 st p l F:=Iff.rfl
theorem OT.shape {n:Nat} {st:St} {p:PV} {l:List Stp} {F:List Nat} (h:OT n st p l F):lenOf p=some l.length∧Zco p=false∧PV.one p=true∧p.cells=[p]∧p.isJunk=false:=by
 cases n with
 |zero=>obtain ⟨rfl, rfl, _⟩:=h;exact ⟨rfl, rfl, rfl, rfl, rfl⟩
 |succ n=>exact TR.shape (ot_tr.1 h)
theorem all32 {p:Prop} [Decidable p] {a b:List Int} (h1:a.all (fun x=>decide (x≤32))=true) (h2:b.all (fun x=>decide (x≤32))=true):(if p then a else b).all (fun x=>decide (x≤32))=true:=by
 by_cases h:p
 ·rw [if_pos h];exact h1
 ·rw [if_neg h];exact h2
theorem shp32 (op:Int):(shp op).all (fun x=>decide (x≤32))=true:=by
 unfold shp
 repeat (refine all32 rfl ?_)
 rfl
theorem Zir {op:Int} {names:List (List UInt8)} {nums:List Int} {preds:List Prd} {vals:List Val} {k:Nat} (h:Zh8 op names nums preds vals k=true):names.length≤32∧nums.length≤32∧preds.length≤32∧vals.length≤32∧k≤32∧preds.all Zft=true∧vals.all (Zp 8)=true:=by
 unfold Zh8 at h
 simp only [Bool.and_eq_true] at h
 obtain ⟨⟨⟨⟨⟨_, ha⟩, _⟩, _⟩, hp⟩, hv⟩:=h
 have h32:=shp32 op
 unfold argB at ha
 obtain ⟨a, b, c, d, e, f, g, i, j, m, es⟩:=shp_ten op
 rw [es] at ha h32
 simp only [Zcp, Bool.and_eq_true, decide_eq_true_eq, List.all_cons] at ha h32
 exact ⟨by omega, by omega, by omega, by omega, by omega, hp, hv⟩
theorem predB_len {op:Int} {l:List Val} (h:Zft (.mk op l)=true):l.length≤32∧l.all (Zp 8)=true:=by
 unfold Zft Zpv at h
 simp only [Bool.and_eq_true, Zcp, decide_eq_true_eq] at h
 obtain ⟨⟨_, _, h2⟩, h3⟩:=h
 refine ⟨?_, h3⟩
 by_cases h7:op=7∨op=8
 ·rw [if_pos h7] at h2;simp only at h2;omega
 ·rw [if_neg h7] at h2
  by_cases h9:op=9
  ·rw [if_pos h9] at h2;simp only at h2;omega
  ·rw [if_neg h9] at h2;simp only at h2;omega
theorem okLL_mem:∀ {subs:List (List Stp)}, Ze7 subs=true→∀ {l:List Stp}, l∈subs→Zlv l=true
 |[], _, l, hl=>by cases hl
 |x::r, h, l, hl=>by
  unfold Ze7 at h
  simp only [Bool.and_eq_true] at h
  rcases List.mem_cons.1 hl with rfl|hl
  ·exact h.1.2
  ·exact okLL_mem h.2 hl
def Sh (p:PV):Prop:=p=.nilSl∨∃xs f, p=.sl xs f
theorem Z3i {α:Type} {R:α→List PV→Prop} {p:PV} {l:List α} (h:LR R p l):Sh p:=by
 rcases h with ⟨rfl, _⟩|⟨xs, f, rfl, _⟩
 ·exact .inl rfl
 ·exact .inr ⟨_, _, rfl⟩
theorem Sh.one {p:PV} (h:Sh p):PV.one p=true:=by rcases h with rfl|⟨_, _, rfl⟩<;>rfl
theorem bld6 {a b d:PV} (ha:Sh a) (hb:Sh b) (hd:Sh d) {o:Int} {look:Nat→Option Tok} {e:EC} {i0 i1 i2 i4:Nat} (h0:e.get i0=some (.int .i64 o)) (h1:e.get i1=some a) (h2:e.get i2=some b) (h4:e.get i4=some d):
  Zl look e (.build [.int .i64 0, .nilSl, .nilSl, .nilSl, .nilSl, .nilSl] [(0, 1, .t i0), (1, 1, .t i1), (2, 1, .t i2), (4, 1, .t i4)])=some (.agg [.int .i64 o, a, b, .nilSl, d, .nilSl]):=by
 simp only [Zl, Z7m, Opd.get, h0, h1, h2, h4]
 rcases ha with rfl|⟨_, _, rfl⟩<;>rcases hb with rfl|⟨_, _, rfl⟩<;>rcases hd with rfl|⟨_, _, rfl⟩<;>rfl
theorem bld2 {a:PV} (ha:Sh a) {o:Int} {look:Nat→Option Tok} {e:EC} {i0 i1:Nat} (h0:e.get i0=some (.int .i64 o)) (h1:e.get i1=some a):Zl look e (.build [.int .i64 0, .nilSl] [(0, 1, .t i0), (1, 1, .t i1)])=some (.agg [.int .i64 o, a]):=by
 simp only [Zl, Z7m, Opd.get, h0, h1]
 rcases ha with rfl|⟨_, _, rfl⟩<;>rfl
theorem bldS1 {v:PV} (h1:v.cells=[v]) (h2:v.isJunk=false) {look:Nat→Option Tok} {e:EC} {i:Nat} (hi:e.get i=some v):Zl look e (.buildSl 1 [[.nilSl]] [(0, .t i)])=some (.sl [[v]] true):=by
 simp only [Zl, Z7m, Zp7, Opd.get, hi]
 simp [Z2h, Z14, h1, h2]
theorem Z6l {st S':St} {m off:Nat} {cs ds:List PV} {v:PV} (hg:st.get m=some (.var cs)) (hc:v.cells=[v]) (h1:PV.one v=true) (ho':Nat.blt off cs.length=true) (hd:cs.set off v=ds) (hS:st.put m (.var ds)=S') {e:EC} {a x:Opd} (ha:a.get e=some (.ptr m off)) (hx:x.get e=some v):Z13 st e (.store 1 a x)=some (.tuple [], S'):=by
 have ho:off<cs.length:=Nat.le_of_ble_eq_true ho'
 subst hS hd
 simp only [Z13, ha, hx, hc]
 rw [if_pos ⟨by simp [h1], rfl, by decide⟩]
 simp only [storeAt, hg, hc]
 rw [if_pos (show off+[v].length≤cs.length from ho)]
 simp only [Option.map_some, Zad]
 congr 3
 rw [List.set_eq_take_append_cons_drop, if_pos ho]
 simp
theorem PrC.c2 {x:Prd} {cs:List PV} (h:PrC x cs):cs.length=2∧(∀c∈cs, PV.one c=true)∧∀c∈cs, Pl c:=by
 obtain ⟨op, l⟩:=x
 have hp:=PrC.pl h
 obtain ⟨_, p, rfl, h2⟩:=h
 exact ⟨rfl, by simp [PV.one];exact (Z3i h2).one, hp⟩
set_option maxHeartbeats 4000000 in
theorem cpreds_loop {preds:List Prd} {pc:PV} (hc:LR PrC pc preds) (hb:preds.length≤32) (hv:preds.all Zft=true) {m:Nat} {c t5 p L I o pa pb pd:PV}:∀(rest pre:List Prd) (st:St) (vp:PV), preds=pre++rest→
  st.get m=some (.var [o, pa, pb, vp, pd, .nilSl])→m<st.next→AccR PrC 2 st vp pre→(∀u, Z0g vp=some u→m<u)→
  V T (PE fun x e st'=>x=.exit 2∧e=Ze [(3, c), (5, t5), (6, .ptr m 0), (11, p), (12, L), (13, I)]∧∃vp', st'.get m=some (.var [o, pa, pb, vp', pd, .nilSl])∧AccR PrC 2 st' vp' preds∧(∀u, Z0g vp'=some u→m<u)∧st'.base=st.base∧st.next≤st'.next∧∀u, u<m→st'.get u=st.get u)
   [.code (.loop Zde)] .normal (Ze [(3, c), (5, t5), (6, .ptr m 0), (11, p), (12, L), (13, I), (30, pc), (31, .int .i64 preds.length), (32, .int .i64 pre.length)]) st:=by
 intro rest
 induction rest with
 |nil=>
  intro pre st vp hl hg hm hA ht
  have hlt:decide ((pre.length:Int)<preds.length)=false:=decide_eq_false (by subst hl;simp)
  have hA':AccR PrC 2 st vp preds:=by
   rw [hl, List.append_nil]
   exact hA
  refine Zf ?_
  repeat' first|((with_reducible show V _ _ _ _ _ _);first|refine Z48 hlt rfl rfl ?_|refine Zr [(3, c), (5, t5), (6, .ptr m 0), (11, p), (12, L), (13, I)] rfl ⟨rfl, rfl, rfl, rfl, rfl, rfl, trivial⟩ ⟨rfl, rfl, vp, hg, hA', ht, rfl, Nat.le_refl _, fun _ _=>rfl⟩|refine Z1 rfl ?_)|refine Z0 rfl ?_|refine Z2 ?_
 |cons y rest ihr=>
  intro pre st vp hl hg hm hA ht
  have hlt:decide ((pre.length:Int)<preds.length)=true:=decide_eq_true (by subst hl;simp;omega)
  have hpl:pre.length<preds.length:=by subst hl;simp
  obtain ⟨cs, ay, hcs⟩:=hc.at (sz:=2) (fun _ _ h=>h.c2.1) (j:=pre.length) (a:=y) (by subst hl;simp)
  have l2:=hcs.c2.1
  have o2:=hcs.c2.2.1
  have yv:Zft y=true:=List.all_eq_true.1 hv y (by subst hl;simp)
  obtain ⟨yo, yl⟩:=y
  obtain ⟨b1, b2⟩:=predB_len yv
  obtain ⟨io, q, rfl, hq⟩:=hcs
  have plq:Pl q:=hq.pl fun _ _ _ h=>h.pl
  obtain ⟨q', c1, c2⟩:=run_cvals hq (by omega) b2
  obtain ⟨S1, hS1⟩:∃S, st.new (.var [.int .i64 0, .nilSl])=S:=⟨_, rfl⟩
  have a1:S1.get st.next=some (.var [.int .i64 0, .nilSl]):=by rw [←hS1];exact St.get_new
  have n1:S1.next=st.next+1:=by rw [←hS1];rfl
  have e1:S1.base=st.base:=by rw [←hS1];rfl
  have k1:∀u, u<st.next→S1.get u=st.get u:=fun u hu=>by rw [←hS1];exact St.get_new_old hu
  obtain ⟨S2, hS2⟩:∃S, S1.put st.next (.var [.int .i64 yo, q])=S:=⟨_, rfl⟩
  have a2:S2.get st.next=some (.var [.int .i64 yo, q]):=by rw [←hS2];exact St.get_put
  have n2:S2.next=st.next+1:=by rw [←hS2];exact n1
  have e2:S2.base=st.base:=by rw [←hS2];exact e1
  have k2:∀u, u<st.next→S2.get u=st.get u:=fun u hu=>by rw [←hS2];exact (St.get_put_old (by omega)).trans (k1 u hu)
  have g2:S2.get m=some (.var [o, pa, pb, vp, pd, .nilSl]):=(k2 m hm).trans hg
  have hA2:AccR PrC 2 S2 vp pre:=hA.keep (by omega) (fun u hu=>k2 u (hA.tok hu).1)
  have hy:PrC (.mk yo yl) [.int .i64 yo, q']:=⟨io, q', rfl, c2⟩
  obtain ⟨v', S3, r1, r2, r3⟩:=hA2.app hy (bytes:=32) (by subst hl;simp only [List.length_append, List.length_cons] at hb;simp only [Z05];omega)
  have t3:∀u, Z0g v'=some u→m<u:=fun u hu=>by
   rcases r3.2.2.1 with e|⟨t, e, h⟩
   ·exact ht u (e ▸ hu)
   ·rw [e] at hu
    injection hu with hu
    omega
  have n3:=r3.2.1
  have k3:∀u, u≤m→S3.get u=S2.get u:=fun u hu=>r3.2.2.2 u (by omega) fun e=>by
   have:=ht u e
   omega
  have g3:S3.get m=some (.var [o, pa, pb, vp, pd, .nilSl]):=(k3 m (Nat.le_refl _)).trans g2
  obtain ⟨S4, hS4⟩:∃S, S3.put m (.var [o, pa, pb, v', pd, .nilSl])=S:=⟨_, rfl⟩
  have g4:S4.get m=some (.var [o, pa, pb, v', pd, .nilSl]):=by rw [←hS4];exact St.get_put
  have n4:S4.next=S3.next:=by rw [←hS4];rfl
  have e4:S4.base=st.base:=by rw [←hS4];exact r3.1.trans e2
  have k4:∀u, u≠m→S4.get u=S3.get u:=fun u hu=>by rw [←hS4];exact St.get_put_old (fun e=>hu e.symm)
  have hA4:AccR PrC 2 S4 v' (pre++[.mk yo yl]):=r2.keep (by omega) (fun u hu=>k4 u (by have:=t3 u hu;omega))
  have hw:IntKind.i64.wrap ((pre.length:Int)+1)=((pre++[Prd.mk yo yl]).length:Int):=by rw [Z01];simp;omega
  have hi:=ihr (pre++[.mk yo yl]) S4 v' (by rw [hl];simp) g4 (by omega) hA4 t3
  have hx2:S3.get st.next=some (.var [.int .i64 yo, q]):=(r3.2.2.2 st.next (by omega) fun e=>by have:=(hA.tok e).1;omega).trans a2
  have hx4:S4.get st.next=some (.var [.int .i64 yo, q]):=(k4 st.next (by omega)).trans hx2
  have hall:=Zcu (Q:=fun s'=>s'.get st.next=some (.var [.int .i64 yo, q])) (a:=S2) (r:=[S2, S3, S4]) ⟨a2, a2, hx2, hx4⟩
  have hld:∀ {e:EC} {a:Opd}, a.get e=some (.ptr m 3)→Zl S2.get e (.load 1 false a)=some vp:=fun {e a} ha=>by
   simp only [Zl, Zcq, ha, loadAt, behind, g2, Option.bind_some, slice?]
   rfl
  have hcv:v'.cells=[v']:=by
   obtain ⟨es, h, _⟩:=r2
   rcases h with ⟨rfl, _⟩|⟨t, g, rfl, _⟩<;>rfl
  have hok:okEls 2 [[.int .i64 yo, q']]=true:=Zq3 rfl hy.c2.2.1
  refine Zf ?_
  repeat' first|((with_reducible show V _ _ _ _ _ _);first|refine Z15 hlt rfl rfl ?_|refine V_C (mkC [1, 9, 11] [some 37, some 45, none] S2 [S2, S3, S4] none) rfl rfl ?_|refine Z3w (Z7z rfl hi ⟨rfl, rfl, rfl, rfl, rfl, rfl, rfl, rfl, Z04 hw, trivial⟩) ?_|refine Z1 rfl ?_)|((with_reducible show VO _ _ _ _ _ _ _);first|refine Zg rfl rfl ay ?_|refine Z07 rfl rfl ?_|refine Z0b hS1 rfl ?_|refine Z0j hS2 a1 o2 rfl rfl rfl rfl rfl ?_|refine Z0 rfl ?_|refine Z2 ?_)|((with_reducible show Go.AM.VC _ _ _ _ _ _ _ _ _ _);first|refine Zpo rfl rfl rfl rfl rfl rfl rfl (hld rfl) ?_|refine C_call rfl rfl rfl rfl (fun _=>Z0c) c1 ?_|refine Zpq rfl rfl rfl hall rfl ?_|refine Z9z rfl rfl (fun _=>bld2 (Z3i c2) rfl rfl) ?_|refine Znk rfl rfl rfl rfl rfl rfl rfl rfl rfl rfl hok (by decide) (by decide) r1 ?_|refine Zki rfl rfl rfl rfl rfl (Z6l (off:=3) g3 hcv r2.one rfl rfl hS4 rfl rfl) ?_|refine Z9z rfl rfl (fun _=>rfl) ?_|refine C_nil rfl rfl ?_)
  rintro x e st' ⟨rfl, rfl, vp', z1, z2, z3, z4, z5, z6⟩
  exact ⟨rfl, rfl, vp', z1, z2, z3, z4.trans e4, by omega, fun u hu=>(z6 u hu).trans ((k4 u (by omega)).trans ((k3 u (by omega)).trans (k2 u (by omega))))⟩
theorem Zna:∀(l:List Stp) (s:Stp), (Zkj l s).length≤l.length+1
 |[], s=>by
  rw [Zkj]
  split<;>simp
 |a::r, s=>by
  rw [Zkj]
  split
  ·simp
  ·split
   ·rename_i x _
    have:=Zna r x
    simp only [List.length_cons]
    omega
   ·simp
theorem rwA_len:∀(l acc:List Stp), (rwA l acc).length≤acc.length+l.length
 |[], acc=>by rw [rwA];simp
 |s::r, acc=>by
  rw [rwA]
  have h1:=rwA_len r (Zkj acc (rwS s))
  have h2:=Zna acc (rwS s)
  simp only [List.length_cons]
  omega
theorem rwL_len (l:List Stp):(rwL l).length≤l.length+1:=by
 have h:=rwA_len l []
 unfold rwL orId
 split
 ·simp
 ·simpa using Nat.le_trans h (by simp)
mutual
def bdS:Stp→Prop
 |.mk _ _ _ _ _ subs=>bdLL subs
def bdT:List Stp→Prop
 |[]=>True
 |s::r=>bdS s∧bdT r
def bdLL:List (List Stp)→Prop
 |[]=>True
 |l::r=>(l.length≤134217728∧bdT l)∧bdLL r
end
def bdL (l:List Stp):Prop:=l.length≤134217728∧bdT l
theorem Zke:∀ {subs:List (List Stp)}, bdLL subs→∀ {l:List Stp}, l∈subs→bdL l
 |[], _, l, hl=>by cases hl
 |x::r, h, l, hl=>by
  rw [bdLL] at h
  rcases List.mem_cons.1 hl with rfl|hl
  ·exact h.1
  ·exact Zke h.2 hl
theorem Zpi:∀ {l:List Stp}, bdT l→∀ {s:Stp}, s∈l→bdS s
 |[], _, s, hs=>by cases hs
 |x::r, h, s, hs=>by
  rw [bdT] at h
  rcases List.mem_cons.1 hs with rfl|hs
  ·exact h.1
  ·exact Zpi h.2 hs
theorem len_cntL:∀l:List Stp, l.length≤Zgy l
 |[]=>Nat.le_refl _
 |x::r=>by
  rw [Zgy, List.length_cons]
  have:=len_cntL r
  omega
mutual
theorem bdS_of:∀s:Stp, cntS s≤134217728→bdS s
 |.mk _ _ _ _ _ subs, h=>by
  rw [cntS] at h
  rw [bdS]
  exact bdLL_of subs h
theorem bdT_of:∀l:List Stp, Zgy l≤134217728→bdT l
 |[], _=>by rw [bdT];trivial
 |s::r, h=>by
  rw [Zgy] at h
  rw [bdT]
  exact ⟨bdS_of s (by omega), bdT_of r (by omega)⟩
theorem bdLL_of:∀l:List (List Stp), Z8t l≤134217728→bdLL l
 |[], _=>by rw [bdLL];trivial
 |l::r, h=>by
  rw [Z8t] at h
  rw [bdLL]
  exact ⟨⟨Nat.le_trans (len_cntL l) (by omega), bdT_of l (by omega)⟩, bdLL_of r (by omega)⟩
end
theorem bd_of_cnt {l:List Stp} (h:Zgy l≤134217728):bdL l:=⟨Nat.le_trans (len_cntL l) h, bdT_of l h⟩
def CloneR (n:Nat):Prop:=∀(l:List Stp) (p:PV), SL n p l→Zlv l=true→bdL l→∀st:St, ∃v' st' F, T.R (.raw Zcg [p] st v' st')∧OT n st' v' l F∧Fsh st.next F st'∧Grow st .nilSl st' v'
set_option maxHeartbeats 4000000 in
theorem csubs_loop {n:Nat} (ihc:CloneR n) {subs:List (List Stp)} {pe:PV} (he:LR (SubC (SC n)) pe subs) (hb:subs.length≤32) (hv:Ze7 subs=true) (hcn:bdLL subs) {m:Nat} {c p L I o pa pb pc pd:PV}:∀(rest pre:List (List Stp)) (st:St) (ve:PV) (F:List Nat), subs=pre++rest→
  st.get m=some (.var [o, pa, pb, pc, pd, ve])→m<st.next→TR (SubT n) 1 st ve pre F→Fsh (m+1) F st→
  V T (PE fun x e st'=>x=.exit 4∧e=Ze [(3, c), (6, .ptr m 0), (11, p), (12, L), (13, I)]∧∃ve' F', st'.get m=some (.var [o, pa, pb, pc, pd, ve'])∧TR (SubT n) 1 st' ve' subs F'∧Fsh (m+1) F' st'∧st'.base=st.base∧st.next≤st'.next∧∀u, u<m→st'.get u=st.get u)
   [.code (.loop Zdf)] .normal (Ze [(3, c), (6, .ptr m 0), (11, p), (12, L), (13, I), (49, pe), (50, .int .i64 subs.length), (51, .int .i64 pre.length)]) st:=by
 intro rest
 induction rest with
 |nil=>
  intro pre st ve F hl hg hm hA hF
  have hlt:decide ((pre.length:Int)<subs.length)=false:=decide_eq_false (by subst hl;simp)
  have hA':TR (SubT n) 1 st ve subs F:=by
   rw [hl, List.append_nil]
   exact hA
  refine Zf ?_
  repeat' first|((with_reducible show V _ _ _ _ _ _);first|refine Z48 hlt rfl rfl ?_|refine Zr [(3, c), (6, .ptr m 0), (11, p), (12, L), (13, I)] rfl ⟨rfl, rfl, rfl, rfl, rfl, trivial⟩ ⟨rfl, rfl, ve, F, hg, hA', hF, rfl, Nat.le_refl _, fun _ _=>rfl⟩|refine Z1 rfl ?_)|refine Z0 rfl ?_|refine Z2 ?_
 |cons y rest ihr=>
  intro pre st ve F hl hg hm hA hF
  have hlt:decide ((pre.length:Int)<subs.length)=true:=decide_eq_true (by subst hl;simp;omega)
  have hpl:pre.length<subs.length:=by subst hl;simp
  obtain ⟨cs, ay, hcs⟩:=he.at (sz:=1) (fun _ _ h=>by obtain ⟨_, rfl, _⟩:=h;rfl) (j:=pre.length) (a:=y) (by subst hl;simp)
  obtain ⟨q, rfl, hq⟩:=hcs
  have hoky:Zlv y=true:=okLL_mem hv (by subst hl;simp)
  obtain ⟨v1, st1, F1, c1, c2, c3, c4⟩:=ihc y q hq hoky (Zke hcn (by subst hl;simp)) ⟨st.next, st.next, st.toks⟩
  obtain ⟨S1, hS1⟩:∃S:St, (⟨st.base, st1.next, st1.toks⟩:St)=S:=⟨_, rfl⟩
  have n1:st.next≤S1.next:=by rw [←hS1];exact c4.2.1
  have e1:S1.base=st.base:=by rw [←hS1]
  have k1:∀u, u<st.next→S1.get u=st.get u:=fun u hu=>by rw [←hS1];exact c4.2.2.2 u hu (by simp [Z0g])
  have w1:OT n S1 v1 y F1:=c2.keep n (by rw [←hS1];exact Nat.le_refl _) (fun u _=>by rw [←hS1];rfl)
  have f1:Fsh st.next F1 S1:=c3.keep (by rw [←hS1];exact Nat.le_refl _)
  have g1:S1.get m=some (.var [o, pa, pb, pc, pd, ve]):=(k1 m hm).trans hg
  have hA1:TR (SubT n) 1 S1 ve pre F:=hA.keep (SubT.mono n) n1 (fun u hu=>k1 u (hF.2 u hu).2)
  have hF1:Fsh (m+1) (F++F1) S1:=hF.app f1 n1 (by omega)
  obtain ⟨v2, S2, F2, r1, r2, r3, r4⟩:=hA1.app (SubT.mono n) (a:=y) (cs:=[v1]) ⟨v1, rfl, w1⟩ hF1 (bytes:=24) (by omega) (by subst hl;simp only [List.length_append, List.length_cons] at hb;simp only [Z05];omega)
  have n2:=r4.2.1
  have k2:∀u, u≤m→S2.get u=S1.get u:=fun u hu=>r4.2.2.2 u (by omega) fun e=>by
   have:=(hF.2 u (hA.mem e)).1
   omega
  have g2:S2.get m=some (.var [o, pa, pb, pc, pd, ve]):=(k2 m (Nat.le_refl _)).trans g1
  obtain ⟨S3, hS3⟩:∃S, S2.put m (.var [o, pa, pb, pc, pd, v2])=S:=⟨_, rfl⟩
  have g3:S3.get m=some (.var [o, pa, pb, pc, pd, v2]):=by rw [←hS3];exact St.get_put
  have n3:S3.next=S2.next:=by rw [←hS3];rfl
  have e3:S3.base=st.base:=by rw [←hS3];exact r4.1.trans e1
  have k3:∀u, u≠m→S3.get u=S2.get u:=fun u hu=>by rw [←hS3];exact St.get_put_old (fun e=>hu e.symm)
  have hA3:TR (SubT n) 1 S3 v2 (pre++[y]) F2:=r2.keep (SubT.mono n) (by omega) (fun u hu=>k3 u (by have:=(r3.2 u hu).1;omega))
  have hF3:Fsh (m+1) F2 S3:=r3.keep (by omega)
  have hw:IntKind.i64.wrap ((pre.length:Int)+1)=((pre++[y]).length:Int):=by rw [Z01];simp;omega
  have hi:=ihr (pre++[y]) S3 v2 F2 (by rw [hl];simp) g3 (by omega) hA3 hF3
  obtain ⟨_, _, s3, s4, s5⟩:=w1.shape
  obtain ⟨_, _, s6, s7, s8⟩:=r2.shape
  have hok:okEls 1 [[v1]]=true:=Zq3 rfl (by simpa using s3)
  have hearly:∀ {e:EC} {a:Opd}, a.get e=some (.ptr m 5)→∀u, u≤2→Zl ((mkN [3, 4, 5, 7] [some 58, some 59, some 60, none] st [S1, S1, S2, S3] [[], [], [56], []]).S u).get e (.load 1 false a)=some ve:=fun {e a} ha u hu=>by
   have hh:∀s:St, s.get m=some (.var [o, pa, pb, pc, pd, ve])→Zl s.get e (.load 1 false a)=some ve:=fun s hs=>by
    simp only [Zl, Zcq, ha, loadAt, behind, hs, Option.bind_some, slice?]
    rfl
   match u, hu with
   |0, _=>exact hh st hg
   |1, _=>exact hh S1 g1
   |2, _=>exact hh S1 g1
  refine Zf ?_
  repeat' first|((with_reducible show V _ _ _ _ _ _);first|refine Z15 hlt rfl rfl ?_|refine V_C (mkN [3, 4, 5, 7] [some 58, some 59, some 60, none] st [S1, S1, S2, S3] [[], [], [56], []]) rfl rfl ?_|refine Z3w (Z7z rfl hi ⟨rfl, rfl, rfl, rfl, rfl, rfl, rfl, Z04 hw, trivial⟩) ?_|refine Z1 rfl ?_)|((with_reducible show VO _ _ _ _ _ _ _);first|refine Zg rfl rfl ay ?_|refine Z0 rfl ?_|refine Z2 ?_)|((with_reducible show Go.AM.VC _ _ _ _ _ _ _ _ _ _);first|refine C_early 2 rfl rfl rfl rfl (hearly rfl) ?_|refine Znj rfl rfl rfl rfl rfl rfl rfl rfl c1 c4.1 hS1.symm ?_|refine Zpo rfl rfl rfl rfl rfl rfl rfl (bldS1 s4 s5 rfl) ?_|refine Znk rfl rfl rfl rfl rfl rfl rfl rfl rfl rfl hok (by decide) (by decide) r1 ?_|refine Zki rfl rfl rfl rfl rfl (Z6l (off:=5) g2 s7 s6 rfl rfl hS3 rfl rfl) ?_|refine Z9z rfl rfl (fun _=>rfl) ?_|refine C_nil rfl rfl ?_)
  rintro x e st' ⟨rfl, rfl, ve', F', z1, z2, z3, z4, z5, z6⟩
  exact ⟨rfl, rfl, ve', F', z1, z2, z3, z4.trans e3, by omega, fun u hu=>(z6 u hu).trans ((k3 u (by omega)).trans ((k2 u (by omega)).trans (k1 u (by omega))))⟩
theorem Fsh.weak {a b:Nat} {F:List Nat} {st:St} (h:Fsh a F st) (hb:b≤a):Fsh b F st:=⟨h.1, fun u hu=>⟨Nat.le_trans hb (h.2 u hu).1, (h.2 u hu).2⟩⟩
theorem Zjp:∀ {l:List Stp}, Zlv l=true→∀ {s:Stp}, s∈l→okS s=true
 |[], _, s, hs=>by cases hs
 |x::r, h, s, hs=>by
  unfold Zlv at h
  simp only [Bool.and_eq_true] at h
  rcases List.mem_cons.1 hs with rfl|hs
  ·exact h.1
  ·exact Zjp h.2 hs
theorem preds_plain {st:St} {m:Nat} {vp o pa pb pd pe:PV} {preds:List Prd} (hg:st.get m=some (.var [o, pa, pb, vp, pd, pe])) (hA:AccR PrC 2 st vp preds) (ht:∀u, Z0g vp=some u→m<u) (hb:preds.length≤32):
  ∃S' q, LR PrC q preds∧S'.get m=some (.var [o, pa, pb, q, pd, pe])∧S'.base=st.base∧S'.next=st.next∧(∀u, u<m→S'.get u=st.get u)∧∀ {Q:Z6k} {k k':List Fr} {x:EX} {ρ:EC} {c:PC}, Zs 200 k x=(.code c::k', .normal)→Zs 200 (.code c::k') .normal=(.code c::k', .normal)→V T Q (.code c::k') .normal ρ S'→V T Q k x ρ st:=by
 rcases hA.plain (fun a cs h=>h.c2.2.2) (by omega) with ⟨rfl, rfl⟩|⟨t, g, es, q, rfl, k1, k2, k3, k4, k5⟩
 ·refine ⟨st, .nilSl, .inl ⟨rfl, rfl⟩, hg, rfl, rfl, fun _ _=>rfl, fun {Q k k' x ρ c} ha _ h=>?_⟩
  exact Z5j ha h
 ·have hm:m<t:=ht t rfl
  obtain ⟨S1, hS1⟩:∃S, st.put t (.row g 2 es false)=S:=⟨_, rfl⟩
  have g1:S1.get m=some (.var [o, pa, pb, .osl t g 0 es.length false, pd, pe]):=by rw [←hS1];exact (St.get_put_old (by omega)).trans hg
  obtain ⟨S2, hS2⟩:∃S, S1.put m (.var [o, pa, pb, q, pd, pe])=S:=⟨_, rfl⟩
  refine ⟨S2, q, k3, by rw [←hS2];exact St.get_put, by rw [←hS2, ←hS1];rfl, by rw [←hS2, ←hS1];rfl, fun u hu=>by rw [←hS2, ←hS1];exact (St.get_put_old (by omega)).trans (St.get_put_old (by omega)), fun {Q k k' x ρ c} hadv hadv2 h=>?_⟩
  refine Znh k2 hS1 hadv ?_
  refine Zlj g1 ?_ hS2 hadv2 h
  refine ⟨rfl, fun i c d h1 h2=>?_⟩
  match i, h1, h2 with
  |0, h1, h2=>simp at h1 h2;subst h1 h2;exact .inl rfl
  |1, h1, h2=>simp at h1 h2;subst h1 h2;exact .inl rfl
  |2, h1, h2=>simp at h1 h2;subst h1 h2;exact .inl rfl
  |3, h1, h2=>simp at h1 h2;subst h1 h2;exact k5 _ hS1
  |4, h1, h2=>simp at h1 h2;subst h1 h2;exact .inl rfl
  |5, h1, h2=>simp at h1 h2;subst h1 h2;exact .inl rfl
  |i+6, h1, h2=>simp at h1
set_option maxHeartbeats 8000000 in
theorem cstep_loop {n:Nat} (ihc:CloneR n) {l:List Stp} {p:PV} (hp:SL (n+1) p l) (hok:Zlv l=true) (hcn:bdL l) {b:Nat}:∀(rest pre:List Stp) (st:St) (c:PV) (F:List Nat), l=pre++rest→TR (StpT n) 6 st c pre F→Fsh b F st→b≤st.next→
  V T (PE fun x e st'=>x=.exit 0∧∃c' F', e=Ze [(3, c')]∧TR (StpT n) 6 st' c' l F'∧Fsh b F' st'∧st'.base=st.base∧st.next≤st'.next∧∀u, u<b→st'.get u=st.get u)
   [.code (.loop Zdd)] .normal (Ze [(3, c), (11, p), (12, .int .i64 l.length), (13, .int .i64 pre.length)]) st:=by
 have hbig:=hcn.1
 intro rest
 induction rest with
 |nil=>
  intro pre st c F hl hA hF hbn
  have hlt:decide ((pre.length:Int)<l.length)=false:=decide_eq_false (by subst hl;simp)
  have hA':TR (StpT n) 6 st c l F:=by
   rw [hl, List.append_nil]
   exact hA
  refine Zf ?_
  repeat' first|((with_reducible show V _ _ _ _ _ _);first|refine Z48 hlt rfl rfl ?_|refine Zr [(3, c)] rfl ⟨rfl, trivial⟩ ⟨rfl, c, F, rfl, hA', hF, rfl, Nat.le_refl _, fun _ _=>rfl⟩|refine Z1 rfl ?_)|refine Z0 rfl ?_|refine Z2 ?_
 |cons y rest ihr=>
  intro pre st c F hl hA hF hbn
  have hlt:decide ((pre.length:Int)<l.length)=true:=decide_eq_true (by subst hl;simp;omega)
  have hpl:pre.length<l.length:=by subst hl;simp
  obtain ⟨cs, ay, hcs⟩:=SL.at hp (j:=pre.length) (s:=y) (by subst hl;simp)
  have h6:=hcs.len6
  have h1:=hcs.one
  have hoky:=Zjp hok (s:=y) (by subst hl;simp)
  have hcy:=Zpi hcn.2 (s:=y) (by subst hl;simp)
  obtain ⟨op, names, nums, preds, vals, subs⟩:=y
  obtain ⟨io, pa, pb, pc, pd, pe, rfl, ha, hb, hc, hd, he⟩:=hcs
  unfold okS at hoky
  simp only [Bool.and_eq_true] at hoky
  obtain ⟨hst, hsub⟩:=hoky
  obtain ⟨b1, b2, b3, b4, b5, b6, b7⟩:=Zir hst
  have pla:Pl pa:=ha.pl fun _ _ _ h=>h.pl
  have plb:Pl pb:=hb.pl fun _ _ _ h=>h.pl
  have plc:Pl pc:=hc.pl fun _ _ _ h=>h.pl
  have pld:Pl pd:=hd.pl fun _ _ _ h=>h.pl
  obtain ⟨qa, ca, ha'⟩:=run_NClone ha (by omega)
  obtain ⟨qb, cb, hb'⟩:=run_UClone hb (by omega)
  obtain ⟨qd, cd, hd'⟩:=run_cvals hd (by omega) b7
  have qla:Pl qa:=ha'.pl fun _ _ _ h=>h.pl
  have qlb:Pl qb:=hb'.pl fun _ _ _ h=>h.pl
  have qld:Pl qd:=hd'.pl fun _ _ _ h=>h.pl
  obtain ⟨lc1, lc2, _⟩:=hc.len
  obtain ⟨le1, le2, _⟩:=he.len
  obtain ⟨S1, hS1⟩:∃S, st.new (.var z6)=S:=⟨_, rfl⟩
  have a1:S1.get st.next=some (.var z6):=by rw [←hS1];exact St.get_new
  have n1:S1.next=st.next+1:=by rw [←hS1];rfl
  have e1:S1.base=st.base:=by rw [←hS1];rfl
  have k1:∀u, u<st.next→S1.get u=st.get u:=fun u hu=>by rw [←hS1];exact St.get_new_old hu
  obtain ⟨S2, hS2⟩:∃S, S1.put st.next (.var [.int .i64 op, pa, pb, pc, pd, pe])=S:=⟨_, rfl⟩
  have a2:S2.get st.next=some (.var [.int .i64 op, pa, pb, pc, pd, pe]):=by rw [←hS2];exact St.get_put
  have n2:S2.next=st.next+1:=by rw [←hS2];exact n1
  have e2:S2.base=st.base:=by rw [←hS2];exact e1
  have k2:∀u, u<st.next→S2.get u=st.get u:=fun u hu=>by rw [←hS2];exact (St.get_put_old (by omega)).trans (k1 u hu)
  obtain ⟨m, hmm⟩:∃m, st.next+1=m:=⟨_, rfl⟩
  obtain ⟨S3, hS3⟩:∃S, S2.new (.var z6)=S:=⟨_, rfl⟩
  have g3:S3.get m=some (.var z6):=by rw [←hS3, ←hmm, ←n2];exact St.get_new
  have n3:S3.next=m+1:=by rw [←hS3];show S2.next+1=m+1;omega
  have e3:S3.base=st.base:=by rw [←hS3];exact e2
  have k3:∀u, u<m→S3.get u=S2.get u:=fun u hu=>by rw [←hS3];exact St.get_new_old (by omega)
  obtain ⟨S4, hS4⟩:∃S, S3.put m (.var [.int .i64 op, qa, qb, .nilSl, qd, .nilSl])=S:=⟨_, rfl⟩
  have g4:S4.get m=some (.var [.int .i64 op, qa, qb, .nilSl, qd, .nilSl]):=by rw [←hS4];exact St.get_put
  have n4:S4.next=m+1:=by rw [←hS4];exact n3
  have e4:S4.base=st.base:=by rw [←hS4];exact e3
  have k4:∀u, u<m→S4.get u=S2.get u:=fun u hu=>by rw [←hS4];exact (St.get_put_old (by omega)).trans (k3 u hu)
  have a3:S3.get st.next=some (.var [.int .i64 op, pa, pb, pc, pd, pe]):=(k3 _ (by omega)).trans a2
  have a4:S4.get st.next=some (.var [.int .i64 op, pa, pb, pc, pd, pe]):=(k4 _ (by omega)).trans a2
  have hall:∀s, s=S2∨s=S3∨s=S4→s.get st.next=some (.var [.int .i64 op, pa, pb, pc, pd, pe]):=fun s hs=>by
   rcases hs with rfl|rfl|rfl
   ·exact a2
   ·exact a3
   ·exact a4
  have hal:∀ ρ:EC, Z13 S2 ρ (.alloc [.int .i64 0, .nilSl, .nilSl, .nilSl, .nilSl, .nilSl])=some (.ptr m 0, S3):=fun ρ=>by
   rw [←hS3, ←hmm, ←n2]
   rfl
  have hst4:∀ {e:EC} {a x:Opd}, a.get e=some (.ptr m 0)→x.get e=some (.agg [.int .i64 op, qa, qb, .nilSl, qd, .nilSl])→Z13 S3 e (.store 6 a x)=some (.tuple [], S4):=fun {e a x} h1 h2=>by
   have:(PV.agg [.int .i64 op, qa, qb, .nilSl, qd, .nilSl]).cells.all PV.one=true:=by
    show [PV.int .i64 op, qa, qb, .nilSl, qd, .nilSl].all PV.one=true
    simp only [List.all_cons, List.all_nil, (Z3i ha').one, (Z3i hb').one, (Z3i hd').one]
    rfl
   simp only [Z13, h1, h2]
   rw [if_pos ⟨this, rfl, by decide⟩, Z1d g3 (by rfl)]
   rw [←hS4]
   rfl
  have hl1:=cpreds_loop hc (by omega) b6 (m:=m) (c:=c) (t5:=.ptr st.next 0) (p:=p) (L:=.int .i64 l.length) (I:=.int .i64 pre.length) (o:=.int .i64 op) (pa:=qa) (pb:=qb) (pd:=qd) preds [] S4 .nilSl rfl g4 (by omega) .nil (fun u hu=>by cases hu)
  refine Zf ?_
  repeat' first|((with_reducible show V _ _ _ _ _ _);first|refine Z15 hlt rfl rfl ?_|refine V_M2 12 13 6 S3 S4 rfl rfl ?_|refine Z08 rfl hl1 ⟨rfl, rfl, rfl, rfl, rfl, rfl, rfl, rfl, rfl, trivial⟩ ?_|refine Z1 rfl ?_)|((with_reducible show VO _ _ _ _ _ _ _);first|refine Zg rfl rfl ay ?_|refine Z07 rfl h6 ?_|refine Z0b hS1 rfl ?_|refine Z0j hS2 a1 h1 rfl rfl rfl rfl rfl ?_|refine Z81 rfl a4 rfl ?_|refine Z4 rfl lc1 lc2 ?_|refine Z0 rfl ?_|refine Z2 ?_)|refine M2_loadV rfl rfl (.inl rfl) rfl hall rfl ?_|refine Zfo rfl rfl (.inl rfl) rfl rfl (fun _=>Z0c) ca ?_|refine Zfo rfl rfl (.inl rfl) rfl rfl (fun _=>Z0c) cb ?_|refine Zfo rfl rfl (.inl rfl) rfl rfl (fun _=>Z0c) cd ?_|refine Zaz rfl (hal _) ?_|refine Zcv rfl (by decide) (hst4 rfl rfl) ?_|refine Z0m rfl rfl (.inl rfl) (bld6 (Z3i ha') (Z3i hb') (Z3i hd') rfl rfl rfl rfl) (bld6 (Z3i ha') (Z3i hb') (Z3i hd') rfl rfl rfl rfl) (bld6 (Z3i ha') (Z3i hb') (Z3i hd') rfl rfl rfl rfl) ?_|refine Z0m rfl rfl (.inl rfl) rfl rfl rfl ?_|refine Zpn ?_
  rintro x e st5 ⟨rfl, rfl, vp, z1, z2, z3, z4, z5, z6⟩
  obtain ⟨S6, qc, hc', y1, y2, y3, y4, y5⟩:=preds_plain z1 z2 z3 b3
  have a6:S6.get st.next=some (.var [.int .i64 op, pa, pb, pc, pd, pe]):=(y4 _ (by omega)).trans ((z6 _ (by omega)).trans a4)
  have qlc:Pl qc:=hc'.pl fun _ _ _ h=>h.pl
  have hl2:=csubs_loop ihc he (by omega) hsub (by rw [bdS] at hcy;exact hcy) (m:=m) (c:=c) (p:=p) (L:=.int .i64 l.length) (I:=.int .i64 pre.length) (o:=.int .i64 op) (pa:=qa) (pb:=qb) (pc:=qc) (pd:=qd) subs [] S6 .nilSl [] rfl y1 (by omega) .nil ⟨List.nodup_nil, fun u hu=>by cases hu⟩
  refine y5 rfl rfl ?_
  repeat' first|refine Z08 rfl hl2 ⟨rfl, rfl, rfl, rfl, rfl, rfl, rfl, rfl, trivial⟩ ?_|refine Z1 rfl ?_|((with_reducible show VO _ _ _ _ _ _ _);first|refine Z81 rfl a6 rfl ?_|refine Z4 rfl le1 le2 ?_|refine Z0 rfl ?_|refine Z2 ?_)
  rintro x e st7 ⟨rfl, rfl, ve, G, x1, x2, x3, x4, x5, x6⟩
  have kk:∀u, u<st.next→st7.get u=st.get u:=fun u hu=>(x6 u (by omega)).trans ((y4 u (by omega)).trans ((z6 u (by omega)).trans ((k4 u (by omega)).trans (k2 u hu))))
  have n7:st.next≤st7.next:=by omega
  have hA7:TR (StpT n) 6 st7 c pre F:=hA.keep (StpT.mono n) n7 (fun u hu=>kk u (hF.2 u hu).2)
  have hF7:Fsh b (F++G) st7:=hF.app (x3.weak (by omega)) n7 hbn
  have hS:StpT n st7 (.mk op names nums preds vals subs) [.int .i64 op, qa, qb, qc, qd, ve] G:=⟨io, qa, qb, qc, qd, ve, rfl, ha', hb', hc', hd', x2⟩
  obtain ⟨v', S8, F8, r1, r2, r3, r4⟩:=hA7.app (StpT.mono n) hS hF7 (bytes:=128) (by omega) (by subst hl;simp only [List.length_append, List.length_cons] at hbig;simp only [Z05];omega)
  have hw:IntKind.i64.wrap ((pre.length:Int)+1)=((pre++[Stp.mk op names nums preds vals subs]).length:Int):=by rw [Z01];simp;omega
  have hi:=ihr (pre++[.mk op names nums preds vals subs]) S8 v' F8 (by rw [hl];simp) r2 r3 (by have:=r4.2.1;omega)
  have hone:∀c∈[PV.int .i64 op, qa, qb, qc, qd, ve], PV.one c=true:=by
   simp only [List.mem_cons, List.not_mem_nil, or_false, forall_eq_or_imp, forall_eq, (Z3i ha').one, (Z3i hb').one, (Z3i hc').one, (Z3i hd').one, (TR.shape x2).2.2.1, and_self, and_true]
   rfl
  have hok6:okEls 6 [[PV.int .i64 op, qa, qb, qc, qd, ve]]=true:=Zq3 rfl hone
  repeat' first|refine Z3w (Z7z rfl hi ⟨rfl, rfl, rfl, Z04 hw, trivial⟩) ?_|refine Z1 rfl ?_|((with_reducible show VO _ _ _ _ _ _ _);first|refine Zt rfl x1 rfl ?_|refine Z25 rfl rfl rfl hok6 (by decide) (by decide) r1 ?_|refine Z0 rfl ?_|refine Z2 ?_)
  rintro x e st' ⟨rfl, c', F', rfl, w1, w2, w3, w4, w5⟩
  refine ⟨rfl, c', F', rfl, w1, w2, w3.trans (r4.1.trans (x4.trans (y2.trans (z4.trans e4)))), by have:=r4.2.1;omega, fun u hu=>(w5 u hu).trans ((r4.2.2.2 u (by omega) fun e=>?_).trans (kk u (by omega)))⟩
  have:=(hF.2 u (hA.mem e)).1
  omega
theorem cloneRaw:∀n:Nat, CloneR n
 |0, l, p, hp, hok, hcn, st=>by
  have hl:l=[]:=by
   cases l with
   |nil=>rfl
   |cons s r=>
    obtain ⟨cs, _, h⟩:=SL.at hp (j:=0) (s:=s) rfl
    exact h.elim
  subst hl
  obtain ⟨e1, e2, _⟩:=hp.len
  have hlt:decide ((0:Int)<(([]:List Stp).length:Int))=false:=by decide
  have key:∃v' st', T.R (.raw Zcg [p] st v' st')∧v'=.nilSl∧st'=st:=by
   refine Zeb (Q:=fun v' st'=>v'=.nilSl∧st'=st) rfl rfl ?_
   repeat' first|((with_reducible show V _ _ _ _ _ _);first|refine Z9x rfl (Zf ?_)|refine Z48 hlt rfl rfl ?_|refine Z80 rfl rfl ⟨rfl, rfl⟩|refine Z1 rfl ?_)|((with_reducible show VO _ _ _ _ _ _ _);first|refine Z4 rfl e1 e2 ?_|refine Z0 rfl ?_|refine Z2 ?_)
  obtain ⟨v', st', h1, rfl, rfl⟩:=key
  exact ⟨_, _, [], h1, ⟨rfl, rfl, rfl⟩, ⟨List.nodup_nil, fun u hu=>by cases hu⟩, Grow.refl _ _⟩
 |n+1, l, p, hp, hok, hcn, st=>by
  obtain ⟨e1, e2, _⟩:=hp.len
  have hlp:=cstep_loop (cloneRaw n) hp hok hcn (b:=st.next) l [] st .nilSl [] rfl .nil ⟨List.nodup_nil, fun u hu=>by cases hu⟩ (Nat.le_refl _)
  have key:∃v' st', T.R (.raw Zcg [p] st v' st')∧∃F, TR (StpT n) 6 st' v' l F∧Fsh st.next F st'∧st'.base=st.base∧st.next≤st'.next∧∀u, u<st.next→st'.get u=st.get u:=by
   refine Zeb (Q:=fun v' st'=>∃F, TR (StpT n) 6 st' v' l F∧Fsh st.next F st'∧st'.base=st.base∧st.next≤st'.next∧∀u, u<st.next→st'.get u=st.get u) rfl rfl ?_
   repeat' first|refine Z08 rfl hlp ⟨rfl, rfl, rfl, rfl, trivial⟩ ?_|refine Z1 rfl ?_|((with_reducible show VO _ _ _ _ _ _ _);first|refine Z4 rfl e1 e2 ?_|refine Z0 rfl ?_|refine Z2 ?_)
   rintro x e st' ⟨rfl, c', F', rfl, w1, w2, w3, w4, w5⟩
   repeat' first|refine Z80 rfl rfl ⟨F', w1, w2, w3, w4, w5⟩|refine Z1 rfl ?_|refine Z0 rfl ?_|refine Z2 ?_
  obtain ⟨v', st', h1, F, w1, w2, w3, w4, w5⟩:=key
  refine ⟨v', st', F, h1, ot_tr.2 w1, w2, w3, w4, ?_, fun u hu _=>w5 u hu⟩
  cases ht:Z0g v' with
  |none=>exact .inl rfl
  |some t=>exact .inr ⟨t, rfl, (w2.2 t (TR.mem w1 ht)).1⟩
end Go.Proofs.YtnedeokclnbcpaaGreatDoor
