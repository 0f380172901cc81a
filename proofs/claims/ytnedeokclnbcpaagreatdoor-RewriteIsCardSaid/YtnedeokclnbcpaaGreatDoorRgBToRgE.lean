/- Copies of steps by the reference: rambleref16.Clone. · Copies of steps by the reference: rambleref16.Clone, whole. · A step behind others, by the reference: rambleref20.put. · Steps in a shorter way, by the reference: rambleref20.rewrite, Rewrite. -/
import Derived.Test.YtnedeokclnbcpaaGreatDoorRfDToRgA
import Derived.Test.YtnedeokclnbcpaaGreatDoorRwRToRwS
import Derived.Test.YtnedeokclnbcpaaGreatDoorRwEToRwH
import Derived.Test.YtnedeokclnbcpaaGreatDoorRwUToRwY
set_option linter.unusedVariables false
set_option linter.unusedSimpArgs false
namespace Go.Proofs.YtnedeokclnbcpaaGreatDoor
open Go Go.AM Go.RowKit
theorem app_nil {α:Type} {R:α→List PV→Prop} {l:List α} {p:PV} {sz bytes:Nat} {z:List PV} (hp:LR R p l) (hs:∀a cs, R a cs→cs.length=sz∧∀c∈cs, PV.one c=true) (hz:0<sz) (hby:0<bytes) (hr:l.length * bytes≤Z05):
  ∃q, LR R q l∧∀ {look:Nat→Option Tok} {e:EC} {x:Opd}, x.get e=some p→Zl look e (.append sz bytes z (.c .nilSl) x)=some q:=by
 rcases hp with ⟨rfl, rfl⟩|⟨xs, f, rfl, hb, hl, h⟩
 ·refine ⟨.nilSl, .inl ⟨rfl, rfl⟩, fun {look e x} hx=>?_⟩
  simp only [Zl, Zp4, show (Opd.c PV.nilSl).get e=some .nilSl from rfl, hx]
  rfl
 ·cases xs with
  |nil=>
   have:l=[]:=List.length_eq_zero_iff.1 (by simpa using hl.symm)
   subst this
   refine ⟨.nilSl, .inl ⟨rfl, rfl⟩, fun {look e x} hx=>?_⟩
   simp only [Zl, Zp4, show (Opd.c PV.nilSl).get e=some .nilSl from rfl, hx]
   rfl
  |cons c r=>
   have hok:okEls sz (c::r)=true:=List.all_eq_true.2 fun cs hcs=>by
    obtain ⟨j, hj⟩:=List.getElem?_of_mem hcs
    have hlt:j<l.length:=by rw [←hl];exact (List.getElem?_eq_some_iff.1 hj).1
    obtain ⟨h1, h2⟩:=hs _ _ (h j l[j] cs (List.getElem?_eq_getElem hlt) hj)
    rw [Bool.and_eq_true]
    exact ⟨by simp [h1], List.all_eq_true.2 h2⟩
   refine ⟨.sl (c::r) false, .inr ⟨_, false, rfl, hb, hl, h⟩, fun {look e x} hx=>?_⟩
   simp only [Zl, Zp4, show (Opd.c PV.nilSl).get e=some .nilSl from rfl, hx]
   show appQ sz bytes .nilSl (.sl (c::r) f)=_
   exact if_pos ⟨hok, hz, hby, by rw [hl];exact hr⟩
theorem fld_tell {α:Type} {R:α→List PV→Prop} {sz:Nat} {st:St} {v:PV} {L:List α} {m k:Nat} {cs:List PV} (h:AccR R sz st v L) (hpl:∀a cs, R a cs→∀c∈cs, Pl c) (hl:L.length≤140737488355328) (hg:st.get m=some (.var cs)) (hk:cs[k]?=some v) (hm:Z0g v≠some m):
  ∃S' q, LR R q L∧S'.get m=some (.var (cs.set k q))∧S'.base=st.base∧S'.next=st.next∧(∀u, u≠m→Z0g v≠some u→S'.get u=st.get u)∧∀ {Q:Z6k} {kk k':List Fr} {x:EX} {ρ:EC} {c:PC}, Zs 200 kk x=(.code c::k', .normal)→Zs 200 (.code c::k') .normal=(.code c::k', .normal)→V T Q (.code c::k') .normal ρ S'→V T Q kk x ρ st:=by
 obtain ⟨S1, q, q1, q2, q3, q4, q5, q6, q7, q8⟩:=acc_tell h hpl hl
 obtain ⟨S2, hS2⟩:∃S, S1.put m (.var (cs.set k q))=S:=⟨_, rfl⟩
 refine ⟨S2, q, q1, by rw [←hS2];exact St.get_put, by rw [←hS2];exact q4, by rw [←hS2];exact q5, fun u hu hv=>by rw [←hS2];exact (St.get_put_old (fun e=>hu e.symm)).trans (q6 u hv), fun {Q kk k' x ρ c} ha ha2 hw=>?_⟩
 refine q8 ha ?_
 refine Zlj ((q6 m hm).trans hg) ⟨by simp, fun i c d h1 h2=>?_⟩ hS2 ha2 hw
 by_cases hi:k=i
 ·subst hi
  rw [hk] at h1
  injection h1 with h1
  subst h1
  have hlt:k<cs.length:=(List.getElem?_eq_some_iff.1 hk).1
  rw [List.getElem?_set_self hlt] at h2
  injection h2 with h2
  subst h2
  exact q7
 ·rw [List.getElem?_set_ne hi] at h2
  rw [h1] at h2
  injection h2 with h2
  exact .inl h2
theorem SubC.pl2 {n:Nat} {a:List Stp} {cs:List PV} (h:SubC (SC n) a cs):∀c∈cs, Pl c:=by
 obtain ⟨q, rfl, hq⟩:=h
 intro c hc
 simp at hc
 subst hc
 exact SL.pl hq
set_option maxHeartbeats 4000000 in
theorem rcpreds_loop {preds:List Prd} {pc:PV} (hc:LR PrC pc preds) (hb:preds.length≤32) (hv:preds.all Zft=true) {m:Nat} {c p o pa pb pd xo xa xb xd xe:PV} {I:Int} (plp:Pl p) (ax:At 6 p I [xo, xa, xb, pc, xd, xe]):∀(rest pre:List Prd) (st:St) (vp:PV), preds=pre++rest→
  st.get m=some (.var [o, pa, pb, vp, pd, .nilSl])→m<st.next→AccR PrC 2 st vp pre→(∀u, Z0g vp=some u→m<u)→
  V T (PE fun x e st'=>x=.exit 2∧e=Ze [(0, p), (3, c), (4, .int .i64 I), (5, .ptr m 0)]∧∃vp', st'.get m=some (.var [o, pa, pb, vp', pd, .nilSl])∧AccR PrC 2 st' vp' preds∧(∀u, Z0g vp'=some u→m<u)∧st'.base=st.base∧st.next≤st'.next∧∀u, u<m→st'.get u=st.get u)
   [.code (.loop Z5z)] .normal (Ze [(0, p), (3, c), (4, .int .i64 I), (5, .ptr m 0), (6, .int .i64 pre.length)]) st:=by
 obtain ⟨e1, e2, _⟩:=hc.len
 intro rest
 induction rest with
 |nil=>
  intro pre st vp hl hg hm hA ht
  have hlt:decide ((pre.length:Int)<preds.length)=false:=decide_eq_false (by subst hl;simp)
  have hA':AccR PrC 2 st vp preds:=by
   rw [hl, List.append_nil]
   exact hA
  refine Zf ?_
  repeat' first|((with_reducible show V _ _ _ _ _ _);first|refine Z48 hlt rfl rfl ?_|refine Zr [(0, p), (3, c), (4, .int .i64 I), (5, .ptr m 0)] rfl ⟨rfl, rfl, rfl, rfl, trivial⟩ ⟨rfl, rfl, vp, hg, hA', ht, rfl, Nat.le_refl _, fun _ _=>rfl⟩|refine Z1 rfl ?_)|((with_reducible show VO _ _ _ _ _ _ _);first|refine Zg rfl rfl ax ?_|refine Z4 rfl e1 e2 ?_|refine Z0 rfl ?_|refine Z2 ?_)
 |cons y rest ihr=>
  intro pre st vp hl hg hm hA ht
  have hlt:decide ((pre.length:Int)<preds.length)=true:=decide_eq_true (by subst hl;simp;omega)
  have hpl:pre.length<preds.length:=by subst hl;simp
  obtain ⟨cs, ay, hcs⟩:=hc.at (sz:=2) (fun _ _ h=>h.c2.1) (j:=pre.length) (a:=y) (by subst hl;simp)
  have yv:Zft y=true:=List.all_eq_true.1 hv y (by subst hl;simp)
  obtain ⟨yo, yl⟩:=y
  obtain ⟨b1, b2⟩:=predB_len yv
  obtain ⟨io, q, rfl, hq⟩:=hcs
  have plq:Pl q:=hq.pl fun _ _ _ h=>h.pl
  obtain ⟨q', c1, c2⟩:=Ziy hq (by omega) b2
  have hy:PrC (.mk yo yl) [.int .i64 yo, q']:=⟨io, q', rfl, c2⟩
  obtain ⟨v', S3, r1, r2, r3⟩:=hA.app hy (bytes:=32) (by subst hl;simp only [List.length_append, List.length_cons] at hb;simp only [Z05];omega)
  have t3:∀u, Z0g v'=some u→m<u:=fun u hu=>by
   rcases r3.2.2.1 with e|⟨t, e, h⟩
   ·exact ht u (e ▸ hu)
   ·rw [e] at hu
    injection hu with hu
    omega
  have n3:=r3.2.1
  have k3:∀u, u≤m→S3.get u=st.get u:=fun u hu=>r3.2.2.2 u (by omega) fun e=>by
   have:=ht u e
   omega
  have g3:S3.get m=some (.var [o, pa, pb, vp, pd, .nilSl]):=(k3 m (Nat.le_refl _)).trans hg
  obtain ⟨S4, hS4⟩:∃S, S3.put m (.var [o, pa, pb, v', pd, .nilSl])=S:=⟨_, rfl⟩
  have g4:S4.get m=some (.var [o, pa, pb, v', pd, .nilSl]):=by rw [←hS4];exact St.get_put
  have n4:S4.next=S3.next:=by rw [←hS4];rfl
  have e4:S4.base=st.base:=by rw [←hS4];exact r3.1
  have k4:∀u, u≠m→S4.get u=S3.get u:=fun u hu=>by rw [←hS4];exact St.get_put_old (fun e=>hu e.symm)
  have hA4:AccR PrC 2 S4 v' (pre++[.mk yo yl]):=r2.keep (by omega) (fun u hu=>k4 u (by have:=t3 u hu;omega))
  have hw:IntKind.i64.wrap ((pre.length:Int)+1)=((pre++[Prd.mk yo yl]).length:Int):=by rw [Z01];simp;omega
  have hi:=ihr (pre++[.mk yo yl]) S4 v' (by rw [hl];simp) g4 (by omega) hA4 t3
  have hld:∀ {e:EC} {a:Opd}, a.get e=some (.ptr m 3)→Zl st.get e (.load 1 false a)=some vp:=fun {e a} ha=>by
   simp only [Zl, Zcq, ha, loadAt, behind, hg, Option.bind_some, slice?]
   rfl
  have hcv:v'.cells=[v']:=by
   obtain ⟨es, h, _⟩:=r2
   rcases h with ⟨rfl, _⟩|⟨t, g, rfl, _⟩<;>rfl
  have hok:okEls 2 [[.int .i64 yo, q']]=true:=Zq3 rfl hy.c2.2.1
  refine Zf ?_
  repeat' first|((with_reducible show V _ _ _ _ _ _);first|refine Z15 hlt rfl rfl ?_|refine V_C (mkC [1, 23, 25] [some 49, some 71, none] st [st, S3, S4] none) rfl rfl ?_|refine Z3w (Z7z rfl hi ⟨rfl, rfl, rfl, rfl, Z04 hw, trivial⟩) ?_|refine Z1 rfl ?_)|((with_reducible show VO _ _ _ _ _ _ _);first|refine Zg rfl rfl ax ?_|refine Z4 rfl e1 e2 ?_|refine Z0 rfl ?_|refine Z2 ?_)|((with_reducible show Go.AM.VC _ _ _ _ _ _ _ _ _ _);first|refine Zpo rfl rfl rfl rfl rfl rfl rfl (hld rfl) ?_|refine C_call rfl rfl rfl rfl (fun _=>Z0c) c1 ?_|refine Z9z rfl rfl (fun _=>Z0x ax rfl rfl) ?_|refine Z9z rfl rfl (fun _=>Z0x ay rfl rfl) ?_|refine Z9z rfl rfl (fun _=>bld2 (Z3i c2) rfl rfl) ?_|refine Znk rfl rfl rfl rfl rfl rfl rfl rfl rfl rfl hok (by decide) (by decide) r1 ?_|refine Zki rfl rfl rfl rfl rfl (Z6l (off:=3) g3 hcv r2.one rfl rfl hS4 rfl rfl) ?_|refine Z9z rfl rfl (fun _=>rfl) ?_|refine C_nil rfl rfl ?_)
  rintro x e st' ⟨rfl, rfl, vp', z1, z2, z3, z4, z5, z6⟩
  exact ⟨rfl, rfl, vp', z1, z2, z3, z4.trans e4, by omega, fun u hu=>(z6 u hu).trans ((k4 u (by omega)).trans (k3 u (by omega)))⟩
def RCloneP (n:Nat):Prop:=∀(l:List Stp) (p:PV), SL n p l→Zlv l=true→bdL l→∃q, T.R (.call Zhy [p] q)∧SL n q l
set_option maxHeartbeats 4000000 in
theorem rcsubs_loop {n:Nat} (ihc:RCloneP n) {subs:List (List Stp)} {pe:PV} (he:LR (SubC (SC n)) pe subs) (hb:subs.length≤32) (hv:Ze7 subs=true) (hcn:bdLL subs) {m:Nat} {c p o pa pb pc pd xo xa xb xc xd:PV} {I:Int} (plp:Pl p) (ax:At 6 p I [xo, xa, xb, xc, xd, pe]):∀(rest pre:List (List Stp)) (st:St) (ve:PV), subs=pre++rest→
  st.get m=some (.var [o, pa, pb, pc, pd, ve])→m<st.next→AccR (SubC (SC n)) 1 st ve pre→(∀u, Z0g ve=some u→m<u)→
  V T (PE fun x e st'=>x=.exit 4∧e=Ze [(0, p), (3, c), (4, .int .i64 I), (5, .ptr m 0)]∧∃ve', st'.get m=some (.var [o, pa, pb, pc, pd, ve'])∧AccR (SubC (SC n)) 1 st' ve' subs∧(∀u, Z0g ve'=some u→m<u)∧st'.base=st.base∧st.next≤st'.next∧∀u, u<m→st'.get u=st.get u)
   [.code (.loop Z60)] .normal (Ze [(0, p), (3, c), (4, .int .i64 I), (5, .ptr m 0), (7, .int .i64 pre.length)]) st:=by
 obtain ⟨e1, e2, _⟩:=he.len
 intro rest
 induction rest with
 |nil=>
  intro pre st ve hl hg hm hA ht
  have hlt:decide ((pre.length:Int)<subs.length)=false:=decide_eq_false (by subst hl;simp)
  have hA':AccR (SubC (SC n)) 1 st ve subs:=by
   rw [hl, List.append_nil]
   exact hA
  refine Zf ?_
  repeat' first|((with_reducible show V _ _ _ _ _ _);first|refine Z48 hlt rfl rfl ?_|refine Zr [(0, p), (3, c), (4, .int .i64 I), (5, .ptr m 0)] rfl ⟨rfl, rfl, rfl, rfl, trivial⟩ ⟨rfl, rfl, ve, hg, hA', ht, rfl, Nat.le_refl _, fun _ _=>rfl⟩|refine Z1 rfl ?_)|((with_reducible show VO _ _ _ _ _ _ _);first|refine Zg rfl rfl ax ?_|refine Z4 rfl e1 e2 ?_|refine Z0 rfl ?_|refine Z2 ?_)
 |cons y rest ihr=>
  intro pre st ve hl hg hm hA ht
  have hlt:decide ((pre.length:Int)<subs.length)=true:=decide_eq_true (by subst hl;simp;omega)
  have hpl:pre.length<subs.length:=by subst hl;simp
  obtain ⟨cs, ay, hcs⟩:=he.at (sz:=1) (fun _ _ h=>by obtain ⟨_, rfl, _⟩:=h;rfl) (j:=pre.length) (a:=y) (by subst hl;simp)
  obtain ⟨q, rfl, hq⟩:=hcs
  have plq:=SL.pl hq
  have hoky:Zlv y=true:=okLL_mem hv (by subst hl;simp)
  obtain ⟨q', c1, c2⟩:=ihc y q hq hoky (Zke hcn (by subst hl;simp))
  have hy:SubC (SC n) y [q']:=⟨q', rfl, c2⟩
  obtain ⟨v', S3, r1, r2, r3⟩:=hA.app hy (bytes:=24) (by subst hl;simp only [List.length_append, List.length_cons] at hb;simp only [Z05];omega)
  have t3:∀u, Z0g v'=some u→m<u:=fun u hu=>by
   rcases r3.2.2.1 with e|⟨t, e, h⟩
   ·exact ht u (e ▸ hu)
   ·rw [e] at hu
    injection hu with hu
    omega
  have n3:=r3.2.1
  have k3:∀u, u≤m→S3.get u=st.get u:=fun u hu=>r3.2.2.2 u (by omega) fun e=>by
   have:=ht u e
   omega
  have g3:S3.get m=some (.var [o, pa, pb, pc, pd, ve]):=(k3 m (Nat.le_refl _)).trans hg
  obtain ⟨S4, hS4⟩:∃S, S3.put m (.var [o, pa, pb, pc, pd, v'])=S:=⟨_, rfl⟩
  have g4:S4.get m=some (.var [o, pa, pb, pc, pd, v']):=by rw [←hS4];exact St.get_put
  have n4:S4.next=S3.next:=by rw [←hS4];rfl
  have e4:S4.base=st.base:=by rw [←hS4];exact r3.1
  have k4:∀u, u≠m→S4.get u=S3.get u:=fun u hu=>by rw [←hS4];exact St.get_put_old (fun e=>hu e.symm)
  have hA4:AccR (SubC (SC n)) 1 S4 v' (pre++[y]):=r2.keep (by omega) (fun u hu=>k4 u (by have:=t3 u hu;omega))
  have hw:IntKind.i64.wrap ((pre.length:Int)+1)=((pre++[y]).length:Int):=by rw [Z01];simp;omega
  have hi:=ihr (pre++[y]) S4 v' (by rw [hl];simp) g4 (by omega) hA4 t3
  have hld:∀ {e:EC} {a:Opd}, a.get e=some (.ptr m 5)→Zl st.get e (.load 1 false a)=some ve:=fun {e a} ha=>by
   simp only [Zl, Zcq, ha, loadAt, behind, hg, Option.bind_some, slice?]
   rfl
  have hcv:v'.cells=[v']:=by
   obtain ⟨es, h, _⟩:=r2
   rcases h with ⟨rfl, _⟩|⟨t, g, rfl, _⟩<;>rfl
  have hcq:q'.cells=[q']∧q'.isJunk=false∧PV.one q'=true:=by rcases c2 with ⟨rfl, _⟩|⟨_, _, rfl, _⟩<;>exact ⟨rfl, rfl, rfl⟩
  have hok:okEls 1 [[q']]=true:=Zq3 rfl (by simpa using hcq.2.2)
  refine Zf ?_
  repeat' first|((with_reducible show V _ _ _ _ _ _);first|refine Z15 hlt rfl rfl ?_|refine V_C (mkC [1, 12, 14] [some 84, some 95, none] st [st, S3, S4] none) rfl rfl ?_|refine Z3w (Z7z rfl hi ⟨rfl, rfl, rfl, rfl, Z04 hw, trivial⟩) ?_|refine Z1 rfl ?_)|((with_reducible show VO _ _ _ _ _ _ _);first|refine Zg rfl rfl ax ?_|refine Z4 rfl e1 e2 ?_|refine Z0 rfl ?_|refine Z2 ?_)|((with_reducible show Go.AM.VC _ _ _ _ _ _ _ _ _ _);first|refine Zpo rfl rfl rfl rfl rfl rfl rfl (hld rfl) ?_|refine C_call rfl rfl rfl rfl (fun _=>Z0c) c1 ?_|refine Z9z rfl rfl (fun _=>Z0x ax rfl rfl) ?_|refine Z9z rfl rfl (fun _=>Z0x ay rfl rfl) ?_|refine Z9z rfl rfl (fun _=>bldS1 hcq.1 hcq.2.1 rfl) ?_|refine Znk rfl rfl rfl rfl rfl rfl rfl rfl rfl rfl hok (by decide) (by decide) r1 ?_|refine Zki rfl rfl rfl rfl rfl (Z6l (off:=5) g3 hcv r2.one rfl rfl hS4 rfl rfl) ?_|refine Z9z rfl rfl (fun _=>rfl) ?_|refine C_nil rfl rfl ?_)
  rintro x e st' ⟨rfl, rfl, ve', z1, z2, z3, z4, z5, z6⟩
  exact ⟨rfl, rfl, ve', z1, z2, z3, z4.trans e4, by omega, fun u hu=>(z6 u hu).trans ((k4 u (by omega)).trans (k3 u (by omega)))⟩
theorem NmC.c1 (a:List UInt8) (cs:List PV) (h:NmC a cs):cs.length=1∧∀c∈cs, PV.one c=true:=by
 obtain ⟨_, rfl⟩:=h
 exact ⟨rfl, by simp [PV.one]⟩
theorem NuC.c1 (a:Int) (cs:List PV) (h:NuC a cs):cs.length=1∧∀c∈cs, PV.one c=true:=by
 obtain ⟨_, rfl⟩:=h
 exact ⟨rfl, by simp [PV.one]⟩
set_option maxHeartbeats 8000000 in
theorem rcstep_loop {n:Nat} (ihc:RCloneP n) {l:List Stp} {p:PV} (hp:SL (n+1) p l) (hok:Zlv l=true) (hcn:bdL l):∀(rest pre:List Stp) (st:St) (c:PV), l=pre++rest→AccR (SC (n+1)) 6 st c pre→
  V T (PE fun x e st'=>x=.exit 0∧∃c', e=Ze [(3, c')]∧AccR (SC (n+1)) 6 st' c' l)
   [.code (.loop Z5y)] .normal (Ze [(0, p), (3, c), (4, .int .i64 pre.length)]) st:=by
 have hbig:=hcn.1
 have plp:=SL.pl hp
 obtain ⟨lp1, lp2, _⟩:=hp.len
 intro rest
 induction rest with
 |nil=>
  intro pre st c hl hA
  have hlt:decide ((pre.length:Int)<l.length)=false:=decide_eq_false (by subst hl;simp)
  have hA':AccR (SC (n+1)) 6 st c l:=by
   rw [hl, List.append_nil]
   exact hA
  refine Zf ?_
  repeat' first|((with_reducible show V _ _ _ _ _ _);first|refine Z48 hlt rfl rfl ?_|refine Zr [(3, c)] rfl ⟨rfl, trivial⟩ ⟨rfl, c, rfl, hA'⟩|refine Z1 rfl ?_)|((with_reducible show VO _ _ _ _ _ _ _);first|refine Z4 rfl lp1 lp2 ?_|refine Z0 rfl ?_|refine Z2 ?_)
 |cons y rest ihr=>
  intro pre st c hl hA
  have hlt:decide ((pre.length:Int)<l.length)=true:=decide_eq_true (by subst hl;simp;omega)
  have hpl:pre.length<l.length:=by subst hl;simp
  obtain ⟨cs, ay, hcs⟩:=SL.at hp (j:=pre.length) (s:=y) (by subst hl;simp)
  have hoky:=Zjp hok (s:=y) (by subst hl;simp)
  have hcy:=Zpi hcn.2 (s:=y) (by subst hl;simp)
  obtain ⟨op, names, nums, preds, vals, subs⟩:=y
  obtain ⟨io, pa, pb, pc, pd, pe, rfl, ha, hb, hc, hd, he⟩:=hcs
  unfold okS at hoky
  simp only [Bool.and_eq_true] at hoky
  obtain ⟨hst, hsub⟩:=hoky
  obtain ⟨b1, b2, b3, b4, b5, b6, b7⟩:=Zir hst
  have pld:Pl pd:=hd.pl fun _ _ _ h=>h.pl
  obtain ⟨qa, ha', ca⟩:=app_nil (bytes:=16) (z:=[.str []]) ha NmC.c1 (by decide) (by decide) (by simp only [Z05];omega)
  obtain ⟨qb, hb', cb⟩:=app_nil (bytes:=8) (z:=[.int .i64 0]) hb NuC.c1 (by decide) (by decide) (by simp only [Z05];omega)
  obtain ⟨qd, cd, hd'⟩:=Ziy hd (by omega) b7
  obtain ⟨m, hmm⟩:∃m, st.next=m:=⟨_, rfl⟩
  obtain ⟨S3, hS3⟩:∃S, st.new (.var z6)=S:=⟨_, rfl⟩
  have g3:S3.get m=some (.var z6):=by rw [←hS3, ←hmm];exact St.get_new
  have n3:S3.next=m+1:=by rw [←hS3, ←hmm];rfl
  have k3:∀u, u<m→S3.get u=st.get u:=fun u hu=>by rw [←hS3];exact St.get_new_old (by omega)
  obtain ⟨S4, hS4⟩:∃S, S3.put m (.var [.int .i64 op, qa, qb, .nilSl, qd, .nilSl])=S:=⟨_, rfl⟩
  have g4:S4.get m=some (.var [.int .i64 op, qa, qb, .nilSl, qd, .nilSl]):=by rw [←hS4];exact St.get_put
  have n4:S4.next=m+1:=by rw [←hS4];exact n3
  have k4:∀u, u<m→S4.get u=st.get u:=fun u hu=>by rw [←hS4];exact (St.get_put_old (by omega)).trans (k3 u hu)
  have hal:∀ ρ:EC, Z13 st ρ (.alloc [.int .i64 0, .nilSl, .nilSl, .nilSl, .nilSl, .nilSl])=some (.ptr m 0, S3):=fun ρ=>by
   rw [←hS3, ←hmm]
   rfl
  have hst4:∀ {e:EC} {a x:Opd}, a.get e=some (.ptr m 0)→x.get e=some (.agg [.int .i64 op, qa, qb, .nilSl, qd, .nilSl])→Z13 S3 e (.store 6 a x)=some (.tuple [], S4):=fun {e a x} h1 h2=>by
   have:(PV.agg [.int .i64 op, qa, qb, .nilSl, qd, .nilSl]).cells.all PV.one=true:=by
    show [PV.int .i64 op, qa, qb, .nilSl, qd, .nilSl].all PV.one=true
    simp only [List.all_cons, List.all_nil, (Z3i ha').one, (Z3i hb').one, (Z3i hd').one]
    rfl
   simp only [Z13, h1, h2]
   rw [if_pos ⟨this, rfl, by decide⟩, Z1d g3 (by rfl)]
   rw [←hS4]
   rfl
  have hl1:=rcpreds_loop hc (by omega) b6 (m:=m) (c:=c) (o:=.int .i64 op) (pa:=qa) (pb:=qb) (pd:=qd) plp ay preds [] S4 .nilSl rfl g4 (by omega) .nil (fun u hu=>by cases hu)
  have htc:∀u, Z0g c=some u→u<m:=fun u hu=>by have:=(hA.tok hu).1;omega
  refine Zf ?_
  repeat' first|((with_reducible show V _ _ _ _ _ _);first|refine Z15 hlt rfl rfl ?_|refine V_M2 24 25 5 S3 S4 rfl rfl ?_|refine Z08 rfl hl1 ⟨rfl, rfl, rfl, rfl, rfl, trivial⟩ ?_|refine Z1 rfl ?_)|((with_reducible show VO _ _ _ _ _ _ _);first|refine Z4 rfl lp1 lp2 ?_|refine Z0 rfl ?_|refine Z2 ?_)|refine Z0m rfl rfl (.inl rfl) (Z0x ay rfl rfl) (Z0x ay rfl rfl) (Z0x ay rfl rfl) ?_|refine Z0m rfl rfl (.inl rfl) (ca rfl) (ca rfl) (ca rfl) ?_|refine Z0m rfl rfl (.inl rfl) (cb rfl) (cb rfl) (cb rfl) ?_|refine Zfo rfl rfl (.inl rfl) rfl rfl (fun _=>Z0c) cd ?_|refine Zaz rfl (hal _) ?_|refine Zcv rfl (by decide) (hst4 rfl rfl) ?_|refine Z0m rfl rfl (.inl rfl) (bld6 (Z3i ha') (Z3i hb') (Z3i hd') rfl rfl rfl rfl) (bld6 (Z3i ha') (Z3i hb') (Z3i hd') rfl rfl rfl rfl) (bld6 (Z3i ha') (Z3i hb') (Z3i hd') rfl rfl rfl rfl) ?_|refine Z0m rfl rfl (.inl rfl) rfl rfl rfl ?_|refine Zpn ?_
  rintro x e st5 ⟨rfl, rfl, vp, z1, z2, z3, z4, z5, z6⟩
  obtain ⟨S6, qc, hc', y1, y2, y3, y4, y5⟩:=fld_tell (k:=3) z2 (fun a cs h=>h.c2.2.2) (by omega) z1 rfl (fun e=>by have:=z3 m e;omega)
  have y1':S6.get m=some (.var [.int .i64 op, qa, qb, qc, qd, .nilSl]):=y1
  have y4':∀u, u<m→S6.get u=st5.get u:=fun u hu=>y4 u (by omega) fun e=>by have:=z3 u e;omega
  have hl2:=rcsubs_loop ihc he (by omega) hsub (by rw [bdS] at hcy;exact hcy) (m:=m) (c:=c) (o:=.int .i64 op) (pa:=qa) (pb:=qb) (pc:=qc) (pd:=qd) plp ay subs [] S6 .nilSl rfl y1' (by omega) .nil (fun u hu=>by cases hu)
  refine y5 rfl rfl ?_
  repeat' first|refine Z08 rfl hl2 ⟨rfl, rfl, rfl, rfl, rfl, trivial⟩ ?_|refine Z1 rfl ?_|refine Z0 rfl ?_|refine Z2 ?_
  rintro x e st7 ⟨rfl, rfl, ve, x1, x2, x3, x4, x5, x6⟩
  obtain ⟨S8, qe, he', w1, w2, w3, w4, w5⟩:=fld_tell (k:=5) x2 (fun a cs h=>h.pl2) (by omega) x1 rfl (fun e=>by have:=x3 m e;omega)
  have w1':S8.get m=some (.var [.int .i64 op, qa, qb, qc, qd, qe]):=w1
  have w4':∀u, u<m→S8.get u=st7.get u:=fun u hu=>w4 u (by omega) fun e=>by have:=x3 u e;omega
  have kk:∀u, u<m→S8.get u=st.get u:=fun u hu=>(w4' u hu).trans ((x6 u hu).trans ((y4' u hu).trans ((z6 u hu).trans (k4 u hu))))
  have hA8:AccR (SC (n+1)) 6 S8 c pre:=hA.keep (by omega) (fun u hu=>kk u (htc u hu))
  have hS:SC (n+1) (.mk op names nums preds vals subs) [.int .i64 op, qa, qb, qc, qd, qe]:=⟨io, qa, qb, qc, qd, qe, rfl, ha', hb', hc', hd', he'⟩
  obtain ⟨v', S9, r1, r2, r3⟩:=hA8.app hS (bytes:=128) (by subst hl;simp only [List.length_append, List.length_cons] at hbig;simp only [Z05];omega)
  have hw:IntKind.i64.wrap ((pre.length:Int)+1)=((pre++[Stp.mk op names nums preds vals subs]).length:Int):=by rw [Z01];simp;omega
  have hi:=ihr (pre++[.mk op names nums preds vals subs]) S9 v' (by rw [hl];simp) r2
  have hok6:okEls 6 [[PV.int .i64 op, qa, qb, qc, qd, qe]]=true:=Zq3 rfl hS.one
  refine w5 rfl rfl ?_
  repeat' first|refine Z7z rfl hi ⟨rfl, rfl, Z04 hw, trivial⟩|refine Z1 rfl ?_|((with_reducible show VO _ _ _ _ _ _ _);first|refine Zt rfl w1' rfl ?_|refine Z25 rfl rfl rfl hok6 (by decide) (by decide) r1 ?_|refine Z0 rfl ?_|refine Z2 ?_)
theorem Zqi:∀n:Nat, RCloneP n
 |0, l, p, hp, hok, hcn=>by
  have hl:l=[]:=by
   cases l with
   |nil=>rfl
   |cons s r=>
    obtain ⟨cs, _, h⟩:=SL.at hp (j:=0) (s:=s) rfl
    exact h.elim
  subst hl
  obtain ⟨e1, e2, _⟩:=hp.len
  have hlt:decide ((0:Int)<(([]:List Stp).length:Int))=false:=by decide
  refine ⟨.nilSl, ?_, .inl ⟨rfl, rfl⟩⟩
  refine Z7 rfl rfl ?_
  repeat' first|((with_reducible show V _ _ _ _ _ _);first|refine Z9x rfl (Zf ?_)|refine Z48 hlt rfl rfl ?_|refine Z1 rfl ?_|refine Z6 rfl rfl ?_)|((with_reducible show VO _ _ _ _ _ _ _);first|refine Z4 rfl e1 e2 ?_|refine Z0 rfl ?_|refine Z2 ?_)
  rfl
 |n+1, l, p, hp, hok, hcn=>by
  have hlp:=rcstep_loop (Zqi n) hp hok hcn l [] emptySt .nilSl rfl .nil
  have hbig:=hcn.1
  refine Z1z rfl rfl ?_
  repeat' first|refine Z08 rfl hlp ⟨rfl, rfl, rfl, trivial⟩ ?_|refine Z1 rfl ?_|refine Z0 rfl ?_|refine Z2 ?_
  rintro x e st' ⟨rfl, v', rfl, hv'⟩
  obtain ⟨q', w1, w2⟩:=hv'.view (fun _ _ h=>h.pl) (by omega)
  repeat' first|refine Z8u rfl rfl w1 w2|refine Z1 rfl ?_|refine Z0 rfl ?_|refine Z2 ?_
theorem M2_is {T:Tb} {Q:Z6k} {k:List Fr} {ρ:EC} {st:St} {l:List POp} {kill:List Nat} {m1 m2 dd j:Nat} {A B C:St} {d:Option Nat} {op:PI} {p p':PV} (he:p=p') (hk1:Nat.beq j m1=false) (hk2:Nat.beq j m2=false) (hs:st=A∨st=B∨st=C) (hq:Zl A.get ρ op=some p) (hq':Zl B.get ρ op=some p) (hq'':Zl C.get ρ op=some p) (h:VM2 T Q m1 m2 dd A B C (j+1) l kill k (ρ.sets d p') st):VM2 T Q m1 m2 dd A B C j (⟨d, none, op⟩::l) kill k ρ st:=by
 subst he
 exact Z0m hk1 hk2 hs hq hq' hq'' h
theorem app_own {n:Nat} {l:List Stp} {p:PV} (hp:SL n p l) (hr:l.length≤1000000000) (st:St):
  ∃v B, AccR (SC n) 6 B v l∧Grow st .nilSl B v∧∀ {z:List PV} {e:EC} {x:Opd}, x.get e=some p→Z13 st e (.append 6 128 z (.c .nilSl) x)=some (v, B):=by
 have nil_:∀(h0:l=[]) (hs:Zdk st p=some []), ∃v B, AccR (SC n) 6 B v l∧Grow st .nilSl B v∧∀ {z:List PV} {e:EC} {x:Opd}, x.get e=some p→Z13 st e (.append 6 128 z (.c .nilSl) x)=some (v, B):=by
  intro h0 hs
  subst h0
  refine ⟨.nilSl, st, .nil, Grow.refl _ _, fun {z e x} hx=>?_⟩
  simp only [Z13, show (Opd.c PV.nilSl).get e=some .nilSl from rfl, hx, hs, Option.bind_some]
  rfl
 rcases hp with ⟨rfl, rfl⟩|⟨xs, f, rfl, hb, hl, h⟩
 ·exact nil_ rfl rfl
 ·by_cases hx0:xs=[]
  ·subst hx0
   exact nil_ (List.length_eq_zero_iff.1 (by simpa using hl.symm)) rfl
  ·have hok:okEls 6 xs=true:=List.all_eq_true.2 fun cs hcs=>by
    obtain ⟨j, hj⟩:=List.getElem?_of_mem hcs
    have hlt:j<l.length:=by rw [←hl];exact (List.getElem?_eq_some_iff.1 hj).1
    have:=h j l[j] cs (List.getElem?_eq_getElem hlt) hj
    rw [Bool.and_eq_true]
    exact ⟨by simp [this.len6], List.all_eq_true.2 this.one⟩
   obtain ⟨v, B, k1, k2, k3⟩:=AccT.grow (sz:=6) (bytes:=128) (st:=st) (v:=.nilSl) (es:=[]) (src:=xs) (.inl ⟨rfl, rfl⟩) hx0 (by simp only [Z05, List.length_nil];omega)
   refine ⟨v, B, ⟨xs, by simpa using k2, hl, h⟩, k3, fun {z e x} hx=>?_⟩
   simp only [Z13, show (Opd.c PV.nilSl).get e=some .nilSl from rfl, hx, Zdk, Z2p, Option.bind_some]
   rw [if_pos ⟨hok, by decide, by decide⟩]
   exact k1
def PutP (n:Nat) (L:List Stp):Prop:=∀(p:PV) (s:Stp) (cs:List PV), SL n p L→SC n s cs→okS s=true→∃q, T.R (.call Zkz [p, .agg cs] q)∧SL n q (putF L s)
set_option maxHeartbeats 8000000 in
theorem putP0 {n:Nat}:PutP n []:=by
 intro p s cs hp hs hok
 obtain ⟨cx, x1, x2⟩:=Znu hs hok
 have c6:=x2.c6
 have l6:=hs.len6
 have lx:=c6.2.1
 have plc:=hs.pl
 have plp:=SL.pl hp
 have hop:=x2.op0
 obtain ⟨f1, f2, _⟩:=hp.len
 obtain ⟨S0, hS0⟩:∃S, emptySt.new (.var cs)=S:=⟨_, rfl⟩
 have g0:S0.get 0=some (.var cs):=by rw [←hS0];rfl
 obtain ⟨S1, hS1⟩:∃S, S0.put 0 (.var cx)=S:=⟨_, rfl⟩
 have g1:S1.get 0=some (.var cx):=by rw [←hS1];exact St.get_put
 have n1:S1.next=1:=by rw [←hS1, ←hS0];rfl
 by_cases h60:(Z7i s).op=60
 ·rw [putF_id h60]
  refine Z1z rfl rfl ?_
  repeat' first|((with_reducible show V _ _ _ _ _ _);first|refine Z8u rfl rfl plp.view hp|refine Z1 rfl ?_|refine Za rfl rfl ?_)|((with_reducible show VO _ _ _ _ _ _ _);first|refine Z9y hS0 rfl rfl ?_|refine Zt rfl g0 l6 ?_|refine Z5 rfl rfl x1 ?_|refine Z1g hS1 g0 c6 l6 rfl rfl rfl ?_|refine Z0 (ldv g1 hop rfl) ?_|refine Z3 (Z0f h60) rfl ?_|refine Z0 rfl ?_|refine Z2 ?_)
 ·rw [putF_nil h60]
  obtain ⟨v, B, b1, b2, b3⟩:=app_own hp (by simp) S1
  obtain ⟨v', C, a1, a2, a3⟩:=b1.app x2 (bytes:=128) (by simp [Z05])
  have gB:B.get 0=some (.var cx):=(b2.2.2.2 0 (by omega) (fun h=>by cases h)).trans g1
  have hv0:Z0g v≠some 0:=fun h=>by
   obtain ⟨_, g, es, he⟩:=b1.tok h
   rw [gB] at he
   cases he
  have nB:=b2.2.1
  have gC:C.get 0=some (.var cx):=(a3.2.2.2 0 (by omega) hv0).trans gB
  have hb:=fun (look:Nat→Option Tok) (e:EC) (i:Nat) (hi:e.get i=some (.agg cx))=>Z49 (look:=look) c6 hi
  have hok6:okEls 6 [cx]=true:=by simp only [okEls, List.all_cons, List.all_nil, lx, List.all_eq_true.2 c6.2.2];rfl
  have d0:¬(0:Int)<(([]:List Stp).length:Int):=by simp
  obtain ⟨q, w1, w2⟩:=a2.view (fun _ _ h=>h.pl) (by simp)
  refine Z1z rfl rfl ?_
  repeat' first|((with_reducible show V _ _ _ _ _ _);first|refine V_M2 1 4 37 B C rfl rfl ?_|refine Z8u rfl rfl w1 w2|refine Z1 rfl ?_|refine Z9 rfl rfl ?_)|((with_reducible show VO _ _ _ _ _ _ _);first|refine Z9y hS0 rfl rfl ?_|refine Zt rfl g0 l6 ?_|refine Z5 rfl rfl x1 ?_|refine Z1g hS1 g0 c6 l6 rfl rfl rfl ?_|refine Z0 (ldv g1 hop rfl) ?_|refine Z3 (Zb h60) rfl ?_|refine Z4 rfl f1 f2 ?_|refine Z3 (Zb d0) rfl ?_|refine Z0 rfl ?_|refine Z2 ?_)|refine Zaz rfl (b3 rfl) ?_|refine Zqz rfl (by decide) rfl rfl rfl hok6 (by decide) (by decide) a1 ?_|refine Z0m rfl rfl (.inr (.inl rfl)) (Zl3 rfl (Zi3 g1 lx)) (Zl3 rfl (Zi3 gB lx)) (Zl3 rfl (Zi3 gC lx)) ?_|refine Z0m rfl rfl (.inr (.inl rfl)) (hb _ _ _ rfl) (hb _ _ _ rfl) (hb _ _ _ rfl) ?_|refine Z0m rfl rfl (.inl rfl) rfl rfl rfl ?_|refine Z0m rfl rfl (.inr (.inr rfl)) rfl rfl rfl ?_|refine Zpn ?_
set_option maxHeartbeats 8000000 in
theorem putP1 {n:Nat} {L0:List Stp} {a:Stp} (hL2:L0.length≤999999999) (hok0:okA (L0++[a])) (ih:PutP n L0):PutP n (L0++[a]):=by
 intro p s cs hp hs hok
 obtain ⟨cx, x1, x2⟩:=Znu hs hok
 have c6:=x2.c6
 have l6:=hs.len6
 have lx:=c6.2.1
 have plc:=hs.pl
 have plx:=c6.1
 have plp:=SL.pl hp
 have hop:=x2.op0
 obtain ⟨f1, f2, _⟩:=hp.len
 obtain ⟨S0, hS0⟩:∃S, emptySt.new (.var cs)=S:=⟨_, rfl⟩
 have g0:S0.get 0=some (.var cs):=by rw [←hS0];rfl
 obtain ⟨S1, hS1⟩:∃S, S0.put 0 (.var cx)=S:=⟨_, rfl⟩
 have g1:S1.get 0=some (.var cx):=by rw [←hS1];exact St.get_put
 have n1:S1.next=1:=by rw [←hS1, ←hS0];rfl
 by_cases h60:(Z7i s).op=60
 ·rw [putF_id h60]
  refine Z1z rfl rfl ?_
  repeat' first|((with_reducible show V _ _ _ _ _ _);first|refine Z8u rfl rfl plp.view hp|refine Z1 rfl ?_|refine Za rfl rfl ?_)|((with_reducible show VO _ _ _ _ _ _ _);first|refine Z9y hS0 rfl rfl ?_|refine Zt rfl g0 l6 ?_|refine Z5 rfl rfl x1 ?_|refine Z1g hS1 g0 c6 l6 rfl rfl rfl ?_|refine Z0 (ldv g1 hop rfl) ?_|refine Z3 (Z0f h60) rfl ?_|refine Z0 rfl ?_|refine Z2 ?_)
 ·have hoka:=hok0 a (by simp)
  have hokx:=Znr s hok
  obtain ⟨ca, ay, sca⟩:=SL.at hp (j:=L0.length) (s:=a) (by simp)
  obtain ⟨cj, j1, j2⟩:=run_pair sca x2 hoka hokx
  rw [pair_join hoka hokx] at j1 j2
  have j3:=j2.c6
  have la:=sca.len6
  have pla:=sca.pl
  have plj:=j3.1
  have lj:=j3.2.1
  have e2:PV.int .i64 (IntKind.i64.wrap (((L0++[a]).length:Int)-1))=PV.int .i64 (L0.length:Int):=Z5e (by rw [Z01];simp;omega)
  have d2:(0:Int)<((L0++[a]).length:Int):=by rw [List.length_append, List.length_singleton];omega
  obtain ⟨B1, hB1⟩:∃S, S1.new (.var z6)=S:=⟨_, rfl⟩
  have b1:B1.get 0=some (.var cx):=by rw [←hB1];exact (St.get_new_old (by omega)).trans g1
  have b2:B1.get 1=some (.var z6):=by rw [←hB1, ←n1];exact St.get_new
  have bn:B1.next=2:=by rw [←hB1];show S1.next+1=_;omega
  obtain ⟨C1, hC1⟩:∃S, B1.put 1 (.var cj)=S:=⟨_, rfl⟩
  have c1:C1.get 0=some (.var cx):=by rw [←hC1];exact (St.get_put_old (by omega)).trans b1
  have c2:C1.get 1=some (.var cj):=by rw [←hC1];exact St.get_put
  have cn:C1.next=2:=by rw [←hC1];exact bn
  have hz6:z6.length=6:=rfl
  have hst2:∀ {e:EC} {i j:Nat}, e.get i=some (.ptr 1 0)→e.get j=some (.agg cj)→Z13 B1 e (.store 6 (.t i) (.t j))=some (.tuple [], C1):=fun {e i j} hi hj=>by
   have h1:(PV.agg cj).cells.all PV.one=true:=List.all_eq_true.2 j3.2.2
   have h2:(PV.agg cj).cells.length=6:=j3.2.1
   simp only [Z13, Opd.get, hi, hj]
   rw [if_pos ⟨h1, h2, by omega⟩, Z1d b2 (by rw [hz6, j3.2.1]), hC1]
   rfl
  have hal:∀ {e:EC}, Z13 S1 e (.alloc [.int .i64 0, .nilSl, .nilSl, .nilSl, .nilSl, .nilSl])=some (.ptr 1 0, B1):=fun {e}=>by
   rw [←hB1, ←n1]
   rfl
  have lda:∀ {look:Nat→Option Tok} {e:EC} {x:Opd}, x.get e=some (.iptr ca 0)→Zl look e (.load 6 true x)=some (.agg ca):=fun {look e x} hx=>Zl3 hx (by
   simp only [loadAt, behind, slice?, Option.bind_some, if_true]
   rw [if_pos (by omega)]
   simp [List.take_of_length_le (Nat.le_of_eq la)])
  cases hj:Zfg a (Z7i s) with
  |none=>
   rw [hj] at j1
   have j1':T.R (.call Z53 [.agg ca, .agg cx] (.tuple [.agg cj, .bool false])):=j1
   rw [putF_app h60 hj]
   obtain ⟨v, B, o1, o2, o3⟩:=app_own hp (by simp;omega) C1
   obtain ⟨v', C, a1, a2, a3⟩:=o1.app x2 (bytes:=128) (by simp only [Z05, List.length_append, List.length_singleton];omega)
   have gB:B.get 0=some (.var cx):=(o2.2.2.2 0 (by omega) (fun h=>by cases h)).trans c1
   have hv0:Z0g v≠some 0:=fun h=>by
    obtain ⟨_, g, es, he⟩:=o1.tok h
    rw [gB] at he
    cases he
   have nB:=o2.2.1
   have gC:C.get 0=some (.var cx):=(a3.2.2.2 0 (by omega) hv0).trans gB
   have hb:=fun (look:Nat→Option Tok) (e:EC) (i:Nat) (hi:e.get i=some (.agg cx))=>Z49 (look:=look) c6 hi
   have hok6:okEls 6 [cx]=true:=by simp only [okEls, List.all_cons, List.all_nil, lx, List.all_eq_true.2 c6.2.2];rfl
   obtain ⟨q, w1, w2⟩:=a2.view (fun _ _ h=>h.pl) (by simp;omega)
   refine Z1z rfl rfl ?_
   repeat' first|((with_reducible show V _ _ _ _ _ _);first|refine V_M2 (l:=[_, _, _, _, _, _, _, _, _, _, _, _, _]) 10 11 6 B1 C1 rfl rfl ?_|refine V_M2 (l:=[_, _, _, _, _, _]) 1 4 37 B C rfl rfl ?_|refine Z8u rfl rfl w1 w2|refine Z1 rfl ?_|refine Za rfl rfl ?_|refine Z9 rfl rfl ?_)|((with_reducible show VO _ _ _ _ _ _ _);first|refine Z9y hS0 rfl rfl ?_|refine Zt rfl g0 l6 ?_|refine Z5 rfl rfl x1 ?_|refine Z1g hS1 g0 c6 l6 rfl rfl rfl ?_|refine Z0 (ldv g1 hop rfl) ?_|refine Z3 (Zb h60) rfl ?_|refine Z4 rfl f1 f2 ?_|refine Z3 (Z0f d2) rfl ?_|refine Z0 rfl ?_|refine Z2 ?_)|refine Zaz rfl hal ?_|refine Zaz rfl (o3 rfl) ?_|refine Zcv rfl (by decide) (hst2 rfl rfl) ?_|refine Zqz rfl (by decide) rfl rfl rfl hok6 (by decide) (by decide) a1 ?_|refine M2_is e2 rfl rfl (.inl rfl) rfl rfl rfl ?_|refine Z0m rfl rfl (.inl rfl) (Z0x ay rfl rfl) (Z0x ay rfl rfl) (Z0x ay rfl rfl) ?_|refine Z0m rfl rfl (.inl rfl) (lda rfl) (lda rfl) (lda rfl) ?_|refine Z0m rfl rfl (.inl rfl) (Zl3 rfl (Zi3 g1 lx)) (Zl3 rfl (Zi3 b1 lx)) (Zl3 rfl (Zi3 c1 lx)) ?_|refine Zfo rfl rfl (.inl rfl) rfl rfl (fun _=>Z0c) j1' ?_|refine Z0m rfl rfl (.inr (.inl rfl)) (Zl3 rfl (Zi3 c1 lx)) (Zl3 rfl (Zi3 gB lx)) (Zl3 rfl (Zi3 gC lx)) ?_|refine Z0m rfl rfl (.inr (.inl rfl)) (hb _ _ _ rfl) (hb _ _ _ rfl) (hb _ _ _ rfl) ?_|refine Z0m rfl rfl (.inl rfl) rfl rfl rfl ?_|refine Z0m rfl rfl (.inr (.inr rfl)) rfl rfl rfl ?_|refine Zpn ?_
  |some x=>
   rw [hj] at j1 j2
   have j1':T.R (.call Z53 [.agg ca, .agg cx] (.tuple [.agg cj, .bool true])):=j1
   have j2':SC n x cj:=j2
   rw [putF_join h60 hj]
   have hxok:=joinS_ok hoka hokx hj
   obtain ⟨q0, hsl, hq0⟩:=sl_take hp (m:=L0.length) (by simp) (by simp)
   have htk:(L0++[a]).take L0.length=L0:=by simp
   rw [htk] at hq0
   obtain ⟨q1, hq1, t1⟩:=app_nil (bytes:=128) (z:=[.int .i64 0, .nilSl, .nilSl, .nilSl, .nilSl, .nilSl]) hq0 (fun _ _ h=>⟨h.len6, h.one⟩) (by decide) (by decide) (by simp only [Z05];omega)
   obtain ⟨q2, r1, r2⟩:=ih q1 x cj hq1 j2' hxok
   have plq1:Pl q1:=SL.pl hq1
   have plq2:Pl q2:=SL.pl r2
   have slq:∀ {look:Nat→Option Tok} {e:EC} {i j:Nat}, e.get i=some p→e.get j=some (.int .i64 (L0.length:Int))→Zl look e (.sliceSl (.t i) 6 none (some (.t j)) none)=some q0:=fun {look e i j} h1 h2=>by
    simp only [Zl, Zcq, Opd.get, Z9u, h1, h2]
    exact hsl _
   refine Z1z rfl rfl ?_
   repeat' first|((with_reducible show V _ _ _ _ _ _);first|refine V_M2 (l:=[_, _, _, _, _, _, _, _, _, _, _, _, _]) 10 11 6 B1 C1 rfl rfl ?_|refine Z8u rfl rfl plq2.view r2|refine Z1 rfl ?_|refine Za rfl rfl ?_|refine Z9 rfl rfl ?_|refine V_D rfl ?_)|((with_reducible show VO _ _ _ _ _ _ _);first|refine Z9y hS0 rfl rfl ?_|refine Zt rfl g0 l6 ?_|refine Z5 rfl rfl x1 ?_|refine Z1g hS1 g0 c6 l6 rfl rfl rfl ?_|refine Z0 (ldv g1 hop rfl) ?_|refine Z3 (Zb h60) rfl ?_|refine Z4 rfl f1 f2 ?_|refine Z3 (Z0f d2) rfl ?_|refine Z0 rfl ?_|refine Z2 ?_)|((with_reducible show VD _ _ _ _ _ _ _);first|refine Zfs e2 rfl ?_|refine Zo (slq rfl rfl) ?_|refine Zo (t1 rfl) ?_|refine Zo (Zl3 rfl (Zi3 c2 lj)) ?_|refine Zn5 rfl rfl r1 ?_|refine Zo rfl ?_|refine Z0a ?_)|refine Zaz rfl hal ?_|refine Zcv rfl (by decide) (hst2 rfl rfl) ?_|refine M2_is e2 rfl rfl (.inl rfl) rfl rfl rfl ?_|refine Z0m rfl rfl (.inl rfl) (Z0x ay rfl rfl) (Z0x ay rfl rfl) (Z0x ay rfl rfl) ?_|refine Z0m rfl rfl (.inl rfl) (lda rfl) (lda rfl) (lda rfl) ?_|refine Z0m rfl rfl (.inl rfl) (Zl3 rfl (Zi3 g1 lx)) (Zl3 rfl (Zi3 b1 lx)) (Zl3 rfl (Zi3 c1 lx)) ?_|refine Zfo rfl rfl (.inl rfl) rfl rfl (fun _=>Z0c) j1' ?_|refine Z0m rfl rfl (.inl rfl) rfl rfl rfl ?_|refine Z0m rfl rfl (.inr (.inr rfl)) rfl rfl rfl ?_|refine Zpn ?_
theorem run_rput {n:Nat}:∀(N:Nat) (L:List Stp), L.length≤N→L.length≤1000000000→okA L→PutP n L:=by
 intro N
 induction N with
 |zero=>
  intro L hL hL2 hok
  obtain rfl:L=[]:=List.length_eq_zero_iff.1 (by omega)
  exact putP0
 |succ N ih=>
  intro L hL hL2 hok
  rcases List.eq_nil_or_concat L with rfl|⟨L0, a, rfl⟩
  ·exact putP0
  ·rw [List.concat_eq_append] at hL hL2 hok ⊢
   exact putP1 (by simp at hL2;omega) hok (ih L0 (by simp at hL;omega) (by simp at hL2;omega) (fun x hx=>hok x (by simp [hx])))
noncomputable def subZ (op:Int) (k:Nat) (y:List Stp):List Stp:=if askB op k then trimS (rwL y) else rwL y
theorem rwLL_snoc (op:Int) (y:List Stp):∀(pre:List (List Stp)) (k:Nat), Zbb op k (pre++[y])=Zbb op k pre++[subZ op (k+pre.length) y]
 |[], k=>by
  rw [List.nil_append, Zbb, Zbb, Zbb]
  rfl
 |x::r, k=>by
  rw [List.cons_append, Zbb, Zbb, rwLL_snoc op y r (k+1), List.cons_append]
  rw [show k+1+r.length=k+(x::r).length by simp;omega]
def RRewP (n:Nat):Prop:=∀(l:List Stp) (p:PV), SL n p l→okL l=true→bdL l→∃q, T.R (.call Zer [p] q)∧SL n q (rwL l)
def SubP (n:Nat) (m:Nat) (op:Int) (p out pa pb pc pd:PV) (I:Int) (st:St) (subs:List (List Stp)):Z6k:=
 PE fun x e st'=>x=.exit 2∧e=Ze [(0, p), (3, out), (4, .int .i64 I), (5, .ptr m 0)]∧∃ve', st'.get m=some (.var [.int .i64 op, pa, pb, pc, pd, ve'])∧AccR (SubC (SC n)) 1 st' ve' (Zbb op 0 subs)∧(∀u, Z0g ve'=some u→m<u)∧st.next≤st'.next
set_option maxHeartbeats 8000000 in
theorem rrsub_loop {n:Nat} (ihc:RRewP n) {subs:List (List Stp)} {pe:PV} (he:LR (SubC (SC n)) pe subs) (hb:subs.length≤32) (hv:Ze7 subs=true) (hcn:bdLL subs) {m:Nat} {op:Int} {p out pa pb pc pd xo xa xb xc xd:PV} {I:Int} (plp:Pl p) (plo:Pl out) (ax:At 6 p I [xo, xa, xb, xc, xd, pe]):∀(rest pre:List (List Stp)) (st:St) (ve:PV), subs=pre++rest→
  st.get m=some (.var [.int .i64 op, pa, pb, pc, pd, ve])→m<st.next→AccR (SubC (SC n)) 1 st ve (Zbb op 0 pre)→(∀u, Z0g ve=some u→m<u)→
  V T (SubP n m op p out pa pb pc pd I st subs) [.code (.loop Z2d)] .normal (Ze [(0, p), (3, out), (4, .int .i64 I), (5, .ptr m 0), (6, .int .i64 pre.length)]) st:=by
 obtain ⟨e1, e2, _⟩:=he.len
 intro rest
 induction rest with
 |nil=>
  intro pre st ve hl hg hm hA ht
  have hlt:decide ((pre.length:Int)<subs.length)=false:=decide_eq_false (by subst hl;simp)
  have hA':AccR (SubC (SC n)) 1 st ve (Zbb op 0 subs):=by
   rw [hl, List.append_nil]
   exact hA
  unfold SubP
  refine Zf ?_
  repeat' first|((with_reducible show V _ _ _ _ _ _);first|refine Z48 hlt rfl rfl ?_|refine Zr [(0, p), (3, out), (4, .int .i64 I), (5, .ptr m 0)] rfl ⟨rfl, rfl, rfl, rfl, trivial⟩ ⟨rfl, rfl, ve, hg, hA', ht, Nat.le_refl _⟩|refine Z1 rfl ?_)|((with_reducible show VO _ _ _ _ _ _ _);first|refine Zg rfl rfl ax ?_|refine Z4 rfl e1 e2 ?_|refine Z0 rfl ?_|refine Z2 ?_)
 |cons y rest ihr=>
  intro pre st ve hl hg hm hA ht
  have hlt:decide ((pre.length:Int)<subs.length)=true:=decide_eq_true (by subst hl;simp;omega)
  have hpl:pre.length<subs.length:=by subst hl;simp
  obtain ⟨cs, ay, hcs⟩:=he.at (sz:=1) (fun _ _ h=>by obtain ⟨_, rfl, _⟩:=h;rfl) (j:=pre.length) (a:=y) (by subst hl;simp)
  obtain ⟨q, rfl, hq⟩:=hcs
  have plq:=SL.pl hq
  have hoky:okL y=true:=Zoc hv (by subst hl;simp)
  obtain ⟨q1, c1, c2⟩:=ihc y q hq hoky (Zke hcn (by subst hl;simp))
  have plq1:=SL.pl c2
  obtain ⟨qt, t1, t2⟩:=run_rTrim c2
  have plqt:=SL.pl t2
  have hw:IntKind.i64.wrap ((pre.length:Int)+1)=((pre++[y]).length:Int):=by rw [Z01];simp;omega
  have hld:∀ {e:EC} {a:Opd}, a.get e=some (.ptr m 5)→Zl st.get e (.load 1 false a)=some ve:=fun ha=>ldv hg rfl ha
  have hlo:∀ {e:EC} {a:Opd}, a.get e=some (.ptr m 0)→Zl st.get e (.load 1 false a)=some (.int .i64 op):=fun ha=>ldv hg rfl ha
  have grow:∀(qz:PV) (z:List Stp), SL n qz z→z=subZ op (0+pre.length) y→∃v' S3 S4, Z0n st 1 24 ve [[qz]]=some (v', S3)∧S3.get m=some (.var [.int .i64 op, pa, pb, pc, pd, ve])∧S3.put m (.var [.int .i64 op, pa, pb, pc, pd, v'])=S4∧v'.cells=[v']∧PV.one v'=true∧okEls 1 [[qz]]=true∧qz.cells=[qz]∧qz.isJunk=false∧V T (SubP n m op p out pa pb pc pd I st subs) [.code (.loop Z2d)] .normal (Ze [(0, p), (3, out), (4, .int .i64 I), (5, .ptr m 0), (6, .int .i64 (pre++[y]).length)]) S4:=by
   intro qz z hz hzz
   have hy:SubC (SC n) z [qz]:=⟨qz, rfl, hz⟩
   obtain ⟨v', S3, r1, r2, r3⟩:=hA.app hy (bytes:=24) (by rw [Zn9];subst hl;simp only [List.length_append, List.length_cons] at hb;simp only [Z05];omega)
   have t3:∀u, Z0g v'=some u→m<u:=fun u hu=>by
    rcases r3.2.2.1 with e|⟨t, e, h⟩
    ·exact ht u (e ▸ hu)
    ·rw [e] at hu
     injection hu with hu
     omega
   have n3:=r3.2.1
   have g3:S3.get m=some (.var [.int .i64 op, pa, pb, pc, pd, ve]):=(r3.2.2.2 m hm (fun e=>by have:=ht m e;omega)).trans hg
   obtain ⟨S4, hS4⟩:∃S, S3.put m (.var [.int .i64 op, pa, pb, pc, pd, v'])=S:=⟨_, rfl⟩
   have g4:S4.get m=some (.var [.int .i64 op, pa, pb, pc, pd, v']):=by rw [←hS4];exact St.get_put
   have n4:S4.next=S3.next:=by rw [←hS4];rfl
   have k4:∀u, u≠m→S4.get u=S3.get u:=fun u hu=>by rw [←hS4];exact St.get_put_old (fun e=>hu e.symm)
   have hA4:AccR (SubC (SC n)) 1 S4 v' (Zbb op 0 (pre++[y])):=by
    rw [rwLL_snoc, ←hzz]
    exact r2.keep (by omega) (fun u hu=>k4 u (by have:=t3 u hu;omega))
   have hi:=ihr (pre++[y]) S4 v' (by rw [hl];simp) g4 (by omega) hA4 t3
   have hcv:v'.cells=[v']:=by
    obtain ⟨es, h, _⟩:=r2
    rcases h with ⟨rfl, _⟩|⟨t, g, rfl, _⟩<;>rfl
   have hcq:qz.cells=[qz]∧qz.isJunk=false∧PV.one qz=true:=by rcases hz with ⟨rfl, _⟩|⟨_, _, rfl, _⟩<;>exact ⟨rfl, rfl, rfl⟩
   refine ⟨v', S3, S4, r1, g3, hS4, hcv, r2.one, Zq3 rfl (by simpa using hcq.2.2), hcq.1, hcq.2.1, ?_⟩
   refine Z3w hi ?_
   rintro x e st' ⟨h1, h2, ve', z1, z2, z3, z4⟩
   exact ⟨h1, h2, ve', z1, z2, z3, by omega⟩
  by_cases hask:askB op pre.length=true
  ·obtain ⟨v', S3, S4, r1, g3, hS4, hcv, hvo, hok, hcq1, hcq2, hi⟩:=grow qt _ t2 (by rw [Nat.zero_add, subZ, if_pos hask])
   by_cases o4:op=20∨op=21∨op=22∨op=23
   ·rcases o4 with rfl|rfl|rfl|rfl<;>
    ·refine Zf ?_
     repeat' first|((with_reducible show V _ _ _ _ _ _);first|refine Z15 hlt rfl rfl ?_|refine Z7z rfl hi ⟨rfl, rfl, rfl, rfl, Z04 hw, trivial⟩|refine Z1 rfl ?_|refine Za rfl rfl ?_|refine Z9 rfl rfl ?_)|((with_reducible show VO _ _ _ _ _ _ _);first|refine Zg rfl rfl ax ?_|refine Zg rfl rfl ay ?_|refine Z4 rfl e1 e2 ?_|refine Z5 rfl rfl c1 ?_|refine Z0 (hld rfl) ?_|refine Z0 (hlo rfl) ?_|refine Z0 (bldS1 hcq1 hcq2 rfl) ?_|refine Z25 rfl rfl rfl hok (by decide) (by decide) r1 ?_|refine Zc (Z6l (off:=5) g3 hcv hvo rfl rfl hS4 rfl rfl) ?_|refine Z5 rfl rfl t1 ?_|refine Z0 rfl ?_|refine Z2 ?_)
   ·simp only [not_or] at o4
    obtain ⟨n20, n21, n22, n23⟩:=o4
    have hk:(op=53∨op=55)∧pre.length=0:=by
     unfold askB at hask
     simpa [n20, n21, n22, n23] using hask
    have d0:=Z0f (p:=(pre.length:Int)=0) (by omega)
    rcases hk.1 with rfl|rfl<;>
    ·refine Zf ?_
     repeat' first|((with_reducible show V _ _ _ _ _ _);first|refine Z15 hlt rfl rfl ?_|refine Z7z rfl hi ⟨rfl, rfl, rfl, rfl, Z04 hw, trivial⟩|refine Z1 rfl ?_|refine Za rfl rfl ?_|refine Z9 rfl rfl ?_)|((with_reducible show VO _ _ _ _ _ _ _);first|refine Zg rfl rfl ax ?_|refine Zg rfl rfl ay ?_|refine Z4 rfl e1 e2 ?_|refine Z5 rfl rfl c1 ?_|refine Z0 (hld rfl) ?_|refine Z0 (hlo rfl) ?_|refine Z0 (bldS1 hcq1 hcq2 rfl) ?_|refine Z25 rfl rfl rfl hok (by decide) (by decide) r1 ?_|refine Zc (Z6l (off:=5) g3 hcv hvo rfl rfl hS4 rfl rfl) ?_|refine Z3 d0 rfl ?_|refine Z5 rfl rfl t1 ?_|refine Z0 rfl ?_|refine Z2 ?_)
  ·obtain ⟨v', S3, S4, r1, g3, hS4, hcv, hvo, hok, hcq1, hcq2, hi⟩:=grow q1 _ c2 (by rw [Nat.zero_add, subZ, if_neg hask])
   have hn4:¬op=20∧¬op=21∧¬op=22∧¬op=23:=by
    unfold askB at hask
    refine ⟨fun e=>hask ?_, fun e=>hask ?_, fun e=>hask ?_, fun e=>hask ?_⟩<;>simp [e]
   obtain ⟨n20, n21, n22, n23⟩:=hn4
   by_cases o2:op=53∨op=55
   ·have d0':¬(pre.length:Int)=0:=fun e=>hask (by
     have e0:pre.length=0:=by omega
     unfold askB
     rcases o2 with rfl|rfl<;>simp [e0])
    have d0:=Zb d0'
    rcases o2 with rfl|rfl<;>
    ·refine Zf ?_
     repeat' first|((with_reducible show V _ _ _ _ _ _);first|refine Z15 hlt rfl rfl ?_|refine Z7z rfl hi ⟨rfl, rfl, rfl, rfl, Z04 hw, trivial⟩|refine Z1 rfl ?_|refine Za rfl rfl ?_|refine Z9 rfl rfl ?_)|((with_reducible show VO _ _ _ _ _ _ _);first|refine Zg rfl rfl ax ?_|refine Zg rfl rfl ay ?_|refine Z4 rfl e1 e2 ?_|refine Z5 rfl rfl c1 ?_|refine Z0 (hld rfl) ?_|refine Z0 (hlo rfl) ?_|refine Z0 (bldS1 hcq1 hcq2 rfl) ?_|refine Z25 rfl rfl rfl hok (by decide) (by decide) r1 ?_|refine Zc (Z6l (off:=5) g3 hcv hvo rfl rfl hS4 rfl rfl) ?_|refine Z3 d0 rfl ?_|refine Z0 rfl ?_|refine Z2 ?_)
   ·rw [not_or] at o2
    refine Zf ?_
    repeat' first|((with_reducible show V _ _ _ _ _ _);first|refine Z15 hlt rfl rfl ?_|refine Z7z rfl hi ⟨rfl, rfl, rfl, rfl, Z04 hw, trivial⟩|refine Z1 rfl ?_|refine Z9 rfl rfl ?_)|((with_reducible show VO _ _ _ _ _ _ _);first|refine Zg rfl rfl ax ?_|refine Zg rfl rfl ay ?_|refine Z4 rfl e1 e2 ?_|refine Z5 rfl rfl c1 ?_|refine Z0 (hld rfl) ?_|refine Z0 (hlo rfl) ?_|refine Z0 (bldS1 hcq1 hcq2 rfl) ?_|refine Z25 rfl rfl rfl hok (by decide) (by decide) r1 ?_|refine Zc (Z6l (off:=5) g3 hcv hvo rfl rfl hS4 rfl rfl) ?_|refine Z3 (Zb n20) rfl ?_|refine Z3 (Zb n21) rfl ?_|refine Z3 (Zb n22) rfl ?_|refine Z3 (Zb n23) rfl ?_|refine Z3 (Zb o2.1) rfl ?_|refine Z3 (Zb o2.2) rfl ?_|refine Z0 rfl ?_|refine Z2 ?_)
set_option maxHeartbeats 8000000 in
theorem rrstep_loop {n:Nat} (ihc:RRewP n) {l:List Stp} {p:PV} (hp:SL (n+1) p l) (hok:Zlv l=true) (hcn:bdL l):∀(rest pre acc:List Stp) (st:St) (c:PV), l=pre++rest→SL (n+1) c acc.reverse→okA acc→acc.length≤pre.length→
  V T (PE fun x e st'=>x=.exit 0∧∃c', e=Ze [(3, c')]∧SL (n+1) c' (rwA rest acc).reverse)
   [.code (.loop Z4m)] .normal (Ze [(0, p), (3, c), (4, .int .i64 pre.length)]) st:=by
 have hbig:=hcn.1
 have plp:=SL.pl hp
 obtain ⟨lp1, lp2, _⟩:=hp.len
 intro rest
 induction rest with
 |nil=>
  intro pre acc st c hl hc hacc hlen
  have hlt:decide ((pre.length:Int)<l.length)=false:=decide_eq_false (by subst hl;simp)
  have hc':SL (n+1) c (rwA [] acc).reverse:=by rw [rwA];exact hc
  refine Zf ?_
  repeat' first|((with_reducible show V _ _ _ _ _ _);first|refine Z48 hlt rfl rfl ?_|refine Zr [(3, c)] rfl ⟨rfl, trivial⟩ ⟨rfl, c, rfl, hc'⟩|refine Z1 rfl ?_)|((with_reducible show VO _ _ _ _ _ _ _);first|refine Z4 rfl lp1 lp2 ?_|refine Z0 rfl ?_|refine Z2 ?_)
 |cons y rest ihr=>
  intro pre acc st c hl hc hacc hlen
  have hlt:decide ((pre.length:Int)<l.length)=true:=decide_eq_true (by subst hl;simp;omega)
  have hpl:pre.length<l.length:=by subst hl;simp
  have plc:=SL.pl hc
  obtain ⟨cs, ay, hcs⟩:=SL.at hp (j:=pre.length) (s:=y) (by subst hl;simp)
  have h6:=hcs.len6
  have h1:=hcs.one
  have hoky:=Zjp hok (s:=y) (by subst hl;simp)
  have hokr:=rwS_ok y hoky
  have hcy:=Zpi hcn.2 (s:=y) (by subst hl;simp)
  have hput:=run_rput (n:=n+1) acc.reverse.length acc.reverse (Nat.le_refl _) (by simp;omega) (fun x hx=>hacc x (by simpa using hx))
  rw [rwA]
  have hpl2:=Zna acc (rwS y)
  have hpo:=putR_ok acc (rwS y) hacc hokr
  have hw:IntKind.i64.wrap ((pre.length:Int)+1)=((pre++[y]).length:Int):=by rw [Z01];simp;omega
  have hi:=fun (st:St) (c':PV) (hc':SL (n+1) c' (putF acc.reverse (rwS y)))=>ihr (pre++[y]) (Zkj acc (rwS y)) st c' (by rw [hl];simp) (by unfold putF at hc';rwa [List.reverse_reverse] at hc') hpo (by simp;omega)
  obtain ⟨op, names, nums, preds, vals, subs⟩:=y
  obtain ⟨io, pa, pb, pc, pd, pe, rfl, ha, hb, hcc, hd, he⟩:=hcs
  unfold okS at hoky
  simp only [Bool.and_eq_true] at hoky
  obtain ⟨hst, hsub⟩:=hoky
  obtain ⟨b1, b2, b3, b4, b5, b6, b7⟩:=Zir hst
  obtain ⟨m, hmm⟩:∃m, st.next=m:=⟨_, rfl⟩
  obtain ⟨S1, hS1⟩:∃S, st.new (.var z6)=S:=⟨_, rfl⟩
  have g1:S1.get m=some (.var z6):=by rw [←hS1, ←hmm];exact St.get_new
  have n1:S1.next=m+1:=by rw [←hS1, ←hmm];rfl
  obtain ⟨S2, hS2⟩:∃S, S1.put m (.var [.int .i64 op, pa, pb, pc, pd, pe])=S:=⟨_, rfl⟩
  have g2:S2.get m=some (.var [.int .i64 op, pa, pb, pc, pd, pe]):=by rw [←hS2];exact St.get_put
  have n2:S2.next=m+1:=by rw [←hS2];exact n1
  obtain ⟨S3, hS3⟩:∃S, S2.put m (.var [.int .i64 op, pa, pb, pc, pd, .nilSl])=S:=⟨_, rfl⟩
  have g3:S3.get m=some (.var [.int .i64 op, pa, pb, pc, pd, .nilSl]):=by rw [←hS3];exact St.get_put
  have n3:S3.next=m+1:=by rw [←hS3];exact n2
  have hlp:=rrsub_loop ihc he (by omega) hsub (by rw [bdS] at hcy;exact hcy) (m:=m) (op:=op) (out:=c) (pa:=pa) (pb:=pb) (pc:=pc) (pd:=pd) plp plc ay subs [] S3 .nilSl rfl g3 (by omega) (by rw [Zbb];exact .nil) (fun u hu=>by cases hu)
  have hz:z6.length=6:=rfl
  refine Zf ?_
  repeat' first|((with_reducible show V _ _ _ _ _ _);first|refine Z15 hlt rfl rfl ?_|refine Z08 rfl hlp ⟨rfl, rfl, rfl, rfl, rfl, trivial⟩ ?_|refine Z1 rfl ?_)|((with_reducible show VO _ _ _ _ _ _ _);first|refine Z4 rfl lp1 lp2 ?_|refine Zg rfl rfl ay ?_|refine Z07 rfl h6 ?_|refine Z0b hS1 hmm ?_|refine Z0j hS2 g1 h1 rfl hz rfl rfl rfl ?_|refine Zc (Z6l (off:=5) (v:=.nilSl) g2 rfl rfl rfl rfl hS3 rfl rfl) ?_|refine Z0 rfl ?_|refine Z2 ?_)
  rintro x e st5 ⟨rfl, rfl, ve, z1, z2, z3, z4⟩
  obtain ⟨S6, qe, he', y1, y2, y3, y4, y5⟩:=fld_tell (k:=5) z2 (fun a cs h=>h.pl2) (by rw [Zn9];omega) z1 rfl (fun e=>by have:=z3 m e;omega)
  have y1':S6.get m=some (.var [.int .i64 op, pa, pb, pc, pd, qe]):=y1
  have hS:SC (n+1) (rwS (.mk op names nums preds vals subs)) [.int .i64 op, pa, pb, pc, pd, qe]:=by
   rw [rwS]
   exact ⟨io, pa, pb, pc, pd, qe, rfl, ha, hb, hcc, hd, he'⟩
  obtain ⟨px0, px1, px2, px3, px4, px5⟩:=pl6 hS.pl
  obtain ⟨q2, r1, r2⟩:=hput c _ _ hc hS hokr
  have hi':=hi S6 q2 r2
  refine y5 rfl rfl ?_
  repeat' first|refine Z7z rfl hi' ⟨rfl, rfl, Z04 hw, trivial⟩|refine Z1 rfl ?_|((with_reducible show VO _ _ _ _ _ _ _);first|refine Zt rfl y1' rfl ?_|refine Z5 rfl rfl r1 ?_|refine Z0 rfl ?_|refine Z2 ?_)
set_option maxHeartbeats 4000000 in
theorem Zlo:∀n:Nat, RRewP n
 |0, l, p, hp, hok, hcn=>by
  have hl:l=[]:=by
   cases l with
   |nil=>rfl
   |cons s r=>
    obtain ⟨cs, _, h⟩:=SL.at hp (j:=0) (s:=s) rfl
    exact h.elim
  subst hl
  cases hok
 |n+1, l, p, hp, hok, hcn=>by
  obtain ⟨hne, hokA⟩:=okL_all.1 hok
  have hok1:=okL1_all.2 hokA
  have hlp:=rrstep_loop (Zlo n) hp hok1 hcn l [] [] emptySt .nilSl rfl (.inl ⟨rfl, rfl⟩) (fun x hx=>by cases hx) (Nat.le_refl _)
  refine Z1z rfl rfl ?_
  repeat' first|refine Z08 rfl hlp ⟨rfl, rfl, rfl, trivial⟩ ?_|refine Z1 rfl ?_|refine Z0 rfl ?_|refine Z2 ?_
  rintro x e st' ⟨rfl, c', rfl, hc'⟩
  obtain ⟨f1, f2, _⟩:=hc'.len
  have plc:=SL.pl hc'
  by_cases hnil:(rwA l []).reverse=[]
  ·have hr:rwL l=[idS]:=orId_nil hnil
   have hres:SL (n+1) (.sl [idC] true) (rwL l):=by
    rw [hr]
    exact Zlm (Zkn n)
   have d1:=Z0f (p:=(((rwA l []).reverse.length:Nat):Int)=0) (by rw [hnil];rfl)
   repeat' first|((with_reducible show V _ _ _ _ _ _);first|refine Z8u rfl rfl (SL.pl hres).view hres|refine Z1 rfl ?_|refine Za rfl rfl ?_)|((with_reducible show VO _ _ _ _ _ _ _);first|refine Z4 rfl f1 f2 ?_|refine Z3 d1 rfl ?_|refine Z0 Zng ?_|refine Z0 (Z49 (Zkn n).c6 rfl) ?_|refine Z0 rfl ?_|refine Z2 ?_)
  ·have hr:rwL l=(rwA l []).reverse:=orId_cons hnil
   have hres:SL (n+1) c' (rwL l):=by rw [hr];exact hc'
   have hlen0:(rwA l []).reverse.length≠0:=fun h=>hnil (List.length_eq_zero_iff.1 h)
   have d1:=Zb (p:=(((rwA l []).reverse.length:Nat):Int)=0) (by omega)
   repeat' first|((with_reducible show V _ _ _ _ _ _);first|refine Z8u rfl rfl plc.view hres|refine Z1 rfl ?_|refine Z9 rfl rfl ?_)|((with_reducible show VO _ _ _ _ _ _ _);first|refine Z4 rfl f1 f2 ?_|refine Z3 d1 rfl ?_|refine Z0 rfl ?_|refine Z2 ?_)
theorem run_RRewrite {n:Nat} {l:List Stp} {p:PV} (hp:SL n p l) (hcn:bdL l):∃q, T.R (.call Zes [p] (.tuple [q, .int .i64 (Zpb l)]))∧((Zpb l=0∧SL n q (rwL l))∨(Zpb l≠0∧q=.nilSl)):=by
 have h:=Zql hp
 have plp:=SL.pl hp
 by_cases hc:Zpb l=0
 ·have hok:=chk_okX hc
  obtain ⟨q1, c1, c2⟩:=Zqi n l p hp (okL1_all.2 (okL_all.1 hok).2) hcn
  obtain ⟨q2, d1, d2⟩:=Zlo n l q1 c2 hok hcn
  have pl1:=SL.pl c2
  have pl2:=SL.pl d2
  rw [hc] at h ⊢
  refine ⟨q2, ?_, .inl ⟨rfl, d2⟩⟩
  refine Z7 rfl rfl ?_
  repeat' first|((with_reducible show V _ _ _ _ _ _);first|refine Z1 rfl ?_|refine Z9 rfl rfl ?_|refine Z6 rfl rfl ?_)|((with_reducible show VO _ _ _ _ _ _ _);first|refine Z5 rfl rfl h ?_|refine Z5 rfl rfl c1 ?_|refine Z5 rfl rfl d1 ?_|refine Z0 rfl ?_|refine Z2 ?_)
  rfl
 ·refine ⟨.nilSl, ?_, .inr ⟨hc, rfl⟩⟩
  generalize Zpb l=c at *
  refine Z7 rfl rfl ?_
  repeat' first|((with_reducible show V _ _ _ _ _ _);first|refine Z1 rfl ?_|refine Za rfl rfl ?_|refine Z6 rfl rfl ?_)|((with_reducible show VO _ _ _ _ _ _ _);first|refine Z5 rfl rfl h ?_|refine Z3 (Z0e hc) rfl ?_|refine Z0 rfl ?_|refine Z2 ?_)
  rfl
end Go.Proofs.YtnedeokclnbcpaaGreatDoor
