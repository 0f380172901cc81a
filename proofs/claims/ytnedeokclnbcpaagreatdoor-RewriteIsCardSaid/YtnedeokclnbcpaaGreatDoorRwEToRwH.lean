/- parse.Same. · check.Writes; rewrite.isOrder, isFilter, join. · rewrite.join. · rewrite.put. -/
import Derived.Test.YtnedeokclnbcpaaGreatDoorRwBToRwD
import Derived.Test.YtnedeokclnbcpaaGreatDoorRwPToRwA
import Derived.Test.YtnedeokclnbcpaaGreatDoorAmZ
set_option linter.unusedVariables false
set_option linter.unusedSimpArgs false
namespace Go.Proofs.YtnedeokclnbcpaaGreatDoor
open Go Go.AM Go.RowKit
theorem run_VSame {a b:Val} {ca cb:List PV} (ha:VC a ca) (hb:VC b cb):T.R (.call Zlw [.agg ca, .agg cb] (.bool (eqD a b))):=by
 have h:=Zo0 ha b cb hb
 have la:=ha.len4
 have lb:=hb.len4
 have pa:=ha.pl
 have pb:=hb.pl
 rw [←eqD_dec (P:=Zgz a b=0) cmpV_zero]
 generalize Zgz a b=r at h ⊢
 refine Z7 rfl rfl ?_
 repeat' first|refine Z1 rfl ?_|refine Z6 rfl rfl ?_|((with_reducible show VO _ _ _ _ _ _ _);first|refine Zt rfl rfl la ?_|refine Zt rfl rfl lb ?_|refine Z5 rfl rfl h ?_|refine Z0 rfl ?_|refine Zc rfl ?_|refine Z2 ?_)
 rfl
theorem Zqk {p q:PV} {l m:List Val} (hp:LR VC p l) (hq:LR VC q m):T.R (.call Z8q [p, q, .func Zlw []] (.bool (eqD l m))):=by
 rw [←Zp6]
 exact run_eqa (sz:=4) (z:=[.int .i64 0, .int .i64 0, .str [], .nilSl]) rfl rfl rfl hp hq (fun _ _ h=>h.len4) (fun _ _ h c hc=>List.all_eq_true.1 h.one c hc) (fun _ _ h=>h.pl) (fun a _ b _ ca cb ha hb=>run_VSame ha hb)
theorem run_NsSame {p q:PV} {l m:List (List UInt8)} (hp:LR NmC p l) (hq:LR NmC q m):T.R (.call Z8p [p, q] (.bool (eqD l m))):=by
 rw [←Zp6]
 refine run_eqc rfl hp hq (fun _ _ h=>⟨_, h.2, .str _⟩) (fun a _ b _ ca cb ha hb=>?_)
 obtain ⟨_, ha⟩:=ha
 obtain ⟨_, hb⟩:=hb
 injection ha with ha
 injection hb with hb
 subst ha hb
 rw [←eqD_dec (P:=a=b) Iff.rfl]
 rfl
theorem run_UsSame {p q:PV} {l m:List Int} (hp:LR NuC p l) (hq:LR NuC q m):T.R (.call Za1 [p, q] (.bool (eqD l m))):=by
 rw [←Zp6]
 refine run_eqc rfl hp hq (fun _ _ h=>⟨_, h.2, .int _ _⟩) (fun a _ b _ ca cb ha hb=>?_)
 obtain ⟨_, ha⟩:=ha
 obtain ⟨_, hb⟩:=hb
 injection ha with ha
 injection hb with hb
 subst ha hb
 rw [←eqD_dec (P:=a=b) Iff.rfl]
 rfl
theorem eqD_prd {o o':Int} {l l':List Val}:eqD (Prd.mk o l) (Prd.mk o' l')=(decide (o=o')&&eqD l l'):=by
 refine Zlh ?_
 rw [eqD_is, Bool.and_eq_true, decide_eq_true_eq, eqD_is]
 constructor
 ·intro h;injection h with h1 h2;exact ⟨h1, h2⟩
 ·rintro ⟨rfl, rfl⟩;rfl
theorem run_PrS {x y:Prd} {cx cy:List PV} (hx:PrC x cx) (hy:PrC y cy):T.R (.call Zd9 [.agg cx, .agg cy] (.bool (eqD x y))):=by
 obtain ⟨o, l⟩:=x
 obtain ⟨o', l'⟩:=y
 obtain ⟨_, p, rfl, hp⟩:=hx
 obtain ⟨_, q, rfl, hq⟩:=hy
 have plp:=hp.pl (fun _ _ _ h=>h.pl)
 have plq:=hq.pl (fun _ _ _ h=>h.pl)
 have h:=Zqk hp hq
 rw [eqD_prd]
 generalize eqD l l'=b at h ⊢
 by_cases ho:o=o'
 ·rw [decide_eq_true ho]
  refine Z7 rfl rfl ?_
  repeat' first|refine Z1 rfl ?_|refine Z6 rfl rfl ?_|((with_reducible show VO _ _ _ _ _ _ _);first|refine Z3 (Z0f ho) rfl ?_|refine Z5 rfl rfl h ?_|refine Z0 rfl ?_|refine Zc rfl ?_|refine Z2 ?_|refine Zh rfl ?_)
  rfl
 ·rw [decide_eq_false ho]
  refine Z7 rfl rfl ?_
  repeat' first|refine Z1 rfl ?_|refine Z6 rfl rfl ?_|((with_reducible show VO _ _ _ _ _ _ _);first|refine Z3 (Zb ho) rfl ?_|refine Z0 rfl ?_|refine Zc rfl ?_|refine Z2 ?_|refine Zk rfl rfl ?_)
  rfl
theorem run_PrsSame {p q:PV} {l m:List Prd} (hp:LR PrC p l) (hq:LR PrC q m):T.R (.call Z9n [p, q, .func Zd9 []] (.bool (eqD l m))):=by
 rw [←Zp6]
 exact run_eqa (sz:=2) (z:=[.int .i64 0, .nilSl]) rfl rfl rfl hp hq (fun _ _ h=>h.len2) (fun a cs h c hc=>by
  obtain ⟨o, l⟩:=a
  obtain ⟨_, p, rfl, hp⟩:=h
  rcases List.mem_cons.1 hc with rfl|hc
  ·rfl
  ·simp only [List.mem_singleton] at hc
   subst hc
   rcases hp with ⟨rfl, _⟩|⟨_, _, rfl, _⟩<;>rfl) (fun _ _ h=>h.pl) (fun a _ b _ ca cb ha hb=>run_PrS ha hb)
theorem eqD_stp {o o':Int} {a a':List (List UInt8)} {b b':List Int} {c c':List Prd} {d d':List Val} {e e':List (List Stp)}:eqD (Stp.mk o a b c d e) (Stp.mk o' a' b' c' d' e')=(decide (o=o')&&(eqD a a'&&(eqD b b'&&(eqD d d'&&(eqD e e'&&eqD c c'))))):=by
 refine Zlh ?_
 rw [eqD_is, Bool.and_eq_true, Bool.and_eq_true, Bool.and_eq_true, Bool.and_eq_true, Bool.and_eq_true, decide_eq_true_eq, eqD_is, eqD_is, eqD_is, eqD_is, eqD_is]
 constructor
 ·intro h;injection h with h1 h2 h3 h4 h5 h6;exact ⟨h1, h2, h3, h5, h6, h4⟩
 ·rintro ⟨rfl, rfl, rfl, rfl, rfl, rfl⟩;rfl
set_option maxHeartbeats 4000000 in
theorem run_StS {n:Nat} (ih:∀(l m:List Stp) (p q:PV), SL n p l→SL n q m→T.R (.call Zau [p, q] (.bool (eqD l m)))) {x y:Stp} {cx cy:List PV} (hx:SC (n+1) x cx) (hy:SC (n+1) y cy):T.R (.call Zb4 [.agg cx, .agg cy] (.bool (eqD x y))):=by
 have plx:=hx.pl
 have ply:=hy.pl
 obtain ⟨o, na, nu, pr, va, su⟩:=x
 obtain ⟨o', na', nu', pr', va', su'⟩:=y
 obtain ⟨_, p1, p2, p3, p4, p5, rfl, a1, a2, a3, a4, a5⟩:=hx
 obtain ⟨_, q1, q2, q3, q4, q5, rfl, b1, b2, b3, b4, b5⟩:=hy
 have l1:Pl p1:=plx _ (by simp)
 have l2:Pl p2:=plx _ (by simp)
 have l3:Pl p3:=plx _ (by simp)
 have l4:Pl p4:=plx _ (by simp)
 have l5:Pl p5:=plx _ (by simp)
 have m1:Pl q1:=ply _ (by simp)
 have m2:Pl q2:=ply _ (by simp)
 have m3:Pl q3:=ply _ (by simp)
 have m4:Pl q4:=ply _ (by simp)
 have m5:Pl q5:=ply _ (by simp)
 have h1:=run_NsSame a1 b1
 have h2:=run_UsSame a2 b2
 have h3:=Zqk a4 b4
 have h4:T.R (.call Z6a [p5, q5, .func Zau []] (.bool (eqD su su'))):=by
  rw [←Zp6]
  refine run_eqb rfl a5 b5 (fun a cs h=>?_) (fun a _ b _ ca cb ha hb=>?_)
  ·obtain ⟨p, rfl, hp⟩:=h
   exact ⟨p, rfl, SL.pl hp⟩
  ·obtain ⟨p, e1, hp⟩:=ha
   obtain ⟨q, e2, hq⟩:=hb
   injection e1 with e1
   injection e2 with e2
   subst e1 e2
   exact ih a b _ _ hp hq
 have h5:=run_PrsSame a3 b3
 rw [eqD_stp]
 generalize eqD na na'=v1 at h1 ⊢
 generalize eqD nu nu'=v2 at h2 ⊢
 generalize eqD va va'=v3 at h3 ⊢
 generalize eqD su su'=v4 at h4 ⊢
 generalize eqD pr pr'=v5 at h5 ⊢
 by_cases ho:o=o'
 ·rw [decide_eq_true ho]
  have d0:=Z0f ho
  cases v1 with
  |false=>
   refine Z7 rfl rfl ?_
   repeat' first|refine Z1 rfl ?_|refine Z6 rfl rfl ?_|((with_reducible show VO _ _ _ _ _ _ _);first|refine Z3 d0 rfl ?_|refine Z5 rfl rfl h1 ?_|refine Z0 rfl ?_|refine Zc rfl ?_|refine Z2 ?_|refine Zh rfl ?_|refine Zk rfl rfl ?_)
   rfl
  |true=>
   cases v2 with
   |false=>
    refine Z7 rfl rfl ?_
    repeat' first|refine Z1 rfl ?_|refine Z6 rfl rfl ?_|((with_reducible show VO _ _ _ _ _ _ _);first|refine Z3 d0 rfl ?_|refine Z5 rfl rfl h1 ?_|refine Z5 rfl rfl h2 ?_|refine Z0 rfl ?_|refine Zc rfl ?_|refine Z2 ?_|refine Zh rfl ?_|refine Zk rfl rfl ?_)
    rfl
   |true=>
    cases v3 with
    |false=>
     refine Z7 rfl rfl ?_
     repeat' first|refine Z1 rfl ?_|refine Z6 rfl rfl ?_|((with_reducible show VO _ _ _ _ _ _ _);first|refine Z3 d0 rfl ?_|refine Z5 rfl rfl h1 ?_|refine Z5 rfl rfl h2 ?_|refine Z5 rfl rfl h3 ?_|refine Z0 rfl ?_|refine Zc rfl ?_|refine Z2 ?_|refine Zh rfl ?_|refine Zk rfl rfl ?_)
     rfl
    |true=>
     cases v4 with
     |false=>
      refine Z7 rfl rfl ?_
      repeat' first|refine Z1 rfl ?_|refine Z6 rfl rfl ?_|((with_reducible show VO _ _ _ _ _ _ _);first|refine Z3 d0 rfl ?_|refine Z5 rfl rfl h1 ?_|refine Z5 rfl rfl h2 ?_|refine Z5 rfl rfl h3 ?_|refine Z5 rfl rfl h4 ?_|refine Z0 rfl ?_|refine Zc rfl ?_|refine Z2 ?_|refine Zh rfl ?_|refine Zk rfl rfl ?_)
      rfl
     |true=>
      refine Z7 rfl rfl ?_
      repeat' first|refine Z1 rfl ?_|refine Z6 rfl rfl ?_|((with_reducible show VO _ _ _ _ _ _ _);first|refine Z3 d0 rfl ?_|refine Z5 rfl rfl h1 ?_|refine Z5 rfl rfl h2 ?_|refine Z5 rfl rfl h3 ?_|refine Z5 rfl rfl h4 ?_|refine Z5 rfl rfl h5 ?_|refine Z0 rfl ?_|refine Zc rfl ?_|refine Z2 ?_|refine Zh rfl ?_)
      rfl
 ·rw [decide_eq_false ho]
  have d0:=Zb ho
  refine Z7 rfl rfl ?_
  repeat' first|refine Z1 rfl ?_|refine Z6 rfl rfl ?_|((with_reducible show VO _ _ _ _ _ _ _);first|refine Z3 d0 rfl ?_|refine Z0 rfl ?_|refine Zc rfl ?_|refine Z2 ?_|refine Zk rfl rfl ?_)
  rfl
theorem run_PSame:∀(n:Nat) (l m:List Stp) (p q:PV), SL n p l→SL n q m→T.R (.call Zau [p, q] (.bool (eqD l m))):=by
 have main:∀(n:Nat), (∀x y cx cy, SC n x cx→SC n y cy→T.R (.call Zb4 [.agg cx, .agg cy] (.bool (eqD x y))))→∀(l m:List Stp) (p q:PV), SL n p l→SL n q m→T.R (.call Zau [p, q] (.bool (eqD l m))):=by
  intro n hc l m p q hp hq
  have h:=run_eqa (f:=Z9m) (g:=Zb4) (E:=eqD) (sz:=6) (z:=z6) rfl rfl rfl hp hq (fun _ _ h=>h.len6) (fun _ _ h=>h.one) (fun _ _ h=>h.pl) (fun a _ b _ ca cb ha hb=>hc a b ca cb ha hb)
  rw [Zp6] at h
  have plp:=SL.pl hp
  have plq:=SL.pl hq
  generalize eqD l m=b at h ⊢
  refine Z7 rfl rfl ?_
  repeat' first|refine Z1 rfl ?_|refine Z6 rfl rfl ?_|((with_reducible show VO _ _ _ _ _ _ _);first|refine Z5 rfl rfl h ?_|refine Z0 rfl ?_|refine Z2 ?_)
  rfl
 intro n
 induction n with
 |zero=>exact main 0 (fun x y cx cy h=>h.elim)
 |succ n ih=>exact main (n+1) (fun x y cx cy hx hy=>run_StS ih hx hy)
section
variable {T:Tb} {Q:Z6k} {k:List Fr} {ρ:EC} {st:St} {l:List POp} {kill:List Nat} {m j:Nat} {A B:St} {d:Option Nat} {op:PI} {n:Nat} {w:Bool}
theorem M_gT (hk:Nat.beq j m=false) (hg:ρ.get n=some (.bool w)) (h:VM T Q m A B j (⟨d, none, op⟩::l) kill k ρ st):VM T Q m A B j (⟨d, some (n, w), op⟩::l) kill k ρ st:=fun r hr=>by
 obtain ⟨ρ1, st1, h1, h2⟩:=h r hr
 have hj:=Nat.ne_of_beq_eq_false hk
 have g:gd (Zd · r) (some (n, w))=some true:=by simp [gd, hr _ _ hg]
 refine ⟨ρ1, st1, ?_, h2⟩
 cases h1
 case dlSkip=>exact absurd (by assumption:gd (Zd · r) none=some false) (by simp [gd])
 case dlQuiet=>exact .dlQuiet _ _ _ _ _ _ _ _ _ _ _ hj (by assumption) g (by assumption) (by assumption)
 case dlCall=>exact .dlCall _ _ _ _ _ _ _ _ _ _ _ _ _ _ _ _ hj (by assumption) g (by assumption) (by assumption) (by assumption) (by assumption) (by assumption)
 case dlLoud=>exact absurd rfl hj
 case dlRaw=>exact absurd rfl hj
theorem M_gF {a:Bool} (hk:Nat.beq j m=false) (hs:st=A∨st=B) (hg:ρ.get n=some (.bool a)) (hb:a=!w) (h:VM T Q m A B (j+1) l kill k (ρ.sets d (.tuple [])) st):VM T Q m A B j (⟨d, some (n, w), op⟩::l) kill k ρ st:=fun r hr=>by
 obtain ⟨ρ1, st1, h1, h2⟩:=h _ (hr.sets d _)
 exact ⟨ρ1, st1, .dlSkip _ _ _ _ _ _ _ _ _ _ (Nat.ne_of_beq_eq_false hk) hs (by subst hb;simp [gd, hr _ _ hg]) h1, h2⟩
theorem M_is {p p':PV} (he:p=p') (hk:Nat.beq j m=false) (hs:st=A∨st=B) (hq:Zl A.get ρ op=some p) (hq':Zl B.get ρ op=some p) (h:VM T Q m A B (j+1) l kill k (ρ.sets d p') st):VM T Q m A B j (⟨d, none, op⟩::l) kill k ρ st:=by
 subst he
 exact Z1n hk hs hq hq' h
end
theorem wrL_any:∀l:List Stp, wrL l=l.any wrS
 |[]=>rfl
 |s::r=>by rw [wrL, wrL_any r];rfl
theorem wrLL_any:∀l:List (List Stp), wrLL l=l.any wrL
 |[]=>rfl
 |s::r=>by rw [wrLL, wrLL_any r];rfl
theorem run_Writes:∀(n:Nat) (l:List Stp) (p:PV), SL n p l→T.R (.call Zb5 [p] (.bool (wrL l))):=by
 have main:∀(n:Nat), (∀s cs, SC n s cs→T.R (.call Z7s [.agg cs] (.bool (wrS s))))→∀(l:List Stp) (p:PV), SL n p l→T.R (.call Zb5 [p] (.bool (wrL l))):=by
  intro n hc l p hp
  have h:T.R (.call Z2j [p, .func Z7s []] (.bool (l.any wrS))):=
   Z2l (f':=Z3f) (sz:=6) (agg:=true) (val:=.agg) rfl rfl hp (fun _ _ h=>h.len6) (fun _ _ h=>Znd h.len6 _) (fun _ _ h=>.agg _ h.pl) hp.pl Z31 (fun a _ cs h=>hc a cs h)
  rw [←wrL_any] at h
  have plp:=SL.pl hp
  generalize wrL l=b at h ⊢
  refine Z7 rfl rfl ?_
  repeat' first|refine Z1 rfl ?_|refine Z6 rfl rfl ?_|((with_reducible show VO _ _ _ _ _ _ _);first|refine Z5 rfl rfl h ?_|refine Z0 rfl ?_|refine Z2 ?_)
  rfl
 have clo:∀(n:Nat), (∀(l:List Stp) (p:PV), SL n p l→T.R (.call Zb5 [p] (.bool (wrL l))))→∀s cs, SC (n+1) s cs→T.R (.call Z7s [.agg cs] (.bool (wrS s))):=by
  intro n ih s cs hs
  have hpl:=hs.pl
  obtain ⟨op, names, nums, preds, vals, subs⟩:=s
  obtain ⟨ho, pa, pb, pc, pd, pe, rfl, h1, h2, h3, h4, h5⟩:=hs
  have pe1:Pl pe:=hpl _ (by simp)
  have pa1:Pl pa:=hpl _ (by simp)
  have pb1:Pl pb:=hpl _ (by simp)
  have pc1:Pl pc:=hpl _ (by simp)
  have pd1:Pl pd:=hpl _ (by simp)
  have h:T.R (.call Z4s [pe, .func Zav []] (.bool (subs.any wrL))):=
   Z2l (f':=Z69) (sz:=1) (agg:=false) (val:=fun cs=>cs.getD 0 .junk) rfl rfl h5 (fun _ _ h=>h.len1) (fun _ _ h=>by obtain ⟨q, rfl, _⟩:=h;rfl) (fun _ _ h=>by obtain ⟨q, rfl, hq⟩:=h;exact SL.pl hq) pe1 Z31 (fun a _ cs h=>by
    obtain ⟨q, rfl, hq⟩:=h
    have hw:=ih a q hq
    have plq:=SL.pl hq
    generalize wrL a=b at hw ⊢
    show T.R (.call Zav [q] (.bool b))
    refine Z7 rfl rfl ?_
    repeat' first|refine Z1 rfl ?_|refine Z6 rfl rfl ?_|((with_reducible show VO _ _ _ _ _ _ _);first|refine Z5 rfl rfl hw ?_|refine Z0 rfl ?_|refine Z2 ?_)
    rfl)
  rw [←wrLL_any] at h
  rw [wrS]
  generalize wrLL subs=b at h ⊢
  by_cases o1:op=4
  ·subst o1
   refine Z7 rfl rfl ?_
   repeat' first|((with_reducible show V _ _ _ _ _ _);first|refine Z1 rfl ?_|refine Za rfl rfl ?_|refine Z6 rfl rfl ?_)|((with_reducible show VO _ _ _ _ _ _ _);first|refine Z0 rfl ?_|refine Zc rfl ?_|refine Z2 ?_)
   rfl
  ·by_cases o2:op=57
   ·subst o2
    refine Z7 rfl rfl ?_
    repeat' first|((with_reducible show V _ _ _ _ _ _);first|refine Z1 rfl ?_|refine Za rfl rfl ?_|refine Z9 rfl rfl ?_|refine Z6 rfl rfl ?_)|((with_reducible show VO _ _ _ _ _ _ _);first|refine Z0 rfl ?_|refine Zc rfl ?_|refine Z2 ?_)
    rfl
   ·by_cases o3:op=58
    ·subst o3
     refine Z7 rfl rfl ?_
     repeat' first|((with_reducible show V _ _ _ _ _ _);first|refine Z1 rfl ?_|refine Za rfl rfl ?_|refine Z9 rfl rfl ?_|refine Z6 rfl rfl ?_)|((with_reducible show VO _ _ _ _ _ _ _);first|refine Z0 rfl ?_|refine Zc rfl ?_|refine Z2 ?_)
     rfl
    ·by_cases o4:op=59
     ·subst o4
      refine Z7 rfl rfl ?_
      repeat' first|((with_reducible show V _ _ _ _ _ _);first|refine Z1 rfl ?_|refine Za rfl rfl ?_|refine Z9 rfl rfl ?_|refine Z6 rfl rfl ?_)|((with_reducible show VO _ _ _ _ _ _ _);first|refine Z0 rfl ?_|refine Zc rfl ?_|refine Z2 ?_)
      rfl
     ·rw [decide_eq_false o1, decide_eq_false o2, decide_eq_false o3, decide_eq_false o4]
      refine Z7 rfl rfl ?_
      repeat' first|((with_reducible show V _ _ _ _ _ _);first|refine Z1 rfl ?_|refine Z9 rfl rfl ?_|refine Z6 rfl rfl ?_)|((with_reducible show VO _ _ _ _ _ _ _);first|refine Z3 (Zb o1) rfl ?_|refine Z3 (Zb o2) rfl ?_|refine Z3 (Zb o3) rfl ?_|refine Z3 (Zb o4) rfl ?_|refine Z5 rfl rfl h ?_|refine Z0 rfl ?_|refine Zc rfl ?_|refine Z2 ?_)
      rfl
 intro n
 induction n with
 |zero=>exact main 0 (fun s cs h=>h.elim)
 |succ n ih=>exact main (n+1) (clo n ih)
theorem Zha {cs:List PV} {op:Int} (hc:C6 cs) (h0:cs[0]?=some (.int .i64 op)):T.R (.call Zbs [.agg cs] (.bool (Zbc op))):=by
 obtain ⟨hp, hl, _⟩:=hc
 match cs, hl, h0, hp with
 |[x0, x1, x2, x3, x4, x5], hl, h0, hp=>
  simp at h0
  subst h0
  unfold Zbc
  by_cases o1:op=44
  ·subst o1
   refine Z7 rfl rfl ?_
   repeat' first|refine Z1 rfl ?_|refine Z6 rfl rfl ?_|((with_reducible show VO _ _ _ _ _ _ _);first|refine Z0 rfl ?_|refine Zc rfl ?_|refine Z2 ?_|refine Zk rfl rfl ?_)
   rfl
  ·rw [decide_eq_false o1]
   by_cases o2:op=45
   ·subst o2
    refine Z7 rfl rfl ?_
    repeat' first|refine Z1 rfl ?_|refine Z6 rfl rfl ?_|((with_reducible show VO _ _ _ _ _ _ _);first|refine Z3 (Zb o1) rfl ?_|refine Z0 rfl ?_|refine Zc rfl ?_|refine Z2 ?_|refine Zh rfl ?_)
    rfl
   ·rw [decide_eq_false o2]
    refine Z7 rfl rfl ?_
    repeat' first|refine Z1 rfl ?_|refine Z6 rfl rfl ?_|((with_reducible show VO _ _ _ _ _ _ _);first|refine Z3 (Zb o1) rfl ?_|refine Z3 (Zb o2) rfl ?_|refine Z0 rfl ?_|refine Zc rfl ?_|refine Z2 ?_|refine Zh rfl ?_)
    rfl
theorem SC.op0 {n:Nat} {s:Stp} {cs:List PV} (h:SC n s cs):cs[0]?=some (.int .i64 s.op):=by
 cases n with
 |zero=>exact h.elim
 |succ n=>
  obtain ⟨op, names, nums, preds, vals, subs⟩:=s
  obtain ⟨_, pa, pb, pc, pd, pe, rfl, _⟩:=h
  rfl
theorem Zlm {n:Nat} {s:Stp} {cs:List PV} (h:SC n s cs):SL n (.sl [cs] true) [s]:=.inr ⟨_, true, rfl, by simp, rfl, fun j a ds h1 h2=>by
 cases j with
 |zero=>simp at h1 h2;subst h1 h2;exact h
 |succ j=>simp at h1⟩
theorem Z49 {cs:List PV} (hc:C6 cs) {look:Nat→Option Tok} {e:EC} {i:Nat} (hi:e.get i=some (.agg cs)):Zl look e (.buildSl 6 [[.int .i64 0, .nilSl, .nilSl, .nilSl, .nilSl, .nilSl]] [(0, .t i)])=some (.sl [cs] true):=by
 simp only [Zl, Z7m, Zp7, Opd.get, hi]
 simp [Z2h, Z14, PV.cells, PV.isJunk, hc.2.1]
set_option maxHeartbeats 2000000 in
theorem run_isFilter {n:Nat} {s:Stp} {cs:List PV} (h:SC n s cs):T.R (.call Zjr [.agg cs] (.bool (Zic s))):=by
 have hc:=h.c6
 have hw:=run_Writes n [s] _ (Zlm h)
 have hws:wrL [s]=wrS s:=by rw [wrL, wrL, Bool.or_false]
 rw [hws] at hw
 have h0:=h.op0
 have plc:=hc.1
 have hb:=fun (look:Nat→Option Tok) (e:EC) (i:Nat) (hi:e.get i=some (.agg cs))=>Z49 (look:=look) hc hi
 unfold Zic
 generalize s.op=op at h0 ⊢
 have ple:Pl (.sl [cs] true):=.sl _ _ (by simpa using plc)
 have hl:=hc.2.1
 match cs, hl, h0, plc, hw, hb, ple with
 |[x0, x1, x2, x3, x4, x5], hl, h0, plc, hw, hb, ple=>
  simp at h0
  subst h0
  by_cases o1:op=14∨op=15∨op=16∨op=17∨op=18∨op=19∨op=25
  ·rw [if_pos o1]
   rcases o1 with rfl|rfl|rfl|rfl|rfl|rfl|rfl<;>
   ·refine Z7 rfl rfl ?_
    repeat' first|((with_reducible show V _ _ _ _ _ _);first|refine Z1 rfl ?_|refine Za rfl rfl ?_|refine Z9 rfl rfl ?_|refine Z6 rfl rfl ?_)|((with_reducible show VO _ _ _ _ _ _ _);first|refine Z0 rfl ?_|refine Zc rfl ?_|refine Z2 ?_)
    rfl
  ·rw [if_neg o1]
   by_cases o2:op=20∨op=21∨op=22∨op=23
   ·rw [if_pos o2]
    generalize wrS s=b at hw ⊢
    rcases o2 with rfl|rfl|rfl|rfl<;>
    ·refine Z7 rfl rfl ?_
     repeat' first|((with_reducible show V _ _ _ _ _ _);first|refine Z1 rfl ?_|refine Za rfl rfl ?_|refine Z9 rfl rfl ?_|refine Z6 rfl rfl ?_)|((with_reducible show VO _ _ _ _ _ _ _);first|refine Zt rfl rfl hl ?_|refine Z0 (hb _ _ _ rfl) ?_|refine Z5 rfl rfl hw ?_|refine Z0 rfl ?_|refine Zc rfl ?_|refine Z2 ?_)
     rfl
   ·rw [if_neg o2]
    simp only [not_or] at o1 o2
    obtain ⟨a1, a2, a3, a4, a5, a6, a7⟩:=o1
    obtain ⟨b1, b2, b3, b4⟩:=o2
    refine Z7 rfl rfl ?_
    repeat' first|((with_reducible show V _ _ _ _ _ _);first|refine Z1 rfl ?_|refine Z9 rfl rfl ?_|refine Z6 rfl rfl ?_)|((with_reducible show VO _ _ _ _ _ _ _);first|refine Z3 (Zb a1) rfl ?_|refine Z3 (Zb a2) rfl ?_|refine Z3 (Zb a3) rfl ?_|refine Z3 (Zb a4) rfl ?_|refine Z3 (Zb a5) rfl ?_|refine Z3 (Zb a6) rfl ?_|refine Z3 (Zb a7) rfl ?_|refine Z3 (Zb b1) rfl ?_|refine Z3 (Zb b2) rfl ?_|refine Z3 (Zb b3) rfl ?_|refine Z3 (Zb b4) rfl ?_|refine Z0 rfl ?_|refine Zc rfl ?_|refine Z2 ?_)
    rfl
def st3 (a b c:List PV):St:=⟨0, 3, [(0, .var a), (1, .var b), (2, .var c)]⟩
theorem Zll {a b c x:List PV} (hx:∀y∈x, PV.one y=true) {e:EC} {i j:Nat} (hi:e.get i=some (.ptr 2 0):=by rfl) (hj:e.get j=some (.agg x):=by rfl) (hl:x.length=6:=by rfl) (hc:c.length=6:=by rfl):Z13 (st3 a b c) e (.store 6 (.t i) (.t j))=some (.tuple [], st3 a b x):=by
 have h1:(PV.agg x).cells.all PV.one=true:=List.all_eq_true.2 hx
 have h2:(PV.agg x).cells.length=6:=hl
 simp only [Z13, Opd.get, hi, hj]
 rw [if_pos ⟨h1, h2, by omega⟩, Z1d (cs:=c) rfl (by rw [hl, hc])]
 rfl
theorem eqSB_D {a b:Stp}:eqSB a b=eqD a b:=rfl
theorem eqD_one {a b:Stp}:eqD [a] [b]=eqSB a b:=by
 rw [eqSB_D]
 refine Zlh ?_
 rw [eqD_is, eqD_is]
 constructor
 ·intro h;injection h
 ·rintro rfl;rfl
theorem pl6 {a b c d e f:PV} (h:∀x∈[a, b, c, d, e, f], Pl x):Pl a∧Pl b∧Pl c∧Pl d∧Pl e∧Pl f:=⟨h _ (by simp), h _ (by simp), h _ (by simp), h _ (by simp), h _ (by simp), h _ (by simp)⟩
theorem num_at {n:Nat} {s:Stp} {cs:List PV} (h:SC n s cs) {k:Int} (hk:s.nums=[k]):∃o pa pb pc pd pe, cs=[.int .i64 o, pa, pb, pc, pd, pe]∧o=s.op∧At 1 pb 0 [.int .i64 k]∧Zn k:=by
 cases n with
 |zero=>exact h.elim
 |succ n=>
  obtain ⟨op, names, nums, preds, vals, subs⟩:=s
  obtain ⟨_, pa, pb, pc, pd, pe, rfl, h1, h2, _⟩:=h
  obtain rfl:nums=[k]:=hk
  obtain ⟨cy, ay, hy, rfl⟩:=h2.at (sz:=1) (fun _ _ h=>h.len1) (j:=0) (a:=k) rfl
  exact ⟨_, _, _, _, _, _, rfl, rfl, ay, hy⟩
def JoinR (n:Nat) (ca cb:List PV) (r:Option Stp):Prop:=∃cs, T.R (.call Z6m [.agg ca, .agg cb] (.tuple [.agg cs, .bool r.isSome]))∧(∀x, r=some x→SC n x cs)∧C6 cs
set_option maxHeartbeats 8000000 in
theorem run_join {n:Nat} {a b:Stp} {ca cb:List PV} (ha:SC n a ca) (hb:SC n b cb) (oka:okS a=true) (okb:okS b=true):JoinR n ca cb (Zfg a b):=by
 have c6a:=ha.c6
 have c6b:=hb.c6
 obtain ⟨pla, la, ona⟩:=c6a
 obtain ⟨plb, lb, onb⟩:=c6b
 have h0a:=ha.op0
 have h0b:=hb.op0
 have hio:=Zha ha.c6 h0a
 have hjo:=Zha hb.c6 h0b
 have hn:1≤n:=by
  cases n with
  |zero=>exact ha.elim
  |succ n=>omega
 obtain ⟨m, rfl⟩:∃m, n=m+1:=⟨n-1, by omega⟩
 unfold Zfg
 by_cases ho:Zbc a.op=true
 ·rw [if_pos ho]
  rw [ho] at hio
  have fin:T.R (.call Z6m [.agg ca, .agg cb] (.tuple [.agg cb, .bool (Zbc b.op||decide (b.op=35))])):=by
   clear ha hb
   generalize b.op=ob at h0b hjo ⊢
   match ca, la, pla, ona, hio, cb, lb, plb, onb, hjo, h0b with
   |[x0, x1, x2, x3, x4, x5], la, pla, ona, hio, [y0, y1, y2, y3, y4, y5], lb, plb, onb, hjo, h0b=>
    obtain ⟨px0, px1, px2, px3, px4, px5⟩:=pl6 pla
    obtain ⟨py0, py1, py2, py3, py4, py5⟩:=pl6 plb
    simp at h0b
    subst h0b
    cases hq:Zbc ob with
    |true=>
     rw [hq] at hjo
     refine Z7 rfl rfl ?_
     repeat' first|((with_reducible show V _ _ _ _ _ _);first|refine V_M 8 (st3 [x0, x1, x2, x3, x4, x5] [.int .i64 ob, y1, y2, y3, y4, y5] [.int .i64 ob, y1, y2, y3, y4, y5]) rfl ?_|refine Z1 rfl ?_|refine Za rfl rfl ?_|refine Z6 rfl rfl ?_)|((with_reducible show VO _ _ _ _ _ _ _);first|refine Zt rfl rfl la ?_|refine Z5 rfl rfl hio ?_|refine Z0 rfl ?_|refine Zc rfl ?_|refine Z2 ?_)|((with_reducible show VM _ _ _ _ _ _ _ _ _ _ _);first|refine M_gF rfl (.inl rfl) rfl rfl ?_|refine Zkh rfl (.inl rfl) rfl rfl (Z0c) (Z0c) hjo ?_|refine Zh1 rfl (Zll onb) ?_|refine Z1n rfl (.inl rfl) rfl rfl ?_|refine Z1n rfl (.inr rfl) rfl rfl ?_|refine Zqa ?_)
     rfl
    |false=>
     rw [hq] at hjo
     by_cases h35:ob=35
     ·rw [decide_eq_true h35]
      refine Z7 rfl rfl ?_
      repeat' first|((with_reducible show V _ _ _ _ _ _);first|refine V_M 8 (st3 [x0, x1, x2, x3, x4, x5] [.int .i64 ob, y1, y2, y3, y4, y5] [.int .i64 ob, y1, y2, y3, y4, y5]) rfl ?_|refine Z1 rfl ?_|refine Za rfl rfl ?_|refine Z6 rfl rfl ?_)|((with_reducible show VO _ _ _ _ _ _ _);first|refine Zt rfl rfl la ?_|refine Z5 rfl rfl hio ?_|refine Z0 rfl ?_|refine Zc rfl ?_|refine Z2 ?_)|((with_reducible show VM _ _ _ _ _ _ _ _ _ _ _);first|refine M_gT rfl rfl ?_|refine Zkh rfl (.inl rfl) rfl rfl (Z0c) (Z0c) hjo ?_|refine M_is (Z0f h35) rfl (.inl rfl) rfl rfl ?_|refine Zh1 rfl (Zll onb) ?_|refine Z1n rfl (.inl rfl) rfl rfl ?_|refine Z1n rfl (.inr rfl) rfl rfl ?_|refine Zqa ?_)
      rfl
     ·rw [decide_eq_false h35]
      refine Z7 rfl rfl ?_
      repeat' first|((with_reducible show V _ _ _ _ _ _);first|refine V_M 8 (st3 [x0, x1, x2, x3, x4, x5] [.int .i64 ob, y1, y2, y3, y4, y5] [.int .i64 ob, y1, y2, y3, y4, y5]) rfl ?_|refine Z1 rfl ?_|refine Za rfl rfl ?_|refine Z6 rfl rfl ?_)|((with_reducible show VO _ _ _ _ _ _ _);first|refine Zt rfl rfl la ?_|refine Z5 rfl rfl hio ?_|refine Z0 rfl ?_|refine Zc rfl ?_|refine Z2 ?_)|((with_reducible show VM _ _ _ _ _ _ _ _ _ _ _);first|refine M_gT rfl rfl ?_|refine Zkh rfl (.inl rfl) rfl rfl (Z0c) (Z0c) hjo ?_|refine M_is (Zb h35) rfl (.inl rfl) rfl rfl ?_|refine Zh1 rfl (Zll onb) ?_|refine Z1n rfl (.inl rfl) rfl rfl ?_|refine Z1n rfl (.inr rfl) rfl rfl ?_|refine Zqa ?_)
      rfl
  by_cases hc:Zbc b.op=true∨b.op=35
  ·rw [if_pos hc]
   have:(Zbc b.op||decide (b.op=35))=true:=by simpa using hc
   rw [this] at fin
   exact ⟨cb, fin, fun x hx=>(by injection hx with hx;subst hx;exact hb), hb.c6⟩
  ·rw [if_neg hc]
   have:(Zbc b.op||decide (b.op=35))=false:=by simpa using hc
   rw [this] at fin
   exact ⟨cb, fin, fun x hx=>(by cases hx), hb.c6⟩
 ·rw [if_neg ho]
  have ho':Zbc a.op=false:=by simpa using ho
  rw [ho'] at hio
  by_cases hne:a.op≠b.op
  ·rw [if_pos hne]
   refine ⟨z6, ?_, fun x hx=>(by cases hx), c6_z⟩
   clear ha hb
   have hne':¬a.op=b.op:=hne
   generalize a.op=oa at h0a hne'
   generalize b.op=ob at h0b hne'
   match ca, la, pla, ona, hio, cb, lb, plb, onb, h0a, h0b with
   |[x0, x1, x2, x3, x4, x5], la, pla, ona, hio, [y0, y1, y2, y3, y4, y5], lb, plb, onb, h0a, h0b=>
    obtain ⟨px0, px1, px2, px3, px4, px5⟩:=pl6 pla
    obtain ⟨py0, py1, py2, py3, py4, py5⟩:=pl6 plb
    simp at h0b h0a
    subst h0b h0a
    refine Z7 rfl rfl ?_
    repeat' first|((with_reducible show V _ _ _ _ _ _);first|refine Z1 rfl ?_|refine Za rfl rfl ?_|refine Z9 rfl rfl ?_|refine Z6 rfl rfl ?_)|((with_reducible show VO _ _ _ _ _ _ _);first|refine Zt rfl rfl la ?_|refine Z5 rfl rfl hio ?_|refine Z3 (Z0e hne') rfl ?_|refine Z0 rfl ?_|refine Zc rfl ?_|refine Z2 ?_)
    rfl
  ·rw [if_neg hne]
   have heq:a.op=b.op:=Classical.not_not.1 hne
   have dne:=Z0k (p:=a.op=b.op) heq
   by_cases h24:a.op=24
   ·rw [if_pos h24]
    refine ⟨ca, ?_, fun x hx=>(by injection hx with hx;subst hx;exact ha), ha.c6⟩
    clear ha hb
    rw [heq] at h24
    rw [←heq] at h24
    rw [←heq] at h0b
    rw [h24] at h0a h0b
    match ca, la, pla, ona, hio, cb, lb, plb, onb, h0a, h0b with
    |[x0, x1, x2, x3, x4, x5], la, pla, ona, hio, [y0, y1, y2, y3, y4, y5], lb, plb, onb, h0a, h0b=>
     obtain ⟨px0, px1, px2, px3, px4, px5⟩:=pl6 pla
     obtain ⟨py0, py1, py2, py3, py4, py5⟩:=pl6 plb
     simp at h0b h0a
     subst h0b h0a
     refine Z7 rfl rfl ?_
     repeat' first|((with_reducible show V _ _ _ _ _ _);first|refine Z1 rfl ?_|refine Za rfl rfl ?_|refine Z9 rfl rfl ?_|refine Z6 rfl rfl ?_)|((with_reducible show VO _ _ _ _ _ _ _);first|refine Zt rfl rfl la ?_|refine Z5 rfl rfl hio ?_|refine Z03 rfl rfl ona la rfl rfl rfl ?_|refine Z0 rfl ?_|refine Zc rfl ?_|refine Z2 ?_)
     rfl
   ·rw [if_neg h24]
    by_cases h26:a.op=26
    ·rw [if_pos h26]
     obtain ⟨x, ex, nx⟩:=Zb0 oka (.inl h26)
     obtain ⟨y, ey, ny⟩:=Zb0 okb (.inl (heq ▸ h26))
     obtain ⟨o1, a1, a2, a3, a4, a5, rfl, rfl, ax, ix⟩:=num_at ha ex
     obtain ⟨o2, b1, b2, b3, b4, b5, rfl, rfl, ay, iy⟩:=num_at hb ey
     obtain ⟨px0, px1, px2, px3, px4, px5⟩:=pl6 pla
     obtain ⟨py0, py1, py2, py3, py4, py5⟩:=pl6 plb
     have hl:=Znv (min2 x y)
     have ixy:Zn (min2 x y):=by unfold min2;split<;>assumption
     have plm:=limC_pl (min2 x y)
     have o6:=(Z6r (n:=0) (op:=26) (by simp [Zn]) ixy).one
     rw [ex, ey]
     refine ⟨limC (min2 x y), ?_, fun z hz=>(by injection hz with hz;subst hz;exact Z6r (by simp [Zn]) ixy), (Z6r (n:=0) (op:=26) (by simp [Zn]) ixy).c6⟩
     clear ha hb
     rw [←heq] at hjo lb plb onb h0b ⊢
     rw [h26] at *
     refine Z7 rfl rfl ?_
     repeat' first|((with_reducible show V _ _ _ _ _ _);first|refine V_M 10 (st3 [.int .i64 26, a1, a2, a3, a4, a5] [.int .i64 26, b1, b2, b3, b4, b5] (limC (min2 x y))) rfl ?_|refine Z1 rfl ?_|refine Za rfl rfl ?_|refine Z9 rfl rfl ?_|refine Z6 rfl rfl ?_)|((with_reducible show VO _ _ _ _ _ _ _);first|refine Zt rfl rfl la ?_|refine Z5 rfl rfl hio ?_|refine Z0 rfl ?_|refine Zc rfl ?_|refine Z2 ?_)|((with_reducible show VM _ _ _ _ _ _ _ _ _ _ _);first|refine Z1n rfl (.inl rfl) (Z0x ax rfl rfl) (Z0x ax rfl rfl) ?_|refine Z1n rfl (.inl rfl) (Z0x ay rfl rfl) (Z0x ay rfl rfl) ?_|refine Zkh rfl (.inl rfl) rfl rfl (Z0c) (Z0c) hl ?_|refine Zh1 rfl (Zll o6) ?_|refine Z1n rfl (.inl rfl) rfl rfl ?_|refine Z1n rfl (.inr rfl) rfl rfl ?_|refine Zqa ?_)
     rfl
    ·rw [if_neg h26]
     by_cases h27:a.op=27
     ·rw [if_pos h27]
      obtain ⟨x, ex, nx⟩:=Zb0 oka (.inr (.inl h27))
      obtain ⟨y, ey, ny⟩:=Zb0 okb (.inr (.inl (heq ▸ h27)))
      obtain ⟨o1, a1, a2, a3, a4, a5, rfl, rfl, ax, ix⟩:=num_at ha ex
      obtain ⟨o2, b1, b2, b3, b4, b5, rfl, rfl, ay, iy⟩:=num_at hb ey
      obtain ⟨px0, px1, px2, px3, px4, px5⟩:=pl6 pla
      obtain ⟨py0, py1, py2, py3, py4, py5⟩:=pl6 plb
      have nx':=Zep nx
      have ny':=Zep ny
      have ixy:Zn (x+y):=by unfold Zn;omega
      have e1:PV.int .i64 (IntKind.i64.wrap (x+y))=PV.int .i64 (x+y):=Z5e (Zh3 ixy)
      have fin:T.R (.call Z6m [.agg [.int .i64 a.op, a1, a2, a3, a4, a5], .agg [.int .i64 b.op, b1, b2, b3, b4, b5]] (.tuple [.agg [.int .i64 27, .nilSl, .sl [[.int .i64 (x+y)]] true, .nilSl, .nilSl, .nilSl], .bool (decide (x+y≤9007199254740992))])):=by
       clear ha hb
       rw [←heq] at hjo lb plb onb h0b ⊢
       rw [h27] at *
       refine Z7 rfl rfl ?_
       repeat' first|((with_reducible show V _ _ _ _ _ _);first|refine Z1 rfl ?_|refine Za rfl rfl ?_|refine Z9 rfl rfl ?_|refine Z6 rfl rfl ?_|refine V_D rfl ?_)|((with_reducible show VO _ _ _ _ _ _ _);first|refine Zt rfl rfl la ?_|refine Z5 rfl rfl hio ?_|refine Z0 rfl ?_|refine Zc rfl ?_|refine Z2 ?_)|((with_reducible show VD _ _ _ _ _ _ _);first|refine Z40 rfl rfl ax ?_|refine Z40 rfl rfl ay ?_|refine Zfs e1 rfl ?_|refine Zo rfl ?_|refine Z0a ?_)
       rfl
      rw [ex, ey]
      show JoinR _ _ _ (if x+y≤9007199254740992 then some (skS (x+y)) else none)
      have hc:=Z6r (n:=m) (op:=27) (k:=x+y) (by simp [Zn]) ixy
      by_cases hle:x+y≤9007199254740992
      ·rw [if_pos hle]
       rw [decide_eq_true hle] at fin
       exact ⟨_, fin, fun z hz=>(by injection hz with hz;subst hz;exact hc), hc.c6⟩
      ·rw [if_neg hle]
       rw [decide_eq_false hle] at fin
       exact ⟨_, fin, fun z hz=>(by cases hz), hc.c6⟩
     ·rw [if_neg h27]
      have hf:=run_isFilter ha
      have hs:=run_PSame (m+1) [a] [b] _ _ (Zlm ha) (Zlm hb)
      rw [eqD_one] at hs
      have sa:C6 ca:=ha.c6
      have sb:C6 cb:=hb.c6
      have psa:Pl (.sl [ca] true):=.sl _ _ (by simpa using pla)
      have psb:Pl (.sl [cb] true):=.sl _ _ (by simpa using plb)
      have ba:=fun (look:Nat→Option Tok) (e:EC) (i:Nat) (hi:e.get i=some (.agg ca))=>Z49 (look:=look) sa hi
      have bb:=fun (look:Nat→Option Tok) (e:EC) (i:Nat) (hi:e.get i=some (.agg cb))=>Z49 (look:=look) sb hi
      have fin:T.R (.call Z6m [.agg ca, .agg cb] (.tuple [.agg ca, .bool (Zic a&&eqSB a b)])):=by
       clear ha hb sa sb
       rw [←heq] at h0b
       generalize a.op=oa at h0a h0b h24 h26 h27
       generalize Zic a=v at hf ⊢
       generalize eqSB a b=w at hs ⊢
       match ca, la, pla, ona, hio, hf, psa, ba, cb, lb, plb, onb, hjo, h0a, h0b, psb, bb, hs with
       |[x0, x1, x2, x3, x4, x5], la, pla, ona, hio, hf, psa, ba, [y0, y1, y2, y3, y4, y5], lb, plb, onb, hjo, h0a, h0b, psb, bb, hs=>
        obtain ⟨px0, px1, px2, px3, px4, px5⟩:=pl6 pla
        obtain ⟨py0, py1, py2, py3, py4, py5⟩:=pl6 plb
        simp at h0b h0a
        subst h0b h0a
        have dne:=Z0k (p:=oa=oa) rfl
        cases v with
        |false=>
         refine Z7 rfl rfl ?_
         repeat' first|((with_reducible show V _ _ _ _ _ _);first|refine V_M 10 (st3 [.int .i64 oa, x1, x2, x3, x4, x5] [.int .i64 oa, y1, y2, y3, y4, y5] [.int .i64 oa, x1, x2, x3, x4, x5]) rfl ?_|refine Z1 rfl ?_|refine Z9 rfl rfl ?_|refine Z6 rfl rfl ?_)|((with_reducible show VO _ _ _ _ _ _ _);first|refine Zt rfl rfl la ?_|refine Z5 rfl rfl hio ?_|refine Z3 dne rfl ?_|refine Z3 (Zb h24) rfl ?_|refine Z3 (Zb h26) rfl ?_|refine Z3 (Zb h27) rfl ?_|refine Z0 rfl ?_|refine Zc rfl ?_|refine Z2 ?_)|((with_reducible show VM _ _ _ _ _ _ _ _ _ _ _);first|refine M_gF rfl (.inl rfl) rfl rfl ?_|refine Zkh rfl (.inl rfl) rfl rfl (Z0c) (Z0c) hf ?_|refine Zh1 rfl (Zll ona) ?_|refine Z1n rfl (.inl rfl) rfl rfl ?_|refine Z1n rfl (.inr rfl) rfl rfl ?_|refine Zqa ?_)
         rfl
        |true=>
         refine Z7 rfl rfl ?_
         repeat' first|((with_reducible show V _ _ _ _ _ _);first|refine V_M 10 (st3 [.int .i64 oa, x1, x2, x3, x4, x5] [.int .i64 oa, y1, y2, y3, y4, y5] [.int .i64 oa, x1, x2, x3, x4, x5]) rfl ?_|refine Z1 rfl ?_|refine Z9 rfl rfl ?_|refine Z6 rfl rfl ?_)|((with_reducible show VO _ _ _ _ _ _ _);first|refine Zt rfl rfl la ?_|refine Z5 rfl rfl hio ?_|refine Z3 dne rfl ?_|refine Z3 (Zb h24) rfl ?_|refine Z3 (Zb h26) rfl ?_|refine Z3 (Zb h27) rfl ?_|refine Z0 rfl ?_|refine Zc rfl ?_|refine Z2 ?_)|((with_reducible show VM _ _ _ _ _ _ _ _ _ _ _);first|refine M_gT rfl rfl ?_|refine Zkh rfl (.inl rfl) rfl rfl (Z0c) (Z0c) hf ?_|refine Zkh rfl (.inl rfl) rfl rfl (Z0c) (Z0c) hs ?_|refine Z1n rfl (.inl rfl) (ba _ _ _ rfl) (ba _ _ _ rfl) ?_|refine Z1n rfl (.inl rfl) (bb _ _ _ rfl) (bb _ _ _ rfl) ?_|refine Zh1 rfl (Zll ona) ?_|refine Z1n rfl (.inl rfl) rfl rfl ?_|refine Z1n rfl (.inr rfl) rfl rfl ?_|refine Zqa ?_)
         rfl
      by_cases hc:(Zic a&&eqSB a b)=true
      ·rw [if_pos hc]
       rw [hc] at fin
       exact ⟨ca, fin, fun x hx=>(by injection hx with hx;subst hx;exact ha), ha.c6⟩
      ·rw [if_neg hc]
       have:(Zic a&&eqSB a b)=false:=by simpa using hc
       rw [this] at fin
       exact ⟨ca, fin, fun x hx=>(by cases hx), ha.c6⟩
noncomputable def putF (L:List Stp) (s:Stp):List Stp:=(Zkj L.reverse s).reverse
theorem putF_id {L:List Stp} {s:Stp} (h:(Z7i s).op=60):putF L s=L:=by
 unfold putF
 cases hr:L.reverse with
 |nil=>
  rw [Zkj, if_pos h]
  simpa using hr
 |cons a r=>
  rw [Zkj, if_pos h, ←hr, List.reverse_reverse]
theorem putF_nil {s:Stp} (h:(Z7i s).op≠60):putF [] s=[Z7i s]:=by
 unfold putF
 rw [List.reverse_nil, Zkj, if_neg h]
 rfl
theorem putF_join {L:List Stp} {a s x:Stp} (h:(Z7i s).op≠60) (hj:Zfg a (Z7i s)=some x):putF (L++[a]) s=putF L x:=by
 unfold putF
 rw [List.reverse_append, List.reverse_singleton, List.singleton_append, Zkj, if_neg h, hj]
theorem putF_app {L:List Stp} {a s:Stp} (h:(Z7i s).op≠60) (hj:Zfg a (Z7i s)=none):putF (L++[a]) s=L++[a]++[Z7i s]:=by
 unfold putF
 rw [List.reverse_append, List.reverse_singleton, List.singleton_append, Zkj, if_neg h, hj]
 simp
theorem OwnL.atAll {n:Nat} {st:St} {v:PV} {L:List Stp} (h:OwnL n st v L) {j:Nat} {s:Stp} (hs:L[j]?=some s):∃p cs, (∀look:Nat→Option Tok, (∀u, Z0g v=some u→look u=st.get u)→indexS? look 6 (j:Int) v=some p∧loadAt look 6 true p=some (.agg cs))∧SC n s cs:=by
 have hj:=(List.getElem?_eq_some_iff.1 hs).1
 rcases h with ⟨rfl, rfl⟩|⟨t, g, es, rfl, h1, h2, h3, h4⟩
 ·simp at hs
 ·have he:es[j]?=some es[j]:=List.getElem?_eq_getElem (by omega)
  have hc:=h4 j s _ hs he
  have h6:=hc.len6
  refine ⟨.rptr t g j 0, es[j], fun look hlook=>?_, hc⟩
  have hl:look t=some (.row g 6 es true):=(hlook t rfl).trans h1
  constructor
  ·simp only [indexS?]
   rw [if_pos ⟨by omega, by omega⟩]
   simp only [hl, and_self, if_true, Int.toNat_natCast, Nat.zero_add]
  ·simp only [loadAt, behind, hl, if_true, he, Option.map_some, Option.bind_some, slice?]
   rw [if_pos (by omega)]
   simp [List.take_of_length_le (Nat.le_of_eq h6)]
theorem Zn0 {look:Nat→Option Tok} {e:EC} {x i:Opd} {v p:PV} {kk:IntKind} {m:Int} {sz:Nat} (hx:x.get e=some v) (hi:i.get e=some (.int kk m)) (h:indexS? look sz m v=some p):Zl look e (.indexS x i sz)=some p:=by
 simp only [Zl, Zp4, hx, hi, Z7w, h]
theorem Zl3 {look:Nat→Option Tok} {e:EC} {x:Opd} {p v:PV} {n:Nat} {agg:Bool} (hx:x.get e=some p) (h:loadAt look n agg p=some v):Zl look e (.load n agg x)=some v:=by
 simp only [Zl, Zcq, hx, h]
def PutS (n:Nat) (L:List Stp):Prop:=∀(st:St) (v:PV) (s:Stp) (cs:List PV), st.base=st.next→OwnL n st v L→SC n s cs→okS s=true→∃v' st', T.R (.raw n_rewrite_put [v, .agg cs] st v' st')∧OwnL n st' v' (putF L s)∧Grow st v st' v'
theorem put_begin {n:Nat} {L:List Stp} {st:St} {v:PV} {s:Stp} {cs:List PV} (hv:OwnL n st v L) (hs:SC n s cs) (hok:okS s=true):∃cx S0 S1, T.R (.call Z7r [.agg cs] (.agg cx))∧SC n (Z7i s) cx∧st.new (.var cs)=S0∧S0.get st.next=some (.var cs)∧S0.put st.next (.var cx)=S1∧S1.get st.next=some (.var cx)∧S1.next=st.next+1∧OwnL n S1 v L∧Grow st v S1 v:=by
 obtain ⟨cx, x1, x2⟩:=run_simple hs hok
 refine ⟨cx, _, _, x1, x2, rfl, St.get_new, rfl, St.get_put, rfl, ?_⟩
 have hg:Grow st v ((st.new (.var cs)).put st.next (.var cx)) v:=⟨rfl, Nat.le_succ _, .inl rfl, fun u hu _=>by rw [St.get_put_old (by omega)];exact St.get_new_old hu⟩
 refine ⟨hv.keep hg.2.1 fun u hu=>?_, hg⟩
 have:=(hv.tok hu).1
 rw [St.get_put_old (by omega)]
 exact St.get_new_old this
set_option maxHeartbeats 4000000 in
theorem putRaw0 {n:Nat}:PutS n []:=by
 intro st v s cs hbn hv hs hok
 obtain ⟨cx, S0, S1, x1, x2, e0, g0, e1, g1, n1, hv1, hg1⟩:=put_begin hv hs hok
 have c6:=x2.c6
 have l6:=hs.len6
 have lx:=c6.2.1
 have plc:=hs.pl
 have hop:=x2.op0
 obtain ⟨f1, f2⟩:=hv1.len
 by_cases h60:(Z7i s).op=60
 ·rw [putF_id h60]
  refine Zeb (Q:=fun v' st'=>OwnL n st' v' []∧Grow st v st' v') rfl rfl ?_
  repeat' first|((with_reducible show V _ _ _ _ _ _);first|refine Z80 rfl rfl ⟨hv1, hg1⟩|refine Z1 rfl ?_|refine Za rfl rfl ?_)|((with_reducible show VO _ _ _ _ _ _ _);first|refine Z9y e0 rfl rfl ?_|refine Zt rfl g0 l6 ?_|refine Z5 rfl rfl x1 ?_|refine Z1g e1 g0 c6 l6 rfl rfl rfl ?_|refine Z81 rfl g1 hop ?_|refine Z3 (Z0f h60) rfl ?_|refine Z0 rfl ?_|refine Z2 ?_)
 ·rw [putF_nil h60]
  obtain ⟨v', S2, a1, a2, a3⟩:=hv1.app (bytes:=128) x2 (by simp [Z05])
  have hb:=fun (look:Nat→Option Tok) (e:EC) (i:Nat) (hi:e.get i=some (.agg cx))=>Z49 (look:=look) c6 hi
  have hend:=hg1.trans a3
  have hok6:okEls 6 [cx]=true:=by simp only [okEls, List.all_cons, List.all_nil, lx, List.all_eq_true.2 c6.2.2];rfl
  refine Zeb (Q:=fun v' st'=>OwnL n st' v' [Z7i s]∧Grow st v st' v') rfl rfl ?_
  repeat' first|((with_reducible show V _ _ _ _ _ _);first|refine Z80 rfl rfl ⟨a2, hend⟩|refine Z1 rfl ?_|refine Z9 rfl rfl ?_)|((with_reducible show VO _ _ _ _ _ _ _);first|refine Z9y e0 rfl rfl ?_|refine Zt rfl g0 l6 ?_|refine Zt rfl g1 lx ?_|refine Z5 rfl rfl x1 ?_|refine Z1g e1 g0 c6 l6 rfl rfl rfl ?_|refine Z81 rfl g1 hop ?_|refine Z3 (Zb h60) rfl ?_|refine Z4 rfl f1 f2 ?_|refine Z0 (hb _ _ _ rfl) ?_|refine Z25 rfl rfl rfl hok6 (by decide) (by decide) a1 ?_|refine Z0 rfl ?_|refine Z2 ?_)
set_option maxHeartbeats 8000000 in
theorem putRaw1 {n:Nat} {L0:List Stp} {a:Stp} (hL2:L0.length≤999999999) (hok0:okA (L0++[a])) (ih:PutS n L0):PutS n (L0++[a]):=by
 intro st v s cs hbn hv hs hok
 obtain ⟨cx, S0, S1, x1, x2, e0, g0, e1, g1, n1, hv1, hg1⟩:=put_begin hv hs hok
 have c6:=x2.c6
 have l6:=hs.len6
 have lx:=c6.2.1
 have plc:=hs.pl
 have plx:=c6.1
 have hop:=x2.op0
 obtain ⟨f1, f2⟩:=hv1.len
 by_cases h60:(Z7i s).op=60
 ·rw [putF_id h60]
  refine Zeb (Q:=fun v' st'=>OwnL n st' v' (L0++[a])∧Grow st v st' v') rfl rfl ?_
  repeat' first|((with_reducible show V _ _ _ _ _ _);first|refine Z80 rfl rfl ⟨hv1, hg1⟩|refine Z1 rfl ?_|refine Za rfl rfl ?_)|((with_reducible show VO _ _ _ _ _ _ _);first|refine Z9y e0 rfl rfl ?_|refine Zt rfl g0 l6 ?_|refine Z5 rfl rfl x1 ?_|refine Z1g e1 g0 c6 l6 rfl rfl rfl ?_|refine Z81 rfl g1 hop ?_|refine Z3 (Z0f h60) rfl ?_|refine Z0 rfl ?_|refine Z2 ?_)
 ·have hoka:=hok0 a (by simp)
  have hokx:=Znr s hok
  obtain ⟨p, ca, hat, sca⟩:=hv1.atAll (j:=L0.length) (s:=a) (by simp)
  obtain ⟨cj, j1, j2, j3⟩:=run_join sca x2 hoka hokx
  have pla:=sca.pl
  have plj:=j3.1
  have e2:PV.int .i64 (IntKind.i64.wrap (((L0++[a]).length:Int)-1))=PV.int .i64 (L0.length:Int):=Z5e (by rw [Z01];simp;omega)
  have d2:=Z0f (p:=(0:Int)≤(L0.length:Int)) (by omega)
  obtain ⟨B1, hB1⟩:∃S, S1.new (.var z6)=S:=⟨_, rfl⟩
  have b1:B1.get st.next=some (.var cx):=by rw [←hB1];exact (St.get_new_old (by omega)).trans g1
  have b2:B1.get (st.next+1)=some (.var z6):=by rw [←hB1, ←n1];exact St.get_new
  have bn:B1.next=st.next+2:=by rw [←hB1];show S1.next+1=_;omega
  obtain ⟨C1, hC1⟩:∃S, B1.put (st.next+1) (.var cj)=S:=⟨_, rfl⟩
  have c1:C1.get st.next=some (.var cx):=by rw [←hC1];exact (St.get_put_old (by omega)).trans b1
  have c2:C1.get (st.next+1)=some (.var cj):=by rw [←hC1];exact St.get_put
  have cn:C1.next=st.next+2:=by rw [←hC1];exact bn
  have kB:∀u, u<S1.next→B1.get u=S1.get u:=fun u hu=>by rw [←hB1];exact St.get_new_old hu
  have kC:∀u, u<S1.next→C1.get u=S1.get u:=fun u hu=>by rw [←hC1];exact (St.get_put_old (by omega)).trans (kB u hu)
  have tv:∀u, Z0g v=some u→u<S1.next:=fun u hu=>(hv1.tok hu).1
  have hA':=hat S1.get (fun u hu=>rfl)
  have hB':=hat B1.get (fun u hu=>kB u (tv u hu))
  have hC':=hat C1.get (fun u hu=>kC u (tv u hu))
  have hvC:OwnL n C1 v (L0++[a]):=hv1.keep (by omega) (fun u hu=>kC u (tv u hu))
  have gC:Grow st v C1 v:=⟨by rw [←hC1, ←hB1];exact hg1.1, by omega, .inl rfl, fun u hu hne=>(kC u (by omega)).trans (hg1.2.2.2 u hu hne)⟩
  have gg:∀X:St, X=S1∨X=B1∨X=C1→X.get st.next=some (.var cx):=fun X hX=>by rcases hX with rfl|rfl|rfl<;>assumption
  have lq:∀ {e:EC} {x:Opd}, x.get e=some (.ptr st.next 0)→∀ {X:St}, X.get st.next=some (.var cx)→Zl X.get e (.load 6 true x)=some (.agg cx):=fun hx X hX=>Zl3 hx (Zi3 hX lx)
  have hz6:z6.length=6:=rfl
  have hsto:Z13 B1 ((EC.nil:EC)) (.store 6 (.c (.ptr (st.next+1) 0)) (.c (.agg cj)))=some (.tuple [], C1):=by
   have h1:(PV.agg cj).cells.all PV.one=true:=List.all_eq_true.2 j3.2.2
   have h2:(PV.agg cj).cells.length=6:=j3.2.1
   simp only [Z13, Opd.get]
   rw [if_pos ⟨h1, h2, by omega⟩, Z1d b2 (by rw [hz6, j3.2.1]), hC1]
   rfl
  have hst2:∀ {e:EC} {i j:Nat}, e.get i=some (.ptr (st.next+1) 0)→e.get j=some (.agg cj)→Z13 B1 e (.store 6 (.t i) (.t j))=some (.tuple [], C1):=fun {e i j} hi hj=>by
   have h1:(PV.agg cj).cells.all PV.one=true:=List.all_eq_true.2 j3.2.2
   have h2:(PV.agg cj).cells.length=6:=j3.2.1
   simp only [Z13, Opd.get, hi, hj]
   rw [if_pos ⟨h1, h2, by omega⟩, Z1d b2 (by rw [hz6, j3.2.1]), hC1]
   rfl
  have hal:∀ {e:EC}, Z13 S1 e (.alloc [.int .i64 0, .nilSl, .nilSl, .nilSl, .nilSl, .nilSl])=some (.ptr (st.next+1) 0, B1):=fun {e}=>by
   rw [←hB1, ←n1]
   rfl
  cases hj:Zfg a (Z7i s) with
  |none=>
   rw [hj] at j1
   rw [putF_app h60 hj]
   obtain ⟨v', S2, a1, a2, a3⟩:=hvC.app (bytes:=128) x2 (by simp only [Z05, List.length_append, List.length_singleton];omega)
   have hb:=fun (look:Nat→Option Tok) (e:EC) (i:Nat) (hi:e.get i=some (.agg cx))=>Z49 (look:=look) c6 hi
   have hend:=gC.trans a3
   have hok6:okEls 6 [cx]=true:=by simp only [okEls, List.all_cons, List.all_nil, lx, List.all_eq_true.2 c6.2.2];rfl
   refine Zeb (Q:=fun v' st'=>OwnL n st' v' (L0++[a]++[Z7i s])∧Grow st v st' v') rfl rfl ?_
   repeat' first|((with_reducible show V _ _ _ _ _ _);first|refine V_M2 9 10 6 B1 C1 rfl rfl ?_|refine Z80 rfl rfl ⟨a2, hend⟩|refine Z1 rfl ?_|refine Za rfl rfl ?_|refine Z9 rfl rfl ?_)|((with_reducible show VO _ _ _ _ _ _ _);first|refine Z9y e0 rfl rfl ?_|refine Zt rfl g0 l6 ?_|refine Zt rfl c1 lx ?_|refine Z5 rfl rfl x1 ?_|refine Z1g e1 g0 c6 l6 rfl rfl rfl ?_|refine Z81 rfl g1 hop ?_|refine Z3 (Zb h60) rfl ?_|refine Z4 rfl f1 f2 ?_|refine Z3 e2 rfl ?_|refine Z3 d2 rfl ?_|refine Z0 (hb _ _ _ rfl) ?_|refine Z25 rfl rfl rfl hok6 (by decide) (by decide) a1 ?_|refine Z0 rfl ?_|refine Z2 ?_)|refine Zaz rfl hal ?_|refine Zcv rfl (by decide) (hst2 rfl rfl) ?_|refine Z0m rfl rfl (.inl rfl) (Zn0 rfl rfl hA'.1) (Zn0 rfl rfl hB'.1) (Zn0 rfl rfl hC'.1) ?_|refine Z0m rfl rfl (.inl rfl) (Zl3 rfl hA'.2) (Zl3 rfl hB'.2) (Zl3 rfl hC'.2) ?_|refine Z0m rfl rfl (.inl rfl) (lq rfl g1) (lq rfl b1) (lq rfl c1) ?_|refine Zfo rfl rfl (.inl rfl) rfl rfl (fun _=>Z0c) j1 ?_|refine Z0m rfl rfl (.inl rfl) rfl rfl rfl ?_|refine Z0m rfl rfl (.inr (.inr rfl)) rfl rfl rfl ?_|refine Zpn ?_
  |some x=>
   rw [hj] at j1
   rw [putF_join h60 hj]
   have hxok:=joinS_ok hoka hokx hj
   obtain ⟨v0, k1, k2, k3⟩:=hvC.take (m:=L0.length) (by simp)
   have htk:(L0++[a]).take L0.length=L0:=by simp
   rw [htk] at k2
   have k2':OwnL n ⟨C1.next, C1.next, C1.toks⟩ v0 L0:=k2.keep (Nat.le_refl _) (fun _ _=>rfl)
   obtain ⟨v', S2, r1, r2, r3⟩:=ih ⟨C1.next, C1.next, C1.toks⟩ v0 x cj rfl k2' (j2 x hj) hxok
   have gD:Grow C1 v0 ⟨C1.base, S2.next, S2.toks⟩ v':=Grow.re (b:=0) r3
   have hvE:OwnL n ⟨C1.base, S2.next, S2.toks⟩ v' (putF L0 x):=r2
   have gE:Grow st v ⟨C1.base, S2.next, S2.toks⟩ v':=by
    refine gC.trans ⟨gD.1, gD.2.1, ?_, fun u hu hne=>gD.2.2.2 u hu (by rw [k3];exact hne)⟩
    rw [←k3]
    exact gD.2.2.1
   have hall6:=Zcu (Q:=fun s=>s.get (st.next+1)=some (.var cj)) (a:=C1) (r:=[C1, ⟨C1.base, S2.next, S2.toks⟩]) ⟨c2, c2, (gD.2.2.2 _ (by omega) (fun hu=>by rw [k3] at hu;have:=tv _ hu;omega)).trans c2⟩
   have lj:=j3.2.1
   have sl_q:∀ {e:EC}, e.get 29=some v→e.get 30=some (.int .i64 (L0.length:Int))→Zl C1.get e (.sliceSl (.t 29) 6 none (some (.t 30)) none)=some v0:=fun {e} h1 h2=>by
    simp only [Zl, Zcq, Opd.get, Z9u, h1, h2]
    exact k1
   refine Zeb (Q:=fun v' st'=>OwnL n st' v' (putF L0 x)∧Grow st v st' v') rfl rfl ?_
   repeat' first|((with_reducible show V _ _ _ _ _ _);first|refine V_C (mkC [2, 4] [some 31, some 33] C1 [C1, ⟨C1.base, S2.next, S2.toks⟩] none) rfl rfl ?_|refine V_M2 9 10 6 B1 C1 rfl rfl ?_|refine Z80 rfl rfl ⟨hvE, gE⟩|refine Z1 rfl ?_|refine Za rfl rfl ?_|refine Z9 rfl rfl ?_)|((with_reducible show VO _ _ _ _ _ _ _);first|refine Z9y e0 rfl rfl ?_|refine Zt rfl g0 l6 ?_|refine Z5 rfl rfl x1 ?_|refine Z1g e1 g0 c6 l6 rfl rfl rfl ?_|refine Z81 rfl g1 hop ?_|refine Z3 (Zb h60) rfl ?_|refine Z4 rfl f1 f2 ?_|refine Z3 e2 rfl ?_|refine Z3 d2 rfl ?_|refine Z0 rfl ?_|refine Z2 ?_)|((with_reducible show Go.AM.VC _ _ _ _ _ _ _ _ _ _);first|refine Zpo rfl rfl rfl rfl rfl rfl rfl (sl_q rfl rfl) ?_|refine C_loadP rfl rfl rfl hall6 lj ?_|refine Znj rfl rfl rfl rfl rfl rfl rfl rfl r1 r3.1 rfl ?_|refine Z9z rfl rfl (fun _=>rfl) ?_|refine C_nil rfl rfl ?_)|refine Zaz rfl hal ?_|refine Zcv rfl (by decide) (hst2 rfl rfl) ?_|refine Z0m rfl rfl (.inl rfl) (Zn0 rfl rfl hA'.1) (Zn0 rfl rfl hB'.1) (Zn0 rfl rfl hC'.1) ?_|refine Z0m rfl rfl (.inl rfl) (Zl3 rfl hA'.2) (Zl3 rfl hB'.2) (Zl3 rfl hC'.2) ?_|refine Z0m rfl rfl (.inl rfl) (lq rfl g1) (lq rfl b1) (lq rfl c1) ?_|refine Zfo rfl rfl (.inl rfl) rfl rfl (fun _=>Z0c) j1 ?_|refine Z0m rfl rfl (.inl rfl) rfl rfl rfl ?_|refine Z0m rfl rfl (.inr (.inr rfl)) rfl rfl rfl ?_|refine Zpn ?_
set_option maxHeartbeats 8000000 in
theorem putRaw {n:Nat}:∀(N:Nat) (L:List Stp), L.length≤N→L.length≤1000000000→okA L→PutS n L:=by
 intro N
 induction N with
 |zero=>
  intro L hL hL2 hok
  obtain rfl:L=[]:=List.length_eq_zero_iff.1 (by omega)
  exact putRaw0
 |succ N ih=>
  intro L hL hL2 hok
  rcases List.eq_nil_or_concat L with rfl|⟨L0, a, rfl⟩
  ·exact putRaw0
  ·rw [List.concat_eq_append] at hL hL2 hok ⊢
   exact putRaw1 (by simp at hL2;omega) hok (ih L0 (by simp at hL;omega) (by simp at hL2;omega) (fun x hx=>hok x (by simp [hx])))
end Go.Proofs.YtnedeokclnbcpaaGreatDoor
