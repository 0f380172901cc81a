/- The reference's simple, orders, twice (rambleref20), Writes (rambleref17). · rambleref16.Same: whether two lists of steps are equal. -/
import Derived.Test.YtnedeokclnbcpaaGreatDoorRwZToRfA
import Derived.Test.YtnedeokclnbcpaaGreatDoorRwEToRwH
set_option linter.unusedVariables false
set_option linter.unusedSimpArgs false
namespace Go.Proofs.YtnedeokclnbcpaaGreatDoor
open Go Go.AM Go.RowKit
theorem rsimple_loop {n:Nat}:∀s:Stp, ∀(cs:List PV) (st:St), SC n s cs→okS s=true→st.get 0=some (.var cs)→(∃z, st.get 1=some (.var z)∧z.length=6)→2≤st.next→
  V T (PE fun y e st'=>y=.ret∧e=Ze [(2, .ptr 1 0)]∧∃cs', st'.get 1=some (.var cs')∧SC n (Z7i s) cs') [.code (.loop Z1e)] .normal (Ze [(1, .ptr 0 0), (2, .ptr 1 0)]) st:=by
 have step:∀(s:Stp) (cs:List PV) (st:St), SC n s cs→okS s=true→st.get 0=some (.var cs)→(∃z, st.get 1=some (.var z)∧z.length=6)→2≤st.next→(∀x, rlS s=some x→∀(cx:List PV) (st:St), SC n x cx→okS x=true→st.get 0=some (.var cx)→(∃z, st.get 1=some (.var z)∧z.length=6)→2≤st.next→
  V T (PE fun y e st'=>y=.ret∧e=Ze [(2, .ptr 1 0)]∧∃cs', st'.get 1=some (.var cs')∧SC n (Z7i s) cs') [.code (.loop Z1e)] .normal (Ze [(1, .ptr 0 0), (2, .ptr 1 0)]) st)→
  V T (PE fun y e st'=>y=.ret∧e=Ze [(2, .ptr 1 0)]∧∃cs', st'.get 1=some (.var cs')∧SC n (Z7i s) cs') [.code (.loop Z1e)] .normal (Ze [(1, .ptr 0 0), (2, .ptr 1 0)]) st:=by
  intro s cs st hs hok h0 h1 hn ih
  obtain ⟨z, h1, hz⟩:=h1
  obtain ⟨cy, y1, y2, y3⟩:=run_once hs hok
  have c6:=hs.c6
  have l6:=c6.2.1
  have plc:=c6.1
  have ly:=y3.2.1
  obtain ⟨t, ht⟩:∃t, st.next=t:=⟨_, rfl⟩
  obtain ⟨S1, hS1⟩:∃S, st.new (.var z6)=S:=⟨_, rfl⟩
  have a0:S1.get 0=some (.var cs):=by rw [←hS1];exact (St.get_new_old (by omega)).trans h0
  have a1:S1.get 1=some (.var z):=by rw [←hS1];exact (St.get_new_old (by omega)).trans h1
  have at_:S1.get t=some (.var z6):=by rw [←hS1, ←ht];exact St.get_new
  have an:S1.next=t+1:=by rw [←hS1, ←ht];rfl
  obtain ⟨S2, hS2⟩:∃S, S1.put t (.var cy)=S:=⟨_, rfl⟩
  have b0:S2.get 0=some (.var cs):=by rw [←hS2];exact (St.get_put_old (by omega)).trans a0
  have b1:S2.get 1=some (.var z):=by rw [←hS2];exact (St.get_put_old (by omega)).trans a1
  have bt:S2.get t=some (.var cy):=by rw [←hS2];exact St.get_put
  have bn:S2.next=t+1:=by rw [←hS2];exact an
  have z66:z6.length=6:=rfl
  cases hr:rlS s with
  |none=>
   rw [hr] at y1
   have y1':T.R (.call Z54 [.agg cs] (.tuple [.agg cy, .bool false])):=y1
   obtain ⟨S3, hS3⟩:∃S, S2.put 1 (.var cs)=S:=⟨_, rfl⟩
   have c1:S3.get 1=some (.var cs):=by rw [←hS3];exact St.get_put
   have hend:SC n (Z7i s) cs:=by rw [Ziu hr];exact hs
   refine Zf ?_
   repeat' first|((with_reducible show V _ _ _ _ _ _);first|refine Zr [(2, .ptr 1 0)] rfl ⟨rfl, trivial⟩ ⟨rfl, rfl, cs, c1, hend⟩|refine Z1 rfl ?_|refine Za rfl rfl ?_)|((with_reducible show VO _ _ _ _ _ _ _);first|refine Zt rfl h0 l6 ?_|refine Zt rfl b0 l6 ?_|refine Z5 rfl rfl y1' ?_|refine Z0b hS1 ht ?_|refine Z1g hS2 at_ y3 z66 rfl rfl rfl ?_|refine Z1g hS3 b1 c6 hz rfl rfl rfl ?_|refine Z0 rfl ?_|refine Z2 ?_)
  |some x=>
   rw [hr] at y1
   have y1':T.R (.call Z54 [.agg cs] (.tuple [.agg cy, .bool true])):=y1
   obtain ⟨S3, hS3⟩:∃S, S2.put 0 (.var cy)=S:=⟨_, rfl⟩
   have c0:S3.get 0=some (.var cy):=by rw [←hS3];exact St.get_put
   have c1:S3.get 1=some (.var z):=by rw [←hS3];exact (St.get_put_old (by omega)).trans b1
   have cn:S3.next=t+1:=by rw [←hS3];exact bn
   have hi:=ih x hr cy S3 (y2 x hr) (rlS_ok hok hr) c0 ⟨z, c1, hz⟩ (by omega)
   refine Zf ?_
   repeat' first|((with_reducible show V _ _ _ _ _ _);first|refine Z7z rfl hi ⟨rfl, rfl, trivial⟩|refine Z1 rfl ?_|refine Z9 rfl rfl ?_)|((with_reducible show VO _ _ _ _ _ _ _);first|refine Zt rfl h0 l6 ?_|refine Zt rfl bt ly ?_|refine Z5 rfl rfl y1' ?_|refine Z0b hS1 ht ?_|refine Z1g hS2 at_ y3 z66 rfl rfl rfl ?_|refine Z1g hS3 b0 y3 l6 rfl rfl rfl ?_|refine Z0 rfl ?_|refine Z2 ?_)
 refine simS_ind (fun s hr cs st hs hok h0 h1 hn=>?_) (fun s x hr ih cs st hs hok h0 h1 hn=>?_)
 ·exact step s cs st hs hok h0 h1 hn (fun x hx=>by rw [hr] at hx;cases hx)
 ·refine step s cs st hs hok h0 h1 hn (fun x' hx=>?_)
  rw [hr] at hx
  injection hx with hx
  subst hx
  rw [Zit hr]
  exact ih
theorem Znu {n:Nat} {s:Stp} {cs:List PV} (h:SC n s cs) (hok:okS s=true):∃cs', T.R (.call Z8f [.agg cs] (.agg cs'))∧SC n (Z7i s) cs':=by
 have plc:=h.pl
 obtain ⟨S0, hS0⟩:∃S, emptySt.new (.var cs)=S:=⟨_, rfl⟩
 have g0:S0.get 0=some (.var cs):=by rw [←hS0];rfl
 have n0:S0.next=1:=by rw [←hS0];rfl
 obtain ⟨S1, hS1⟩:∃S, S0.new (.var z6)=S:=⟨_, rfl⟩
 have a0:S1.get 0=some (.var cs):=by rw [←hS1];exact (St.get_new_old (by omega)).trans g0
 have a1:S1.get 1=some (.var z6):=by rw [←hS1, ←n0];exact St.get_new
 have n1:S1.next=2:=by rw [←hS1];show S0.next+1=2;omega
 have hlp:=rsimple_loop s cs S1 h hok a0 ⟨z6, a1, rfl⟩ (by omega)
 have key:∃r, T.R (.call Z8f [.agg cs] r)∧∃cs', r=.agg cs'∧SC n (Z7i s) cs':=by
  refine Z1z rfl rfl ?_
  repeat' first|refine Z08 rfl hlp ⟨rfl, rfl, trivial⟩ ?_|refine Z1 rfl ?_|((with_reducible show VO _ _ _ _ _ _ _);first|refine Z9y hS0 rfl rfl ?_|refine Z0b hS1 n0 ?_|refine Z2 ?_)
  rintro x e st' ⟨rfl, rfl, cs', k0, k1⟩
  have c6:=k1.c6
  repeat' first|refine Z8u rfl (resC rfl k0 c6.2.1) (Pl.agg _ c6.1).view ⟨cs', rfl, k1⟩
 obtain ⟨r, r1, cs', rfl, r2⟩:=key
 exact ⟨cs', r1, r2⟩
theorem rwr_in {n:Nat} {p:PV} {pe:PV} {op:Int} {pa pb pc pd:PV} {i:Int} (plp:Pl p) (ay:At 6 p i [.int .i64 op, pa, pb, pc, pd, pe]) {subs:List (List Stp)} (hp:LR (SubC (SC n)) pe subs) (hd:∀x∈subs, ∀q, SL n q x→T.R (.call Z1b [q] (.bool (wrL x)))):
  ∀(rest pre:List (List Stp)), subs=pre++rest→
  V T (PE fun x e st'=>st'=emptySt∧((x=.exit 3∧wrLL rest=false∧e=Ze [(0, p), (3, .int .i64 i)])∨(x=.ret∧wrLL rest=true∧e=Ze [(2, .bool true)])))
   [.code (.loop Z58)] .normal (Ze [(0, p), (3, .int .i64 i), (4, .int .i64 pre.length)]) emptySt:=by
 have ple:Pl pe:=LR.pl hp fun _ _ _ h=>h.pl fun _ _ h=>h.pl
 obtain ⟨le1, le2, le3⟩:=hp.len
 intro rest
 induction rest with
 |nil=>
  intro pre ha
  have hlt:¬(pre.length:Int)<subs.length:=by subst ha;simp
  refine Zf ?_
  repeat' first|((with_reducible show V _ _ _ _ _ _);first|refine Ze4 rfl rfl hlt ?_|refine Zr [(0, p), (3, .int .i64 i)] rfl ⟨rfl, rfl, trivial⟩ ⟨rfl, .inl ⟨rfl, rfl, rfl⟩⟩|refine Z1 rfl ?_)|((with_reducible show VO _ _ _ _ _ _ _);first|refine Zg rfl rfl ay ?_|refine Z4 rfl le1 le2 ?_|refine Z0 rfl ?_|refine Z2 ?_)
 |cons y rest ih=>
  intro pre ha
  have hlt:(pre.length:Int)<subs.length:=by subst ha;simp;omega
  have hll:pre.length<subs.length:=by subst ha;simp
  have hy:subs[pre.length]?=some y:=by subst ha;simp
  obtain ⟨cy, ak, q, rfl, hq⟩:=hp.at (sz:=1) (fun _ _ h=>h.len1) hy
  have plq:=SL.pl hq
  have hcall:=hd y (by subst ha;simp) q hq
  have hw:IntKind.i64.wrap ((pre.length:Int)+1)=((pre++[y]).length:Int):=by rw [Z01];simp;omega
  have hi:=ih (pre++[y]) (by rw [ha];simp)
  rw [wrLL]
  refine Zf ?_
  cases hb:wrL y with
  |true=>
   rw [hb] at hcall
   repeat' first|((with_reducible show V _ _ _ _ _ _);first|refine Z2s rfl rfl hlt ?_|refine Zr [(2, .bool true)] rfl ⟨rfl, trivial⟩ ⟨rfl, .inr ⟨rfl, rfl, rfl⟩⟩|refine Z1 rfl ?_|refine Za rfl rfl ?_)|((with_reducible show VO _ _ _ _ _ _ _);first|refine Zg rfl rfl ay ?_|refine Zg rfl rfl ak ?_|refine Z4 rfl le1 le2 ?_|refine Z5 rfl rfl hcall ?_|refine Z0 rfl ?_|refine Z2 ?_)
  |false=>
   rw [hb] at hcall
   repeat' first|((with_reducible show V _ _ _ _ _ _);first|refine Z2s rfl rfl hlt ?_|refine Z7z rfl hi ⟨rfl, rfl, Z04 hw, trivial⟩|refine Z1 rfl ?_|refine Z9 rfl rfl ?_)|((with_reducible show VO _ _ _ _ _ _ _);first|refine Zg rfl rfl ay ?_|refine Zg rfl rfl ak ?_|refine Z4 rfl le1 le2 ?_|refine Z5 rfl rfl hcall ?_|refine Z0 rfl ?_|refine Z2 ?_)
theorem rwr_out {n:Nat} {p:PV} {l:List Stp} (hp:SL n p l) (hd:∀m, n=m+1→∀x, ∀q, SL m q x→T.R (.call Z1b [q] (.bool (wrL x)))):
  ∀(rest pre:List Stp), l=pre++rest→
  V T (PE fun x e st'=>(x=.exit 0∧wrL rest=false∧e=Ze [(0, p)])∨(x=.ret∧wrL rest=true∧e=Ze [(2, .bool true)]))
   [.code (.loop Z57)] .normal (Ze [(0, p), (3, .int .i64 pre.length)]) emptySt:=by
 have plp:Pl p:=SL.pl hp
 obtain ⟨lp1, lp2, lp3⟩:=hp.len
 intro rest
 induction rest with
 |nil=>
  intro pre ha
  have hlt:¬(pre.length:Int)<l.length:=by subst ha;simp
  refine Zf ?_
  repeat' first|((with_reducible show V _ _ _ _ _ _);first|refine Ze4 rfl rfl hlt ?_|refine Zr [(0, p)] rfl ⟨rfl, trivial⟩ (.inl ⟨rfl, rfl, rfl⟩)|refine Z1 rfl ?_)|((with_reducible show VO _ _ _ _ _ _ _);first|refine Z4 rfl lp1 lp2 ?_|refine Z0 rfl ?_|refine Z2 ?_)
 |cons y rest ih=>
  intro pre ha
  have hlt:(pre.length:Int)<l.length:=by subst ha;simp;omega
  have hll:pre.length<l.length:=by subst ha;simp
  have hy:l[pre.length]?=some y:=by subst ha;simp
  obtain ⟨cy, ay, hc⟩:=SL.at hp hy
  have hw:IntKind.i64.wrap ((pre.length:Int)+1)=((pre++[y]).length:Int):=by rw [Z01];simp;omega
  have hi:=ih (pre++[y]) (by rw [ha];simp)
  have hpl:=hc.pl
  rw [wrL]
  cases n with
  |zero=>exact hc.elim
  |succ m=>
  obtain ⟨op, names, nums, preds, vals, subs⟩:=y
  obtain ⟨ho, pa, pb, pc, pd, pe, rfl, h1, h2, h3, h4, h5⟩:=hc
  have hin:=rwr_in plp ay h5 (fun x _ q hq=>hd m rfl x q hq) subs [] rfl
  rw [wrS]
  by_cases o4:op=4∨op=57∨op=58∨op=59
  ·have ht:((decide (op=4)||decide (op=57)||decide (op=58)||decide (op=59))||wrLL subs||wrL rest)=true:=by rcases o4 with rfl|rfl|rfl|rfl<;>simp
   rw [ht]
   rcases o4 with rfl|rfl|rfl|rfl<;>
   ·refine Zf ?_
    repeat' first|((with_reducible show V _ _ _ _ _ _);first|refine Z2s rfl rfl hlt ?_|refine Zr [(2, .bool true)] rfl ⟨rfl, trivial⟩ (.inr ⟨rfl, rfl, rfl⟩)|refine Z1 rfl ?_|refine Za rfl rfl ?_|refine Z9 rfl rfl ?_)|((with_reducible show VO _ _ _ _ _ _ _);first|refine Zg rfl rfl ay ?_|refine Z4 rfl lp1 lp2 ?_|refine Z0 rfl ?_|refine Z2 ?_)
  ·simp only [not_or] at o4
   obtain ⟨a1, a2, a3, a4⟩:=o4
   rw [decide_eq_false a1, decide_eq_false a2, decide_eq_false a3, decide_eq_false a4]
   refine Zf ?_
   repeat' first|((with_reducible show V _ _ _ _ _ _);first|refine Z2s rfl rfl hlt ?_|refine Z08 rfl hin ⟨rfl, rfl, rfl, trivial⟩ ?_|refine Z1 rfl ?_|refine Z9 rfl rfl ?_)|((with_reducible show VO _ _ _ _ _ _ _);first|refine Zg rfl rfl ay ?_|refine Z4 rfl lp1 lp2 ?_|refine Z3 (Zb a1) rfl ?_|refine Z3 (Zb a2) rfl ?_|refine Z3 (Zb a3) rfl ?_|refine Z3 (Zb a4) rfl ?_|refine Z0 rfl ?_|refine Z2 ?_)
   rintro x e' st' ⟨rfl, ⟨rfl, hb, rfl⟩|⟨rfl, hb, rfl⟩⟩
   ·rw [hb]
    repeat' first|refine Z7z rfl hi ⟨rfl, Z04 hw, trivial⟩|refine Z1 rfl ?_|refine Z0 rfl ?_|refine Z2 ?_
   ·rw [hb]
    repeat' first|refine Zr [(2, .bool true)] rfl ⟨rfl, trivial⟩ (.inr ⟨rfl, rfl, rfl⟩)
theorem run_rWrites:∀(n:Nat) (l:List Stp) (p:PV), SL n p l→T.R (.call Z1b [p] (.bool (wrL l))):=by
 have main:∀(n:Nat) (l:List Stp) (p:PV), SL n p l→(∀m, n=m+1→∀(x:List Stp) (q:PV), SL m q x→T.R (.call Z1b [q] (.bool (wrL x))))→T.R (.call Z1b [p] (.bool (wrL l))):=by
  intro n l p hp ih
  have plp:Pl p:=SL.pl hp
  have hout:=rwr_out hp (fun m em x q hq=>ih m em x q hq) l [] rfl
  refine Z7 rfl rfl ?_
  repeat' first|refine Z08 rfl hout ⟨rfl, rfl, trivial⟩ ?_|refine Z1 rfl ?_|refine Z0 rfl ?_|refine Z2 ?_
  rintro x e' st' (⟨rfl, hb, rfl⟩|⟨rfl, hb, rfl⟩)
  ·rw [hb]
   repeat' first|refine Z1 rfl ?_|refine Z6 rfl rfl ?_|refine Z0 rfl ?_|refine Z2 ?_
   rfl
  ·rw [hb]
   repeat' first|refine Z6 rfl rfl ?_
   rfl
 intro n
 induction n with
 |zero=>exact fun l p hp=>main 0 l p hp (fun m e=>by omega)
 |succ n ih=>exact fun l p hp=>main (n+1) l p hp (fun m e=>by
   have h:m=n:=by omega
   subst h
   exact ih)
theorem Zko (op:Int):T.R (.call Z1a [.int .i64 op] (.bool (Zbc op))):=by
 unfold Zbc
 by_cases o1:op=44
 ·subst o1
  refine Z7 rfl rfl ?_
  repeat' first|refine Z1 rfl ?_|refine Z6 rfl rfl ?_|((with_reducible show VO _ _ _ _ _ _ _);first|refine Z0 rfl ?_|refine Z2 ?_|refine Zk rfl rfl ?_)
  rfl
 ·rw [decide_eq_false o1]
  refine Z7 rfl rfl ?_
  repeat' first|refine Z1 rfl ?_|refine Z6 rfl rfl ?_|((with_reducible show VO _ _ _ _ _ _ _);first|refine Z3 (Zb o1) rfl ?_|refine Z0 rfl ?_|refine Z2 ?_|refine Zh rfl ?_)
  rfl
set_option maxHeartbeats 2000000 in
theorem run_twice {n:Nat} {s:Stp} {cs:List PV} (h:SC n s cs):T.R (.call Zhv [.agg cs] (.bool (Zic s))):=by
 have hc:=h.c6
 have hw:=run_rWrites n [s] _ (Zlm h)
 have hws:wrL [s]=wrS s:=by rw [wrL, wrL, Bool.or_false]
 rw [hws] at hw
 have h0:=h.op0
 have plc:=hc.1
 have hb:=fun (look:Nat→Option Tok) (e:EC) (i:Nat) (hi:e.get i=some (.agg cs))=>Z49 (look:=look) hc hi
 unfold Zic
 generalize s.op=op at h0 ⊢
 have ple:Pl (.sl [cs] true):=.sl _ _ (by simpa using plc)
 have hl:=hc.2.1
 match cs, hl, h0, plc, hw, hb, ple with
 |[x0, x1, x2, x3, x4, x5], hl, h0, plc, hw, hb, ple=>
  simp at h0
  subst h0
  by_cases o1:op=14∨op=15∨op=16∨op=17∨op=18∨op=19∨op=25
  ·rw [if_pos o1]
   rcases o1 with rfl|rfl|rfl|rfl|rfl|rfl|rfl<;>
   ·refine Z7 rfl rfl ?_
    repeat' first|((with_reducible show V _ _ _ _ _ _);first|refine Z1 rfl ?_|refine Za rfl rfl ?_|refine Z9 rfl rfl ?_|refine Z6 rfl rfl ?_)|((with_reducible show VO _ _ _ _ _ _ _);first|refine Z0 rfl ?_|refine Zc rfl ?_|refine Z2 ?_)
    rfl
  ·rw [if_neg o1]
   by_cases o2:op=20∨op=21∨op=22∨op=23
   ·rw [if_pos o2]
    generalize wrS s=b at hw ⊢
    rcases o2 with rfl|rfl|rfl|rfl<;>
    ·refine Z7 rfl rfl ?_
     repeat' first|((with_reducible show V _ _ _ _ _ _);first|refine Z1 rfl ?_|refine Za rfl rfl ?_|refine Z9 rfl rfl ?_|refine Z6 rfl rfl ?_)|((with_reducible show VO _ _ _ _ _ _ _);first|refine Zt rfl rfl hl ?_|refine Z0 (hb _ _ _ rfl) ?_|refine Z5 rfl rfl hw ?_|refine Z0 rfl ?_|refine Zc rfl ?_|refine Z2 ?_)
     rfl
   ·rw [if_neg o2]
    simp only [not_or] at o1 o2
    obtain ⟨a1, a2, a3, a4, a5, a6, a7⟩:=o1
    obtain ⟨b1, b2, b3, b4⟩:=o2
    refine Z7 rfl rfl ?_
    repeat' first|((with_reducible show V _ _ _ _ _ _);first|refine Z1 rfl ?_|refine Z9 rfl rfl ?_|refine Z6 rfl rfl ?_)|((with_reducible show VO _ _ _ _ _ _ _);first|refine Z3 (Zb a1) rfl ?_|refine Z3 (Zb a2) rfl ?_|refine Z3 (Zb a3) rfl ?_|refine Z3 (Zb a4) rfl ?_|refine Z3 (Zb a5) rfl ?_|refine Z3 (Zb a6) rfl ?_|refine Z3 (Zb a7) rfl ?_|refine Z3 (Zb b1) rfl ?_|refine Z3 (Zb b2) rfl ?_|refine Z3 (Zb b3) rfl ?_|refine Z3 (Zb b4) rfl ?_|refine Z0 rfl ?_|refine Zc rfl ?_|refine Z2 ?_)
    rfl
theorem eqD_t {α:Type} {a b:α} (h:a=b):eqD a b=true:=eqD_is.2 h
theorem eqD_f {α:Type} {a b:α} (h:¬a=b):eqD a b=false:=by
 cases hq:eqD a b with
 |false=>rfl
 |true=>exact absurd (eqD_is.1 hq) h
theorem Z5g {α:Type} {a b:α} {r s:List α} (h:¬a=b):¬(a::r=b::s):=fun e=>h (by injection e)
theorem Zkd {α:Type} {a b:α} {r s:List α} (h:¬r=s):¬(a::r=b::s):=fun e=>h (by injection e)
theorem run_rsameD {l m:List Prd} {p q:PV} (hp:LR PrC p l) (hq:LR PrC q m):T.R (.call Zar [p, q] (.bool (eqD l m))):=by
 have plp:Pl p:=hp.pl fun _ _ _ h=>h.pl
 have plq:Pl q:=hq.pl fun _ _ _ h=>h.pl
 obtain ⟨p1, p2, hbig⟩:=hp.len
 obtain ⟨q1, q2, _⟩:=hq.len
 by_cases hlen:l.length=m.length
 ·have loop:∀(rest rest' pre pre':List Prd), l=pre++rest→m=pre'++rest'→pre.length=pre'.length→V T (PE fun x e st'=>(x=.exit 0∧rest=rest'∧e=Ze [(0, p)])∨(x=.ret∧¬rest=rest'∧e=Ze [(4, .bool false)])) [.code (.loop Z1s)] .normal (Ze [(0, p), (1, q), (5, .int .i64 pre.length)]) emptySt:=by
   intro rest
   induction rest with
   |nil=>
    intro rest' pre pre' hl hm hpp
    have hlt:decide ((pre.length:Int)<l.length)=false:=decide_eq_false (by subst hl;simp)
    have hr:([]:List Prd)=rest':=by
     have:rest'.length=0:=by rw [hl, hm] at hlen;simp at hlen;omega
     exact (List.length_eq_zero_iff.1 this).symm
    refine Zf ?_
    repeat' first|((with_reducible show V _ _ _ _ _ _);first|refine Z48 hlt rfl rfl ?_|refine Zr [(0, p)] rfl ⟨rfl, trivial⟩ (.inl ⟨rfl, hr, rfl⟩)|refine Z1 rfl ?_)|((with_reducible show VO _ _ _ _ _ _ _);first|refine Z4 rfl p1 p2 ?_|refine Z0 rfl ?_|refine Z2 ?_)
   |cons y rest ih=>
    intro rest' pre pre' hl hm hpp
    obtain ⟨z, rest', rfl⟩:∃z r, rest'=z::r:=by
     cases rest' with
     |nil=>rw [hl, hm] at hlen;simp at hlen;omega
     |cons z r=>exact ⟨z, r, rfl⟩
    have hlt:decide ((pre.length:Int)<l.length)=true:=decide_eq_true (by subst hl;simp;omega)
    have hpl:pre.length<l.length:=by subst hl;simp
    obtain ⟨cs, ay, hcs⟩:=hp.at (sz:=2) (fun _ _ h=>h.c2.1) (j:=pre.length) (a:=y) (by subst hl;simp)
    obtain ⟨ds, by_, hds⟩:=hq.at (sz:=2) (fun _ _ h=>h.c2.1) (j:=pre.length) (a:=z) (by rw [hm, hpp];simp)
    obtain ⟨op, vs⟩:=y
    obtain ⟨op', vs'⟩:=z
    obtain ⟨io, a, rfl, ha⟩:=hcs
    obtain ⟨_, b, rfl, hb⟩:=hds
    have pla:Pl a:=ha.pl fun _ _ _ h=>h.pl
    have plb:Pl b:=hb.pl fun _ _ _ h=>h.pl
    have hs:=Zc7 vs vs' a b ha hb
    have hw:IntKind.i64.wrap ((pre.length:Int)+1)=((pre++[Prd.mk op vs]).length:Int):=by rw [Z01];simp;omega
    have hi:=ih rest' (pre++[.mk op vs]) (pre'++[.mk op' vs']) (by rw [hl];simp) (by rw [hm];simp) (by simp [hpp])
    by_cases e1:op=op'
    ·by_cases e2:vs=vs'
     ·subst e1 e2
      have h0:decide (Z39 vs vs=0)=true:=decide_eq_true (cmpVs_zero.2 rfl)
      rw [h0] at hs
      have d1:=Z0k (p:=op=op) rfl
      have hwalk:V T (PE fun x e st'=>(x=.exit 0∧rest=rest'∧e=Ze [(0, p)])∨(x=.ret∧¬rest=rest'∧e=Ze [(4, .bool false)])) [.code (.loop Z1s)] .normal (Ze [(0, p), (1, q), (5, .int .i64 pre.length)]) emptySt:=by
       refine Zf ?_
       repeat' first|((with_reducible show V _ _ _ _ _ _);first|refine Z15 hlt rfl rfl ?_|refine Z7z rfl hi ⟨rfl, rfl, Z04 hw, trivial⟩|refine Z1 rfl ?_|refine Z9 rfl rfl ?_|refine V_D rfl ?_)|((with_reducible show VO _ _ _ _ _ _ _);first|refine Z4 rfl p1 p2 ?_|refine Z0 rfl ?_|refine Z2 ?_)|((with_reducible show VD _ _ _ _ _ _ _);first|refine Z40 rfl rfl ay ?_|refine Z40 rfl rfl by_ ?_|refine Zfs d1 rfl ?_|refine Zn5 rfl rfl hs ?_|refine Zo rfl ?_|refine Z0a ?_|refine Ze6 rfl ?_)
      refine Z3w hwalk ?_
      rintro x e st' (⟨rfl, h, rfl⟩|⟨rfl, h, rfl⟩)
      ·exact .inl ⟨rfl, by rw [h], rfl⟩
      ·exact .inr ⟨rfl, Zkd h, rfl⟩
     ·subst e1
      have h0:decide (Z39 vs vs'=0)=false:=decide_eq_false (fun h=>e2 (cmpVs_zero.1 h))
      rw [h0] at hs
      have d1:=Z0k (p:=op=op) rfl
      have hne:¬(Prd.mk op vs::rest=Prd.mk op vs'::rest'):=Z5g (fun e=>e2 (by injection e))
      refine Zf ?_
      repeat' first|((with_reducible show V _ _ _ _ _ _);first|refine Z15 hlt rfl rfl ?_|refine Zr [(4, .bool false)] rfl ⟨rfl, trivial⟩ (.inr ⟨rfl, hne, rfl⟩)|refine Z1 rfl ?_|refine Za rfl rfl ?_|refine V_D rfl ?_)|((with_reducible show VO _ _ _ _ _ _ _);first|refine Z4 rfl p1 p2 ?_|refine Z0 rfl ?_|refine Z2 ?_)|((with_reducible show VD _ _ _ _ _ _ _);first|refine Z40 rfl rfl ay ?_|refine Z40 rfl rfl by_ ?_|refine Zfs d1 rfl ?_|refine Zn5 rfl rfl hs ?_|refine Zo rfl ?_|refine Z0a ?_|refine Ze6 rfl ?_)
    ·have d1:=Z0e e1
     have hne:¬(Prd.mk op vs::rest=Prd.mk op' vs'::rest'):=Z5g (fun e=>e1 (by injection e))
     refine Zf ?_
     repeat' first|((with_reducible show V _ _ _ _ _ _);first|refine Z15 hlt rfl rfl ?_|refine Zr [(4, .bool false)] rfl ⟨rfl, trivial⟩ (.inr ⟨rfl, hne, rfl⟩)|refine Z1 rfl ?_|refine Za rfl rfl ?_|refine V_D rfl ?_)|((with_reducible show VO _ _ _ _ _ _ _);first|refine Z4 rfl p1 p2 ?_|refine Z0 rfl ?_|refine Z2 ?_)|((with_reducible show VD _ _ _ _ _ _ _);first|refine Z40 rfl rfl ay ?_|refine Z40 rfl rfl by_ ?_|refine Zfs d1 rfl ?_|refine Zo rfl ?_|refine Z0a ?_|refine Z7h rfl rfl ?_)
  have hl:=loop l m [] [] rfl rfl rfl
  have d1:=Z0k (p:=(l.length:Int)=m.length) (by omega)
  refine Z7 rfl rfl ?_
  repeat' first|((with_reducible show V _ _ _ _ _ _);first|refine Z08 rfl hl ⟨rfl, rfl, rfl, trivial⟩ ?_|refine Z1 rfl ?_|refine Z9 rfl rfl ?_)|((with_reducible show VO _ _ _ _ _ _ _);first|refine Z4 rfl p1 p2 ?_|refine Z4 rfl q1 q2 ?_|refine Z3 d1 rfl ?_|refine Z0 rfl ?_|refine Z2 ?_)
  rintro x e st' (⟨rfl, h, rfl⟩|⟨rfl, h, rfl⟩)
  ·rw [eqD_t h]
   repeat' first|refine Z1 rfl ?_|refine Z6 rfl rfl ?_|refine Z0 rfl ?_|refine Z2 ?_
   rfl
  ·rw [eqD_f h]
   repeat' first|refine Z6 rfl rfl ?_
   rfl
 ·rw [eqD_f (fun e=>hlen (by rw [e]))]
  have d1:=Z0e (p:=(l.length:Int)=m.length) (by omega)
  refine Z7 rfl rfl ?_
  repeat' first|((with_reducible show V _ _ _ _ _ _);first|refine Z1 rfl ?_|refine Za rfl rfl ?_|refine Z6 rfl rfl ?_)|((with_reducible show VO _ _ _ _ _ _ _);first|refine Z4 rfl p1 p2 ?_|refine Z4 rfl q1 q2 ?_|refine Z3 d1 rfl ?_|refine Z0 rfl ?_|refine Z2 ?_)
  rfl
theorem sq_names {n:Nat} {S:St} {m m':Nat} {op op':Int} {p q I pa pb pc pd pe qa qb qc qd qe:PV} {l l':List (List UInt8)} (hm:S.get m=some (.var [.int .i64 op, pa, pb, pc, pd, pe])) (hm':S.get m'=some (.var [.int .i64 op', qa, qb, qc, qd, qe])) (ha:LR NmC pa l) (hb:LR NmC qa l') (hlen:l.length=l'.length)  : ∀(rest rest' pre pre':List (List UInt8)), l=pre++rest→l'=pre'++rest'→pre.length=pre'.length→
  V T (PE fun x e st'=>st'=S∧((x=.exit 2∧rest=rest'∧e=Ze [(0, p), (1, q), (5, I), (6, .ptr m 0), (7, .ptr m' 0)])∨(x=.ret∧¬rest=rest'∧e=Ze [(4, .bool false)]))) [.code (.loop Z1t)] .normal (Ze [(0, p), (1, q), (5, I), (6, .ptr m 0), (7, .ptr m' 0), (8, .int .i64 pre.length)]) S:=by
 obtain ⟨a1, a2, hbig⟩:=ha.len
 intro rest
 induction rest with
 |nil=>
  intro rest' pre pre' hl hl' hpp
  have hlt:decide ((pre.length:Int)<l.length)=false:=decide_eq_false (by subst hl;simp)
  have hr:([]:List (List UInt8))=rest':=by
   have:rest'.length=0:=by rw [hl, hl'] at hlen;simp at hlen;omega
   exact (List.length_eq_zero_iff.1 this).symm
  refine Zf ?_
  repeat' first|((with_reducible show V _ _ _ _ _ _);first|refine Z48 hlt rfl rfl ?_|refine Zr [(0, p), (1, q), (5, I), (6, .ptr m 0), (7, .ptr m' 0)] rfl ⟨rfl, rfl, rfl, rfl, rfl, trivial⟩ ⟨rfl, .inl ⟨rfl, hr, rfl⟩⟩|refine Z1 rfl ?_)|((with_reducible show VO _ _ _ _ _ _ _);first|refine Z0 (ldv hm rfl rfl) ?_|refine Z4 rfl a1 a2 ?_|refine Z0 rfl ?_|refine Z2 ?_)
 |cons y rest ih=>
  intro rest' pre pre' hl hl' hpp
  obtain ⟨z, rest', rfl⟩:∃z r, rest'=z::r:=by
   cases rest' with
   |nil=>rw [hl, hl'] at hlen;simp at hlen;omega
   |cons z r=>exact ⟨z, r, rfl⟩
  have hlt:decide ((pre.length:Int)<l.length)=true:=decide_eq_true (by subst hl;simp;omega)
  have hpl:pre.length<l.length:=by subst hl;simp
  obtain ⟨cs, ay, hcs⟩:=ha.at (sz:=1) (fun _ _ h=>h.len1) (j:=pre.length) (a:=y) (by subst hl;simp)
  obtain ⟨ds, by_, hds⟩:=hb.at (sz:=1) (fun _ _ h=>h.len1) (j:=pre.length) (a:=z) (by rw [hl', hpp];simp)
  obtain ⟨_, rfl⟩:=hcs
  obtain ⟨_, rfl⟩:=hds
  have hw:IntKind.i64.wrap ((pre.length:Int)+1)=((pre++[y]).length:Int):=by rw [Z01];simp;omega
  have hi:=ih rest' (pre++[y]) (pre'++[z]) (by rw [hl];simp) (by rw [hl'];simp) (by simp [hpp])
  by_cases e1:y=z
  ·subst e1
   have d1:=Z0k (p:=y=y) rfl
   have hwalk:V T (PE fun x e st'=>st'=S∧((x=.exit 2∧rest=rest'∧e=Ze [(0, p), (1, q), (5, I), (6, .ptr m 0), (7, .ptr m' 0)])∨(x=.ret∧¬rest=rest'∧e=Ze [(4, .bool false)]))) [.code (.loop Z1t)] .normal (Ze [(0, p), (1, q), (5, I), (6, .ptr m 0), (7, .ptr m' 0), (8, .int .i64 pre.length)]) S:=by
    refine Zf ?_
    repeat' first|((with_reducible show V _ _ _ _ _ _);first|refine Z15 hlt rfl rfl ?_|refine Z7z rfl hi ⟨rfl, rfl, rfl, rfl, rfl, Z04 hw, trivial⟩|refine Z1 rfl ?_|refine Z9 rfl rfl ?_|refine V_D rfl ?_)|((with_reducible show VO _ _ _ _ _ _ _);first|refine Z0 (ldv hm rfl rfl) ?_|refine Z4 rfl a1 a2 ?_|refine Z0 rfl ?_|refine Z2 ?_)|((with_reducible show VD _ _ _ _ _ _ _);first|refine Zo (ldv hm rfl rfl) ?_|refine Zo (ldv hm' rfl rfl) ?_|refine Z40 rfl rfl ay ?_|refine Z40 rfl rfl by_ ?_|refine Zfs d1 rfl ?_|refine Zo rfl ?_|refine Z0a ?_)
   refine Z3w hwalk ?_
   rintro x e st' ⟨h0, ⟨rfl, h, rfl⟩|⟨rfl, h, rfl⟩⟩
   ·exact ⟨h0, .inl ⟨rfl, by rw [h], rfl⟩⟩
   ·exact ⟨h0, .inr ⟨rfl, Zkd h, rfl⟩⟩
  ·have hne:¬(y::rest=z::rest'):=Z5g e1
   have d1:=Z0e e1
   refine Zf ?_
   repeat' first|((with_reducible show V _ _ _ _ _ _);first|refine Z15 hlt rfl rfl ?_|refine Zr [(4, .bool false)] rfl ⟨rfl, trivial⟩ ⟨rfl, .inr ⟨rfl, hne, rfl⟩⟩|refine Z1 rfl ?_|refine Za rfl rfl ?_|refine V_D rfl ?_)|((with_reducible show VO _ _ _ _ _ _ _);first|refine Z0 (ldv hm rfl rfl) ?_|refine Z4 rfl a1 a2 ?_|refine Z0 rfl ?_|refine Z2 ?_)|((with_reducible show VD _ _ _ _ _ _ _);first|refine Zo (ldv hm rfl rfl) ?_|refine Zo (ldv hm' rfl rfl) ?_|refine Z40 rfl rfl ay ?_|refine Z40 rfl rfl by_ ?_|refine Zfs d1 rfl ?_|refine Zo rfl ?_|refine Z0a ?_)
theorem sq_nums {n:Nat} {S:St} {m m':Nat} {op op':Int} {p q I pa pb pc pd pe qa qb qc qd qe:PV} {l l':List (Int)} (hm:S.get m=some (.var [.int .i64 op, pa, pb, pc, pd, pe])) (hm':S.get m'=some (.var [.int .i64 op', qa, qb, qc, qd, qe])) (ha:LR NuC pb l) (hb:LR NuC qb l') (hlen:l.length=l'.length)  : ∀(rest rest' pre pre':List (Int)), l=pre++rest→l'=pre'++rest'→pre.length=pre'.length→
  V T (PE fun x e st'=>st'=S∧((x=.exit 4∧rest=rest'∧e=Ze [(0, p), (1, q), (5, I), (6, .ptr m 0), (7, .ptr m' 0)])∨(x=.ret∧¬rest=rest'∧e=Ze [(4, .bool false)]))) [.code (.loop Z1u)] .normal (Ze [(0, p), (1, q), (5, I), (6, .ptr m 0), (7, .ptr m' 0), (9, .int .i64 pre.length)]) S:=by
 obtain ⟨a1, a2, hbig⟩:=ha.len
 intro rest
 induction rest with
 |nil=>
  intro rest' pre pre' hl hl' hpp
  have hlt:decide ((pre.length:Int)<l.length)=false:=decide_eq_false (by subst hl;simp)
  have hr:([]:List (Int))=rest':=by
   have:rest'.length=0:=by rw [hl, hl'] at hlen;simp at hlen;omega
   exact (List.length_eq_zero_iff.1 this).symm
  refine Zf ?_
  repeat' first|((with_reducible show V _ _ _ _ _ _);first|refine Z48 hlt rfl rfl ?_|refine Zr [(0, p), (1, q), (5, I), (6, .ptr m 0), (7, .ptr m' 0)] rfl ⟨rfl, rfl, rfl, rfl, rfl, trivial⟩ ⟨rfl, .inl ⟨rfl, hr, rfl⟩⟩|refine Z1 rfl ?_)|((with_reducible show VO _ _ _ _ _ _ _);first|refine Z0 (ldv hm rfl rfl) ?_|refine Z4 rfl a1 a2 ?_|refine Z0 rfl ?_|refine Z2 ?_)
 |cons y rest ih=>
  intro rest' pre pre' hl hl' hpp
  obtain ⟨z, rest', rfl⟩:∃z r, rest'=z::r:=by
   cases rest' with
   |nil=>rw [hl, hl'] at hlen;simp at hlen;omega
   |cons z r=>exact ⟨z, r, rfl⟩
  have hlt:decide ((pre.length:Int)<l.length)=true:=decide_eq_true (by subst hl;simp;omega)
  have hpl:pre.length<l.length:=by subst hl;simp
  obtain ⟨cs, ay, hcs⟩:=ha.at (sz:=1) (fun _ _ h=>h.len1) (j:=pre.length) (a:=y) (by subst hl;simp)
  obtain ⟨ds, by_, hds⟩:=hb.at (sz:=1) (fun _ _ h=>h.len1) (j:=pre.length) (a:=z) (by rw [hl', hpp];simp)
  obtain ⟨_, rfl⟩:=hcs
  obtain ⟨_, rfl⟩:=hds
  have hw:IntKind.i64.wrap ((pre.length:Int)+1)=((pre++[y]).length:Int):=by rw [Z01];simp;omega
  have hi:=ih rest' (pre++[y]) (pre'++[z]) (by rw [hl];simp) (by rw [hl'];simp) (by simp [hpp])
  by_cases e1:y=z
  ·subst e1
   have d1:=Z0k (p:=y=y) rfl
   have hwalk:V T (PE fun x e st'=>st'=S∧((x=.exit 4∧rest=rest'∧e=Ze [(0, p), (1, q), (5, I), (6, .ptr m 0), (7, .ptr m' 0)])∨(x=.ret∧¬rest=rest'∧e=Ze [(4, .bool false)]))) [.code (.loop Z1u)] .normal (Ze [(0, p), (1, q), (5, I), (6, .ptr m 0), (7, .ptr m' 0), (9, .int .i64 pre.length)]) S:=by
    refine Zf ?_
    repeat' first|((with_reducible show V _ _ _ _ _ _);first|refine Z15 hlt rfl rfl ?_|refine Z7z rfl hi ⟨rfl, rfl, rfl, rfl, rfl, Z04 hw, trivial⟩|refine Z1 rfl ?_|refine Z9 rfl rfl ?_|refine V_D rfl ?_)|((with_reducible show VO _ _ _ _ _ _ _);first|refine Z0 (ldv hm rfl rfl) ?_|refine Z4 rfl a1 a2 ?_|refine Z0 rfl ?_|refine Z2 ?_)|((with_reducible show VD _ _ _ _ _ _ _);first|refine Zo (ldv hm rfl rfl) ?_|refine Zo (ldv hm' rfl rfl) ?_|refine Z40 rfl rfl ay ?_|refine Z40 rfl rfl by_ ?_|refine Zfs d1 rfl ?_|refine Zo rfl ?_|refine Z0a ?_)
   refine Z3w hwalk ?_
   rintro x e st' ⟨h0, ⟨rfl, h, rfl⟩|⟨rfl, h, rfl⟩⟩
   ·exact ⟨h0, .inl ⟨rfl, by rw [h], rfl⟩⟩
   ·exact ⟨h0, .inr ⟨rfl, Zkd h, rfl⟩⟩
  ·have hne:¬(y::rest=z::rest'):=Z5g e1
   have d1:=Z0e e1
   refine Zf ?_
   repeat' first|((with_reducible show V _ _ _ _ _ _);first|refine Z15 hlt rfl rfl ?_|refine Zr [(4, .bool false)] rfl ⟨rfl, trivial⟩ ⟨rfl, .inr ⟨rfl, hne, rfl⟩⟩|refine Z1 rfl ?_|refine Za rfl rfl ?_|refine V_D rfl ?_)|((with_reducible show VO _ _ _ _ _ _ _);first|refine Z0 (ldv hm rfl rfl) ?_|refine Z4 rfl a1 a2 ?_|refine Z0 rfl ?_|refine Z2 ?_)|((with_reducible show VD _ _ _ _ _ _ _);first|refine Zo (ldv hm rfl rfl) ?_|refine Zo (ldv hm' rfl rfl) ?_|refine Z40 rfl rfl ay ?_|refine Z40 rfl rfl by_ ?_|refine Zfs d1 rfl ?_|refine Zo rfl ?_|refine Z0a ?_)
theorem sq_subs {n:Nat} {S:St} {m m':Nat} {op op':Int} {p q I pa pb pc pd pe qa qb qc qd qe:PV} {l l':List (List Stp)} (hm:S.get m=some (.var [.int .i64 op, pa, pb, pc, pd, pe])) (hm':S.get m'=some (.var [.int .i64 op', qa, qb, qc, qd, qe])) (ha:LR (SubC (SC n)) pe l) (hb:LR (SubC (SC n)) qe l') (hlen:l.length=l'.length) (ihs:∀(x y:List Stp) (v w:PV), SL n v x→SL n w y→T.R (.call Z0w [v, w] (.bool (eqD x y)))):∀(rest rest' pre pre':List (List Stp)), l=pre++rest→l'=pre'++rest'→pre.length=pre'.length→
  V T (PE fun x e st'=>st'=S∧((x=.exit 6∧rest=rest'∧e=Ze [(0, p), (1, q), (5, I)])∨(x=.ret∧¬rest=rest'∧e=Ze [(4, .bool false)]))) [.code (.loop Z1v)] .normal (Ze [(0, p), (1, q), (5, I), (6, .ptr m 0), (7, .ptr m' 0), (10, .int .i64 pre.length)]) S:=by
 obtain ⟨a1, a2, hbig⟩:=ha.len
 intro rest
 induction rest with
 |nil=>
  intro rest' pre pre' hl hl' hpp
  have hlt:decide ((pre.length:Int)<l.length)=false:=decide_eq_false (by subst hl;simp)
  have hr:([]:List (List Stp))=rest':=by
   have:rest'.length=0:=by rw [hl, hl'] at hlen;simp at hlen;omega
   exact (List.length_eq_zero_iff.1 this).symm
  refine Zf ?_
  repeat' first|((with_reducible show V _ _ _ _ _ _);first|refine Z48 hlt rfl rfl ?_|refine Zr [(0, p), (1, q), (5, I)] rfl ⟨rfl, rfl, rfl, trivial⟩ ⟨rfl, .inl ⟨rfl, hr, rfl⟩⟩|refine Z1 rfl ?_)|((with_reducible show VO _ _ _ _ _ _ _);first|refine Z0 (ldv hm rfl rfl) ?_|refine Z4 rfl a1 a2 ?_|refine Z0 rfl ?_|refine Z2 ?_)
 |cons y rest ih=>
  intro rest' pre pre' hl hl' hpp
  obtain ⟨z, rest', rfl⟩:∃z r, rest'=z::r:=by
   cases rest' with
   |nil=>rw [hl, hl'] at hlen;simp at hlen;omega
   |cons z r=>exact ⟨z, r, rfl⟩
  have hlt:decide ((pre.length:Int)<l.length)=true:=decide_eq_true (by subst hl;simp;omega)
  have hpl:pre.length<l.length:=by subst hl;simp
  obtain ⟨cs, ay, hcs⟩:=ha.at (sz:=1) (fun _ _ h=>h.len1) (j:=pre.length) (a:=y) (by subst hl;simp)
  obtain ⟨ds, by_, hds⟩:=hb.at (sz:=1) (fun _ _ h=>h.len1) (j:=pre.length) (a:=z) (by rw [hl', hpp];simp)
  obtain ⟨v, rfl, hv⟩:=hcs
  obtain ⟨w, rfl, hw'⟩:=hds
  have plv:Pl v:=SL.pl hv
  have plw:Pl w:=SL.pl hw'
  have hs:=ihs y z v w hv hw'
  have hw:IntKind.i64.wrap ((pre.length:Int)+1)=((pre++[y]).length:Int):=by rw [Z01];simp;omega
  have hi:=ih rest' (pre++[y]) (pre'++[z]) (by rw [hl];simp) (by rw [hl'];simp) (by simp [hpp])
  by_cases e1:y=z
  ·subst e1
   rw [eqD_t rfl] at hs
   have hwalk:V T (PE fun x e st'=>st'=S∧((x=.exit 6∧rest=rest'∧e=Ze [(0, p), (1, q), (5, I)])∨(x=.ret∧¬rest=rest'∧e=Ze [(4, .bool false)]))) [.code (.loop Z1v)] .normal (Ze [(0, p), (1, q), (5, I), (6, .ptr m 0), (7, .ptr m' 0), (10, .int .i64 pre.length)]) S:=by
    refine Zf ?_
    repeat' first|((with_reducible show V _ _ _ _ _ _);first|refine Z15 hlt rfl rfl ?_|refine Z7z rfl hi ⟨rfl, rfl, rfl, rfl, rfl, Z04 hw, trivial⟩|refine Z1 rfl ?_|refine Z9 rfl rfl ?_|refine V_D rfl ?_)|((with_reducible show VO _ _ _ _ _ _ _);first|refine Z0 (ldv hm rfl rfl) ?_|refine Z4 rfl a1 a2 ?_|refine Z0 rfl ?_|refine Z2 ?_)|((with_reducible show VD _ _ _ _ _ _ _);first|refine Zo (ldv hm rfl rfl) ?_|refine Zo (ldv hm' rfl rfl) ?_|refine Z40 rfl rfl ay ?_|refine Z40 rfl rfl by_ ?_|refine Zn5 rfl rfl hs ?_|refine Zo rfl ?_|refine Z0a ?_)
   refine Z3w hwalk ?_
   rintro x e st' ⟨h0, ⟨rfl, h, rfl⟩|⟨rfl, h, rfl⟩⟩
   ·exact ⟨h0, .inl ⟨rfl, by rw [h], rfl⟩⟩
   ·exact ⟨h0, .inr ⟨rfl, Zkd h, rfl⟩⟩
  ·have hne:¬(y::rest=z::rest'):=Z5g e1
   rw [eqD_f e1] at hs
   refine Zf ?_
   repeat' first|((with_reducible show V _ _ _ _ _ _);first|refine Z15 hlt rfl rfl ?_|refine Zr [(4, .bool false)] rfl ⟨rfl, trivial⟩ ⟨rfl, .inr ⟨rfl, hne, rfl⟩⟩|refine Z1 rfl ?_|refine Za rfl rfl ?_|refine V_D rfl ?_)|((with_reducible show VO _ _ _ _ _ _ _);first|refine Z0 (ldv hm rfl rfl) ?_|refine Z4 rfl a1 a2 ?_|refine Z0 rfl ?_|refine Z2 ?_)|((with_reducible show VD _ _ _ _ _ _ _);first|refine Zo (ldv hm rfl rfl) ?_|refine Zo (ldv hm' rfl rfl) ?_|refine Z40 rfl rfl ay ?_|refine Z40 rfl rfl by_ ?_|refine Zn5 rfl rfl hs ?_|refine Zo rfl ?_|refine Z0a ?_)
set_option maxHeartbeats 8000000 in
theorem run_rSameD:∀(n:Nat) (l m:List Stp) (p q:PV), SL n p l→SL n q m→T.R (.call Z0w [p, q] (.bool (eqD l m))):=by
 have main:∀(n:Nat), (∀k, n=k+1→∀(x y:List Stp) (v w:PV), SL k v x→SL k w y→T.R (.call Z0w [v, w] (.bool (eqD x y))))→∀(l m:List Stp) (p q:PV), SL n p l→SL n q m→T.R (.call Z0w [p, q] (.bool (eqD l m))):=by
  intro n ihn l m p q hp hq
  obtain ⟨p1, p2, hbig⟩:=hp.len
  obtain ⟨q1, q2, _⟩:=hq.len
  have plp:=SL.pl hp
  have plq:=SL.pl hq
  by_cases hlen:l.length=m.length
  ·have loop:∀(rest rest' pre pre':List Stp) (st:St), l=pre++rest→m=pre'++rest'→pre.length=pre'.length→V T (PE fun x e st'=>(x=.exit 0∧rest=rest'∧e=Ze [(0, p)])∨(x=.ret∧¬rest=rest'∧e=Ze [(4, .bool false)])) [.code (.loop Z0q)] .normal (Ze [(0, p), (1, q), (5, .int .i64 pre.length)]) st:=by
    intro rest
    induction rest with
    |nil=>
     intro rest' pre pre' st hl hm hpp
     have hlt:decide ((pre.length:Int)<l.length)=false:=decide_eq_false (by subst hl;simp)
     have hr:([]:List Stp)=rest':=by
      have:rest'.length=0:=by rw [hl, hm] at hlen;simp at hlen;omega
      exact (List.length_eq_zero_iff.1 this).symm
     refine Zf ?_
     repeat' first|((with_reducible show V _ _ _ _ _ _);first|refine Z48 hlt rfl rfl ?_|refine Zr [(0, p)] rfl ⟨rfl, trivial⟩ (.inl ⟨rfl, hr, rfl⟩)|refine Z1 rfl ?_)|((with_reducible show VO _ _ _ _ _ _ _);first|refine Z4 rfl p1 p2 ?_|refine Z0 rfl ?_|refine Z2 ?_)
    |cons y rest ih=>
     intro rest' pre pre' st hl hm hpp
     obtain ⟨z, rest', rfl⟩:∃z r, rest'=z::r:=by
      cases rest' with
      |nil=>rw [hl, hm] at hlen;simp at hlen;omega
      |cons z r=>exact ⟨z, r, rfl⟩
     have hlt:decide ((pre.length:Int)<l.length)=true:=decide_eq_true (by subst hl;simp;omega)
     have hpl:pre.length<l.length:=by subst hl;simp
     obtain ⟨cs, ay, hcs⟩:=SL.at hp (j:=pre.length) (s:=y) (by subst hl;simp)
     obtain ⟨ds, by_, hds⟩:=SL.at hq (j:=pre.length) (s:=z) (by rw [hm, hpp];simp)
     have c6:=hcs.len6
     have c1:=hcs.one
     have d6:=hds.len6
     have d1':=hds.one
     cases n with
     |zero=>exact hcs.elim
     |succ k=>
     obtain ⟨op, names, nums, preds, vals, subs⟩:=y
     obtain ⟨op', names', nums', preds', vals', subs'⟩:=z
     obtain ⟨io, pa, pb, pc, pd, pe, rfl, ha, hb, hc, hd, he⟩:=hcs
     obtain ⟨_, qa, qb, qc, qd, qe, rfl, ha', hb', hc', hd', he'⟩:=hds
     obtain ⟨la1, la2, _⟩:=ha.len
     obtain ⟨lb1, lb2, _⟩:=hb.len
     obtain ⟨le1, le2, _⟩:=he.len
     obtain ⟨ma1, ma2, _⟩:=ha'.len
     obtain ⟨mb1, mb2, _⟩:=hb'.len
     obtain ⟨me1, me2, _⟩:=he'.len
     have plc:Pl pc:=hc.pl fun _ _ _ h=>h.pl
     have plc':Pl qc:=hc'.pl fun _ _ _ h=>h.pl
     have pld:Pl pd:=hd.pl fun _ _ _ h=>h.pl
     have pld':Pl qd:=hd'.pl fun _ _ _ h=>h.pl
     have hsp:=run_rsameD hc hc'
     have hsv:=Zc7 vals vals' pd qd hd hd'
     obtain ⟨S1, hS1⟩:∃S, st.new (.var z6)=S:=⟨_, rfl⟩
     have a1:S1.get st.next=some (.var z6):=by rw [←hS1];exact St.get_new
     have n1:S1.next=st.next+1:=by rw [←hS1];rfl
     obtain ⟨S2, hS2⟩:∃S, S1.put st.next (.var [.int .i64 op, pa, pb, pc, pd, pe])=S:=⟨_, rfl⟩
     have a2:S2.get st.next=some (.var [.int .i64 op, pa, pb, pc, pd, pe]):=by rw [←hS2];exact St.get_put
     have n2:S2.next=st.next+1:=by rw [←hS2];exact n1
     obtain ⟨S3, hS3⟩:∃S, S2.new (.var z6)=S:=⟨_, rfl⟩
     have b3:S3.get (st.next+1)=some (.var z6):=by rw [←hS3, ←n2];exact St.get_new
     have a3:S3.get st.next=some (.var [.int .i64 op, pa, pb, pc, pd, pe]):=by rw [←hS3];exact (St.get_new_old (by omega)).trans a2
     obtain ⟨S4, hS4⟩:∃S, S3.put (st.next+1) (.var [.int .i64 op', qa, qb, qc, qd, qe])=S:=⟨_, rfl⟩
     have b4:S4.get (st.next+1)=some (.var [.int .i64 op', qa, qb, qc, qd, qe]):=by rw [←hS4];exact St.get_put
     have a4:S4.get st.next=some (.var [.int .i64 op, pa, pb, pc, pd, pe]):=by rw [←hS4];exact (St.get_put_old (by omega)).trans a3
     have hz:z6.length=6:=rfl
     by_cases e0:op=op'
     case neg=>
      have hne:¬(Stp.mk op names nums preds vals subs::rest=Stp.mk op' names' nums' preds' vals' subs'::rest'):=Z5g (fun e=>e0 (by injection e))
      have dop:=Z0e e0
      refine Zf ?_
      repeat' first|((with_reducible show V _ _ _ _ _ _);first|refine Z15 hlt rfl rfl ?_|refine Zr [(4, .bool false)] rfl ⟨rfl, trivial⟩ (.inr ⟨rfl, hne, rfl⟩)|refine Z1 rfl ?_|refine Za rfl rfl ?_)|((with_reducible show VO _ _ _ _ _ _ _);first|refine Z4 rfl p1 p2 ?_|refine Zg rfl rfl ay ?_|refine Zg rfl rfl by_ ?_|refine Z07 rfl c6 ?_|refine Z0b hS1 rfl ?_|refine Z0b hS3 n2 ?_|refine Z0j hS2 a1 c1 rfl hz rfl rfl rfl ?_|refine Z0j hS4 b3 d1' rfl hz rfl rfl rfl ?_|refine Z0 (ldv a4 rfl rfl) ?_|refine Z0 (ldv b4 rfl rfl) ?_|refine Z3 dop rfl ?_|refine Z0 rfl ?_|refine Z2 ?_|refine Zk rfl rfl ?_)
     have dop:=Z0k e0
     by_cases e1:names.length=names'.length
     case neg=>
      have hne:¬(Stp.mk op names nums preds vals subs::rest=Stp.mk op' names' nums' preds' vals' subs'::rest'):=Z5g (fun e=>e1 (by injection e with _ h _ _ _ _;rw [h]))
      have dna:=Z0e (p:=(names.length:Int)=names'.length) (by omega)
      refine Zf ?_
      repeat' first|((with_reducible show V _ _ _ _ _ _);first|refine Z15 hlt rfl rfl ?_|refine Zr [(4, .bool false)] rfl ⟨rfl, trivial⟩ (.inr ⟨rfl, hne, rfl⟩)|refine Z1 rfl ?_|refine Za rfl rfl ?_)|((with_reducible show VO _ _ _ _ _ _ _);first|refine Z4 rfl p1 p2 ?_|refine Zg rfl rfl ay ?_|refine Zg rfl rfl by_ ?_|refine Z07 rfl c6 ?_|refine Z0b hS1 rfl ?_|refine Z0b hS3 n2 ?_|refine Z0j hS2 a1 c1 rfl hz rfl rfl rfl ?_|refine Z0j hS4 b3 d1' rfl hz rfl rfl rfl ?_|refine Z0 (ldv a4 rfl rfl) ?_|refine Z0 (ldv b4 rfl rfl) ?_|refine Z4 rfl la1 la2 ?_|refine Z4 rfl ma1 ma2 ?_|refine Z3 dop rfl ?_|refine Z3 dna rfl ?_|refine Z0 rfl ?_|refine Z2 ?_|refine Zh rfl ?_|refine Zk rfl rfl ?_)
     have dna:=Z0k (p:=(names.length:Int)=names'.length) (by omega)
     by_cases e2:nums.length=nums'.length
     case neg=>
      have hne:¬(Stp.mk op names nums preds vals subs::rest=Stp.mk op' names' nums' preds' vals' subs'::rest'):=Z5g (fun e=>e2 (by injection e with _ _ h _ _ _;rw [h]))
      have dnu:=Z0e (p:=(nums.length:Int)=nums'.length) (by omega)
      refine Zf ?_
      repeat' first|((with_reducible show V _ _ _ _ _ _);first|refine Z15 hlt rfl rfl ?_|refine Zr [(4, .bool false)] rfl ⟨rfl, trivial⟩ (.inr ⟨rfl, hne, rfl⟩)|refine Z1 rfl ?_|refine Za rfl rfl ?_)|((with_reducible show VO _ _ _ _ _ _ _);first|refine Z4 rfl p1 p2 ?_|refine Zg rfl rfl ay ?_|refine Zg rfl rfl by_ ?_|refine Z07 rfl c6 ?_|refine Z0b hS1 rfl ?_|refine Z0b hS3 n2 ?_|refine Z0j hS2 a1 c1 rfl hz rfl rfl rfl ?_|refine Z0j hS4 b3 d1' rfl hz rfl rfl rfl ?_|refine Z0 (ldv a4 rfl rfl) ?_|refine Z0 (ldv b4 rfl rfl) ?_|refine Z4 rfl la1 la2 ?_|refine Z4 rfl lb1 lb2 ?_|refine Z4 rfl ma1 ma2 ?_|refine Z4 rfl mb1 mb2 ?_|refine Z3 dop rfl ?_|refine Z3 dna rfl ?_|refine Z3 dnu rfl ?_|refine Z0 rfl ?_|refine Z2 ?_|refine Zh rfl ?_|refine Zk rfl rfl ?_)
     have dnu:=Z0k (p:=(nums.length:Int)=nums'.length) (by omega)
     by_cases e3:preds=preds'
     case neg=>
      have hne:¬(Stp.mk op names nums preds vals subs::rest=Stp.mk op' names' nums' preds' vals' subs'::rest'):=Z5g (fun e=>e3 (by injection e))
      rw [eqD_f e3] at hsp
      refine Zf ?_
      repeat' first|((with_reducible show V _ _ _ _ _ _);first|refine Z15 hlt rfl rfl ?_|refine Zr [(4, .bool false)] rfl ⟨rfl, trivial⟩ (.inr ⟨rfl, hne, rfl⟩)|refine Z1 rfl ?_|refine Za rfl rfl ?_)|((with_reducible show VO _ _ _ _ _ _ _);first|refine Z4 rfl p1 p2 ?_|refine Zg rfl rfl ay ?_|refine Zg rfl rfl by_ ?_|refine Z07 rfl c6 ?_|refine Z0b hS1 rfl ?_|refine Z0b hS3 n2 ?_|refine Z0j hS2 a1 c1 rfl hz rfl rfl rfl ?_|refine Z0j hS4 b3 d1' rfl hz rfl rfl rfl ?_|refine Z0 (ldv a4 rfl rfl) ?_|refine Z0 (ldv b4 rfl rfl) ?_|refine Z4 rfl la1 la2 ?_|refine Z4 rfl lb1 lb2 ?_|refine Z4 rfl ma1 ma2 ?_|refine Z4 rfl mb1 mb2 ?_|refine Z3 dop rfl ?_|refine Z3 dna rfl ?_|refine Z3 dnu rfl ?_|refine Z5 rfl rfl hsp ?_|refine Z0 rfl ?_|refine Z2 ?_|refine Zh rfl ?_|refine Zk rfl rfl ?_)
     rw [eqD_t e3] at hsp
     by_cases e4:vals=vals'
     case neg=>
      have hne:¬(Stp.mk op names nums preds vals subs::rest=Stp.mk op' names' nums' preds' vals' subs'::rest'):=Z5g (fun e=>e4 (by injection e))
      rw [decide_eq_false (fun h=>e4 (cmpVs_zero.1 h))] at hsv
      refine Zf ?_
      repeat' first|((with_reducible show V _ _ _ _ _ _);first|refine Z15 hlt rfl rfl ?_|refine Zr [(4, .bool false)] rfl ⟨rfl, trivial⟩ (.inr ⟨rfl, hne, rfl⟩)|refine Z1 rfl ?_|refine Za rfl rfl ?_)|((with_reducible show VO _ _ _ _ _ _ _);first|refine Z4 rfl p1 p2 ?_|refine Zg rfl rfl ay ?_|refine Zg rfl rfl by_ ?_|refine Z07 rfl c6 ?_|refine Z0b hS1 rfl ?_|refine Z0b hS3 n2 ?_|refine Z0j hS2 a1 c1 rfl hz rfl rfl rfl ?_|refine Z0j hS4 b3 d1' rfl hz rfl rfl rfl ?_|refine Z0 (ldv a4 rfl rfl) ?_|refine Z0 (ldv b4 rfl rfl) ?_|refine Z4 rfl la1 la2 ?_|refine Z4 rfl lb1 lb2 ?_|refine Z4 rfl ma1 ma2 ?_|refine Z4 rfl mb1 mb2 ?_|refine Z3 dop rfl ?_|refine Z3 dna rfl ?_|refine Z3 dnu rfl ?_|refine Z5 rfl rfl hsp ?_|refine Z5 rfl rfl hsv ?_|refine Z0 rfl ?_|refine Z2 ?_|refine Zh rfl ?_|refine Zk rfl rfl ?_)
     rw [decide_eq_true (cmpVs_zero.2 e4)] at hsv
     by_cases e5:subs.length=subs'.length
     case neg=>
      have hne:¬(Stp.mk op names nums preds vals subs::rest=Stp.mk op' names' nums' preds' vals' subs'::rest'):=Z5g (fun e=>e5 (by injection e with _ _ _ _ _ h;rw [h]))
      have dsu:=Z0e (p:=(subs.length:Int)=subs'.length) (by omega)
      refine Zf ?_
      repeat' first|((with_reducible show V _ _ _ _ _ _);first|refine Z15 hlt rfl rfl ?_|refine Zr [(4, .bool false)] rfl ⟨rfl, trivial⟩ (.inr ⟨rfl, hne, rfl⟩)|refine Z1 rfl ?_|refine Za rfl rfl ?_)|((with_reducible show VO _ _ _ _ _ _ _);first|refine Z4 rfl p1 p2 ?_|refine Zg rfl rfl ay ?_|refine Zg rfl rfl by_ ?_|refine Z07 rfl c6 ?_|refine Z0b hS1 rfl ?_|refine Z0b hS3 n2 ?_|refine Z0j hS2 a1 c1 rfl hz rfl rfl rfl ?_|refine Z0j hS4 b3 d1' rfl hz rfl rfl rfl ?_|refine Z0 (ldv a4 rfl rfl) ?_|refine Z0 (ldv b4 rfl rfl) ?_|refine Z4 rfl la1 la2 ?_|refine Z4 rfl lb1 lb2 ?_|refine Z4 rfl le1 le2 ?_|refine Z4 rfl ma1 ma2 ?_|refine Z4 rfl mb1 mb2 ?_|refine Z4 rfl me1 me2 ?_|refine Z3 dop rfl ?_|refine Z3 dna rfl ?_|refine Z3 dnu rfl ?_|refine Z3 dsu rfl ?_|refine Z5 rfl rfl hsp ?_|refine Z5 rfl rfl hsv ?_|refine Z0 rfl ?_|refine Z2 ?_|refine Zh rfl ?_)
     have dsu:=Z0k (p:=(subs.length:Int)=subs'.length) (by omega)
     have hw:IntKind.i64.wrap ((pre.length:Int)+1)=((pre++[Stp.mk op names nums preds vals subs]).length:Int):=by rw [Z01];simp;omega
     have hi:=ih rest' (pre++[.mk op names nums preds vals subs]) (pre'++[.mk op' names' nums' preds' vals' subs']) S4 (by rw [hl];simp) (by rw [hm];simp) (by simp [hpp])
     have l1:=sq_names (n:=0) (p:=p) (q:=q) (I:=.int .i64 pre.length) a4 b4 ha ha' e1 names names' [] [] rfl rfl rfl
     have l2:=sq_nums (n:=0) (p:=p) (q:=q) (I:=.int .i64 pre.length) a4 b4 hb hb' e2 nums nums' [] [] rfl rfl rfl
     have l3:=sq_subs (p:=p) (q:=q) (I:=.int .i64 pre.length) a4 b4 he he' e5 (ihn k rfl) subs subs' [] [] rfl rfl rfl
     have fin:∀ {X:Prop}, (names=names'→nums=nums'→subs=subs'→rest=rest'→X)→Stp.mk op names nums preds vals subs::rest=Stp.mk op' names' nums' preds' vals' subs'::rest'→X:=fun f e=>by
      injection e with e r
      injection e with _ x1 x2 _ _ x3
      exact f x1 x2 x3 r
     have hi':names=names'→nums=nums'→subs=subs'→V T (PE fun x e st'=>(x=.exit 0∧(Stp.mk op names nums preds vals subs::rest=Stp.mk op' names' nums' preds' vals' subs'::rest')∧e=Ze [(0, p)])∨(x=.ret∧¬(Stp.mk op names nums preds vals subs::rest=Stp.mk op' names' nums' preds' vals' subs'::rest')∧e=Ze [(4, .bool false)])) [.code (.loop Z0q)] .normal (Ze [(0, p), (1, q), (5, .int .i64 (pre++[Stp.mk op names nums preds vals subs]).length)]) S4:=fun g1 g2 g3=>by
      refine Z3w hi ?_
      rintro x e st' (⟨rfl, h, rfl⟩|⟨rfl, h, rfl⟩)
      ·exact .inl ⟨rfl, by rw [e0, g1, g2, e3, e4, g3, h], rfl⟩
      ·exact .inr ⟨rfl, Zkd h, rfl⟩
     have hwalk:V T (PE fun x e st'=>(x=.exit 0∧(Stp.mk op names nums preds vals subs::rest=Stp.mk op' names' nums' preds' vals' subs'::rest')∧e=Ze [(0, p)])∨(x=.ret∧¬(Stp.mk op names nums preds vals subs::rest=Stp.mk op' names' nums' preds' vals' subs'::rest')∧e=Ze [(4, .bool false)])) [.code Z0q, .code (.loop Z0q)] .normal (Ze [(0, p), (1, q), (5, .int .i64 pre.length)]) st:=by
      repeat' first|((with_reducible show V _ _ _ _ _ _);first|refine Z15 hlt rfl rfl ?_|refine Z08 rfl l1 ⟨rfl, rfl, rfl, rfl, rfl, rfl, trivial⟩ ?_|refine Z1 rfl ?_|refine Z9 rfl rfl ?_)|((with_reducible show VO _ _ _ _ _ _ _);first|refine Z4 rfl p1 p2 ?_|refine Zg rfl rfl ay ?_|refine Zg rfl rfl by_ ?_|refine Z07 rfl c6 ?_|refine Z0b hS1 rfl ?_|refine Z0b hS3 n2 ?_|refine Z0j hS2 a1 c1 rfl hz rfl rfl rfl ?_|refine Z0j hS4 b3 d1' rfl hz rfl rfl rfl ?_|refine Z0 (ldv a4 rfl rfl) ?_|refine Z0 (ldv b4 rfl rfl) ?_|refine Z4 rfl la1 la2 ?_|refine Z4 rfl lb1 lb2 ?_|refine Z4 rfl le1 le2 ?_|refine Z4 rfl ma1 ma2 ?_|refine Z4 rfl mb1 mb2 ?_|refine Z4 rfl me1 me2 ?_|refine Z3 dop rfl ?_|refine Z3 dna rfl ?_|refine Z3 dnu rfl ?_|refine Z3 dsu rfl ?_|refine Z5 rfl rfl hsp ?_|refine Z5 rfl rfl hsv ?_|refine Z0 rfl ?_|refine Z2 ?_|refine Zh rfl ?_)
      rintro x e st' ⟨rfl, ⟨rfl, g1, rfl⟩|⟨rfl, g1, rfl⟩⟩
      case inr=>
       repeat' first|refine Zr [(4, .bool false)] rfl ⟨rfl, trivial⟩ (.inr ⟨rfl, fin (fun x1 _ _ _=>g1 x1), rfl⟩)
      repeat' first|refine Z08 rfl l2 ⟨rfl, rfl, rfl, rfl, rfl, rfl, trivial⟩ ?_|refine Z1 rfl ?_|refine Z0 rfl ?_|refine Z2 ?_
      rintro x e st' ⟨rfl, ⟨rfl, g2, rfl⟩|⟨rfl, g2, rfl⟩⟩
      case inr=>
       repeat' first|refine Zr [(4, .bool false)] rfl ⟨rfl, trivial⟩ (.inr ⟨rfl, fin (fun _ x2 _ _=>g2 x2), rfl⟩)
      repeat' first|refine Z08 rfl l3 ⟨rfl, rfl, rfl, rfl, rfl, rfl, trivial⟩ ?_|refine Z1 rfl ?_|refine Z0 rfl ?_|refine Z2 ?_
      rintro x e st' ⟨rfl, ⟨rfl, g3, rfl⟩|⟨rfl, g3, rfl⟩⟩
      case inr=>
       repeat' first|refine Zr [(4, .bool false)] rfl ⟨rfl, trivial⟩ (.inr ⟨rfl, fin (fun _ _ x3 _=>g3 x3), rfl⟩)
      repeat' first|refine Z7z rfl (hi' g1 g2 g3) ⟨rfl, rfl, Z04 hw, trivial⟩|refine Z1 rfl ?_|refine Z0 rfl ?_|refine Z2 ?_
     exact Zf hwalk
   have hl:=loop l m [] [] emptySt rfl rfl rfl
   have d1:=Z0k (p:=(l.length:Int)=m.length) (by omega)
   refine Z7 rfl rfl ?_
   repeat' first|((with_reducible show V _ _ _ _ _ _);first|refine Z08 rfl hl ⟨rfl, rfl, rfl, trivial⟩ ?_|refine Z1 rfl ?_|refine Z9 rfl rfl ?_)|((with_reducible show VO _ _ _ _ _ _ _);first|refine Z4 rfl p1 p2 ?_|refine Z4 rfl q1 q2 ?_|refine Z3 d1 rfl ?_|refine Z0 rfl ?_|refine Z2 ?_)
   rintro x e st' (⟨rfl, h, rfl⟩|⟨rfl, h, rfl⟩)
   ·rw [eqD_t h]
    repeat' first|refine Z1 rfl ?_|refine Z6 rfl rfl ?_|refine Z0 rfl ?_|refine Z2 ?_
    rfl
   ·rw [eqD_f h]
    repeat' first|refine Z6 rfl rfl ?_
    rfl
  ·rw [eqD_f (fun e=>hlen (by rw [e]))]
   have d1:=Z0e (p:=(l.length:Int)=m.length) (by omega)
   refine Z7 rfl rfl ?_
   repeat' first|((with_reducible show V _ _ _ _ _ _);first|refine Z1 rfl ?_|refine Za rfl rfl ?_|refine Z6 rfl rfl ?_)|((with_reducible show VO _ _ _ _ _ _ _);first|refine Z4 rfl p1 p2 ?_|refine Z4 rfl q1 q2 ?_|refine Z3 d1 rfl ?_|refine Z0 rfl ?_|refine Z2 ?_)
   rfl
 intro n
 induction n with
 |zero=>exact main 0 (fun k e=>by omega)
 |succ n ih=>exact main (n+1) (fun k e=>by
   have h:k=n:=by omega
   subst h
   exact ih)
end Go.Proofs.YtnedeokclnbcpaaGreatDoor
