/- What comes of times, of what is within: rambleref17.again, nested. · What comes of a step, of steps: rambleref17.step, infer, Infer. · The statement's again (ramblelaw20): it answers. · RewriteKinds: the law. -/
import Derived.Test.YtnedeokclnbcpaaGreatDoorRwKToInH
import Derived.Test.YtnedeokclnbcpaaGreatDoorRwUToRwBa
import Derived.Test.YtnedeokclnbcpaaGreatDoorRwBbToInfA
import Derived.Test.YtnedeokclnbcpaaGreatDoorRwPToRwA
set_option linter.unusedVariables false
set_option linter.unusedSimpArgs false
namespace Go.Proofs.YtnedeokclnbcpaaGreatDoor
open Go Go.AM Go.RowKit
set_option maxRecDepth 20000 in
theorem ragain_loop {q o:PV} {l ol:List Stp} (hf:Zp9 q l) (hg:Zp9 o ol) (plq:Pl q) (plo:Pl o) (o1:lenOf o=some ol.length) (o2:Zah o=false) {N:Int} (K:Nat) (hK:(K:Int)=if N<128 then N else 128):∀(k j all i:Nat), j+k=K→KS all→KS i→
  V T (PE fun x e st'=>(x=.exit 0∧∃m:Nat, e=Zi [(10, .int .i64 (m:Int))]∧Z2l (Z0d (lF l)) (Z0d (lF ol)) k all i=(m, 0))∨(x=.ret∧∃c:Int, e=Zi [(8, .int .i64 0), (9, .int .i64 c)]∧Z2l (Z0d (lF l)) (Z0d (lF ol)) k all i=(0, c)))
   [.code (.loop Z4y)] .normal (Zi [(0, .int .i64 (i:Int)), (1, .int .i64 N), (2, q), (3, o), (10, .int .i64 (all:Int)), (11, .int .i64 (j:Int))]) emptySt:=by
 intro k
 induction k with
 |zero=>
  intro j all i hj ha hi
  by_cases c1:(j:Int)<N
  ·have c2:¬(j:Int)<128:=by split at hK<;>omega
   refine Ze ?_
   repeat' first|((with_reducible show V _ _ _ _ _ _);first|refine Z0o [(10, .int .i64 (all:Int))] rfl ⟨rfl, trivial⟩ (.inl ⟨rfl, _, rfl, rfl⟩)|refine Z1 rfl ?_|refine Zb rfl rfl ?_)|((with_reducible show VO _ _ _ _ _ _ _);first|refine Z3 (Z04 c1) rfl ?_|refine Z3 (Zd c2) rfl ?_|refine Z0 rfl ?_|refine Z2 ?_|refine Zg rfl ?_)
  ·refine Ze ?_
   repeat' first|((with_reducible show V _ _ _ _ _ _);first|refine Z0o [(10, .int .i64 (all:Int))] rfl ⟨rfl, trivial⟩ (.inl ⟨rfl, _, rfl, rfl⟩)|refine Z1 rfl ?_|refine Zb rfl rfl ?_)|((with_reducible show VO _ _ _ _ _ _ _);first|refine Z3 (Zd c1) rfl ?_|refine Z0 rfl ?_|refine Z2 ?_|refine Zq rfl rfl ?_)
 |succ k ih=>
  intro j all i hj ha hi
  have c1:(j:Int)<N:=by split at hK<;>omega
  have c2:(j:Int)<128:=by split at hK<;>omega
  have hw:IntKind.i64.wrap ((j:Int)+1)=((j+1:Nat):Int):=by rw [Z00];omega
  have h1:=hf (i:Int)
  rw [←Zj8 l hi] at h1
  have hk:KS (Z0d (lF l) i).1:=(Zh9 (Zk4 l)).1 i hi
  have h2:=hg ((Z0d (lF l) i).1:Int)
  rw [←Zj8 ol hk] at h2
  unfold inP at h1 h2
  have hi':=ih (j+1) (all|||(Z0d (lF l) i).1) (Z0d (lF l) i).1 (by omega) (Zho ha hk) hk
  have e2:=Z1y (k:=.i64) (or_is ha hk)
  rw [Z2l]
  generalize Z0d (lF l) i=r at *
  refine Ze ?_
  by_cases d1:r.2=0
  ·rw [if_pos d1]
   by_cases hol:(0:Int)<(ol.length:Int)
   ·by_cases d2:(Z0d (lF ol) r.1).2=0
    ·rw [if_pos d2]
     repeat' first|((with_reducible show V _ _ _ _ _ _);first|refine Zef rfl hi' ⟨rfl, rfl, rfl, rfl, rfl, Z03 hw, trivial⟩|refine Z1 rfl ?_|refine Za rfl rfl ?_|refine Zb rfl rfl ?_)|((with_reducible show VO _ _ _ _ _ _ _);first|refine Z3 (Z04 c1) rfl ?_|refine Z3 (Z04 c2) rfl ?_|refine Z6 rfl rfl h1 ?_|refine Z8 rfl o1 o2 ?_|refine Z3 (Z04 hol) rfl ?_|refine Z6 rfl rfl h2 ?_|refine Z3 (Z13 d1) rfl ?_|refine Z3 (Z13 d2) rfl ?_|refine Z3 e2 rfl ?_|refine Z0 rfl ?_|refine Z2 ?_|refine Zg rfl ?_)
    ·rw [if_neg d2]
     repeat' first|((with_reducible show V _ _ _ _ _ _);first|refine Z0o [(8, .int .i64 0), (9, .int .i64 (Z0d (lF ol) r.1).2)] rfl ⟨rfl, rfl, trivial⟩ (.inr ⟨rfl, _, rfl, rfl⟩)|refine Z1 rfl ?_|refine Za rfl rfl ?_|refine Zb rfl rfl ?_)|((with_reducible show VO _ _ _ _ _ _ _);first|refine Z3 (Z04 c1) rfl ?_|refine Z3 (Z04 c2) rfl ?_|refine Z6 rfl rfl h1 ?_|refine Z8 rfl o1 o2 ?_|refine Z3 (Z04 hol) rfl ?_|refine Z6 rfl rfl h2 ?_|refine Z3 (Z13 d1) rfl ?_|refine Z3 (Z09 d2) rfl ?_|refine Z0 rfl ?_|refine Z2 ?_|refine Zg rfl ?_)
   ·have hnil:ol=[]:=List.length_eq_zero_iff.1 (by omega)
    have d2:(Z0d (lF ol) r.1).2=0:=by subst hnil;rw [lF];rfl
    rw [if_pos d2]
    repeat' first|((with_reducible show V _ _ _ _ _ _);first|refine Zef rfl hi' ⟨rfl, rfl, rfl, rfl, rfl, Z03 hw, trivial⟩|refine Z1 rfl ?_|refine Za rfl rfl ?_|refine Zb rfl rfl ?_)|((with_reducible show VO _ _ _ _ _ _ _);first|refine Z3 (Z04 c1) rfl ?_|refine Z3 (Z04 c2) rfl ?_|refine Z6 rfl rfl h1 ?_|refine Z8 rfl o1 o2 ?_|refine Z3 (Zd hol) rfl ?_|refine Z3 (Z13 d1) rfl ?_|refine Z3 e2 rfl ?_|refine Z0 rfl ?_|refine Z2 ?_|refine Zg rfl ?_)
  ·rw [if_neg d1]
   repeat' first|((with_reducible show V _ _ _ _ _ _);first|refine Z0o [(8, .int .i64 0), (9, .int .i64 r.2)] rfl ⟨rfl, rfl, trivial⟩ (.inr ⟨rfl, _, rfl, rfl⟩)|refine Z1 rfl ?_|refine Za rfl rfl ?_)|((with_reducible show VO _ _ _ _ _ _ _);first|refine Z3 (Z04 c1) rfl ?_|refine Z3 (Z04 c2) rfl ?_|refine Z6 rfl rfl h1 ?_|refine Z3 (Z09 d1) rfl ?_|refine Z0 rfl ?_|refine Z2 ?_|refine Zg rfl ?_)
theorem Zpm {q o:PV} {l ol:List Stp} (hf:Zp9 q l) (hg:Zp9 o ol) (plq:Pl q) (plo:Pl o) (o1:lenOf o=some ol.length) (o2:Zah o=false) {i:Nat} (hi:KS i) {N:Int} (hN:0≤N):T.R (.call Z8x [.int .i64 (i:Int), .int .i64 N, q, o] (inP (Z2l (Z0d (lF l)) (Z0d (lF ol)) (if N<128 then N else 128).toNat 0 i))):=by
 have hl:=ragain_loop hf hg plq plo o1 o2 (N:=N) (if N<128 then N else 128).toNat (by split<;>omega) _ 0 0 i (Nat.zero_add _) (sub_zero _) hi
 generalize (if N<128 then N else 128).toNat=K at hl ⊢
 refine Z7 rfl rfl ?_
 repeat' first|refine Z0g rfl hl ⟨rfl, rfl, rfl, rfl, rfl, rfl, trivial⟩ ?_|refine Z1 rfl ?_|refine Z0 rfl ?_|refine Z2 ?_
 rintro x e' st' (⟨rfl, m, rfl, hm⟩|⟨rfl, c, rfl, hm⟩)
 ·rw [hm]
  repeat' first|refine Z1 rfl ?_|refine Z4 rfl rfl ?_|refine Z0 rfl ?_|refine Z2 ?_
  rfl
 ·rw [hm]
  repeat' first|refine Z4 rfl rfl ?_
  rfl
def accF (op:Int):Nat→Nat→List Nat→Nat
 |_, all, []=>all
 |j, all, o::r=>accF op (j+1) (if op=53∧j=0 then all else all|||o) r
theorem foldl_or (l:List Nat):∀a:Nat, l.foldl (· ||| ·) a=a|||l.foldl (· ||| ·) 0:=by
 induction l with
 |nil=>intro a;simp
 |cons x r ih=>intro a;rw [List.foldl_cons, List.foldl_cons, ih, ih (0|||x), Nat.zero_or, Nat.or_assoc]
theorem accF_ne {op:Int} (h:op≠53):∀(l:List Nat) (j all:Nat), accF op j all l=l.foldl (· ||| ·) all
 |[], _, _=>rfl
 |o::r, j, all=>by rw [accF, if_neg (fun e=>h e.1), accF_ne h r, List.foldl_cons]
theorem accF_53:∀(l:List Nat) (j all:Nat), accF 53 (j+1) all l=l.foldl (· ||| ·) all
 |[], _, _=>rfl
 |o::r, j, all=>by rw [accF, if_neg (fun e=>by have:=e.2;omega), accF_53 r, List.foldl_cons]
theorem rouss_loop {pa pb pc pd pe:PV} {op:Int} {subs:List (List Stp)} {n:Nat} (hp:LR (SubC (SC n)) pe subs) (hd:∀x∈subs, ∀q, SL n q x→Zp9 q x) (i:Nat) (hi:KS i) (st:St) (hst:st=⟨0, 1, [(0, .var [.int .i64 op, pa, pb, pc, pd, pe])]⟩):
  ∀(rest pre:List (List Stp)) (all:Nat), subs=pre++rest→KS all→
  V T (PE fun x e st'=>(x=.exit 1∧(Z0s (llF rest) i).2=0∧st'=st∧e=Zi [(0, .int .i64 (i:Int)), (3, .ptr 0 0), (10, .int .i64 (accF op pre.length all (Z0s (llF rest) i).1:Int))])∨(x=.ret∧(Z0s (llF rest) i).2≠0∧e=Zi [(4, .int .i64 0), (5, .int .i64 (Z0s (llF rest) i).2)]))
   [.code (.loop Z15)] .normal (Zi [(0, .int .i64 (i:Int)), (3, .ptr 0 0), (10, .int .i64 (all:Int)), (11, .int .i64 pre.length)]) st:=by
 have ple:Pl pe:=LR.pl hp fun _ _ _ h=>h.pl fun _ _ h=>h.pl
 obtain ⟨le1, le2, le3⟩:=hp.len
 subst hst
 intro rest
 induction rest with
 |nil=>
  intro pre all ha hk
  have hlt:¬(pre.length:Int)<subs.length:=by subst ha;simp
  refine Ze ?_
  repeat' first|((with_reducible show V _ _ _ _ _ _);first|refine Z72 rfl rfl hlt ?_|refine Z0o [(0, .int .i64 (i:Int)), (3, .ptr 0 0), (10, .int .i64 (all:Int))] rfl ⟨rfl, rfl, rfl, trivial⟩ (.inl ⟨rfl, rfl, rfl, rfl⟩)|refine Z1 rfl ?_)|((with_reducible show VO _ _ _ _ _ _ _);first|refine Z8 rfl le1 le2 ?_|refine Z0 rfl ?_|refine Z2 ?_)
 |cons y rest ih=>
  intro pre all ha hk
  have hlt:(pre.length:Int)<subs.length:=by subst ha;simp;omega
  have hll:pre.length<subs.length:=by subst ha;simp
  have hy:subs[pre.length]?=some y:=by subst ha;simp
  obtain ⟨cy, ay, q, rfl, hq⟩:=hp.at (sz:=1) (fun _ _ h=>h.len1) hy
  have plq:=SL.pl hq
  have hcall:=hd y (by subst ha;simp) q hq i
  rw [←Zj8 y hi] at hcall
  have hky:KS (Z0d (lF y) i).1:=(Zh9 (Zk4 y)).1 i hi
  unfold inP at hcall
  have hw:IntKind.i64.wrap ((pre.length:Int)+1)=((pre++[y]).length:Int):=by rw [Z00];simp;omega
  have hlen:(pre++[y]).length=pre.length+1:=by simp
  rw [llF, Z0s]
  generalize hr:Z0d (lF y) i=r at *
  have e2:=Z1y (k:=.i64) (or_is hk hky)
  by_cases c1:r.2=0
  ·rw [if_pos c1]
   by_cases c53:op=53∧pre.length=0
   ·have hi':=ih (pre++[y]) all (by rw [ha];simp) hk
    have hgt:¬(0:Int)<(pre.length:Int):=by omega
    have hwalk:V T (PE fun x e st'=>(x=.exit 1∧(Z0s (llF rest) i).2=0∧st'=⟨0, 1, [(0, .var [.int .i64 op, pa, pb, pc, pd, pe])]⟩∧e=Zi [(0, .int .i64 (i:Int)), (3, .ptr 0 0), (10, .int .i64 (accF op (pre++[y]).length all (Z0s (llF rest) i).1:Int))])∨(x=.ret∧(Z0s (llF rest) i).2≠0∧e=Zi [(4, .int .i64 0), (5, .int .i64 (Z0s (llF rest) i).2)])) [.code (.loop Z15)] .normal (Zi [(0, .int .i64 (i:Int)), (3, .ptr 0 0), (10, .int .i64 (all:Int)), (11, .int .i64 pre.length)]) ⟨0, 1, [(0, .var [.int .i64 op, pa, pb, pc, pd, pe])]⟩:=by
     refine Ze ?_
     repeat' first|((with_reducible show V _ _ _ _ _ _);first|refine Z1e rfl rfl hlt ?_|refine Zef rfl hi' ⟨rfl, rfl, rfl, Z03 hw, trivial⟩|refine Z1 rfl ?_|refine Zb rfl rfl ?_)|((with_reducible show VO _ _ _ _ _ _ _);first|refine Z8 rfl le1 le2 ?_|refine Zn rfl rfl ay ?_|refine Z6 rfl rfl hcall ?_|refine Z3 (Z13 c1) rfl ?_|refine Z3 (Z13 c53.1) rfl ?_|refine Z3 (Zd hgt) rfl ?_|refine Z0 rfl ?_|refine Z2 ?_|refine Zg rfl ?_)
    refine Zeg hwalk ?_
    rintro x e st'' (⟨rfl, h0, h1, rfl⟩|⟨rfl, h0, rfl⟩)
    ·refine .inl ⟨rfl, by rw [if_pos h0], h1, ?_⟩
     rw [if_pos h0, accF, if_pos c53, hlen]
    ·exact .inr ⟨rfl, by rw [if_neg h0];exact h0, by rw [if_neg h0]⟩
   ·have hi':=ih (pre++[y]) (all|||r.1) (by rw [ha];simp) (Zho hk hky)
    have hwalk:V T (PE fun x e st'=>(x=.exit 1∧(Z0s (llF rest) i).2=0∧st'=⟨0, 1, [(0, .var [.int .i64 op, pa, pb, pc, pd, pe])]⟩∧e=Zi [(0, .int .i64 (i:Int)), (3, .ptr 0 0), (10, .int .i64 (accF op (pre++[y]).length (all|||r.1) (Z0s (llF rest) i).1:Int))])∨(x=.ret∧(Z0s (llF rest) i).2≠0∧e=Zi [(4, .int .i64 0), (5, .int .i64 (Z0s (llF rest) i).2)])) [.code (.loop Z15)] .normal (Zi [(0, .int .i64 (i:Int)), (3, .ptr 0 0), (10, .int .i64 (all:Int)), (11, .int .i64 pre.length)]) ⟨0, 1, [(0, .var [.int .i64 op, pa, pb, pc, pd, pe])]⟩:=by
     refine Ze ?_
     by_cases h53:op=53
     ·have hgt:(0:Int)<(pre.length:Int):=by
       have:pre.length≠0:=fun e=>c53 ⟨h53, e⟩
       omega
      repeat' first|((with_reducible show V _ _ _ _ _ _);first|refine Z1e rfl rfl hlt ?_|refine Zef rfl hi' ⟨rfl, rfl, rfl, Z03 hw, trivial⟩|refine Z1 rfl ?_|refine Za rfl rfl ?_|refine Zb rfl rfl ?_)|((with_reducible show VO _ _ _ _ _ _ _);first|refine Z8 rfl le1 le2 ?_|refine Zn rfl rfl ay ?_|refine Z6 rfl rfl hcall ?_|refine Z3 (Z13 c1) rfl ?_|refine Z3 (Z13 h53) rfl ?_|refine Z3 (Z04 hgt) rfl ?_|refine Z3 e2 rfl ?_|refine Z0 rfl ?_|refine Z2 ?_|refine Zg rfl ?_)
     ·repeat' first|((with_reducible show V _ _ _ _ _ _);first|refine Z1e rfl rfl hlt ?_|refine Zef rfl hi' ⟨rfl, rfl, rfl, Z03 hw, trivial⟩|refine Z1 rfl ?_|refine Za rfl rfl ?_|refine Zb rfl rfl ?_)|((with_reducible show VO _ _ _ _ _ _ _);first|refine Z8 rfl le1 le2 ?_|refine Zn rfl rfl ay ?_|refine Z6 rfl rfl hcall ?_|refine Z3 (Z13 c1) rfl ?_|refine Z3 (Z09 h53) rfl ?_|refine Z3 e2 rfl ?_|refine Z0 rfl ?_|refine Z2 ?_|refine Zq rfl rfl ?_)
    refine Zeg hwalk ?_
    rintro x e st'' (⟨rfl, h0, h1, rfl⟩|⟨rfl, h0, rfl⟩)
    ·refine .inl ⟨rfl, by rw [if_pos h0], h1, ?_⟩
     rw [if_pos h0, accF, if_neg c53, hlen]
    ·exact .inr ⟨rfl, by rw [if_neg h0];exact h0, by rw [if_neg h0]⟩
  ·rw [if_neg c1]
   refine Ze ?_
   repeat' first|((with_reducible show V _ _ _ _ _ _);first|refine Z1e rfl rfl hlt ?_|refine Z0o [(4, .int .i64 0), (5, .int .i64 r.2)] rfl ⟨rfl, rfl, trivial⟩ (.inr ⟨rfl, c1, rfl⟩)|refine Z1 rfl ?_|refine Za rfl rfl ?_)|((with_reducible show VO _ _ _ _ _ _ _);first|refine Z8 rfl le1 le2 ?_|refine Zn rfl rfl ay ?_|refine Z6 rfl rfl hcall ?_|refine Z3 (Z09 c1) rfl ?_|refine Z0 rfl ?_|refine Z2 ?_)
set_option maxHeartbeats 4000000 in
theorem run_nested {m:Nat} {op:Int} {nums:List Int} {subs:List (List Stp)} {pa pb pc pd pe:PV} (hnu:LR NuC pb nums) (h5:LR (SubC (SC m)) pe subs) (pla:Pl pa) (plb:Pl pb) (plc:Pl pc) (pld:Pl pd) (ple:Pl pe)
  (hd:∀x q, SL m q x→gdL x→Zp9 q x) (hg1:GoodS1 op nums subs.length) (hg2:gdLL subs) (hne:subs≠[]) (i:Nat) (hi:KS i):
  T.R (.call Z7n [.int .i64 (i:Int), .agg [.int .i64 op, pa, pb, pc, pd, pe]] (inP (Z23 op nums (llF subs) i))):=by
 obtain ⟨h32, hgs⟩:=hg1
 obtain ⟨hg1, hg3⟩:=hgs (fun e=>hne (List.length_eq_zero_iff.1 e))
 obtain ⟨l0, ls, rfl⟩:∃l0 ls, subs=l0::ls:=by
  cases subs with
  |nil=>exact absurd rfl hne
  |cons a b=>exact ⟨a, b, rfl⟩
 obtain ⟨c0, a0, q0, rfl, hq0⟩:=h5.at (sz:=1) (fun _ _ h=>h.len1) (j:=0) (a:=l0) rfl
 have plq0:=SL.pl hq0
 have ht0:=hd l0 q0 hq0 (Zme hg2 l0 (by simp))
 have htn:Zp9 .nilSl []:=hd [] .nilSl (.inl ⟨rfl, rfl⟩) (by rw [gdL];trivial)
 have e0:nth (llF (l0::ls)) 0=Z0d (lF l0):=by rw [llF];rfl
 by_cases k1:op=54∨op=56
 ·obtain ⟨x0, r0, rfl, hx0⟩:=hg1 k1
  obtain ⟨cn, an, hn1, rfl⟩:=hnu.at (sz:=1) (fun _ _ h=>h.len1) (j:=0) (a:=x0) rfl
  have ew:Z23 op (x0::r0) (llF (l0::ls)) i=if 0<x0 then Z2l (Z0d (lF l0)) (Z0d (lF [])) (if x0<128 then x0 else 128).toNat 0 i else ((if op=56 then 0 else i), (Z0d (lF l0) 0).2):=by
   unfold Z23
   rw [if_pos k1, e0, lF]
   rfl
  rw [ew]
  by_cases k2:0<x0
  ·rw [if_pos k2]
   have k3:¬x0=0:=by omega
   have ht:=Zpm ht0 htn plq0 .nilSl rfl rfl hi hx0
   unfold inP at ht ⊢
   generalize Z2l (Z0d (lF l0)) (Z0d (lF [])) (if x0<128 then x0 else 128).toNat 0 i=r at ht ⊢
   rcases k1 with rfl|rfl
   ·refine Z7 rfl rfl ?_
    repeat' first|((with_reducible show V _ _ _ _ _ _);first|refine Z1 rfl ?_|refine Za rfl rfl ?_|refine Zb rfl rfl ?_|refine Z4 rfl rfl ?_|refine V_D rfl ?_)|((with_reducible show VO _ _ _ _ _ _ _);first|refine Zn rfl rfl an ?_|refine Z3 (Zd k3) rfl ?_|refine Z0 rfl ?_|refine Zc rfl ?_|refine Z2 ?_)|((with_reducible show VD _ _ _ _ _ _ _);first|refine Zji rfl rfl an ?_|refine Zji rfl rfl a0 ?_|refine D_cA rfl rfl ht ?_|refine Z0z rfl ?_|refine Z55 ?_)
    rfl
   ·refine Z7 rfl rfl ?_
    repeat' first|((with_reducible show V _ _ _ _ _ _);first|refine Z1 rfl ?_|refine Za rfl rfl ?_|refine Zb rfl rfl ?_|refine Z4 rfl rfl ?_|refine V_D rfl ?_)|((with_reducible show VO _ _ _ _ _ _ _);first|refine Zn rfl rfl an ?_|refine Z3 (Zd k3) rfl ?_|refine Z0 rfl ?_|refine Zc rfl ?_|refine Z2 ?_)|((with_reducible show VD _ _ _ _ _ _ _);first|refine Zji rfl rfl an ?_|refine Zji rfl rfl a0 ?_|refine D_cA rfl rfl ht ?_|refine Z0z rfl ?_|refine Z55 ?_)
    rfl
  ·rw [if_neg k2]
   have k3:x0=0:=by omega
   have ht:T.R (.call Z8w [.int .i64 0, q0] (inP (Z0d (lF l0) 0))):=by
    rw [Zj8 l0 (sub_zero _)]
    exact ht0 0
   unfold inP at ht ⊢
   generalize Z0d (lF l0) 0=r at ht ⊢
   rcases k1 with rfl|rfl
   ·refine Z7 rfl rfl ?_
    repeat' first|((with_reducible show V _ _ _ _ _ _);first|refine Z1 rfl ?_|refine Za rfl rfl ?_|refine Z4 rfl rfl ?_)|((with_reducible show VO _ _ _ _ _ _ _);first|refine Zn rfl rfl an ?_|refine Zn rfl rfl a0 ?_|refine Z3 (Z04 k3) rfl ?_|refine Z6 rfl rfl ht ?_|refine Z0 rfl ?_|refine Zc rfl ?_|refine Z2 ?_)
    rfl
   ·refine Z7 rfl rfl ?_
    repeat' first|((with_reducible show V _ _ _ _ _ _);first|refine Z1 rfl ?_|refine Za rfl rfl ?_|refine Zb rfl rfl ?_|refine Z4 rfl rfl ?_)|((with_reducible show VO _ _ _ _ _ _ _);first|refine Zn rfl rfl an ?_|refine Zn rfl rfl a0 ?_|refine Z3 (Z04 k3) rfl ?_|refine Z6 rfl rfl ht ?_|refine Z0 rfl ?_|refine Zc rfl ?_|refine Z2 ?_)
    rfl
 ·by_cases k2:op=55
  ·have h2:=hg3 k2
   subst k2
   obtain ⟨l1, lt, rfl⟩:∃l1 lt, ls=l1::lt:=by
    cases ls with
    |nil=>simp at h2
    |cons a b=>exact ⟨a, b, rfl⟩
   obtain ⟨c1, a1, q1, rfl, hq1⟩:=h5.at (sz:=1) (fun _ _ h=>h.len1) (j:=1) (a:=l1) rfl
   have plq1:=SL.pl hq1
   have ht1:=hd l1 q1 hq1 (Zme hg2 l1 (by simp))
   have e1:nth (llF (l0::l1::lt)) 1=Z0d (lF l1):=by rw [llF, llF];rfl
   obtain ⟨o1, o2, _⟩:=hq0.len
   have ht:T.R (.call Z8x [.int .i64 (i:Int), .int .i64 128, q1, q0] (inP (Z2l (Z0d (lF l1)) (Z0d (lF l0)) 128 0 i))):=Zpm ht1 ht0 plq1 plq0 o1 o2 hi (N:=128) (by omega)
   have e2:Z23 55 nums (llF (l0::l1::lt)) i=Z2l (Z0d (lF l1)) (Z0d (lF l0)) 128 0 i:=by
    unfold Z23
    rw [if_neg (by omega), if_pos rfl, e0, e1]
   rw [e2]
   unfold inP at ht ⊢
   generalize Z2l (Z0d (lF l1)) (Z0d (lF l0)) 128 0 i=r at ht ⊢
   refine Z7 rfl rfl ?_
   repeat' first|((with_reducible show V _ _ _ _ _ _);first|refine Z1 rfl ?_|refine Za rfl rfl ?_|refine Zb rfl rfl ?_|refine Z4 rfl rfl ?_|refine V_D rfl ?_)|((with_reducible show VO _ _ _ _ _ _ _);first|refine Z0 rfl ?_|refine Zc rfl ?_|refine Z2 ?_)|((with_reducible show VD _ _ _ _ _ _ _);first|refine Zji rfl rfl a1 ?_|refine Zji rfl rfl a0 ?_|refine D_cA rfl rfl ht ?_|refine Z0z rfl ?_|refine Z55 ?_)
   rfl
  ·obtain ⟨le1, le2, le3⟩:=h5.len
   have hl:=fun all (hall:KS all)=>rouss_loop (pa:=pa) (pb:=pb) (pc:=pc) (pd:=pd) (op:=op) h5 (fun x hx q hq=>hd x q hq (Zme hg2 x hx)) i hi _ rfl (l0::ls) [] all rfl hall
   unfold Z23
   rw [if_neg k1, if_neg k2]
   have n54:¬op=54:=fun e=>k1 (.inl e)
   have n56:¬op=56:=fun e=>k1 (.inr e)
   by_cases k5:op=52
   ·have hl':=hl i hi
    subst k5
    refine Z7 rfl rfl ?_
    repeat' first|((with_reducible show V _ _ _ _ _ _);first|refine Z0g rfl hl' ⟨rfl, rfl, rfl, rfl, trivial⟩ ?_|refine Z1 rfl ?_|refine Za rfl rfl ?_|refine Zb rfl rfl ?_)|((with_reducible show VO _ _ _ _ _ _ _);first|refine Z0 rfl ?_|refine Zc rfl ?_|refine Z2 ?_)
    rintro x e' st' (⟨rfl, h0, rfl, rfl⟩|⟨rfl, h0, rfl⟩)
    ·rw [if_pos h0]
     generalize (Z0s (llF (l0::ls)) i).1=os at *
     have ef:accF 52 ([]:List (List Stp)).length i os=orL (os++[i]):=by
      rw [accF_ne (by decide), orL, List.foldl_append, foldl_or os i, List.foldl_cons, List.foldl_nil, Nat.or_comm]
     rw [ef]
     repeat' first|((with_reducible show V _ _ _ _ _ _);first|refine Z1 rfl ?_|refine Zb rfl rfl ?_|refine Z4 rfl rfl ?_)|((with_reducible show VO _ _ _ _ _ _ _);first|refine Z0 rfl ?_|refine Z2 ?_|refine Zg rfl ?_)
     rfl
    ·rw [if_neg h0]
     repeat' first|refine Z4 rfl rfl ?_
     rfl
   ·have hl':=hl 0 (sub_zero _)
    refine Z7 rfl rfl ?_
    repeat' first|((with_reducible show V _ _ _ _ _ _);first|refine Z72 rfl rfl n54 ?_|refine Z72 rfl rfl n56 ?_|refine Z72 rfl rfl k2 ?_|refine Z72 rfl rfl k5 ?_|refine Z0g rfl hl' ⟨rfl, rfl, rfl, rfl, trivial⟩ ?_|refine Z1 rfl ?_)|((with_reducible show VO _ _ _ _ _ _ _);first|refine Z0 rfl ?_|refine Zc rfl ?_|refine Z2 ?_)
    rintro x e' st' (⟨rfl, h0, rfl, rfl⟩|⟨rfl, h0, rfl⟩)
    ·rw [if_pos h0]
     have hlen:=outs_len h0
     rw [llF_len] at hlen
     generalize (Z0s (llF (l0::ls)) i).1=os at *
     by_cases k3:op=20∨op=21∨op=22∨op=23
     ·rw [if_pos k3]
      rcases k3 with rfl|rfl|rfl|rfl
      all_goals repeat' first|((with_reducible show V _ _ _ _ _ _);first|refine Z1 rfl ?_|refine Za rfl rfl ?_|refine Z4 rfl rfl ?_)|((with_reducible show VO _ _ _ _ _ _ _);first|refine Z0 rfl ?_|refine Z2 ?_|refine Zg rfl ?_|refine Zq rfl rfl ?_)
      all_goals rfl
     ·rw [if_neg k3]
      have n20:¬op=20:=fun e=>k3 (by omega)
      have n21:¬op=21:=fun e=>k3 (by omega)
      have n22:¬op=22:=fun e=>k3 (by omega)
      have n23:¬op=23:=fun e=>k3 (by omega)
      have ef:(if op=53 then (orL (os.drop 1), (0:Int)) else if op=52 then (orL (os++[i]), 0) else (orL os, 0))=(accF op ([]:List (List Stp)).length 0 os, 0):=by
       by_cases k4:op=53
       ·rw [if_pos k4]
        subst k4
        obtain ⟨o0, ot, rfl⟩:∃a b, os=a::b:=by
         cases os with
         |nil=>simp at hlen
         |cons a b=>exact ⟨a, b, rfl⟩
        have:accF 53 ([]:List (List Stp)).length 0 (o0::ot)=ot.foldl (· ||| ·) 0:=by
         rw [accF, if_pos ⟨rfl, rfl⟩]
         exact accF_53 ot 0 0
        rw [this]
        rfl
       ·rw [if_neg k4, if_neg k5, accF_ne k4]
        rfl
      rw [ef]
      repeat' first|((with_reducible show V _ _ _ _ _ _);first|refine Z1 rfl ?_|refine Zb rfl rfl ?_|refine Z4 rfl rfl ?_)|((with_reducible show VO _ _ _ _ _ _ _);first|refine Z3 (Zd n20) rfl ?_|refine Z3 (Zd n21) rfl ?_|refine Z3 (Zd n22) rfl ?_|refine Z3 (Zd n23) rfl ?_|refine Z0 rfl ?_|refine Z2 ?_|refine Zg rfl ?_)
      rfl
    ·rw [if_neg h0]
     repeat' first|refine Z4 rfl rfl ?_
     rfl
theorem rule_out {op:Int} {names kd:Nat} (h:¬(1≤op∧op≤60)):Z2s op names kd=(0, 0, false):=by
 unfold Z2s
 rw [if_neg (by omega), if_neg (by omega), if_neg (by omega), if_neg (by omega), if_neg (by omega), if_neg (by omega), if_neg (by omega), if_neg (by omega), if_neg (by omega), if_neg (by omega), if_neg (by omega), if_neg (by omega), if_neg (by omega), if_neg (by omega), if_neg (by omega), if_neg (by omega), if_neg (by omega), if_neg h]
theorem plS_fin (op:Int) (names kd i:Nat):(if (Z2s op names kd).2.2=true then (i&&&(Z2s op names kd).1, (0:Int)) else ((Z2s op names kd).2.1, 0))=((if (plS op names kd).2=true then (plS op names kd).1 else i&&&(Z2s op names kd).1), 0):=by
 unfold plS
 have hout:¬(1≤op∧op≤60)→Z2s op names kd=(0, 0, false):=rule_out
 generalize Z2s op names kd=r at *
 obtain ⟨su, mk, ca⟩:=r
 by_cases h:1≤op∧op≤60
 ·cases ca<;>simp [h]
 ·injection hout h with h1 h2
  injection h2 with h2 h3
  subst h1 h2 h3
  simp [h]
set_option maxHeartbeats 4000000 in
theorem run_rstep17 {n:Nat} {s:Stp} {cs:List PV} (h:SC (n+1) s cs) (hd:∀x q, SL n q x→gdL x→Zp9 q x) (hg:gdS s) (z:Int):
  T.R (.call Z4c [.int .i64 z, .agg cs] (inP (stF s (Zb5 z)))):=by
 obtain ⟨op, names, nums, preds, vals, subs⟩:=s
 have hsu:=run_Suits (Zfd vals) h
 have hpn:=run_plain h
 obtain ⟨m, pa, pb, pc, pd, pe, e, ho, rfl, h1, h2, h3, h4, h5, pla, plb, plc, pld, ple⟩:=Zpj h
 obtain rfl:n=m:=by omega
 obtain ⟨le1, le2, le3⟩:=h5.len
 rw [gdS] at hg
 have e0:=Z1y (k:=.i64) (mask_is z)
 have hi:=Zen z
 generalize Zb5 z=i at *
 have hks:=ruleS_ks op names.length (Zfd vals) (kindS_ks _)
 have hwi:∀(hne:subs≠[]) (j:Nat), KS j→T.R (.call Z7n [.int .i64 (j:Int), .agg [.int .i64 op, pa, pb, pc, pd, pe]] (inP (Z23 op nums (llF subs) j))):=fun hne j hj=>run_nested h2 h5 pla plb plc pld ple hd hg.1 hg.2 hne j hj
 have hfs:llF subs≠[]↔subs≠[]:=by
  rw [ne_eq, ne_eq, ←List.length_eq_zero_iff, llF_len, List.length_eq_zero_iff]
 rw [stF]
 unfold Zmr
 rw [plS_fin]
 have hil:=hi.le
 obtain ⟨ks1, ks2⟩:=hks
 generalize (Z2s op names.length (Zfd vals)).1=su at *
 generalize plS op names.length (Zfd vals)=pq at *
 obtain ⟨mk, ca⟩:=pq
 simp only [] at hpn ⊢
 have hsl:=ks1.le
 have hsk:KS (i&&&su):=Z2v (Zek _ _) hi
 have e1:=Z1y (k:=.i64) (and_is (a:=i) (b:=su) (by omega) (by omega))
 have hsle:=hsk.le
 by_cases c1:i≠0∧i&&&su=0
 ·rw [if_pos c1]
  have f1:¬((i:Int)=0):=by omega
  have f2:(((i&&&su:Nat):Int)=0):=by omega
  refine Z7 rfl rfl ?_
  repeat' first|((with_reducible show V _ _ _ _ _ _);first|refine Z1 rfl ?_|refine Za rfl rfl ?_|refine Z4 rfl rfl ?_)|((with_reducible show VO _ _ _ _ _ _ _);first|refine Z3 e0 rfl ?_|refine Z05 rfl rfl rfl ?_|refine Z6 rfl rfl hsu ?_|refine Z3 e1 rfl ?_|refine Z3 (Z09 f1) rfl ?_|refine Z3 (Z04 f2) rfl ?_|refine Z0 rfl ?_|refine Zc rfl ?_|refine Z2 ?_|refine Zg rfl ?_)
  rfl
 ·rw [if_neg c1]
  by_cases hne:subs≠[]
  ·rw [if_pos (hfs.2 hne)]
   have hw:=hwi hne _ hsk
   have f3:(0:Int)<(subs.length:Int):=by
    have:subs.length≠0:=fun e=>hne (List.length_eq_zero_iff.1 e)
    omega
   unfold inP at hw ⊢
   generalize Z23 op nums (llF subs) (i&&&su)=r at hw ⊢
   by_cases i0:i=0
   ·have f1:((i:Int)=0):=by omega
    refine Z7 rfl rfl ?_
    repeat' first|((with_reducible show V _ _ _ _ _ _);first|refine Z1 rfl ?_|refine Za rfl rfl ?_|refine Zb rfl rfl ?_|refine Z4 rfl rfl ?_)|((with_reducible show VO _ _ _ _ _ _ _);first|refine Z3 e0 rfl ?_|refine Z05 rfl rfl rfl ?_|refine Z6 rfl rfl hsu ?_|refine Z3 e1 rfl ?_|refine Z3 (Z13 f1) rfl ?_|refine Z8 rfl le1 le2 ?_|refine Z3 (Z04 f3) rfl ?_|refine Z6 rfl rfl hw ?_|refine Z0 rfl ?_|refine Zc rfl ?_|refine Z2 ?_|refine Zq rfl rfl ?_)
    rfl
   ·have f1:¬((i:Int)=0):=by omega
    have f2:¬(((i&&&su:Nat):Int)=0):=fun e=>c1 ⟨i0, by omega⟩
    refine Z7 rfl rfl ?_
    repeat' first|((with_reducible show V _ _ _ _ _ _);first|refine Z1 rfl ?_|refine Za rfl rfl ?_|refine Zb rfl rfl ?_|refine Z4 rfl rfl ?_)|((with_reducible show VO _ _ _ _ _ _ _);first|refine Z3 e0 rfl ?_|refine Z05 rfl rfl rfl ?_|refine Z6 rfl rfl hsu ?_|refine Z3 e1 rfl ?_|refine Z3 (Z09 f1) rfl ?_|refine Z3 (Zd f2) rfl ?_|refine Z8 rfl le1 le2 ?_|refine Z3 (Z04 f3) rfl ?_|refine Z6 rfl rfl hw ?_|refine Z0 rfl ?_|refine Zc rfl ?_|refine Z2 ?_|refine Zg rfl ?_)
    rfl
  ·rw [if_neg (fun e=>hne (hfs.1 e))]
   have hnil:subs=[]:=Classical.not_not.1 hne
   have f3:¬(0:Int)<(subs.length:Int):=by rw [hnil];simp
   clear hwi hfs hd hg h5 hne
   by_cases c2:i=0∧op≠35∧op≠39∧op≠48
   ·rw [if_pos c2]
    have f1:((i:Int)=0):=by omega
    refine Z7 rfl rfl ?_
    repeat' first|((with_reducible show V _ _ _ _ _ _);first|refine Z1 rfl ?_|refine Za rfl rfl ?_|refine Zb rfl rfl ?_|refine Z4 rfl rfl ?_)|((with_reducible show VO _ _ _ _ _ _ _);first|refine Z3 e0 rfl ?_|refine Z05 rfl rfl rfl ?_|refine Z6 rfl rfl hsu ?_|refine Z3 e1 rfl ?_|refine Z3 (Z13 f1) rfl ?_|refine Z3 (Z04 f1) rfl ?_|refine Z8 rfl le1 le2 ?_|refine Z3 (Zd f3) rfl ?_|refine Z3 (Z09 c2.2.1) rfl ?_|refine Z3 (Z09 c2.2.2.1) rfl ?_|refine Z3 (Z09 c2.2.2.2) rfl ?_|refine Z0 rfl ?_|refine Zc rfl ?_|refine Z2 ?_|refine Zg rfl ?_|refine Zq rfl rfl ?_)
    rfl
   ·rw [if_neg c2]
    have G:(i=0∧(op=35∨op=39∨op=48))∨(i≠0∧i&&&su≠0):=by
     by_cases i0:i=0
     ·by_cases hop:op=35∨op=39∨op=48
      ·exact .inl ⟨i0, hop⟩
      ·exact absurd ⟨i0, fun e=>hop (.inl e), fun e=>hop (.inr (.inl e)), fun e=>hop (.inr (.inr e))⟩ c2
     ·exact .inr ⟨i0, fun e=>c1 ⟨i0, e⟩⟩
    rcases G with ⟨i0, hop⟩|⟨i0, hs0⟩
    ·have f1:((i:Int)=0):=by omega
     have n40:¬op=40:=by omega
     rw [if_neg n40]
     rcases hop with rfl|rfl|rfl
     all_goals cases ca
     all_goals refine Z7 rfl rfl ?_
     all_goals repeat' first|((with_reducible show V _ _ _ _ _ _);first|refine Z1 rfl ?_|refine Za rfl rfl ?_|refine Zb rfl rfl ?_|refine Z4 rfl rfl ?_)|((with_reducible show VO _ _ _ _ _ _ _);first|refine Z3 e0 rfl ?_|refine Z05 rfl rfl rfl ?_|refine Z6 rfl rfl hsu ?_|refine Z6 rfl rfl hpn ?_|refine Z3 e1 rfl ?_|refine Z3 (Z13 f1) rfl ?_|refine Z3 (Z04 f1) rfl ?_|refine Z8 rfl le1 le2 ?_|refine Z3 (Zd f3) rfl ?_|refine Z0 rfl ?_|refine Zc rfl ?_|refine Z2 ?_|refine Zg rfl ?_|refine Zq rfl rfl ?_)
     all_goals rfl
    ·have f1:¬((i:Int)=0):=by omega
     have f2:¬(((i&&&su:Nat):Int)=0):=by omega
     generalize i&&&su=s at *
     by_cases k40:op=40
     ·subst k40
      rw [if_pos rfl]
      have hu:=run_unfold hsk
      refine Z7 rfl rfl ?_
      repeat' first|((with_reducible show V _ _ _ _ _ _);first|refine Z1 rfl ?_|refine Za rfl rfl ?_|refine Zb rfl rfl ?_|refine Z4 rfl rfl ?_)|((with_reducible show VO _ _ _ _ _ _ _);first|refine Z3 e0 rfl ?_|refine Z05 rfl rfl rfl ?_|refine Z6 rfl rfl hsu ?_|refine Z6 rfl rfl hu ?_|refine Z3 e1 rfl ?_|refine Z3 (Z09 f1) rfl ?_|refine Z3 (Zd f1) rfl ?_|refine Z3 (Zd f2) rfl ?_|refine Z8 rfl le1 le2 ?_|refine Z3 (Zd f3) rfl ?_|refine Z0 rfl ?_|refine Zc rfl ?_|refine Z2 ?_|refine Zg rfl ?_|refine Zq rfl rfl ?_)
      rfl
     ·rw [if_neg k40]
      cases ca
      all_goals refine Z7 rfl rfl ?_
      all_goals repeat' first|((with_reducible show V _ _ _ _ _ _);first|refine Z1 rfl ?_|refine Za rfl rfl ?_|refine Zb rfl rfl ?_|refine Z4 rfl rfl ?_)|((with_reducible show VO _ _ _ _ _ _ _);first|refine Z3 e0 rfl ?_|refine Z05 rfl rfl rfl ?_|refine Z6 rfl rfl hsu ?_|refine Z6 rfl rfl hpn ?_|refine Z3 e1 rfl ?_|refine Z3 (Z09 f1) rfl ?_|refine Z3 (Zd f1) rfl ?_|refine Z3 (Zd f2) rfl ?_|refine Z8 rfl le1 le2 ?_|refine Z3 (Zd f3) rfl ?_|refine Z3 (Zd k40) rfl ?_|refine Z0 rfl ?_|refine Zc rfl ?_|refine Z2 ?_|refine Zg rfl ?_|refine Zq rfl rfl ?_)
      all_goals rfl
theorem rinfer_loop {n:Nat} {p:PV} {l:List Stp} (hp:SL n p l) (hs:∀s∈l, ∀cs, SC n s cs→∀z:Int, T.R (.call Z4c [.int .i64 z, .agg cs] (inP (stF s (Zb5 z))))):∀(rest pre:List Stp) (z:Int), l=pre++rest→
  V T (PE fun x e st'=>(x=.exit 0∧∃m:Int, e=Zi [(0, .int .i64 m)]∧Zmt (lF rest) (Zb5 z)=(Zb5 m, 0))∨(x=.ret∧∃c:Int, e=Zi [(4, .int .i64 0), (5, .int .i64 c)]∧Zmt (lF rest) (Zb5 z)=(0, c)))
   [.code (.loop Z4x)] .normal (Zi [(0, .int .i64 z), (1, p), (6, .int .i64 pre.length)]) emptySt:=by
 have plp:Pl p:=SL.pl hp
 obtain ⟨lp1, lp2, lp3⟩:=hp.len
 intro rest
 induction rest with
 |nil=>
  intro pre z ha
  have hlt:¬(pre.length:Int)<l.length:=by subst ha;simp
  refine Ze ?_
  repeat' first|((with_reducible show V _ _ _ _ _ _);first|refine Z72 rfl rfl hlt ?_|refine Z0o [(0, .int .i64 z)] rfl ⟨rfl, trivial⟩ (.inl ⟨rfl, _, rfl, rfl⟩)|refine Z1 rfl ?_)|((with_reducible show VO _ _ _ _ _ _ _);first|refine Z8 rfl lp1 lp2 ?_|refine Z0 rfl ?_|refine Z2 ?_)
 |cons y rest ih=>
  intro pre z ha
  have hlt:(pre.length:Int)<l.length:=by subst ha;simp;omega
  have hll:pre.length<l.length:=by subst ha;simp
  have hy:l[pre.length]?=some y:=by subst ha;simp
  obtain ⟨cy, ay, hc⟩:=SL.at hp hy
  have hcall:=hs y (by subst ha;simp) cy hc z
  have hw:IntKind.i64.wrap ((pre.length:Int)+1)=((pre++[y]).length:Int):=by rw [Z00];simp;omega
  have plc:=hc.pl
  have len6:=hc.len6
  have hks:=(stF_mono y).1 _ (Zen z)
  have hi':=ih (pre++[y]) ((stF y (Zb5 z)).1:Int) (by rw [ha];simp)
  rw [maskI_nat hks] at hi'
  rw [lF, Zmt]
  unfold inP at hcall
  generalize stF y (Zb5 z)=r at hcall hi' ⊢
  refine Ze ?_
  by_cases c1:r.2=0
  ·rw [if_pos c1]
   repeat' first|((with_reducible show V _ _ _ _ _ _);first|refine Z1e rfl rfl hlt ?_|refine Zef rfl hi' ⟨rfl, rfl, Z03 hw, trivial⟩|refine Z1 rfl ?_|refine Zb rfl rfl ?_)|((with_reducible show VO _ _ _ _ _ _ _);first|refine Z8 rfl lp1 lp2 ?_|refine Zn rfl rfl ay ?_|refine Z0j rfl len6 ?_|refine Z6 rfl rfl hcall ?_|refine Z3 (Z13 c1) rfl ?_|refine Z0 rfl ?_|refine Z2 ?_)
  ·rw [if_neg c1]
   repeat' first|((with_reducible show V _ _ _ _ _ _);first|refine Z1e rfl rfl hlt ?_|refine Z0o [(4, .int .i64 0), (5, .int .i64 r.2)] rfl ⟨rfl, rfl, trivial⟩ (.inr ⟨rfl, _, rfl, rfl⟩)|refine Z1 rfl ?_|refine Za rfl rfl ?_)|((with_reducible show VO _ _ _ _ _ _ _);first|refine Z8 rfl lp1 lp2 ?_|refine Zn rfl rfl ay ?_|refine Z0j rfl len6 ?_|refine Z6 rfl rfl hcall ?_|refine Z3 (Z09 c1) rfl ?_|refine Z0 rfl ?_|refine Z2 ?_)
theorem Zhw {n:Nat} {p:PV} {l:List Stp} (hp:SL n p l) (hs:∀s∈l, ∀cs, SC n s cs→∀z:Int, T.R (.call Z4c [.int .i64 z, .agg cs] (inP (stF s (Zb5 z))))):Zp9 p l:=by
 intro z
 have hl:=rinfer_loop hp hs l [] z rfl
 unfold Zkv
 refine Z7 rfl rfl ?_
 repeat' first|refine Z0g rfl hl ⟨rfl, rfl, rfl, trivial⟩ ?_|refine Z1 rfl ?_|refine Z0 rfl ?_|refine Z2 ?_
 rintro x e' st' (⟨rfl, m, rfl, hm⟩|⟨rfl, c, rfl, hm⟩)
 ·rw [hm]
  have e1:=Z1y (k:=.i64) (mask_is m)
  repeat' first|refine Z1 rfl ?_|refine Z4 rfl rfl ?_|((with_reducible show VO _ _ _ _ _ _ _);first|refine Z3 e1 rfl ?_|refine Z0 rfl ?_|refine Z2 ?_)
  rfl
 ·rw [hm]
  repeat' first|refine Z4 rfl rfl ?_
  rfl
theorem Zpl:∀(n:Nat) (l:List Stp) (p:PV), SL n p l→gdL l→Zp9 p l
 |0, l, p, hp, _=>Zhw hp (fun s _ cs h=>h.elim)
 |n+1, l, p, hp, hg=>Zhw hp (fun s hs cs h z=>run_rstep17 h (fun x q hq hgx=>Zpl n x q hq hgx) (gdL_mem hg s hs) z)
theorem Zpn {n:Nat} {l:List Stp} {p:PV} (hp:SL n p l) (i:Int):T.R (.call Zgv [.int .i64 i, p] (inP (infS i l))):=by
 have h:=Zpq hp
 have plp:Pl p:=SL.pl hp
 unfold infS
 by_cases hc:Zl2 l=0
 ·rw [if_pos hc]
  have hg:gdL l:=gdL_of l (okL1_all.2 (okL_all.1 (chk_okX hc)).2)
  have hi:=Zpl n l p hp hg i
  rw [hc] at h
  unfold inP at hi ⊢
  generalize Zkv i l=r at hi ⊢
  refine Z7 rfl rfl ?_
  repeat' first|((with_reducible show V _ _ _ _ _ _);first|refine Z1 rfl ?_|refine Zb rfl rfl ?_|refine Z4 rfl rfl ?_)|((with_reducible show VO _ _ _ _ _ _ _);first|refine Z6 rfl rfl h ?_|refine Z6 rfl rfl hi ?_|refine Z0 rfl ?_|refine Z2 ?_)
  rfl
 ·rw [if_neg hc]
  generalize Zl2 l=c at *
  refine Z7 rfl rfl ?_
  repeat' first|((with_reducible show V _ _ _ _ _ _);first|refine Z1 rfl ?_|refine Za rfl rfl ?_|refine Z4 rfl rfl ?_)|((with_reducible show VO _ _ _ _ _ _ _);first|refine Z6 rfl rfl h ?_|refine Z3 (Z09 hc) rfl ?_|refine Z0 rfl ?_|refine Z2 ?_)
  rfl
theorem again_in {n:Nat} {pe:PV} {subs:List (List Stp)} (hp:LR (SubC (SC n)) pe subs) (st:St) (hd:∀x∈subs, ∀q, SL n q x→∃a:Int, T.R (.call Z0w [q] (.int .i64 a))) (p:PV) (L I A:Int) (plp:Pl p) (cs:List PV):
  ∀(rest pre:List (List Stp)) (M:Int), subs=pre++rest→
  V T (PE fun x e st'=>st'=st∧x=.exit 2∧∃a:Int, e=Zi [(3, .int .i64 A), (5, .ptr 0 0), (6, .int .i64 a), (9, p), (10, .int .i64 L), (11, .int .i64 I)])
   [.code (.loop Z53)] .normal (Zi [(3, .int .i64 A), (5, .ptr 0 0), (6, .int .i64 M), (9, p), (10, .int .i64 L), (11, .int .i64 I), (16, pe), (17, .int .i64 subs.length), (18, .int .i64 pre.length)]) st:=by
 have ple:Pl pe:=LR.pl hp fun _ _ _ h=>h.pl fun _ _ h=>h.pl
 obtain ⟨le1, le2, le3⟩:=hp.len
 intro rest
 induction rest with
 |nil=>
  intro pre M ha
  have hlt:¬(pre.length:Int)<subs.length:=by subst ha;simp
  refine Ze ?_
  repeat' first|((with_reducible show V _ _ _ _ _ _);first|refine Z72 rfl rfl hlt ?_|refine Z0o [(3, .int .i64 A), (5, .ptr 0 0), (6, .int .i64 M), (9, p), (10, .int .i64 L), (11, .int .i64 I)] rfl ⟨rfl, rfl, rfl, rfl, rfl, rfl, trivial⟩ ⟨rfl, rfl, _, rfl⟩|refine Z1 rfl ?_)|refine Z0 rfl ?_|refine Z2 ?_
 |cons y rest ih=>
  intro pre M ha
  have hlt:(pre.length:Int)<subs.length:=by subst ha;simp;omega
  have hll:pre.length<subs.length:=by subst ha;simp
  have hy:subs[pre.length]?=some y:=by subst ha;simp
  obtain ⟨cy, ay, q, rfl, hq⟩:=hp.at (sz:=1) (fun _ _ h=>h.len1) hy
  have plq:=SL.pl hq
  obtain ⟨a, hcall⟩:=hd y (by subst ha;simp) q hq
  have hw:IntKind.i64.wrap ((pre.length:Int)+1)=((pre++[y]).length:Int):=by rw [Z00];simp;omega
  have hi:=ih (pre++[y]) (mxI M a) (by rw [ha];simp)
  refine Ze ?_
  repeat' first|((with_reducible show V _ _ _ _ _ _);first|refine Z1e rfl rfl hlt ?_|refine Zef rfl hi ⟨rfl, rfl, rfl, rfl, rfl, rfl, rfl, rfl, Z03 hw, trivial⟩|refine Z1 rfl ?_)|((with_reducible show VO _ _ _ _ _ _ _);first|refine Zn rfl rfl ay ?_|refine Z6 rfl rfl hcall ?_|refine Z3 (mx_is _ _) rfl ?_|refine Z0 rfl ?_|refine Z2 ?_)
theorem again_out {n:Nat} {p:PV} {l:List Stp} (hp:SL (n+1) p l) (hd:∀x, ∀q, SL n q x→∃a:Int, T.R (.call Z0w [q] (.int .i64 a))):
  ∀(rest pre:List Stp) (A:Int), l=pre++rest→
  V T (PE fun x e st'=>x=.exit 0∧∃a:Int, e=Zi [(3, .int .i64 a)]) [.code (.loop Z52)] .normal (Zi [(3, .int .i64 A), (9, p), (10, .int .i64 l.length), (11, .int .i64 pre.length)]) emptySt:=by
 have plp:Pl p:=SL.pl hp
 obtain ⟨lp1, lp2, lp3⟩:=hp.len
 intro rest
 induction rest with
 |nil=>
  intro pre A ha
  have hlt:¬(pre.length:Int)<l.length:=by subst ha;simp
  refine Ze ?_
  repeat' first|((with_reducible show V _ _ _ _ _ _);first|refine Z72 rfl rfl hlt ?_|refine Z0o [(3, .int .i64 A)] rfl ⟨rfl, trivial⟩ ⟨rfl, _, rfl⟩|refine Z1 rfl ?_)|refine Z0 rfl ?_|refine Z2 ?_
 |cons y rest ih=>
  intro pre A ha
  have hlt:(pre.length:Int)<l.length:=by subst ha;simp;omega
  have hll:pre.length<l.length:=by subst ha;simp
  have hy:l[pre.length]?=some y:=by subst ha;simp
  obtain ⟨cy, ay, hc⟩:=SL.at hp hy
  have onec:=hc.one
  have len6:=hc.len6
  have hw:IntKind.i64.wrap ((pre.length:Int)+1)=((pre++[y]).length:Int):=by rw [Z00];simp;omega
  have hi:=fun A=>ih (pre++[y]) A (by rw [ha];simp)
  obtain ⟨op, names, nums, preds, vals, subs⟩:=y
  obtain ⟨m, pa, pb, pc, pd, pe, em, ho, rfl, h1, h2, h3, h4, h5, pla, plb, plc, pld, ple⟩:=(Zpj hc)
  obtain rfl:n=m:=by omega
  obtain ⟨le1, le2, le3⟩:=h5.len
  have hin:=again_in h5 ((emptySt.new (.var [.int .i64 0, .nilSl, .nilSl, .nilSl, .nilSl, .nilSl])).put 0 (.var [.int .i64 op, pa, pb, pc, pd, pe])) (fun x _ q hq=>hd x q hq) p l.length pre.length A plp [] subs [] 0 rfl
  refine Ze ?_
  repeat' first|((with_reducible show V _ _ _ _ _ _);first|refine Z1e rfl rfl hlt ?_|refine Z0g rfl hin ⟨rfl, rfl, rfl, rfl, rfl, rfl, rfl, rfl, rfl, trivial⟩ ?_|refine Z1 rfl ?_)|((with_reducible show VO _ _ _ _ _ _ _);first|refine Zn rfl rfl ay ?_|refine Z0j rfl len6 ?_|refine Z0 rfl ?_|refine Z0f rfl rfl onec rfl rfl rfl rfl ?_|refine Z8 rfl le1 le2 ?_|refine Zc rfl ?_|refine Z2 ?_)
  rintro x e' st' ⟨rfl, rfl, a, rfl⟩
  repeat' first|((with_reducible show V _ _ _ _ _ _);first|refine Za rfl rfl ?_|refine V_cS rfl rfl (fun _=>?_) (fun _=>?_)|refine V_reF rfl (hi _) rfl ⟨rfl, rfl, rfl, Z03 hw, trivial⟩ ⟨.int _ _, plp, .int _ _, .int _ _, trivial⟩|refine Z1 rfl ?_)|((with_reducible show VO _ _ _ _ _ _ _);first|refine Z3 (mx_is _ _) rfl ?_|refine Z0 rfl ?_|refine Z2 ?_|refine Zg rfl ?_|refine Zq rfl rfl ?_|refine Zei rfl (fun _=>?_) (fun _=>?_))
theorem run_again:∀(n:Nat) (l:List Stp) (p:PV), SL n p l→∃a:Int, T.R (.call Z0w [p] (.int .i64 a)):=by
 have main:∀(n:Nat) (l:List Stp) (p:PV), SL (n+1) p l→(∀(l:List Stp) (p:PV), SL n p l→∃a:Int, T.R (.call Z0w [p] (.int .i64 a)))→∃a:Int, T.R (.call Z0w [p] (.int .i64 a)):=by
  intro n l p hp ih
  obtain ⟨lp1, lp2, lp3⟩:=hp.len
  have hout:=again_out hp (fun x q hq=>ih x q hq) l [] 0 rfl
  have h:∃r, T.R (.call Z0w [p] r)∧∃a:Int, r=.int .i64 a:=by
   refine Z95 rfl rfl ?_
   repeat' first|refine Z0g rfl hout ⟨rfl, rfl, rfl, rfl, trivial⟩ ?_|refine Z1 rfl ?_|((with_reducible show VO _ _ _ _ _ _ _);first|refine Z8 rfl lp1 lp2 ?_|refine Z0 rfl ?_|refine Z2 ?_)
   rintro x e' st' ⟨rfl, a, rfl⟩
   repeat' first|refine Z1 rfl ?_|refine Z4 rfl rfl ?_|refine Z0 rfl ?_|refine Z2 ?_
   exact ⟨_, rfl⟩
  obtain ⟨r, h1, a, rfl⟩:=h
  exact ⟨a, h1⟩
 intro n
 induction n with
 |zero=>exact fun l p hp=>main 0 l p (hp.mono fun _ _ _ h=>h.elim) (fun l p hp=>by
   have hl:l=[]:=by
    cases l with
    |nil=>rfl
    |cons s r=>
     obtain ⟨cs, _, h⟩:=SL.at hp (j:=0) (s:=s) rfl
     exact h.elim
   subst hl
   obtain ⟨lp1, lp2, lp3⟩:=hp.len
   have hlt:¬(0:Int)<(([]:List Stp).length:Int):=by simp
   refine ⟨0, ?_⟩
   refine Z7 rfl rfl ?_
   repeat' first|((with_reducible show V _ _ _ _ _ _);first|refine Za8 rfl (Ze ?_)|refine Z1 rfl ?_|refine Zb rfl rfl ?_|refine Z4 rfl rfl ?_)|((with_reducible show VO _ _ _ _ _ _ _);first|refine Z8 rfl lp1 lp2 ?_|refine Z0 rfl ?_|refine Z2 ?_)
   rfl)
 |succ n ih=>exact fun l p hp=>main n l p hp ih
set_option maxHeartbeats 8000000 in
theorem run_Kinds {n:Nat} {l:List Stp} {p:PV} (hp:SL n p l) (hcn':Zk l≤1048576) (a:Int):T.R (.call Z9a [.int .i64 a, p] (.bool true)):=by
 have hcn:Zk l≤134217728:=by omega
 have plp:=SL.pl hp
 obtain ⟨b, hf⟩:=run_few n l p 1 hp
 obtain ⟨g, hg⟩:=run_again n l p hp
 have hbg:=run_begun
 obtain ⟨q1, h1, h2⟩:=Zmz hp hcn
 cases b with
 |false=>
  refine Z7 rfl rfl ?_
  repeat' first|((with_reducible show V _ _ _ _ _ _);first|refine Z1 rfl ?_|refine Za rfl rfl ?_|refine Z4 rfl rfl ?_)|((with_reducible show VO _ _ _ _ _ _ _);first|refine Z6 rfl rfl hf ?_|refine Z0 rfl ?_|refine Z2 ?_|refine Zq rfl rfl ?_)
  rfl
 |true=>
  by_cases c1:2<g
  ·refine Z7 rfl rfl ?_
   repeat' first|((with_reducible show V _ _ _ _ _ _);first|refine Z1 rfl ?_|refine Za rfl rfl ?_|refine Z4 rfl rfl ?_)|((with_reducible show VO _ _ _ _ _ _ _);first|refine Z6 rfl rfl hf ?_|refine Z6 rfl rfl hg ?_|refine Z3 (Z04 c1) rfl ?_|refine Z0 rfl ?_|refine Z2 ?_|refine Zg rfl ?_)
   rfl
  ·rcases h2 with ⟨h0, hq1⟩|⟨h0, rfl⟩
   ·have h01:Zl2 (rwL l)=0:=chk_rw h0 hcn'
    have plq1:=SL.pl hq1
    have hi:=Zpn hp a
    have hj:=Zpn hq1 a
    have hks:=infS_ks a l
    have hre:(infS a l).2=0→infS a (rwL l)=infS a l:=fun e=>by
     unfold infS at e ⊢
     rw [if_pos h0] at e ⊢
     rw [if_pos h01]
     exact rwL_ref (chk_okX h0) (Zb5 a) (Zen a) e
    rw [h0] at h1
    unfold inP at hi hj
    generalize infS a l=r1 at *
    generalize infS a (rwL l)=r2 at *
    by_cases c2:r1.2=0
    ·obtain rfl:=hre c2
     have fin:PV.int .i64 (IntKind.i64.wrap ((BitVec.ofInt 64 (r2.1:Int) &&& ~~~ BitVec.ofInt 64 (r2.1:Int)).toNat:Int))=PV.int .i64 0:=Z1y (Zmn hks hks (Zej _))
     refine Z7 rfl rfl ?_
     repeat' first|((with_reducible show V _ _ _ _ _ _);first|refine Z1 rfl ?_|refine Zb rfl rfl ?_|refine Z4 rfl rfl ?_)|((with_reducible show VO _ _ _ _ _ _ _);first|refine Z6 rfl rfl hf ?_|refine Z6 rfl rfl hg ?_|refine Z3 (Zd c1) rfl ?_|refine Z6 rfl rfl h1 ?_|refine Z6 rfl rfl hbg ?_|refine Z6 rfl rfl hi ?_|refine Z6 rfl rfl hj ?_|refine Z3 (Z13 c2) rfl ?_|refine Z3 (Z04 c2) rfl ?_|refine Z3 fin rfl ?_|refine Z0 rfl ?_|refine Z2 ?_|refine Zg rfl ?_)
     rfl
    ·refine Z7 rfl rfl ?_
     repeat' first|((with_reducible show V _ _ _ _ _ _);first|refine Z1 rfl ?_|refine Zb rfl rfl ?_|refine Z4 rfl rfl ?_)|((with_reducible show VO _ _ _ _ _ _ _);first|refine Z6 rfl rfl hf ?_|refine Z6 rfl rfl hg ?_|refine Z3 (Zd c1) rfl ?_|refine Z6 rfl rfl h1 ?_|refine Z6 rfl rfl hbg ?_|refine Z6 rfl rfl hi ?_|refine Z6 rfl rfl hj ?_|refine Z3 (Z09 c2) rfl ?_|refine Z0 rfl ?_|refine Z2 ?_|refine Zg rfl ?_|refine O_gU' rfl ?_|refine Zq rfl rfl ?_)
     rfl
   ·have d2:=Z09 (p:=Zl2 l=0) h0
    refine Z7 rfl rfl ?_
    repeat' first|((with_reducible show V _ _ _ _ _ _);first|refine Z1 rfl ?_|refine Za rfl rfl ?_|refine Zb rfl rfl ?_|refine Z4 rfl rfl ?_)|((with_reducible show VO _ _ _ _ _ _ _);first|refine Z6 rfl rfl hf ?_|refine Z6 rfl rfl hg ?_|refine Z3 (Zd c1) rfl ?_|refine Z6 rfl rfl h1 ?_|refine Z6 rfl rfl hbg ?_|refine Z3 d2 rfl ?_|refine Z0 rfl ?_|refine Z2 ?_|refine Zg rfl ?_)
    rfl
end Go.Proofs.YtnedeokclnbcpaaGreatDoor
