/- begun: its text. · begun: true. · Kinds of what comes of steps: plain laws. -/
import Derived.Test.YtnedeokclnbcpaaGreatDoorRwUToRwBa
import Derived.Test.YtnedeokclnbcpaaGreatDoorStpEToStpF
import Derived.Test.YtnedeokclnbcpaaGreatDoorGenAToNameB
set_option linter.unusedVariables false
set_option linter.unusedSimpArgs false
namespace Go.Proofs.YtnedeokclnbcpaaGreatDoor
open Go Go.AM Go.RowKit
theorem w_1:Zer 1=[86]:=by decide +kernel
theorem w_24:Zer 24=[100, 101, 100, 117, 112]:=by decide +kernel
theorem w_20:Zer 20=[119, 104, 101, 114, 101]:=by decide +kernel
theorem w_5:Zer 5=[111, 117, 116]:=by decide +kernel
theorem Zk3 {n:Nat} {op:Int} {subs:List (List Stp)} {cs:List PV} (h:SC n (Zh op subs) cs):∃m pa pb pc pd pe, n=m+1∧Zr op∧cs=[.int .i64 op, pa, pb, pc, pd, pe]∧LR NmC pa []∧LR NuC pb []∧LR PrC pc []∧LR VC pd []∧LR (SubC (SC m)) pe subs∧Pl pa∧Pl pb∧Pl pc∧Pl pd∧Pl pe:=Zpj h
set_option maxHeartbeats 4000000 in
theorem Zmy {n:Nat} {op:Int} {cs:List PV} (h:SC n (Zh op []) cs):T.R (.call Z27 [.agg cs] .nilSl):=by
 obtain ⟨m, pa, pb, pc, pd, pe, rfl, io, rfl, h1, h2, h3, h4, h5, pla, plb, plc, pld, ple⟩:=Zk3 h
 obtain ⟨a1, a2, _⟩:=h1.len
 obtain ⟨b1, b2, _⟩:=h2.len
 obtain ⟨c1, c2, _⟩:=h3.len
 obtain ⟨d1, d2, _⟩:=h4.len
 obtain ⟨e1, e2, _⟩:=h5.len
 obtain ⟨S, hS⟩:∃S, emptySt.new (.var [.int .i64 op, pa, pb, pc, pd, pe])=S:=⟨_, rfl⟩
 have g:S.get 0=some (.var [.int .i64 op, pa, pb, pc, pd, pe]):=by rw [←hS];exact St.get_new
 have hlt:decide ((0:Int)<((0:Nat):Int))=false:=by decide
 refine Z7 rfl rfl ?_
 repeat' first|((with_reducible show V _ _ _ _ _ _);first|refine Za8 rfl (Ze ?_)|refine Z9l hlt rfl rfl ?_|refine Z1 rfl ?_|refine Z4 rfl rfl ?_)|((with_reducible show VO _ _ _ _ _ _ _);first|refine Zlc hS rfl rfl ?_|refine Z0 (ldv g rfl rfl) ?_|refine Z8 rfl a1 a2 ?_|refine Z8 rfl b1 b2 ?_|refine Z8 rfl c1 c2 ?_|refine Z8 rfl d1 d2 ?_|refine Z8 rfl e1 e2 ?_|refine Z0 rfl ?_|refine Z2 ?_)
 rfl
set_option maxHeartbeats 4000000 in
theorem run_text5 {n:Nat} {p:PV} (hp:SL n p [Zh 5 []]):T.R (.call Z9z [p] (.str [111, 117, 116, 40, 41])):=by
 obtain ⟨cs, ay, hcs⟩:=SL.at hp (j:=0) (s:=Zh 5 []) rfl
 obtain ⟨p1, p2, _⟩:=hp.len
 have ha:=Zmy hcs
 have c6:=hcs.len6
 obtain ⟨m, pa, pb, pc, pd, pe, rfl, io, rfl, h1, h2, h3, h4, h5, pla, plb, plc, pld, ple⟩:=Zk3 hcs
 have hw:=Z85 (op:=5) (by simp [Zr])
 rw [w_5] at hw
 refine Z7 rfl rfl ?_
 repeat' first|((with_reducible show V _ _ _ _ _ _);first|refine Za8 rfl (Ze ?_)|refine Z1 rfl ?_|refine Za rfl rfl ?_|refine Zb rfl rfl ?_|refine Z4 rfl rfl ?_)|((with_reducible show VO _ _ _ _ _ _ _);first|refine Z8 rfl p1 p2 ?_|refine Zn rfl rfl ay ?_|refine Z0j rfl c6 ?_|refine Z6 rfl rfl hw ?_|refine Z6 rfl rfl ha ?_|refine Z0 rfl ?_|refine Z2 ?_)
 rfl
def outT:List UInt8:=[111, 117, 116, 40, 41]
set_option maxHeartbeats 4000000 in
theorem run_args1 {n:Nat} {op:Int} {cs:List PV} (h:SC n (Zh op [[Zh 5 []]]) cs):∃q, T.R (.call Z27 [.agg cs] q)∧LR NmC q [outT]:=by
 obtain ⟨m, pa, pb, pc, pd, pe, rfl, io, rfl, h1, h2, h3, h4, h5, pla, plb, plc, pld, ple⟩:=Zk3 h
 obtain ⟨a1, a2, _⟩:=h1.len
 obtain ⟨b1, b2, _⟩:=h2.len
 obtain ⟨c1, c2, _⟩:=h3.len
 obtain ⟨d1, d2, _⟩:=h4.len
 obtain ⟨e1, e2, _⟩:=h5.len
 obtain ⟨ds, ay, hds⟩:=h5.at (sz:=1) (fun _ _ h=>by obtain ⟨_, rfl, _⟩:=h;rfl) (j:=0) (a:=[Zh 5 []]) rfl
 obtain ⟨w, rfl, hw⟩:=hds
 have plw:Pl w:=SL.pl hw
 have ht:=run_text5 hw
 obtain ⟨S, hS⟩:∃S, emptySt.new (.var [.int .i64 op, pa, pb, pc, pd, pe])=S:=⟨_, rfl⟩
 have g:S.get 0=some (.var [.int .i64 op, pa, pb, pc, pd, pe]):=by rw [←hS];exact St.get_new
 have n0:S.next=1:=by rw [←hS];rfl
 obtain ⟨v', S2, r1, r2, r3⟩:=(AccR.nil (R:=NmC) (sz:=1) (st:=S)).app (a:=outT) (cs:=[.str outT]) (bytes:=16) ⟨by decide, rfl⟩ (by decide)
 have g2:S2.get 0=some (.var [.int .i64 op, pa, pb, pc, pd, pe]):=(r3.2.2.2 0 (by omega) (by simp [Z0k])).trans g
 obtain ⟨q, x1, x2⟩:=r2.view (fun _ _ h=>h.pl) (by decide)
 have hlt:decide ((0:Int)<((0:Nat):Int))=false:=by decide
 have hok:okEls 1 [[.str outT]]=true:=rfl
 have key:∃r, T.R (.call Z27 [.agg [.int .i64 op, pa, pb, pc, pd, pe]] r)∧r=q:=by
  refine Z95 rfl rfl ?_
  repeat' first|((with_reducible show V _ _ _ _ _ _);first|refine Zok rfl rfl x1 rfl|refine Za8 rfl (Ze ?_)|refine Z9l hlt rfl rfl ?_|refine Z1 rfl ?_|refine Za rfl rfl ?_)|((with_reducible show VO _ _ _ _ _ _ _);first|refine Zlc hS rfl rfl ?_|refine Z0 (ldv g rfl rfl) ?_|refine Z0 (ldv g2 rfl rfl) ?_|refine Z8 rfl a1 a2 ?_|refine Z8 rfl b1 b2 ?_|refine Z8 rfl c1 c2 ?_|refine Z8 rfl d1 d2 ?_|refine Z8 rfl e1 e2 ?_|refine Zn rfl rfl ay ?_|refine Z6 rfl rfl ht ?_|refine Z84 rfl rfl rfl hok (by decide) (by decide) r1 ?_|refine Z0 rfl ?_|refine Z2 ?_)
 obtain ⟨r, r1, rfl⟩:=key
 exact ⟨r, r1, x2⟩
def bgT:List UInt8:=[86, 40, 41, 46, 100, 101, 100, 117, 112, 40, 41, 46, 119, 104, 101, 114, 101, 40, 111, 117, 116, 40, 41, 41]
set_option maxHeartbeats 8000000 in
theorem run_textB {n:Nat} {p:PV} (hp:SL n p bgM):T.R (.call Z9z [p] (.str bgT)):=by
 obtain ⟨cs, ay, hcs⟩:=SL.at hp (j:=0) (s:=Zh 1 []) rfl
 obtain ⟨ds, by_, hds⟩:=SL.at hp (j:=1) (s:=Zh 24 []) rfl
 obtain ⟨es, cy, hes⟩:=SL.at hp (j:=2) (s:=Zh 20 [[Zh 5 []]]) rfl
 obtain ⟨p1, p2, _⟩:=hp.len
 have ha:=Zmy hcs
 have hb:=Zmy hds
 obtain ⟨q, hc, hq⟩:=run_args1 hes
 obtain ⟨q1, q2, _⟩:=hq.len
 obtain ⟨xs, qy, hxs⟩:=hq.at (sz:=1) (fun _ _ h=>h.len1) (j:=0) (a:=outT) rfl
 obtain ⟨_, rfl⟩:=hxs
 have c6:=hcs.len6
 have d6:=hds.len6
 have e6:=hes.len6
 obtain ⟨_, pa, pb, pc, pd, pe, _, io, rfl, _, _, _, _, _, pla, plb, plc, pld, ple⟩:=Zk3 hcs
 obtain ⟨_, qa, qb, qc, qd, qe, _, io', rfl, _, _, _, _, _, qla, qlb, qlc, qld, qle⟩:=Zk3 hds
 obtain ⟨_, ra, rb, rc, rd, re, _, io'', rfl, _, _, _, _, _, rla, rlb, rlc, rld, rle⟩:=Zk3 hes
 have w1:=Z85 (op:=1) (by simp [Zr])
 have w2:=Z85 (op:=24) (by simp [Zr])
 have w3:=Z85 (op:=20) (by simp [Zr])
 rw [w_1] at w1
 rw [w_24] at w2
 rw [w_20] at w3
 refine Z7 rfl rfl ?_
 repeat' first|((with_reducible show V _ _ _ _ _ _);first|refine Za8 rfl (Ze ?_)|refine Z1 rfl ?_|refine Za rfl rfl ?_|refine Zb rfl rfl ?_|refine Z4 rfl rfl ?_)|((with_reducible show VO _ _ _ _ _ _ _);first|refine Z8 rfl p1 p2 ?_|refine Z8 rfl q1 q2 ?_|refine Zn rfl rfl ay ?_|refine Zn rfl rfl by_ ?_|refine Zn rfl rfl cy ?_|refine Zn rfl rfl qy ?_|refine Z0j rfl c6 ?_|refine Z6 rfl rfl w1 ?_|refine Z6 rfl rfl w2 ?_|refine Z6 rfl rfl w3 ?_|refine Z6 rfl rfl ha ?_|refine Z6 rfl rfl hb ?_|refine Z6 rfl rfl hc ?_|refine Z0 rfl ?_|refine Z2 ?_)
 rfl
theorem chk_bgM:Zl2 bgM=0:=by decide +kernel
theorem chk_bgL:Zl2 bgL=0:=by decide +kernel
theorem run_PrintB {n:Nat} {p:PV} (hp:SL n p bgM):T.R (.call Zgx [p] (.tuple [.str (103::46::bgT), .int .i64 0])):=by
 have hc:=Zpq hp
 rw [chk_bgM] at hc
 have ht:=run_textB hp
 have plp:=SL.pl hp
 refine Z7 rfl rfl ?_
 repeat' first|((with_reducible show V _ _ _ _ _ _);first|refine Z1 rfl ?_|refine Zb rfl rfl ?_|refine Z4 rfl rfl ?_)|((with_reducible show VO _ _ _ _ _ _ _);first|refine Z6 rfl rfl hc ?_|refine Z6 rfl rfl ht ?_|refine Z0 rfl ?_|refine Z2 ?_)
 rfl
theorem lr_one {α:Type} {R:α→List PV→Prop} {a:α} {cs:List PV} (h:R a cs):LR R (.sl [cs] true) [a]:=.inr ⟨_, true, rfl, by simp, rfl, fun j b ds h1 h2=>by
 cases j with
 |zero=>simp at h1 h2;subst h1 h2;exact h
 |succ j=>simp at h1⟩
def cl (op:Int):List PV:=[.int .i64 op, .nilSl, .nilSl, .nilSl, .nilSl, .nilSl]
def cl1 (op:Int) (q:PV):List PV:=[.int .i64 op, .nilSl, .nilSl, .nilSl, .nilSl, q]
theorem sc_cl {n:Nat} {op:Int} (h:Zr op):SC (n+1) (Zh op []) (cl op):=Zan h (.inl ⟨rfl, rfl⟩)
def bgI:PV:=.sl [cl 5, cl 44] true
def bgN:List PV:=cl1 21 (.sl [[bgI]] true)
def bgO:List PV:=cl1 21 (.sl [[.sl [bgN] true]] true)
def bgP:PV:=.sl [cl 1, cl 60, cl 24, cl 24, bgO] true
theorem sl_bg:SL 3 bgP bgL:=by
 have i5:Zr 5:=by simp [Zr]
 have hI:SL 1 bgI [Zh 5 [], Zh 44 []]:=.inr ⟨_, true, rfl, by simp, rfl, fun j s cs h1 h2=>by
  match j, h1, h2 with
  |0, h1, h2=>simp at h1 h2;subst h1 h2;exact sc_cl (by simp [Zr])
  |1, h1, h2=>simp at h1 h2;subst h1 h2;exact sc_cl (by simp [Zr])
  |j+2, h1, h2=>simp at h1⟩
 have hN:SC 2 (Zh 21 [[Zh 5 [], Zh 44 []]]) bgN:=Zan (by simp [Zr]) (lr_one ⟨_, rfl, hI⟩)
 have hO:SC 3 (Zh 21 [[Zh 21 [[Zh 5 [], Zh 44 []]]]]) bgO:=Zan (by simp [Zr]) (lr_one ⟨_, rfl, lr_one hN⟩)
 exact .inr ⟨_, true, rfl, by simp [bgL], rfl, fun j s cs h1 h2=>by
  unfold bgL at h1
  match j, h1, h2 with
  |0, h1, h2=>simp at h1 h2;subst h1 h2;exact sc_cl (by simp [Zr])
  |1, h1, h2=>simp at h1 h2;subst h1 h2;exact sc_cl (by simp [Zr])
  |2, h1, h2=>simp at h1 h2;subst h1 h2;exact sc_cl (by simp [Zr])
  |3, h1, h2=>simp at h1 h2;subst h1 h2;exact sc_cl (by simp [Zr])
  |4, h1, h2=>simp at h1 h2;subst h1 h2;exact hO
  |j+5, h1, h2=>simp at h1⟩
theorem cnt_bg:Zk bgL≤134217728:=by decide +kernel
set_option maxHeartbeats 8000000 in
theorem run_begun:T.R (.call Zgz [] (.bool true)):=by
 obtain ⟨q, h1, h2⟩:=Zmz sl_bg cnt_bg
 rw [chk_bgL] at h1 h2
 have hq:SL 3 q bgM:=by
  rcases h2 with ⟨_, h⟩|⟨h, _⟩
  ·rwa [rwL_begun] at h
  ·exact absurd rfl h
 have h3:=run_PrintB hq
 have plq:=SL.pl hq
 have plb:=SL.pl sl_bg
 obtain ⟨S1, hS1⟩:∃S, emptySt.new (.var z6)=S:=⟨_, rfl⟩
 have a1:S1.get 0=some (.var z6):=by rw [←hS1];exact St.get_new
 obtain ⟨S2, hS2⟩:∃S, S1.put 0 (.var bgO)=S:=⟨_, rfl⟩
 have a2:S2.get 0=some (.var bgO):=by rw [←hS2];exact St.get_put
 have hone:∀c∈bgO, PV.one c=true:=by simp [bgO, cl1, PV.one]
 have hbd:∀ {look:Nat→Option Tok} {e:EC} {i j k l m:Nat}, e.get i=some (.agg (cl 1))→e.get j=some (.agg (cl 60))→e.get k=some (.agg (cl 24))→e.get l=some (.agg (cl 24))→e.get m=some (.agg bgO)→
   Zm look e (.buildSl 6 [cl 0, cl 0, cl 0, cl 0, cl 0] [(0, .t i), (1, .t j), (2, .t k), (3, .t l), (4, .t m)])=some bgP:=fun {look e i j k l m} h1 h2 h3 h4 h5=>by
  simp only [Zm, Z6n, Zo5, Opd.get, h1, h2, h3, h4, h5]
  rfl
 have dT:=Z04 (p:=(103::46::bgT)=(103::46::bgT)) rfl
 refine Z7 rfl rfl ?_
 repeat' first|refine Z1 rfl ?_|refine Z4 rfl rfl ?_|((with_reducible show VO _ _ _ _ _ _ _);first|refine Za9 hS1 rfl ?_|refine Zjf hS2 a1 hone rfl rfl rfl rfl rfl ?_|refine Z05 rfl a2 rfl ?_|refine Z0 (hbd rfl rfl rfl rfl rfl) ?_|refine Z6 rfl rfl h1 ?_|refine Z6 rfl rfl h3 ?_|refine Z3 dT rfl ?_|refine Z0 rfl ?_|refine Z2 ?_|refine Zg rfl ?_)
 rfl
def sub (a b:Nat):Prop:=∀i, a.testBit i=true→b.testBit i=true
theorem Zej (a:Nat):sub a a:=fun _ h=>h
theorem Z2v {a b c:Nat} (h:sub a b) (k:sub b c):sub a c:=fun i hi=>k i (h i hi)
theorem sub_zero (a:Nat):sub 0 a:=fun i h=>by simp at h
theorem Zho {a b c:Nat} (h:sub a c) (k:sub b c):sub (a|||b) c:=fun i hi=>by
 rw [Nat.testBit_or, Bool.or_eq_true] at hi
 exact hi.elim (h i) (k i)
theorem sub_inl {a b c:Nat} (h:sub a b):sub a (b|||c):=fun i hi=>by rw [Nat.testBit_or, h i hi];rfl
theorem sub_inr {a b c:Nat} (h:sub a c):sub a (b|||c):=fun i hi=>by rw [Nat.testBit_or, h i hi, Bool.or_true]
theorem sub_or2 {a b c d:Nat} (h:sub a c) (k:sub b d):sub (a|||b) (c|||d):=Zho (sub_inl h) (sub_inr k)
theorem Zek (a b:Nat):sub (a&&&b) a:=fun i hi=>by rw [Nat.testBit_and, Bool.and_eq_true] at hi;exact hi.1
theorem Z47 (a b:Nat):sub (a&&&b) b:=fun i hi=>by rw [Nat.testBit_and, Bool.and_eq_true] at hi;exact hi.2
theorem sub_and {a b:Nat} (h:sub a b) (m:Nat):sub (a&&&m) (b&&&m):=fun i hi=>by
 rw [Nat.testBit_and, Bool.and_eq_true] at hi
 rw [Nat.testBit_and, h i hi.1, hi.2];rfl
theorem Zkm {a b:Nat} (h:sub a b):a&&&b=a:=Nat.eq_of_testBit_eq fun i=>by
 rw [Nat.testBit_and]
 cases ha:a.testBit i with
 |false=>rfl
 |true=>rw [h i ha];rfl
theorem Zkl {a b:Nat} (h:a&&&b=a):sub a b:=by rw [←h];exact Z47 a b
theorem sub_le {a b:Nat} (h:sub a b):a≤b:=by rw [←Zkm h];exact Nat.and_le_right
theorem sub_nil {a:Nat} (h:sub a 0):a=0:=by have:=sub_le h;omega
abbrev KS (a:Nat):Prop:=sub a 254
theorem KS.le {a:Nat} (h:KS a):a≤254:=sub_le h
def Zb5 (n:Int):Nat:=(BitVec.ofInt 64 n&&&254#64).toNat
theorem maskI_and (n:Int):Zb5 n=(BitVec.ofInt 64 n).toNat&&&254:=by
 unfold Zb5
 rw [BitVec.toNat_and]
 rfl
theorem Zen (n:Int):KS (Zb5 n):=by rw [maskI_and];exact Z47 _ _
theorem maskI_nat {a:Nat} (h:KS a):Zb5 a=a:=by
 rw [maskI_and, BitVec.ofInt_natCast, BitVec.toNat_ofNat, Nat.mod_eq_of_lt (by have:=h.le;omega)]
 exact Zkm h
theorem wrapN {n:Nat} (h:n<9223372036854775808):IntKind.i64.wrap (n:Int)=n:=by rw [Z00];omega
theorem and_is {a b:Nat} (ha:a<9223372036854775808) (hb:b<9223372036854775808):IntKind.i64.wrap ((BitVec.ofInt 64 (a:Int)&&&BitVec.ofInt 64 (b:Int)).toNat:Int)=((a&&&b:Nat):Int):=by
 rw [BitVec.toNat_and, BitVec.ofInt_natCast, BitVec.ofInt_natCast, BitVec.toNat_ofNat, BitVec.toNat_ofNat, Nat.mod_eq_of_lt (by omega), Nat.mod_eq_of_lt (by omega)]
 exact wrapN (Nat.lt_of_le_of_lt Nat.and_le_left ha)
theorem or_is {a b:Nat} (ha:KS a) (hb:KS b):IntKind.i64.wrap ((BitVec.ofInt 64 (a:Int)|||BitVec.ofInt 64 (b:Int)).toNat:Int)=((a|||b:Nat):Int):=by
 have h1:=ha.le
 have h2:=hb.le
 have h3:=KS.le (Zho ha hb)
 rw [BitVec.toNat_or, BitVec.ofInt_natCast, BitVec.ofInt_natCast, BitVec.toNat_ofNat, BitVec.toNat_ofNat, Nat.mod_eq_of_lt (by omega), Nat.mod_eq_of_lt (by omega)]
 exact wrapN (by omega)
theorem mask_is (n:Int):IntKind.i64.wrap ((BitVec.ofInt 64 n&&&BitVec.ofInt 64 (254:Int)).toNat:Int)=((Zb5 n:Nat):Int):=by
 have:=(Zen n).le
 exact wrapN (n:=Zb5 n) (by omega)
theorem andNot_is {a:Nat} (h:KS a):IntKind.i64.wrap ((BitVec.ofInt 64 (a:Int) &&& ~~~ BitVec.ofInt 64 (48:Int)).toNat:Int)=((a&&&206:Nat):Int):=by
 have hd:∀a:Nat, a<255→a&&&254=a→IntKind.i64.wrap ((BitVec.ofInt 64 (a:Int) &&& ~~~ BitVec.ofInt 64 (48:Int)).toNat:Int)=((a&&&206:Nat):Int):=by decide +kernel
 exact hd a (by have:=h.le;omega) (Zkm h)
theorem Zmn {a b:Nat} (ha:KS a) (hb:KS b) (h:sub a b):IntKind.i64.wrap ((BitVec.ofInt 64 (a:Int) &&& ~~~ BitVec.ofInt 64 (b:Int)).toNat:Int)=0:=by
 have hd:∀a:Nat, a<255→∀b:Nat, b<255→a&&&b=a→(BitVec.ofNat 64 a &&& ~~~ BitVec.ofNat 64 b).toNat=0:=by decide +kernel
 have:=hd a (by have:=ha.le;omega) b (by have:=hb.le;omega) (Zkm h)
 rw [BitVec.ofInt_natCast, BitVec.ofInt_natCast, this]
 rfl
def kstep (n:Nat) (v:Val):Nat:=if 0<v.kind∧v.kind≤7 then n|||2 ^ v.kind.toNat else n
def Zfd (l:List Val):Nat:=l.foldl kstep 0
theorem bit_ks {k:Int} (h:0<k∧k≤7):KS (2 ^ k.toNat):=by
 have hd:∀k:Nat, k<8→0<k→2 ^ k&&&254=2 ^ k:=by decide
 exact Zkl (hd k.toNat (by omega) (by omega))
theorem kind_step {n:Nat} (hn:KS n) (v:Val):KS (kstep n v):=by
 unfold kstep
 split
 ·exact Zho hn (bit_ks ‹_›)
 ·exact hn
theorem kindS_ks (l:List Val):KS (Zfd l):=by
 have h:∀(l:List Val) (n:Nat), KS n→KS (l.foldl kstep n):=by
  intro l
  induction l with
  |nil=>exact fun n h=>h
  |cons v l ih=>exact fun n h=>ih _ (kind_step h v)
 exact h l 0 (sub_zero _)
abbrev KF:=Nat→Nat×Int
def Z2s (op:Int) (names:Nat) (kind:Nat):Nat×Nat×Bool:=
 if op=5∨op=6∨op=7 then (64, 64, false)
 else if op=8∨op=9∨op=10 then (64, 128, false)
 else if op=11∨op=12∨op=13 then (128, 64, false)
 else if op=14∨op=15∨op=16∨op=17∨op=18∨op=58∨op=46∨op=47 then (192, 0, true)
 else if op=30 then (192, 2, false)
 else if op=31 then (192, 4, false)
 else if op=32 then (192, 254, false)
 else if op=33 then (192, 32, false)
 else if op=59 then (192, 0, false)
 else if op=36 then (2, 2, false)
 else if op=48 then (if 0<names then (192, 32, false) else (254, 32, false))
 else if op=1∨op=4 then (254, 64, false)
 else if op=2∨op=57 then (254, 128, false)
 else if op=3∨op=34 then (254, kind, false)
 else if op=35∨op=49 then (254, 2, false)
 else if op=39∨op=41 then (254, 16, false)
 else if op=43 then (if 1<names then (254, 32, false) else (254, 254, false))
 else if 1≤op∧op≤60 then (254, 0, true)
 else (0, 0, false)
def RuleKS (x:Nat×Nat×Bool):Prop:=KS x.1∧KS x.2.1
theorem rule_ite {p:Prop} [Decidable p] {a b:Nat×Nat×Bool} (h1:RuleKS a) (h2:RuleKS b):RuleKS (if p then a else b):=by
 by_cases h:p
 ·rw [if_pos h];exact h1
 ·rw [if_neg h];exact h2
theorem ruleS_ks (op:Int) (names kind:Nat) (hk:KS kind):RuleKS (Z2s op names kind):=by
 unfold Z2s
 repeat' (refine rule_ite ?_ ?_)
 all_goals first|exact ⟨Zkl rfl, Zkl rfl⟩|exact ⟨Zkl (a:=254) (b:=254) (by decide), hk⟩
def Z2l (f g:KF):Nat→Nat→Nat→Nat×Int
 |0, all, _=>(all, 0)
 |k+1, all, i=>if (f i).2=0 then (if (g (f i).1).2=0 then Z2l f g k (all|||(f i).1) (f i).1 else (0, (g (f i).1).2)) else (0, (f i).2)
def Z0s:List KF→Nat→List Nat×Int
 |[], _=>([], 0)
 |f::r, i=>if (f i).2=0 then (if (Z0s r i).2=0 then ((f i).1::(Z0s r i).1, 0) else ([], (Z0s r i).2)) else ([], (f i).2)
def orL (l:List Nat):Nat:=l.foldl (· ||| ·) 0
def nth (fs:List KF) (i:Nat):KF:=fs.getD i fun _=>(0, 0)
def Z23 (op:Int) (nums:List Int) (fs:List KF) (i:Nat):Nat×Int:=
 if op=54∨op=56 then
  (if 0<nums.headD 0 then Z2l (nth fs 0) (fun o=>(o&&&254, 0)) (if nums.headD 0<128 then nums.headD 0 else 128).toNat 0 i
   else ((if op=56 then 0 else i), (nth fs 0 0).2))
 else if op=55 then Z2l (nth fs 1) (nth fs 0) 128 0 i
 else if (Z0s fs i).2=0 then
  (if op=20∨op=21∨op=22∨op=23 then (i, 0)
   else if op=53 then (orL ((Z0s fs i).1.drop 1), 0)
   else if op=52 then (orL ((Z0s fs i).1++[i]), 0)
   else (orL (Z0s fs i).1, 0))
 else (0, (Z0s fs i).2)
def unfS (s:Nat):Nat:=if s&&&16≠0 then 254 else if s&&&32≠0 then (s&&&206)|||16 else s&&&206
def Zmr (op:Int) (names:Nat) (nums:List Int) (kind:Nat) (fs:List KF) (i:Nat):Nat×Int:=
 if i≠0∧i&&&(Z2s op names kind).1=0 then (0, 170)
 else if fs≠[] then Z23 op nums fs (i&&&(Z2s op names kind).1)
 else if i=0∧op≠35∧op≠39∧op≠48 then (0, 0)
 else if op=40 then (unfS (i&&&(Z2s op names kind).1), 0)
 else if (Z2s op names kind).2.2=true then (i&&&(Z2s op names kind).1, 0)
 else ((Z2s op names kind).2.1, 0)
def Zmt:List KF→KF
 |[], i=>(i, 0)
 |f::r, i=>if (f i).2=0 then Zmt r (f i).1 else (0, (f i).2)
def Z0d (fs:List KF) (i:Nat):Nat×Int:=Zmt fs (i&&&254)
mutual
def stF:Stp→KF
 |.mk op names nums preds vals subs=>Zmr op names.length nums (Zfd vals) (llF subs)
def lF:List Stp→List KF
 |[]=>[]
 |s::r=>stF s::lF r
def llF:List (List Stp)→List KF
 |[]=>[]
 |l::r=>Z0d (lF l)::llF r
end
def Zfp (f:KF):Prop:=(∀i, KS i→KS (f i).1)∧∀a b, KS b→sub a b→(f a).2=0→(f b).2=0→sub (f a).1 (f b).1
theorem Z88 {f g:KF} (hf:Zfp f):∀(k:Nat), (∀all i, KS all→KS i→KS (Z2l f g k all i).1)∧∀al a bl b, KS b→sub al bl→sub a b→(Z2l f g k al a).2=0→(Z2l f g k bl b).2=0→sub (Z2l f g k al a).1 (Z2l f g k bl b).1
 |0=>⟨fun all i h _=>h, fun al a bl b _ h _ _ _=>h⟩
 |k+1=>by
  obtain ⟨i1, i2⟩:=Z88 hf k
  refine ⟨fun all i ha hi=>?_, fun al a bl b hb hal hab h1 h2=>?_⟩
  ·rw [Z2l]
   split
   ·split
    ·exact i1 _ _ (Zho ha (hf.1 i hi)) (hf.1 i hi)
    ·exact sub_zero _
   ·exact sub_zero _
  ·rw [Z2l] at h1 h2 ⊢
   rw [Z2l]
   by_cases ha:(f a).2=0
   ·rw [if_pos ha] at h1 ⊢
    by_cases hga:(g (f a).1).2=0
    ·rw [if_pos hga] at h1 ⊢
     by_cases hb2:(f b).2=0
     ·rw [if_pos hb2] at h2 ⊢
      by_cases hgb:(g (f b).1).2=0
      ·rw [if_pos hgb] at h2 ⊢
       have:=hf.2 a b hb hab ha hb2
       exact i2 _ _ _ _ (hf.1 b hb) (sub_or2 hal this) this h1 h2
      ·rw [if_neg hgb] at h2;exact absurd h2 hgb
     ·rw [if_neg hb2] at h2;exact absurd h2 hb2
    ·rw [if_neg hga] at h1;exact absurd h1 hga
   ·rw [if_neg ha] at h1;exact absurd h1 ha
inductive Sub2:List Nat→List Nat→Prop
 |nil:Sub2 [] []
 |cons {a b:Nat} {l m:List Nat} (h:sub a b) (k:Sub2 l m):Sub2 (a::l) (b::m)
theorem Sub2.drop {l m:List Nat} (h:Sub2 l m):Sub2 (l.drop 1) (m.drop 1):=by
 cases h with
 |nil=>exact .nil
 |cons _ k=>exact k
theorem Sub2.snoc {l m:List Nat} (h:Sub2 l m) {a b:Nat} (hab:sub a b):Sub2 (l++[a]) (m++[b]):=by
 induction h with
 |nil=>exact .cons hab .nil
 |cons h _ ih=>exact .cons h ih
theorem orL_mono {l m:List Nat} (h:Sub2 l m):sub (orL l) (orL m):=by
 have key:∀ {l m:List Nat}, Sub2 l m→∀a b, sub a b→sub (l.foldl (· ||| ·) a) (m.foldl (· ||| ·) b):=fun h=>by
  induction h with
  |nil=>exact fun a b h=>h
  |cons h _ ih=>exact fun a b hab=>ih _ _ (sub_or2 hab h)
 exact key h 0 0 (Zej 0)
theorem orL_ks {l:List Nat} (h:∀x∈l, KS x):KS (orL l):=by
 have key:∀(l:List Nat) (a:Nat), KS a→(∀x∈l, KS x)→KS (l.foldl (· ||| ·) a):=fun l=>by
  induction l with
  |nil=>exact fun a h _=>h
  |cons x l ih=>exact fun a h k=>ih _ (Zho h (k x (by simp))) fun y hy=>k y (by simp [hy])
 exact key l 0 (sub_zero _) h
theorem Zpu:∀ {fs:List KF}, (∀f∈fs, Zfp f)→(∀i, KS i→∀x∈(Z0s fs i).1, KS x)∧∀a b, KS b→sub a b→(Z0s fs a).2=0→(Z0s fs b).2=0→Sub2 (Z0s fs a).1 (Z0s fs b).1
 |[], _=>⟨fun i _ x hx=>by simp [Z0s] at hx, fun a b _ _ _ _=>.nil⟩
 |f::r, h=>by
  obtain ⟨i1, i2⟩:=Zpu (fs:=r) fun g hg=>h g (by simp [hg])
  have hf:=h f (by simp)
  refine ⟨fun i hi x hx=>?_, fun a b hb hab h1 h2=>?_⟩
  ·rw [Z0s] at hx
   split at hx
   ·split at hx
    ·rcases List.mem_cons.1 hx with rfl|hx
     ·exact hf.1 i hi
     ·exact i1 i hi x hx
    ·simp at hx
   ·simp at hx
  ·rw [Z0s] at h1 h2 ⊢
   rw [Z0s]
   by_cases ha:(f a).2=0
   ·rw [if_pos ha] at h1 ⊢
    by_cases hb2:(f b).2=0
    ·rw [if_pos hb2] at h2 ⊢
     by_cases ra:(Z0s r a).2=0
     ·rw [if_pos ra] at h1 ⊢
      by_cases rb:(Z0s r b).2=0
      ·rw [if_pos rb] at h2 ⊢
       exact .cons (hf.2 a b hb hab ha hb2) (i2 a b hb hab ra rb)
      ·rw [if_neg rb] at h2;exact absurd h2 rb
     ·rw [if_neg ra] at h1;exact absurd h1 ra
    ·rw [if_neg hb2] at h2;exact absurd h2 hb2
   ·rw [if_neg ha] at h1;exact absurd h1 ha
theorem Zim {fs:List KF} (h:∀f∈fs, Zfp f) (k:Nat):Zfp (nth fs k):=by
 unfold nth
 rw [List.getD_eq_getElem?_getD]
 cases hk:fs[k]? with
 |none=>exact ⟨fun i _=>sub_zero _, fun a b _ _ _ _=>sub_zero _⟩
 |some f=>exact h f (List.mem_of_getElem? hk)
theorem withinF_mono {op:Int} {nums:List Int} {fs:List KF} (h:∀f∈fs, Zfp f):Zfp (Z23 op nums fs):=by
 obtain ⟨o1, o2⟩:=Zpu h
 refine ⟨fun i hi=>?_, fun a b hb hab h1 h2=>?_⟩
 ·unfold Z23
  split
  ·split
   ·exact (Z88 (Zim h 0) _).1 _ _ (sub_zero _) hi
   ·split
    ·exact sub_zero _
    ·exact hi
  ·split
   ·exact (Z88 (Zim h 1) _).1 _ _ (sub_zero _) hi
   ·split
    ·split
     ·exact hi
     ·split
      ·exact orL_ks fun x hx=>o1 i hi x (List.mem_of_mem_drop hx)
      ·split
       ·refine orL_ks fun x hx=>?_
        rcases List.mem_append.1 hx with hx|hx
        ·exact o1 i hi x hx
        ·rw [List.mem_singleton.1 hx];exact hi
       ·exact orL_ks (o1 i hi)
    ·exact sub_zero _
 ·unfold Z23 at h1 h2 ⊢
  by_cases k1:op=54∨op=56
  ·rw [if_pos k1] at h1 h2 ⊢
   rw [if_pos k1]
   by_cases k2:0<nums.headD 0
   ·rw [if_pos k2] at h1 h2 ⊢
    rw [if_pos k2]
    exact (Z88 (Zim h 0) _).2 _ _ _ _ hb (sub_zero _) hab h1 h2
   ·rw [if_neg k2] at h1 h2 ⊢
    rw [if_neg k2]
    split
    ·exact sub_zero _
    ·exact hab
  ·rw [if_neg k1] at h1 h2 ⊢
   rw [if_neg k1]
   by_cases k2:op=55
   ·rw [if_pos k2] at h1 h2 ⊢
    rw [if_pos k2]
    exact (Z88 (Zim h 1) _).2 _ _ _ _ hb (sub_zero _) hab h1 h2
   ·rw [if_neg k2] at h1 h2 ⊢
    rw [if_neg k2]
    by_cases ea:(Z0s fs a).2=0
    ·by_cases eb:(Z0s fs b).2=0
     ·rw [if_pos ea, if_pos eb]
      have hs:=o2 a b hb hab ea eb
      by_cases k3:op=20∨op=21∨op=22∨op=23
      ·rw [if_pos k3, if_pos k3];exact hab
      ·rw [if_neg k3, if_neg k3]
       by_cases k4:op=53
       ·rw [if_pos k4, if_pos k4];exact orL_mono hs.drop
       ·rw [if_neg k4, if_neg k4]
        by_cases k5:op=52
        ·rw [if_pos k5, if_pos k5];exact orL_mono (hs.snoc hab)
        ·rw [if_neg k5, if_neg k5];exact orL_mono hs
     ·rw [if_neg eb] at h2;exact absurd h2 eb
    ·rw [if_neg ea] at h1;exact absurd h1 ea
theorem unfS_ks (s:Nat) (h:KS s):KS (unfS s):=by
 unfold unfS
 split
 ·exact Zej _
 ·split
  ·exact Zho (Z2v (Zek _ _) h) (Zkl (by decide))
  ·exact Z2v (Zek _ _) h
theorem unfS_mono {a b:Nat} (hb:KS b) (h:sub a b):sub (unfS a) (unfS b):=by
 have hd:∀a:Nat, a<255→∀b:Nat, b<255→a&&&b=a→unfS a&&&unfS b=unfS a:=by decide +kernel
 have:=hb.le
 have:=KS.le (Z2v h hb)
 exact Zkl (hd a (by omega) b (by omega) (Zkm h))
theorem stepF_mono {op:Int} {names:Nat} {nums:List Int} {kind:Nat} {fs:List KF} (hk:KS kind) (h:∀f∈fs, Zfp f):Zfp (Zmr op names nums kind fs):=by
 obtain ⟨r1, r2⟩:=ruleS_ks op names kind hk
 have hw:=withinF_mono (op:=op) (nums:=nums) h
 unfold Zfp Zmr
 generalize Z2s op names kind=x at r1 r2
 obtain ⟨su, mk, ca⟩:=x
 have r1:KS su:=r1
 have r2:KS mk:=r2
 refine ⟨fun i hi=>?_, fun a b hb hab h1 h2=>?_⟩
 ·split
  ·exact sub_zero _
  ·split
   ·exact hw.1 _ (Z2v (Z47 _ _) r1)
   ·split
    ·exact sub_zero _
    ·split
     ·exact unfS_ks _ (Z2v (Z47 _ _) r1)
     ·split
      ·exact Z2v (Z47 _ _) r1
      ·exact r2
 ·by_cases ka:a≠0∧a&&&su=0
  ·rw [if_pos ka] at h1;cases h1
  ·rw [if_neg ka] at h1 ⊢
   by_cases kb:b≠0∧b&&&su=0
   ·rw [if_pos kb] at h2;cases h2
   ·rw [if_neg kb] at h2 ⊢
    have hsu:=sub_and hab su
    have hbs:KS (b&&&su):=Z2v (Z47 _ _) r1
    by_cases kf:fs≠[]
    ·rw [if_pos kf] at h1 h2 ⊢
     rw [if_pos kf]
     exact hw.2 _ _ hbs hsu h1 h2
    ·rw [if_neg kf] at h1 h2 ⊢
     rw [if_neg kf]
     by_cases k0:a=0∧op≠35∧op≠39∧op≠48
     ·rw [if_pos k0];exact sub_zero _
     ·rw [if_neg k0]
      by_cases k1:b=0∧op≠35∧op≠39∧op≠48
      ·have:a=0:=sub_nil (by rw [k1.1] at hab;exact hab)
       exact absurd ⟨this, k1.2⟩ k0
      ·rw [if_neg k1]
       by_cases k2:op=40
       ·rw [if_pos k2, if_pos k2];exact unfS_mono hbs hsu
       ·rw [if_neg k2, if_neg k2]
        cases ca with
        |true=>exact hsu
        |false=>exact Zej _
theorem Zd8:∀ {fs:List KF}, (∀f∈fs, Zfp f)→Zfp (Zmt fs)
 |[], _=>⟨fun i h=>h, fun a b _ h _ _=>h⟩
 |f::r, h=>by
  have hr:=Zd8 (fs:=r) fun g hg=>h g (by simp [hg])
  have hf:=h f (by simp)
  refine ⟨fun i hi=>?_, fun a b hb hab h1 h2=>?_⟩
  ·rw [Zmt]
   split
   ·exact hr.1 _ (hf.1 i hi)
   ·exact sub_zero _
  ·rw [Zmt] at h1 h2 ⊢
   rw [Zmt]
   by_cases ha:(f a).2=0
   ·rw [if_pos ha] at h1 ⊢
    by_cases hb2:(f b).2=0
    ·rw [if_pos hb2] at h2 ⊢
     exact hr.2 _ _ (hf.1 b hb) (hf.2 a b hb hab ha hb2) h1 h2
    ·rw [if_neg hb2] at h2;exact absurd h2 hb2
   ·rw [if_neg ha] at h1;exact absurd h1 ha
theorem Zh9 {fs:List KF} (h:∀f∈fs, Zfp f):Zfp (Z0d fs):=
 ⟨fun i hi=>(Zd8 h).1 _ (Z47 _ _), fun a b hb hab h1 h2=>(Zd8 h).2 _ _ (Z47 _ _) (sub_and hab _) h1 h2⟩
mutual
theorem stF_mono:∀s:Stp, Zfp (stF s)
 |.mk op names nums preds vals subs=>by
  rw [stF]
  exact stepF_mono (kindS_ks _) (llF_mono subs)
theorem Zk4:∀(l:List Stp), ∀f∈lF l, Zfp f
 |[], f, h=>by rw [lF] at h;cases h
 |s::r, f, h=>by
  rw [lF] at h
  rcases List.mem_cons.1 h with rfl|h
  ·exact stF_mono s
  ·exact Zk4 r f h
theorem llF_mono:∀(l:List (List Stp)), ∀f∈llF l, Zfp f
 |[], f, h=>by rw [llF] at h;cases h
 |l::r, f, h=>by
  rw [llF] at h
  rcases List.mem_cons.1 h with rfl|h
  ·exact Zh9 (Zk4 l)
  ·exact llF_mono r f h
end
def Zkv (n:Int) (l:List Stp):Nat×Int:=Zmt (lF l) (Zb5 n)
theorem inferI_ks (n:Int) (l:List Stp):KS (Zkv n l).1:=(Zd8 (Zk4 l)).1 _ (Zen n)
end Go.Proofs.YtnedeokclnbcpaaGreatDoor
