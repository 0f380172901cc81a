/- rambleref16.Same of equal steps: true. · The small traversal of the statements' begun, in the shorter way. · begun: its text. · begun: true. · The reference's just, once, simple (rambleref20). -/
import Derived.Test.YtnedeokclnbcpaaGreatDoorRwUToRwY
import Derived.Test.YtnedeokclnbcpaaGreatDoorNameBToStpF
import Derived.Test.YtnedeokclnbcpaaGreatDoorRwBToRwD
set_option linter.unusedVariables false
set_option linter.unusedSimpArgs false
namespace Go.Proofs.YtnedeokclnbcpaaGreatDoor
open Go Go.AM Go.RowKit
theorem run_rsame {l:List Prd} {p q:PV} (hp:LR PrC p l) (hq:LR PrC q l):T.R (.call Zar [p, q] (.bool true)):=by
 have plp:Pl p:=hp.pl fun _ _ _ h=>h.pl
 have plq:Pl q:=hq.pl fun _ _ _ h=>h.pl
 obtain ⟨p1, p2, hbig⟩:=hp.len
 obtain ⟨q1, q2, _⟩:=hq.len
 have loop:∀(rest pre:List Prd), l=pre++rest→V T (PE fun x e st'=>x=.exit 0∧e=Ze [(0, p)]∧st'=emptySt) [.code (.loop Z1s)] .normal (Ze [(0, p), (1, q), (5, .int .i64 pre.length)]) emptySt:=by
  intro rest
  induction rest with
  |nil=>
   intro pre hl
   have hlt:decide ((pre.length:Int)<l.length)=false:=decide_eq_false (by subst hl;simp)
   refine Zf ?_
   repeat' first|((with_reducible show V _ _ _ _ _ _);first|refine Z48 hlt rfl rfl ?_|refine Zr [(0, p)] rfl ⟨rfl, trivial⟩ ⟨rfl, rfl, rfl⟩|refine Z1 rfl ?_)|((with_reducible show VO _ _ _ _ _ _ _);first|refine Z4 rfl p1 p2 ?_|refine Z0 rfl ?_|refine Z2 ?_)
  |cons y rest ih=>
   intro pre hl
   have hlt:decide ((pre.length:Int)<l.length)=true:=decide_eq_true (by subst hl;simp;omega)
   have hpl:pre.length<l.length:=by subst hl;simp
   obtain ⟨cs, ay, hcs⟩:=hp.at (sz:=2) (fun _ _ h=>h.c2.1) (j:=pre.length) (a:=y) (by subst hl;simp)
   obtain ⟨ds, by_, hds⟩:=hq.at (sz:=2) (fun _ _ h=>h.c2.1) (j:=pre.length) (a:=y) (by subst hl;simp)
   obtain ⟨op, vs⟩:=y
   obtain ⟨io, a, rfl, ha⟩:=hcs
   obtain ⟨_, b, rfl, hb⟩:=hds
   have pla:Pl a:=ha.pl fun _ _ _ h=>h.pl
   have plb:Pl b:=hb.pl fun _ _ _ h=>h.pl
   have hs:=Zc7 vs vs a b ha hb
   have h0:decide (Z39 vs vs=0)=true:=decide_eq_true (cmpVs_zero.2 rfl)
   rw [h0] at hs
   have hw:IntKind.i64.wrap ((pre.length:Int)+1)=((pre++[Prd.mk op vs]).length:Int):=by rw [Z01];simp;omega
   have hi:=ih (pre++[.mk op vs]) (by rw [hl];simp)
   have d1:=Z0k (p:=op=op) rfl
   refine Zf ?_
   repeat' first|((with_reducible show V _ _ _ _ _ _);first|refine Z15 hlt rfl rfl ?_|refine Z7z rfl hi ⟨rfl, rfl, Z04 hw, trivial⟩|refine Z1 rfl ?_|refine Z9 rfl rfl ?_|refine V_D rfl ?_)|((with_reducible show VO _ _ _ _ _ _ _);first|refine Z4 rfl p1 p2 ?_|refine Z0 rfl ?_|refine Z2 ?_)|((with_reducible show VD _ _ _ _ _ _ _);first|refine Z40 rfl rfl ay ?_|refine Z40 rfl rfl by_ ?_|refine Zfs d1 rfl ?_|refine Zn5 rfl rfl hs ?_|refine Zo rfl ?_|refine Z0a ?_|refine Ze6 rfl ?_)
 have hl:=loop l [] rfl
 have d1:=Z0k (p:=(l.length:Int)=l.length) rfl
 refine Z7 rfl rfl ?_
 repeat' first|((with_reducible show V _ _ _ _ _ _);first|refine Z08 rfl hl ⟨rfl, rfl, rfl, trivial⟩ ?_|refine Z1 rfl ?_|refine Z9 rfl rfl ?_)|((with_reducible show VO _ _ _ _ _ _ _);first|refine Z4 rfl p1 p2 ?_|refine Z4 rfl q1 q2 ?_|refine Z3 d1 rfl ?_|refine Z0 rfl ?_|refine Z2 ?_)
 rintro x e st' ⟨rfl, rfl, rfl⟩
 repeat' first|refine Z1 rfl ?_|refine Z6 rfl rfl ?_|refine Z0 rfl ?_|refine Z2 ?_
 rfl
theorem ldv {look:Nat→Option Tok} {m k:Nat} {cs:List PV} {c:PV} (hg:look m=some (.var cs)) (hc:cs[k]?=some c) {e:EC} {x:Opd} (hx:x.get e=some (.ptr m k)):Zl look e (.load 1 false x)=some c:=by
 have hlt:=(List.getElem?_eq_some_iff.1 hc).1
 refine Zl3 hx ?_
 simp only [loadAt, behind, hg, Option.bind_some, slice?]
 rw [if_pos (by omega)]
 simpa using hc
theorem sm_names {S:St} {m m':Nat} {op:Int} {p q I pa pb pc pd pe qa qb qc qd qe:PV} {l:List (List UInt8)} (hm:S.get m=some (.var [.int .i64 op, pa, pb, pc, pd, pe])) (hm':S.get m'=some (.var [.int .i64 op, qa, qb, qc, qd, qe])) (ha:LR NmC pa l) (hb:LR NmC qa l):∀(rest pre:List (List UInt8)), l=pre++rest→
  V T (PE fun x e st'=>x=.exit 2∧e=Ze [(0, p), (1, q), (5, I), (6, .ptr m 0), (7, .ptr m' 0)]∧st'=S) [.code (.loop Z1t)] .normal (Ze [(0, p), (1, q), (5, I), (6, .ptr m 0), (7, .ptr m' 0), (8, .int .i64 pre.length)]) S:=by
 obtain ⟨a1, a2, hbig⟩:=ha.len
 intro rest
 induction rest with
 |nil=>
  intro pre hl
  have hlt:decide ((pre.length:Int)<l.length)=false:=decide_eq_false (by subst hl;simp)
  refine Zf ?_
  repeat' first|((with_reducible show V _ _ _ _ _ _);first|refine Z48 hlt rfl rfl ?_|refine Zr [(0, p), (1, q), (5, I), (6, .ptr m 0), (7, .ptr m' 0)] rfl ⟨rfl, rfl, rfl, rfl, rfl, trivial⟩ ⟨rfl, rfl, rfl⟩|refine Z1 rfl ?_)|((with_reducible show VO _ _ _ _ _ _ _);first|refine Z0 (ldv hm rfl rfl) ?_|refine Z4 rfl a1 a2 ?_|refine Z0 rfl ?_|refine Z2 ?_)
 |cons y rest ih=>
  intro pre hl
  have hlt:decide ((pre.length:Int)<l.length)=true:=decide_eq_true (by subst hl;simp;omega)
  have hpl:pre.length<l.length:=by subst hl;simp
  obtain ⟨cs, ay, hcs⟩:=ha.at (sz:=1) (fun _ _ h=>h.len1) (j:=pre.length) (a:=y) (by subst hl;simp)
  obtain ⟨ds, by_, hds⟩:=hb.at (sz:=1) (fun _ _ h=>h.len1) (j:=pre.length) (a:=y) (by subst hl;simp)
  obtain ⟨_, rfl⟩:=hcs
  obtain ⟨_, rfl⟩:=hds
  have hw:IntKind.i64.wrap ((pre.length:Int)+1)=((pre++[y]).length:Int):=by rw [Z01];simp;omega
  have hi:=ih (pre++[y]) (by rw [hl];simp)
  have d1:=Z0k (p:=y=y) rfl
  refine Zf ?_
  repeat' first|((with_reducible show V _ _ _ _ _ _);first|refine Z15 hlt rfl rfl ?_|refine Z7z rfl hi ⟨rfl, rfl, rfl, rfl, rfl, Z04 hw, trivial⟩|refine Z1 rfl ?_|refine Z9 rfl rfl ?_|refine V_D rfl ?_)|((with_reducible show VO _ _ _ _ _ _ _);first|refine Z0 (ldv hm rfl rfl) ?_|refine Z4 rfl a1 a2 ?_|refine Z0 rfl ?_|refine Z2 ?_)|((with_reducible show VD _ _ _ _ _ _ _);first|refine Zo (ldv hm rfl rfl) ?_|refine Zo (ldv hm' rfl rfl) ?_|refine Z40 rfl rfl ay ?_|refine Z40 rfl rfl by_ ?_|refine Zfs d1 rfl ?_|refine Zo rfl ?_|refine Z0a ?_)
theorem sm_nums {S:St} {m m':Nat} {op:Int} {p q I pa pb pc pd pe qa qb qc qd qe:PV} {l:List Int} (hm:S.get m=some (.var [.int .i64 op, pa, pb, pc, pd, pe])) (hm':S.get m'=some (.var [.int .i64 op, qa, qb, qc, qd, qe])) (ha:LR NuC pb l) (hb:LR NuC qb l):∀(rest pre:List Int), l=pre++rest→
  V T (PE fun x e st'=>x=.exit 4∧e=Ze [(0, p), (1, q), (5, I), (6, .ptr m 0), (7, .ptr m' 0)]∧st'=S) [.code (.loop Z1u)] .normal (Ze [(0, p), (1, q), (5, I), (6, .ptr m 0), (7, .ptr m' 0), (9, .int .i64 pre.length)]) S:=by
 obtain ⟨a1, a2, hbig⟩:=ha.len
 intro rest
 induction rest with
 |nil=>
  intro pre hl
  have hlt:decide ((pre.length:Int)<l.length)=false:=decide_eq_false (by subst hl;simp)
  refine Zf ?_
  repeat' first|((with_reducible show V _ _ _ _ _ _);first|refine Z48 hlt rfl rfl ?_|refine Zr [(0, p), (1, q), (5, I), (6, .ptr m 0), (7, .ptr m' 0)] rfl ⟨rfl, rfl, rfl, rfl, rfl, trivial⟩ ⟨rfl, rfl, rfl⟩|refine Z1 rfl ?_)|((with_reducible show VO _ _ _ _ _ _ _);first|refine Z0 (ldv hm rfl rfl) ?_|refine Z4 rfl a1 a2 ?_|refine Z0 rfl ?_|refine Z2 ?_)
 |cons y rest ih=>
  intro pre hl
  have hlt:decide ((pre.length:Int)<l.length)=true:=decide_eq_true (by subst hl;simp;omega)
  have hpl:pre.length<l.length:=by subst hl;simp
  obtain ⟨cs, ay, hcs⟩:=ha.at (sz:=1) (fun _ _ h=>h.len1) (j:=pre.length) (a:=y) (by subst hl;simp)
  obtain ⟨ds, by_, hds⟩:=hb.at (sz:=1) (fun _ _ h=>h.len1) (j:=pre.length) (a:=y) (by subst hl;simp)
  obtain ⟨_, rfl⟩:=hcs
  obtain ⟨_, rfl⟩:=hds
  have hw:IntKind.i64.wrap ((pre.length:Int)+1)=((pre++[y]).length:Int):=by rw [Z01];simp;omega
  have hi:=ih (pre++[y]) (by rw [hl];simp)
  have d1:=Z0k (p:=y=y) rfl
  refine Zf ?_
  repeat' first|((with_reducible show V _ _ _ _ _ _);first|refine Z15 hlt rfl rfl ?_|refine Z7z rfl hi ⟨rfl, rfl, rfl, rfl, rfl, Z04 hw, trivial⟩|refine Z1 rfl ?_|refine Z9 rfl rfl ?_|refine V_D rfl ?_)|((with_reducible show VO _ _ _ _ _ _ _);first|refine Z0 (ldv hm rfl rfl) ?_|refine Z4 rfl a1 a2 ?_|refine Z0 rfl ?_|refine Z2 ?_)|((with_reducible show VD _ _ _ _ _ _ _);first|refine Zo (ldv hm rfl rfl) ?_|refine Zo (ldv hm' rfl rfl) ?_|refine Z40 rfl rfl ay ?_|refine Z40 rfl rfl by_ ?_|refine Zfs d1 rfl ?_|refine Zo rfl ?_|refine Z0a ?_)
theorem sm_subs {n:Nat} {S:St} {m m':Nat} {op:Int} {p q I pa pb pc pd pe qa qb qc qd qe:PV} {l:List (List Stp)} (hm:S.get m=some (.var [.int .i64 op, pa, pb, pc, pd, pe])) (hm':S.get m'=some (.var [.int .i64 op, qa, qb, qc, qd, qe])) (ha:LR (SubC (SC n)) pe l) (hb:LR (SubC (SC n)) qe l) (ihs:∀(x:List Stp) (v w:PV), SL n v x→SL n w x→T.R (.call Z0w [v, w] (.bool true))):∀(rest pre:List (List Stp)), l=pre++rest→
  V T (PE fun x e st'=>x=.exit 6∧e=Ze [(0, p), (1, q), (5, I)]∧st'=S) [.code (.loop Z1v)] .normal (Ze [(0, p), (1, q), (5, I), (6, .ptr m 0), (7, .ptr m' 0), (10, .int .i64 pre.length)]) S:=by
 obtain ⟨a1, a2, hbig⟩:=ha.len
 intro rest
 induction rest with
 |nil=>
  intro pre hl
  have hlt:decide ((pre.length:Int)<l.length)=false:=decide_eq_false (by subst hl;simp)
  refine Zf ?_
  repeat' first|((with_reducible show V _ _ _ _ _ _);first|refine Z48 hlt rfl rfl ?_|refine Zr [(0, p), (1, q), (5, I)] rfl ⟨rfl, rfl, rfl, trivial⟩ ⟨rfl, rfl, rfl⟩|refine Z1 rfl ?_)|((with_reducible show VO _ _ _ _ _ _ _);first|refine Z0 (ldv hm rfl rfl) ?_|refine Z4 rfl a1 a2 ?_|refine Z0 rfl ?_|refine Z2 ?_)
 |cons y rest ih=>
  intro pre hl
  have hlt:decide ((pre.length:Int)<l.length)=true:=decide_eq_true (by subst hl;simp;omega)
  have hpl:pre.length<l.length:=by subst hl;simp
  obtain ⟨cs, ay, hcs⟩:=ha.at (sz:=1) (fun _ _ h=>by obtain ⟨_, rfl, _⟩:=h;rfl) (j:=pre.length) (a:=y) (by subst hl;simp)
  obtain ⟨ds, by_, hds⟩:=hb.at (sz:=1) (fun _ _ h=>by obtain ⟨_, rfl, _⟩:=h;rfl) (j:=pre.length) (a:=y) (by subst hl;simp)
  obtain ⟨v, rfl, hv⟩:=hcs
  obtain ⟨w, rfl, hw'⟩:=hds
  have plv:Pl v:=SL.pl hv
  have plw:Pl w:=SL.pl hw'
  have hs:=ihs y v w hv hw'
  have hw:IntKind.i64.wrap ((pre.length:Int)+1)=((pre++[y]).length:Int):=by rw [Z01];simp;omega
  have hi:=ih (pre++[y]) (by rw [hl];simp)
  refine Zf ?_
  repeat' first|((with_reducible show V _ _ _ _ _ _);first|refine Z15 hlt rfl rfl ?_|refine Z7z rfl hi ⟨rfl, rfl, rfl, rfl, rfl, Z04 hw, trivial⟩|refine Z1 rfl ?_|refine Z9 rfl rfl ?_|refine V_D rfl ?_)|((with_reducible show VO _ _ _ _ _ _ _);first|refine Z0 (ldv hm rfl rfl) ?_|refine Z4 rfl a1 a2 ?_|refine Z0 rfl ?_|refine Z2 ?_)|((with_reducible show VD _ _ _ _ _ _ _);first|refine Zo (ldv hm rfl rfl) ?_|refine Zo (ldv hm' rfl rfl) ?_|refine Z40 rfl rfl ay ?_|refine Z40 rfl rfl by_ ?_|refine Zn5 rfl rfl hs ?_|refine Zo rfl ?_|refine Z0a ?_)
set_option maxHeartbeats 4000000 in
theorem run_rSame:∀(n:Nat) (l:List Stp) (p q:PV), SL n p l→SL n q l→T.R (.call Z0w [p, q] (.bool true)):=by
 intro n
 induction n with
 |zero=>
  intro l p q hp hq
  have:l=[]:=by
   cases l with
   |nil=>rfl
   |cons s r=>
    obtain ⟨cs, _, h⟩:=SL.at hp (j:=0) (s:=s) rfl
    exact h.elim
  subst this
  obtain ⟨p1, p2, _⟩:=hp.len
  obtain ⟨q1, q2, _⟩:=hq.len
  have d1:=Z0k (p:=((([]:List Stp).length:Nat):Int)=(([]:List Stp).length:Nat)) rfl
  have hlt:decide ((0:Int)<(([]:List Stp).length:Int))=false:=by decide
  refine Z7 rfl rfl ?_
  repeat' first|((with_reducible show V _ _ _ _ _ _);first|refine Z9x rfl (Zf ?_)|refine Z48 hlt rfl rfl ?_|refine Z1 rfl ?_|refine Z6 rfl rfl ?_)|((with_reducible show VO _ _ _ _ _ _ _);first|refine Z4 rfl p1 p2 ?_|refine Z4 rfl q1 q2 ?_|refine Z3 d1 rfl ?_|refine Z0 rfl ?_|refine Z2 ?_)
  rfl
 |succ n ihn=>
  intro l p q hp hq
  obtain ⟨p1, p2, hbig⟩:=hp.len
  obtain ⟨q1, q2, _⟩:=hq.len
  have plp:=SL.pl hp
  have plq:=SL.pl hq
  have loop:∀(rest pre:List Stp) (st:St), l=pre++rest→V T (PE fun x e st'=>x=.exit 0∧e=Ze [(0, p)]) [.code (.loop Z0q)] .normal (Ze [(0, p), (1, q), (5, .int .i64 pre.length)]) st:=by
   intro rest
   induction rest with
   |nil=>
    intro pre st hl
    have hlt:decide ((pre.length:Int)<l.length)=false:=decide_eq_false (by subst hl;simp)
    refine Zf ?_
    repeat' first|((with_reducible show V _ _ _ _ _ _);first|refine Z48 hlt rfl rfl ?_|refine Zr [(0, p)] rfl ⟨rfl, trivial⟩ ⟨rfl, rfl⟩|refine Z1 rfl ?_)|((with_reducible show VO _ _ _ _ _ _ _);first|refine Z4 rfl p1 p2 ?_|refine Z0 rfl ?_|refine Z2 ?_)
   |cons y rest ih=>
    intro pre st hl
    have hlt:decide ((pre.length:Int)<l.length)=true:=decide_eq_true (by subst hl;simp;omega)
    have hpl:pre.length<l.length:=by subst hl;simp
    obtain ⟨cs, ay, hcs⟩:=SL.at hp (j:=pre.length) (s:=y) (by subst hl;simp)
    obtain ⟨ds, by_, hds⟩:=SL.at hq (j:=pre.length) (s:=y) (by subst hl;simp)
    have c6:=hcs.len6
    have c1:=hcs.one
    have d6:=hds.len6
    have d1':=hds.one
    obtain ⟨op, names, nums, preds, vals, subs⟩:=y
    obtain ⟨io, pa, pb, pc, pd, pe, rfl, ha, hb, hc, hd, he⟩:=hcs
    obtain ⟨_, qa, qb, qc, qd, qe, rfl, ha', hb', hc', hd', he'⟩:=hds
    obtain ⟨la1, la2, _⟩:=ha.len
    obtain ⟨lb1, lb2, _⟩:=hb.len
    obtain ⟨le1, le2, _⟩:=he.len
    obtain ⟨ma1, ma2, _⟩:=ha'.len
    obtain ⟨mb1, mb2, _⟩:=hb'.len
    obtain ⟨me1, me2, _⟩:=he'.len
    have plc:Pl pc:=hc.pl fun _ _ _ h=>h.pl
    have plc':Pl qc:=hc'.pl fun _ _ _ h=>h.pl
    have pld:Pl pd:=hd.pl fun _ _ _ h=>h.pl
    have pld':Pl qd:=hd'.pl fun _ _ _ h=>h.pl
    have hsp:=run_rsame hc hc'
    have hsv:=Zc7 vals vals pd qd hd hd'
    rw [decide_eq_true (cmpVs_zero.2 rfl)] at hsv
    obtain ⟨S1, hS1⟩:∃S, st.new (.var z6)=S:=⟨_, rfl⟩
    have a1:S1.get st.next=some (.var z6):=by rw [←hS1];exact St.get_new
    have n1:S1.next=st.next+1:=by rw [←hS1];rfl
    obtain ⟨S2, hS2⟩:∃S, S1.put st.next (.var [.int .i64 op, pa, pb, pc, pd, pe])=S:=⟨_, rfl⟩
    have a2:S2.get st.next=some (.var [.int .i64 op, pa, pb, pc, pd, pe]):=by rw [←hS2];exact St.get_put
    have n2:S2.next=st.next+1:=by rw [←hS2];exact n1
    obtain ⟨S3, hS3⟩:∃S, S2.new (.var z6)=S:=⟨_, rfl⟩
    have b3:S3.get (st.next+1)=some (.var z6):=by rw [←hS3, ←n2];exact St.get_new
    have a3:S3.get st.next=some (.var [.int .i64 op, pa, pb, pc, pd, pe]):=by rw [←hS3];exact (St.get_new_old (by omega)).trans a2
    obtain ⟨S4, hS4⟩:∃S, S3.put (st.next+1) (.var [.int .i64 op, qa, qb, qc, qd, qe])=S:=⟨_, rfl⟩
    have b4:S4.get (st.next+1)=some (.var [.int .i64 op, qa, qb, qc, qd, qe]):=by rw [←hS4];exact St.get_put
    have a4:S4.get st.next=some (.var [.int .i64 op, pa, pb, pc, pd, pe]):=by rw [←hS4];exact (St.get_put_old (by omega)).trans a3
    have hw:IntKind.i64.wrap ((pre.length:Int)+1)=((pre++[Stp.mk op names nums preds vals subs]).length:Int):=by rw [Z01];simp;omega
    have hi:=ih (pre++[.mk op names nums preds vals subs]) S4 (by rw [hl];simp)
    have hz:z6.length=6:=rfl
    have dop:=Z0k (p:=op=op) rfl
    have dna:=Z0k (p:=(names.length:Int)=names.length) rfl
    have dnu:=Z0k (p:=(nums.length:Int)=nums.length) rfl
    have dsu:=Z0k (p:=(subs.length:Int)=subs.length) rfl
    have l1:=sm_names (p:=p) (q:=q) (I:=.int .i64 pre.length) a4 b4 ha ha' names [] rfl
    have l2:=sm_nums (p:=p) (q:=q) (I:=.int .i64 pre.length) a4 b4 hb hb' nums [] rfl
    have l3:=sm_subs (p:=p) (q:=q) (I:=.int .i64 pre.length) a4 b4 he he' ihn subs [] rfl
    refine Zf ?_
    repeat' first|((with_reducible show V _ _ _ _ _ _);first|refine Z15 hlt rfl rfl ?_|refine Z08 rfl l1 ⟨rfl, rfl, rfl, rfl, rfl, rfl, trivial⟩ ?_|refine Z1 rfl ?_|refine Z9 rfl rfl ?_)|((with_reducible show VO _ _ _ _ _ _ _);first|refine Z4 rfl p1 p2 ?_|refine Zg rfl rfl ay ?_|refine Zg rfl rfl by_ ?_|refine Z07 rfl c6 ?_|refine Z0b hS1 rfl ?_|refine Z0b hS3 n2 ?_|refine Z0j hS2 a1 c1 rfl hz rfl rfl rfl ?_|refine Z0j hS4 b3 d1' rfl hz rfl rfl rfl ?_|refine Z0 (ldv a4 rfl rfl) ?_|refine Z0 (ldv b4 rfl rfl) ?_|refine Z4 rfl la1 la2 ?_|refine Z4 rfl lb1 lb2 ?_|refine Z4 rfl le1 le2 ?_|refine Z4 rfl ma1 ma2 ?_|refine Z4 rfl mb1 mb2 ?_|refine Z4 rfl me1 me2 ?_|refine Z3 dop rfl ?_|refine Z3 dna rfl ?_|refine Z3 dnu rfl ?_|refine Z3 dsu rfl ?_|refine Z5 rfl rfl hsp ?_|refine Z5 rfl rfl hsv ?_|refine Z0 rfl ?_|refine Z2 ?_|refine Zh rfl ?_)
    rintro x e st' ⟨rfl, rfl, rfl⟩
    repeat' first|refine Z08 rfl l2 ⟨rfl, rfl, rfl, rfl, rfl, rfl, trivial⟩ ?_|refine Z1 rfl ?_|refine Z0 rfl ?_|refine Z2 ?_
    rintro x e st' ⟨rfl, rfl, rfl⟩
    repeat' first|refine Z08 rfl l3 ⟨rfl, rfl, rfl, rfl, rfl, rfl, trivial⟩ ?_|refine Z1 rfl ?_|refine Z0 rfl ?_|refine Z2 ?_
    rintro x e st' ⟨rfl, rfl, rfl⟩
    repeat' first|refine Z7z rfl hi ⟨rfl, rfl, Z04 hw, trivial⟩|refine Z1 rfl ?_|refine Z0 rfl ?_|refine Z2 ?_
  have hl:=loop l [] emptySt rfl
  have d1:=Z0k (p:=(l.length:Int)=l.length) rfl
  refine Z7 rfl rfl ?_
  repeat' first|((with_reducible show V _ _ _ _ _ _);first|refine Z08 rfl hl ⟨rfl, rfl, rfl, trivial⟩ ?_|refine Z1 rfl ?_|refine Z9 rfl rfl ?_)|((with_reducible show VO _ _ _ _ _ _ _);first|refine Z4 rfl p1 p2 ?_|refine Z4 rfl q1 q2 ?_|refine Z3 d1 rfl ?_|refine Z0 rfl ?_|refine Z2 ?_)
  rintro x e st' ⟨rfl, rfl⟩
  repeat' first|refine Z1 rfl ?_|refine Z6 rfl rfl ?_|refine Z0 rfl ?_|refine Z2 ?_
  rfl
def bgL:List Stp:=[Zj 1 [], Zj 60 [], Zj 24 [], Zj 24 [], Zj 21 [[Zj 21 [[Zj 5 [], Zj 44 []]]]]]
def bgM:List Stp:=[Zj 1 [], Zj 24 [], Zj 20 [[Zj 5 []]]]
theorem sim1 {o:Int} {subs:List (List Stp)} (h:rlS (Zj o subs)=none):Z7i (Zj o subs)=Zj o subs:=Ziu h
theorem Zj2 {a s:Stp} {r:List Stp} (h:(Z7i s).op≠60) (hj:Zfg a (Z7i s)=none):Zkj (a::r) s=Z7i s::a::r:=by
 rw [Zkj, if_neg h, hj]
theorem putR_some {a s x:Stp} {r:List Stp} (h:(Z7i s).op≠60) (hj:Zfg a (Z7i s)=some x):Zkj (a::r) s=Zkj r x:=by
 rw [Zkj, if_neg h, hj]
theorem putR_one {s:Stp} (h:(Z7i s).op≠60):Zkj [] s=[Z7i s]:=by
 rw [Zkj, if_neg h]
theorem join_ne {a b:Stp} (h1:Zbc a.op=false) (h2:a.op≠b.op):Zfg a b=none:=by
 unfold Zfg
 rw [if_neg (by rw [h1];decide), if_pos h2]
theorem join_ded:Zfg (Zj 24 []) (Zj 24 [])=some (Zj 24 []):=by
 unfold Zfg
 rw [if_neg (by decide), if_neg (by simp)]
 exact if_pos (by decide)
theorem rwS_mk (o:Int) (subs:List (List Stp)):rwS (Zj o subs)=Zj o (Zbb o 0 subs):=by
 unfold Zj
 rw [rwS]
theorem Zns (o:Int):rwS (Zj o [])=Zj o []:=by rw [rwS_mk, Zbb]
theorem bg_in:Zbb 21 0 [[Zj 5 [], Zj 44 []]]=[[Zj 5 []]]:=by
 have e5:Z7i (Zj 5 [])=Zj 5 []:=sim1 rfl
 have e44:Z7i (Zj 44 [])=Zj 44 []:=sim1 rfl
 rw [Zbb, Zbb, rwA, rwA, rwA, Zns, Zns, putR_one (by rw [e5];decide), e5, Zj2 (by rw [e44];decide) (by rw [e44];exact join_ne rfl (by decide)), e44]
 rfl
theorem bg_not:Zbb 21 0 [[Zj 21 [[Zj 5 [], Zj 44 []]]]]=[[Zj 21 [[Zj 5 []]]]]:=by
 have e:Z7i (Zj 21 [[Zj 5 []]])=Zj 21 [[Zj 5 []]]:=sim1 rfl
 rw [Zbb, Zbb, rwA, rwA, rwS_mk, bg_in, putR_one (by rw [e];decide), e]
 rfl
theorem rwL_begun:rwL bgL=bgM:=by
 have e1:Z7i (Zj 1 [])=Zj 1 []:=sim1 rfl
 have e60:Z7i (Zj 60 [])=Zj 60 []:=sim1 rfl
 have e24:Z7i (Zj 24 [])=Zj 24 []:=sim1 rfl
 have e20:Z7i (Zj 20 [[Zj 5 []]])=Zj 20 [[Zj 5 []]]:=sim1 rfl
 have e21:Z7i (Zj 21 [[Zj 21 [[Zj 5 []]]]])=Zj 20 [[Zj 5 []]]:=by
  rw [Zit (x:=Zj 20 [[Zj 5 []]]) rfl, e20]
 have p60:Zkj [Zj 1 []] (Zj 60 [])=[Zj 1 []]:=by rw [Zkj, if_pos (by rw [e60];rfl)]
 unfold rwL bgL
 rw [rwA, rwA, rwA, rwA, rwA, rwA, Zns, Zns, Zns, rwS_mk, bg_not, putR_one (by rw [e1];decide), e1, p60,
  Zj2 (a:=Zj 1 []) (s:=Zj 24 []) (by rw [e24];decide) (by rw [e24];exact join_ne rfl (by decide)), e24,
  putR_some (a:=Zj 24 []) (s:=Zj 24 []) (x:=Zj 24 []) (by rw [e24];decide) (by rw [e24];exact join_ded),
  Zj2 (a:=Zj 1 []) (s:=Zj 24 []) (by rw [e24];decide) (by rw [e24];exact join_ne rfl (by decide)), e24,
  Zj2 (a:=Zj 24 []) (by rw [e21];decide) (by rw [e21];exact join_ne rfl (by decide)), e21]
 rfl
theorem w_1:Ziq 1=[86]:=by decide +kernel
theorem w_24:Ziq 24=[100, 101, 100, 117, 112]:=by decide +kernel
theorem w_20:Ziq 20=[119, 104, 101, 114, 101]:=by decide +kernel
theorem w_5:Ziq 5=[111, 117, 116]:=by decide +kernel
theorem Zl2 {n:Nat} {op:Int} {subs:List (List Stp)} {cs:List PV} (h:SC n (Zj op subs) cs):∃m pa pb pc pd pe, n=m+1∧Zn op∧cs=[.int .i64 op, pa, pb, pc, pd, pe]∧LR NmC pa []∧LR NuC pb []∧LR PrC pc []∧LR VC pd []∧LR (SubC (SC m)) pe subs∧Pl pa∧Pl pb∧Pl pc∧Pl pd∧Pl pe:=sc_opn h
set_option maxHeartbeats 4000000 in
theorem Znx {n:Nat} {op:Int} {cs:List PV} (h:SC n (Zj op []) cs):T.R (.call Z2n [.agg cs] .nilSl):=by
 obtain ⟨m, pa, pb, pc, pd, pe, rfl, io, rfl, h1, h2, h3, h4, h5, pla, plb, plc, pld, ple⟩:=Zl2 h
 obtain ⟨a1, a2, _⟩:=h1.len
 obtain ⟨b1, b2, _⟩:=h2.len
 obtain ⟨c1, c2, _⟩:=h3.len
 obtain ⟨d1, d2, _⟩:=h4.len
 obtain ⟨e1, e2, _⟩:=h5.len
 obtain ⟨S, hS⟩:∃S, emptySt.new (.var [.int .i64 op, pa, pb, pc, pd, pe])=S:=⟨_, rfl⟩
 have g:S.get 0=some (.var [.int .i64 op, pa, pb, pc, pd, pe]):=by rw [←hS];exact St.get_new
 have hlt:decide ((0:Int)<((0:Nat):Int))=false:=by decide
 refine Z7 rfl rfl ?_
 repeat' first|((with_reducible show V _ _ _ _ _ _);first|refine Z9x rfl (Zf ?_)|refine Z48 hlt rfl rfl ?_|refine Z1 rfl ?_|refine Z6 rfl rfl ?_)|((with_reducible show VO _ _ _ _ _ _ _);first|refine Z9y hS rfl rfl ?_|refine Z0 (ldv g rfl rfl) ?_|refine Z4 rfl a1 a2 ?_|refine Z4 rfl b1 b2 ?_|refine Z4 rfl c1 c2 ?_|refine Z4 rfl d1 d2 ?_|refine Z4 rfl e1 e2 ?_|refine Z0 rfl ?_|refine Z2 ?_)
 rfl
set_option maxHeartbeats 4000000 in
theorem run_text5 {n:Nat} {p:PV} (hp:SL n p [Zj 5 []]):T.R (.call Zaq [p] (.str [111, 117, 116, 40, 41])):=by
 obtain ⟨cs, ay, hcs⟩:=SL.at hp (j:=0) (s:=Zj 5 []) rfl
 obtain ⟨p1, p2, _⟩:=hp.len
 have ha:=Znx hcs
 have c6:=hcs.len6
 obtain ⟨m, pa, pb, pc, pd, pe, rfl, io, rfl, h1, h2, h3, h4, h5, pla, plb, plc, pld, ple⟩:=Zl2 hcs
 have hw:=Zbf (op:=5) (by simp [Zn])
 rw [w_5] at hw
 refine Z7 rfl rfl ?_
 repeat' first|((with_reducible show V _ _ _ _ _ _);first|refine Z9x rfl (Zf ?_)|refine Z1 rfl ?_|refine Za rfl rfl ?_|refine Z9 rfl rfl ?_|refine Z6 rfl rfl ?_)|((with_reducible show VO _ _ _ _ _ _ _);first|refine Z4 rfl p1 p2 ?_|refine Zg rfl rfl ay ?_|refine Z07 rfl c6 ?_|refine Z5 rfl rfl hw ?_|refine Z5 rfl rfl ha ?_|refine Z0 rfl ?_|refine Z2 ?_)
 rfl
def outT:List UInt8:=[111, 117, 116, 40, 41]
set_option maxHeartbeats 4000000 in
theorem run_args1 {n:Nat} {op:Int} {cs:List PV} (h:SC n (Zj op [[Zj 5 []]]) cs):∃q, T.R (.call Z2n [.agg cs] q)∧LR NmC q [outT]:=by
 obtain ⟨m, pa, pb, pc, pd, pe, rfl, io, rfl, h1, h2, h3, h4, h5, pla, plb, plc, pld, ple⟩:=Zl2 h
 obtain ⟨a1, a2, _⟩:=h1.len
 obtain ⟨b1, b2, _⟩:=h2.len
 obtain ⟨c1, c2, _⟩:=h3.len
 obtain ⟨d1, d2, _⟩:=h4.len
 obtain ⟨e1, e2, _⟩:=h5.len
 obtain ⟨ds, ay, hds⟩:=h5.at (sz:=1) (fun _ _ h=>by obtain ⟨_, rfl, _⟩:=h;rfl) (j:=0) (a:=[Zj 5 []]) rfl
 obtain ⟨w, rfl, hw⟩:=hds
 have plw:Pl w:=SL.pl hw
 have ht:=run_text5 hw
 obtain ⟨S, hS⟩:∃S, emptySt.new (.var [.int .i64 op, pa, pb, pc, pd, pe])=S:=⟨_, rfl⟩
 have g:S.get 0=some (.var [.int .i64 op, pa, pb, pc, pd, pe]):=by rw [←hS];exact St.get_new
 have n0:S.next=1:=by rw [←hS];rfl
 obtain ⟨v', S2, r1, r2, r3⟩:=(AccR.nil (R:=NmC) (sz:=1) (st:=S)).app (a:=outT) (cs:=[.str outT]) (bytes:=16) ⟨by decide, rfl⟩ (by decide)
 have g2:S2.get 0=some (.var [.int .i64 op, pa, pb, pc, pd, pe]):=(r3.2.2.2 0 (by omega) (by simp [Z0g])).trans g
 obtain ⟨q, x1, x2⟩:=r2.view (fun _ _ h=>h.pl) (by decide)
 have hlt:decide ((0:Int)<((0:Nat):Int))=false:=by decide
 have hok:okEls 1 [[.str outT]]=true:=rfl
 have key:∃r, T.R (.call Z2n [.agg [.int .i64 op, pa, pb, pc, pd, pe]] r)∧r=q:=by
  refine Z1z rfl rfl ?_
  repeat' first|((with_reducible show V _ _ _ _ _ _);first|refine Z8u rfl rfl x1 rfl|refine Z9x rfl (Zf ?_)|refine Z48 hlt rfl rfl ?_|refine Z1 rfl ?_|refine Za rfl rfl ?_)|((with_reducible show VO _ _ _ _ _ _ _);first|refine Z9y hS rfl rfl ?_|refine Z0 (ldv g rfl rfl) ?_|refine Z0 (ldv g2 rfl rfl) ?_|refine Z4 rfl a1 a2 ?_|refine Z4 rfl b1 b2 ?_|refine Z4 rfl c1 c2 ?_|refine Z4 rfl d1 d2 ?_|refine Z4 rfl e1 e2 ?_|refine Zg rfl rfl ay ?_|refine Z5 rfl rfl ht ?_|refine Z25 rfl rfl rfl hok (by decide) (by decide) r1 ?_|refine Z0 rfl ?_|refine Z2 ?_)
 obtain ⟨r, r1, rfl⟩:=key
 exact ⟨r, r1, x2⟩
def bgT:List UInt8:=[86, 40, 41, 46, 100, 101, 100, 117, 112, 40, 41, 46, 119, 104, 101, 114, 101, 40, 111, 117, 116, 40, 41, 41]
set_option maxHeartbeats 8000000 in
theorem run_textB {n:Nat} {p:PV} (hp:SL n p bgM):T.R (.call Zaq [p] (.str bgT)):=by
 obtain ⟨cs, ay, hcs⟩:=SL.at hp (j:=0) (s:=Zj 1 []) rfl
 obtain ⟨ds, by_, hds⟩:=SL.at hp (j:=1) (s:=Zj 24 []) rfl
 obtain ⟨es, cy, hes⟩:=SL.at hp (j:=2) (s:=Zj 20 [[Zj 5 []]]) rfl
 obtain ⟨p1, p2, _⟩:=hp.len
 have ha:=Znx hcs
 have hb:=Znx hds
 obtain ⟨q, hc, hq⟩:=run_args1 hes
 obtain ⟨q1, q2, _⟩:=hq.len
 obtain ⟨xs, qy, hxs⟩:=hq.at (sz:=1) (fun _ _ h=>h.len1) (j:=0) (a:=outT) rfl
 obtain ⟨_, rfl⟩:=hxs
 have c6:=hcs.len6
 have d6:=hds.len6
 have e6:=hes.len6
 obtain ⟨_, pa, pb, pc, pd, pe, _, io, rfl, _, _, _, _, _, pla, plb, plc, pld, ple⟩:=Zl2 hcs
 obtain ⟨_, qa, qb, qc, qd, qe, _, io', rfl, _, _, _, _, _, qla, qlb, qlc, qld, qle⟩:=Zl2 hds
 obtain ⟨_, ra, rb, rc, rd, re, _, io'', rfl, _, _, _, _, _, rla, rlb, rlc, rld, rle⟩:=Zl2 hes
 have w1:=Zbf (op:=1) (by simp [Zn])
 have w2:=Zbf (op:=24) (by simp [Zn])
 have w3:=Zbf (op:=20) (by simp [Zn])
 rw [w_1] at w1
 rw [w_24] at w2
 rw [w_20] at w3
 refine Z7 rfl rfl ?_
 repeat' first|((with_reducible show V _ _ _ _ _ _);first|refine Z9x rfl (Zf ?_)|refine Z1 rfl ?_|refine Za rfl rfl ?_|refine Z9 rfl rfl ?_|refine Z6 rfl rfl ?_)|((with_reducible show VO _ _ _ _ _ _ _);first|refine Z4 rfl p1 p2 ?_|refine Z4 rfl q1 q2 ?_|refine Zg rfl rfl ay ?_|refine Zg rfl rfl by_ ?_|refine Zg rfl rfl cy ?_|refine Zg rfl rfl qy ?_|refine Z07 rfl c6 ?_|refine Z5 rfl rfl w1 ?_|refine Z5 rfl rfl w2 ?_|refine Z5 rfl rfl w3 ?_|refine Z5 rfl rfl ha ?_|refine Z5 rfl rfl hb ?_|refine Z5 rfl rfl hc ?_|refine Z0 rfl ?_|refine Z2 ?_)
 rfl
theorem chk_bgM:Zpb bgM=0:=by decide +kernel
theorem chk_bgL:Zpb bgL=0:=by decide +kernel
theorem run_PrintB {n:Nat} {p:PV} (hp:SL n p bgM):T.R (.call Zhx [p] (.tuple [.str (103::46::bgT), .int .i64 0])):=by
 have hc:=Zql hp
 rw [chk_bgM] at hc
 have ht:=run_textB hp
 have plp:=SL.pl hp
 refine Z7 rfl rfl ?_
 repeat' first|((with_reducible show V _ _ _ _ _ _);first|refine Z1 rfl ?_|refine Z9 rfl rfl ?_|refine Z6 rfl rfl ?_)|((with_reducible show VO _ _ _ _ _ _ _);first|refine Z5 rfl rfl hc ?_|refine Z5 rfl rfl ht ?_|refine Z0 rfl ?_|refine Z2 ?_)
 rfl
theorem lr_one {α:Type} {R:α→List PV→Prop} {a:α} {cs:List PV} (h:R a cs):LR R (.sl [cs] true) [a]:=.inr ⟨_, true, rfl, by simp, rfl, fun j b ds h1 h2=>by
 cases j with
 |zero=>simp at h1 h2;subst h1 h2;exact h
 |succ j=>simp at h1⟩
def cl (op:Int):List PV:=[.int .i64 op, .nilSl, .nilSl, .nilSl, .nilSl, .nilSl]
def cl1 (op:Int) (q:PV):List PV:=[.int .i64 op, .nilSl, .nilSl, .nilSl, .nilSl, q]
theorem sc_cl {n:Nat} {op:Int} (h:Zn op):SC (n+1) (Zj op []) (cl op):=Z3b h (.inl ⟨rfl, rfl⟩)
def bgI:PV:=.sl [cl 5, cl 44] true
def bgN:List PV:=cl1 21 (.sl [[bgI]] true)
def bgO:List PV:=cl1 21 (.sl [[.sl [bgN] true]] true)
def bgP:PV:=.sl [cl 1, cl 60, cl 24, cl 24, bgO] true
theorem sl_bg:SL 3 bgP bgL:=by
 have i5:Zn 5:=by simp [Zn]
 have hI:SL 1 bgI [Zj 5 [], Zj 44 []]:=.inr ⟨_, true, rfl, by simp, rfl, fun j s cs h1 h2=>by
  match j, h1, h2 with
  |0, h1, h2=>simp at h1 h2;subst h1 h2;exact sc_cl (by simp [Zn])
  |1, h1, h2=>simp at h1 h2;subst h1 h2;exact sc_cl (by simp [Zn])
  |j+2, h1, h2=>simp at h1⟩
 have hN:SC 2 (Zj 21 [[Zj 5 [], Zj 44 []]]) bgN:=Z3b (by simp [Zn]) (lr_one ⟨_, rfl, hI⟩)
 have hO:SC 3 (Zj 21 [[Zj 21 [[Zj 5 [], Zj 44 []]]]]) bgO:=Z3b (by simp [Zn]) (lr_one ⟨_, rfl, lr_one hN⟩)
 exact .inr ⟨_, true, rfl, by simp [bgL], rfl, fun j s cs h1 h2=>by
  unfold bgL at h1
  match j, h1, h2 with
  |0, h1, h2=>simp at h1 h2;subst h1 h2;exact sc_cl (by simp [Zn])
  |1, h1, h2=>simp at h1 h2;subst h1 h2;exact sc_cl (by simp [Zn])
  |2, h1, h2=>simp at h1 h2;subst h1 h2;exact sc_cl (by simp [Zn])
  |3, h1, h2=>simp at h1 h2;subst h1 h2;exact sc_cl (by simp [Zn])
  |4, h1, h2=>simp at h1 h2;subst h1 h2;exact hO
  |j+5, h1, h2=>simp at h1⟩
theorem cnt_bg:Zgy bgL≤134217728:=by decide +kernel
set_option maxHeartbeats 8000000 in
theorem run_begun:T.R (.call Zi0 [] (.bool true)):=by
 obtain ⟨q, h1, h2⟩:=Zny sl_bg (bd_of_cnt cnt_bg)
 rw [chk_bgL] at h1 h2
 have hq:SL 3 q bgM:=by
  rcases h2 with ⟨_, h⟩|⟨h, _⟩
  ·rwa [rwL_begun] at h
  ·exact absurd rfl h
 have h3:=run_PrintB hq
 have plq:=SL.pl hq
 have plb:=SL.pl sl_bg
 obtain ⟨S1, hS1⟩:∃S, emptySt.new (.var z6)=S:=⟨_, rfl⟩
 have a1:S1.get 0=some (.var z6):=by rw [←hS1];exact St.get_new
 obtain ⟨S2, hS2⟩:∃S, S1.put 0 (.var bgO)=S:=⟨_, rfl⟩
 have a2:S2.get 0=some (.var bgO):=by rw [←hS2];exact St.get_put
 have hone:∀c∈bgO, PV.one c=true:=by simp [bgO, cl1, PV.one]
 have hbd:∀ {look:Nat→Option Tok} {e:EC} {i j k l m:Nat}, e.get i=some (.agg (cl 1))→e.get j=some (.agg (cl 60))→e.get k=some (.agg (cl 24))→e.get l=some (.agg (cl 24))→e.get m=some (.agg bgO)→
   Zl look e (.buildSl 6 [cl 0, cl 0, cl 0, cl 0, cl 0] [(0, .t i), (1, .t j), (2, .t k), (3, .t l), (4, .t m)])=some bgP:=fun {look e i j k l m} h1 h2 h3 h4 h5=>by
  simp only [Zl, Z7m, Zp7, Opd.get, h1, h2, h3, h4, h5]
  rfl
 have dT:=Z0f (p:=(103::46::bgT)=(103::46::bgT)) rfl
 refine Z7 rfl rfl ?_
 repeat' first|refine Z1 rfl ?_|refine Z6 rfl rfl ?_|((with_reducible show VO _ _ _ _ _ _ _);first|refine Z0b hS1 rfl ?_|refine Z0j hS2 a1 hone rfl rfl rfl rfl rfl ?_|refine Zt rfl a2 rfl ?_|refine Z0 (hbd rfl rfl rfl rfl rfl) ?_|refine Z5 rfl rfl h1 ?_|refine Z5 rfl rfl h3 ?_|refine Z3 dT rfl ?_|refine Z0 rfl ?_|refine Z2 ?_|refine Zh rfl ?_)
 rfl
theorem only_sub {l:List Stp} {P P':Int→Bool} (h:Z1r l P=none) (hs:∀o, P' o=true→P o=true):Z1r l P'=none:=by
 cases hx:Z1r l P' with
 |none=>rfl
 |some x=>
  obtain ⟨rfl, h2⟩:=Z2b hx
  have:Z1r [x] P=some x:=by simp [Z1r, hs _ h2]
  rw [this] at h
  cases h
theorem only_of {l:List Stp} {P P':Int→Bool} {x:Stp} (h:Z1r l P=some x):Z1r l P'=if P' x.op=true then some x else none:=by
 obtain ⟨rfl, h2⟩:=Z2b h
 rfl
def Zno (a b:Int) (o:Int):Bool:=decide (o=a)||decide (o=b)
theorem Zix {n:Nat} {l:List Stp} {p:PV} (hp:SL n p l) (a b:Int):
  ∃cs, T.R (.call Z17 [p, .int .i64 a, .int .i64 b] (.tuple [.agg cs, .bool (Z1r l (Zno a b)).isSome]))∧(∀x, Z1r l (Zno a b)=some x→SC n x cs)∧C6 cs:=by
 obtain ⟨e1, e2, e3⟩:=hp.len
 have plp:=SL.pl hp
 have none6:∀(h:¬(l.length:Int)=1) (h2:Z1r l (Zno a b)=none), ∃cs, T.R (.call Z17 [p, .int .i64 a, .int .i64 b] (.tuple [.agg cs, .bool (Z1r l (Zno a b)).isSome]))∧(∀x, Z1r l (Zno a b)=some x→SC n x cs)∧C6 cs:=by
  intro h h2
  rw [h2]
  refine ⟨z6, ?_, fun x hx=>(by cases hx), c6_z⟩
  refine Z7 rfl rfl ?_
  repeat' first|((with_reducible show V _ _ _ _ _ _);first|refine Z1 rfl ?_|refine Za rfl rfl ?_|refine Z6 rfl rfl ?_)|((with_reducible show VO _ _ _ _ _ _ _);first|refine Z4 rfl e1 e2 ?_|refine Z3 (Z0e h) rfl ?_|refine Z0 rfl ?_|refine Zc rfl ?_|refine Z2 ?_|refine Z3x rfl ?_|refine Zk rfl rfl ?_)
  rfl
 match l, hp, e1, none6 with
 |[], hp, e1, none6=>exact none6 (by simp) rfl
 |[s], hp, e1, none6=>
  obtain ⟨cs, hat, hs⟩:=SL.at hp (j:=0) (s:=s) rfl
  have h6:=hs.len6
  have hpl:=hs.pl
  have hone:=hs.one
  have d1:PV.bool (!decide ((([s]:List Stp).length:Int)=1))=PV.bool false:=Z0k (by simp)
  have hs0:=hs
  cases n with
  |zero=>exact hs.elim
  |succ m=>
   obtain ⟨op, names, nums, preds, vals, subs⟩:=s
   obtain ⟨ho, pa, pb, pc, pd, pe, rfl, _⟩:=hs
   obtain ⟨pa1, pb1, pc1, pd1, pe1⟩:Pl pa∧Pl pb∧Pl pc∧Pl pd∧Pl pe:=⟨hpl _ (by simp), hpl _ (by simp), hpl _ (by simp), hpl _ (by simp), hpl _ (by simp)⟩
   by_cases ha:op=a
   ·have h2:Z1r [Stp.mk op names nums preds vals subs] (Zno a b)=some (Stp.mk op names nums preds vals subs):=by simp [Z1r, Stp.op, Zno, ha]
    rw [h2]
    refine ⟨_, ?_, fun x hx=>(by injection hx with hx;subst hx;exact hs0), hs0.c6⟩
    refine Z7 rfl rfl ?_
    repeat' first|((with_reducible show V _ _ _ _ _ _);first|refine Z1 rfl ?_|refine Z9 rfl rfl ?_|refine Z6 rfl rfl ?_)|((with_reducible show VO _ _ _ _ _ _ _);first|refine Z4 rfl e1 e2 ?_|refine Z3 d1 rfl ?_|refine Zg rfl rfl hat ?_|refine Z07 rfl h6 ?_|refine Z3 (Z0k ha) rfl ?_|refine Z03 rfl rfl hone rfl rfl rfl rfl ?_|refine Z0 rfl ?_|refine Zc rfl ?_|refine Z2 ?_|refine Zh rfl ?_|refine Zk rfl rfl ?_)
    rfl
   ·by_cases hb:op=b
    ·have h2:Z1r [Stp.mk op names nums preds vals subs] (Zno a b)=some (Stp.mk op names nums preds vals subs):=by simp [Z1r, Stp.op, Zno, hb]
     rw [h2]
     refine ⟨_, ?_, fun x hx=>(by injection hx with hx;subst hx;exact hs0), hs0.c6⟩
     refine Z7 rfl rfl ?_
     repeat' first|((with_reducible show V _ _ _ _ _ _);first|refine Z1 rfl ?_|refine Z9 rfl rfl ?_|refine Z6 rfl rfl ?_)|((with_reducible show VO _ _ _ _ _ _ _);first|refine Z4 rfl e1 e2 ?_|refine Z3 d1 rfl ?_|refine Zg rfl rfl hat ?_|refine Z07 rfl h6 ?_|refine Z3 (Z0e ha) rfl ?_|refine Z3 (Z0k hb) rfl ?_|refine Z03 rfl rfl hone rfl rfl rfl rfl ?_|refine Z0 rfl ?_|refine Zc rfl ?_|refine Z2 ?_|refine Zh rfl ?_)
     rfl
    ·have h2:Z1r [Stp.mk op names nums preds vals subs] (Zno a b)=none:=by simp [Z1r, Stp.op, Zno, ha, hb]
     rw [h2]
     refine ⟨z6, ?_, fun x hx=>(by cases hx), c6_z⟩
     refine Z7 rfl rfl ?_
     repeat' first|((with_reducible show V _ _ _ _ _ _);first|refine Z1 rfl ?_|refine Za rfl rfl ?_|refine Z6 rfl rfl ?_)|((with_reducible show VO _ _ _ _ _ _ _);first|refine Z4 rfl e1 e2 ?_|refine Z3 d1 rfl ?_|refine Zg rfl rfl hat ?_|refine Z3 (Z0e ha) rfl ?_|refine Z3 (Z0e hb) rfl ?_|refine Z0 rfl ?_|refine Zc rfl ?_|refine Z2 ?_|refine Zh rfl ?_)
     rfl
 |s::s'::r, hp, e1, none6=>exact none6 (by simp;omega) rfl
theorem pl6R {a b c d e f:PV} (h:∀x∈[a, b, c, d, e, f], Pl x):Pl a∧Pl b∧Pl c∧Pl d∧Pl e∧Pl f:=⟨h _ (by simp), h _ (by simp), h _ (by simp), h _ (by simp), h _ (by simp), h _ (by simp)⟩
theorem Zng {look:Nat→Option Tok} {e:EC}:Zl look e (.build [.int .i64 0, .nilSl, .nilSl, .nilSl, .nilSl, .nilSl] [(0, (1, .c (.int .i64 60)))])=some (.agg idC):=rfl
set_option maxHeartbeats 4000000 in
theorem run_once {n:Nat} {s:Stp} {cs:List PV} (h:SC n s cs) (hok:okS s=true):∃cs', T.R (.call Z54 [.agg cs] (.tuple [.agg cs', .bool (rlS s).isSome]))∧(∀x, rlS s=some x→SC n x cs')∧C6 cs':=by
 have hpl:=h.pl
 have hone:=h.one
 have hc6:=h.c6
 cases n with
 |zero=>exact h.elim
 |succ m=>
 obtain ⟨op, names, nums, preds, vals, subs⟩:=s
 obtain ⟨ho, pa, pb, pc, pd, pe, rfl, h1, h2, h3, h4, h5⟩:=h
 obtain ⟨k1, k2, k3⟩:=Zcb hok
 obtain ⟨pa1, pb1, pc1, pd1, pe1⟩:Pl pa∧Pl pb∧Pl pc∧Pl pd∧Pl pe:=⟨hpl _ (by simp), hpl _ (by simp), hpl _ (by simp), hpl _ (by simp), hpl _ (by simp)⟩
 have hrl:rlS (.mk op names nums preds vals subs)=rlO op nums subs:=rfl
 rw [hrl]
 obtain ⟨e1, e2, e3⟩:=h5.len
 have sub1:subs.length=1→∃l q, subs=[l]∧At 1 pe 0 [q]∧SL m q l:=by
  intro hl
  obtain ⟨l, rfl⟩:=List.length_eq_one_iff.1 hl
  obtain ⟨cy, ay, q, rfl, hq⟩:=h5.at (sz:=1) (fun _ _ h=>h.len1) (j:=0) (a:=l) rfl
  exact ⟨l, q, rfl, ay, hq⟩
 have zpl:=z6_pl
 have h5one:=(Z3b (op:=20) (by simp [Zn]) h5).one
 have idone:=(Zkn 0).one
 by_cases o22:op=22∨op=23
 ·by_cases hl:subs.length=1
  ·have hr:rlO op nums subs=some (Zj 20 subs):=by unfold rlO;rw [if_pos o22, if_pos hl]
   rw [hr]
   have d1:PV.bool (decide ((subs.length:Int)=1))=PV.bool true:=Z0f (by omega)
   refine ⟨_, ?_, fun x hx=>(by injection hx with hx;subst hx;exact Z3b (by simp [Zn]) h5), (Z3b (by simp [Zn]) h5).c6⟩
   rcases o22 with rfl|rfl
   ·refine Z7 rfl rfl ?_
    repeat' first|((with_reducible show V _ _ _ _ _ _);first|refine Z1 rfl ?_|refine Za rfl rfl ?_|refine Z6 rfl rfl ?_)|((with_reducible show VO _ _ _ _ _ _ _);first|refine Z4 rfl e1 e2 ?_|refine Z3 d1 rfl ?_|refine Z0 (Zc1 h5 _ rfl) ?_|refine Z03 rfl rfl h5one rfl rfl rfl rfl ?_|refine Z0 rfl ?_|refine Zc rfl ?_|refine Z2 ?_)
    rfl
   ·refine Z7 rfl rfl ?_
    repeat' first|((with_reducible show V _ _ _ _ _ _);first|refine Z1 rfl ?_|refine Za rfl rfl ?_|refine Z9 rfl rfl ?_|refine Z6 rfl rfl ?_)|((with_reducible show VO _ _ _ _ _ _ _);first|refine Z4 rfl e1 e2 ?_|refine Z3 d1 rfl ?_|refine Z0 (Zc1 h5 _ rfl) ?_|refine Z03 rfl rfl h5one rfl rfl rfl rfl ?_|refine Z0 rfl ?_|refine Zc rfl ?_|refine Z2 ?_)
    rfl
  ·have hr:rlO op nums subs=none:=by unfold rlO;rw [if_pos o22, if_neg hl]
   rw [hr]
   have d1:PV.bool (decide ((subs.length:Int)=1))=PV.bool false:=Zb (by omega)
   refine ⟨_, ?_, fun x hx=>(by cases hx), hc6⟩
   rcases o22 with rfl|rfl
   ·refine Z7 rfl rfl ?_
    repeat' first|((with_reducible show V _ _ _ _ _ _);first|refine Z1 rfl ?_|refine Za rfl rfl ?_|refine Z9 rfl rfl ?_|refine Z6 rfl rfl ?_)|((with_reducible show VO _ _ _ _ _ _ _);first|refine Z4 rfl e1 e2 ?_|refine Z3 d1 rfl ?_|refine Zt rfl rfl rfl ?_|refine Z03 rfl rfl hone rfl rfl rfl rfl ?_|refine Z0 rfl ?_|refine Zc rfl ?_|refine Z2 ?_)
    rfl
   ·refine Z7 rfl rfl ?_
    repeat' first|((with_reducible show V _ _ _ _ _ _);first|refine Z1 rfl ?_|refine Za rfl rfl ?_|refine Z9 rfl rfl ?_|refine Z6 rfl rfl ?_)|((with_reducible show VO _ _ _ _ _ _ _);first|refine Z4 rfl e1 e2 ?_|refine Z3 d1 rfl ?_|refine Zt rfl rfl rfl ?_|refine Z03 rfl rfl hone rfl rfl rfl rfl ?_|refine Z0 rfl ?_|refine Zc rfl ?_|refine Z2 ?_)
    rfl
 by_cases o21:op=21
 ·subst o21
  obtain ⟨l, q, rfl, ay, hq⟩:=sub1 (by have:=(Z62 (op:=21) rfl k1).2.2.2.2;omega)
  have hr:rlO 21 nums [l]=(Z1r l wnB).map notS:=by unfold rlO;rw [if_neg (by decide), if_pos rfl];rfl
  rw [hr]
  have plq:=SL.pl hq
  obtain ⟨cx, c1, c2, c3, c4, o6⟩:=Zix hq 21 21
  obtain ⟨cz, z1, z2, z3, z4, zo6⟩:=Zix hq 20 20
  cases hx:Z1r l wnB with
  |none=>
   rw [only_sub hx (P':=Zno 21 21) (fun o h=>by simp [Zno] at h;simp [wnB, h])] at c1
   rw [only_sub hx (P':=Zno 20 20) (fun o h=>by simp [Zno] at h;simp [wnB, h])] at z1
   refine ⟨_, ?_, fun x hx=>(by cases hx), hc6⟩
   refine Z7 rfl rfl ?_
   repeat' first|((with_reducible show V _ _ _ _ _ _);first|refine Z1 rfl ?_|refine Za rfl rfl ?_|refine Z9 rfl rfl ?_|refine Z6 rfl rfl ?_)|((with_reducible show VO _ _ _ _ _ _ _);first|refine Zg rfl rfl ay ?_|refine Z5 rfl rfl c1 ?_|refine Z5 rfl rfl z1 ?_|refine Zt rfl rfl rfl ?_|refine Z03 rfl rfl o6 c4 rfl rfl rfl ?_|refine Z03 rfl rfl zo6 z4 rfl rfl rfl ?_|refine Z03 rfl rfl hone rfl rfl rfl rfl ?_|refine Z0 rfl ?_|refine Zc rfl ?_|refine Z2 ?_)
   rfl
  |some y=>
   obtain ⟨e5, e6⟩:=Z2b hx
   have hyo:y.op=20∨y.op=21:=by simpa [wnB] using e6
   rw [only_of hx] at c1 c2 z1 z2
   by_cases h20:y.op=20
   ·rw [if_neg (by simp [Zno, h20])] at c1 c2
    rw [if_pos (by simp [Zno, h20])] at z1 z2
    have hy:=z2 y rfl
    have c1':T.R (.call Z17 [q, .int .i64 21, .int .i64 21] (.tuple [.agg cx, .bool false])):=c1
    have z1':T.R (.call Z17 [q, .int .i64 20, .int .i64 20] (.tuple [.agg cz, .bool true])):=z1
    cases m with
    |zero=>exact hy.elim
    |succ m=>
     obtain ⟨yo, yn, yu, yp, yv, ys⟩:=y
     obtain ⟨_, xa, xb, xc, xd, xe, rfl, _, _, _, _, y5⟩:=hy
     have xe1:Pl xe:=z3 _ (by simp)
     have y5one:=(Z3b (op:=21) (by simp [Zn]) y5).one
     have hn:notS (.mk yo yn yu yp yv ys)=Zj (if yo=20 then 21 else 20) ys:=rfl
     have h20':yo=20:=h20
     refine ⟨[.int .i64 21, .nilSl, .nilSl, .nilSl, .nilSl, xe], ?_, fun x hx=>(by injection hx with hx;subst hx;rw [hn, if_pos h20'];exact (Z3b (by simp [Zn]) y5).mono (by omega)), (Z3b (op:=21) (by simp [Zn]) y5).c6⟩
     refine Z7 rfl rfl ?_
     repeat' first|((with_reducible show V _ _ _ _ _ _);first|refine Z1 rfl ?_|refine Za rfl rfl ?_|refine Z9 rfl rfl ?_|refine Z6 rfl rfl ?_)|((with_reducible show VO _ _ _ _ _ _ _);first|refine Zg rfl rfl ay ?_|refine Z5 rfl rfl c1' ?_|refine Z5 rfl rfl z1' ?_|refine Z0 (Zc1 y5 _ rfl) ?_|refine Z03 rfl rfl o6 c4 rfl rfl rfl ?_|refine Z03 rfl rfl zo6 rfl rfl rfl rfl ?_|refine Z03 rfl rfl y5one rfl rfl rfl rfl ?_|refine Z0 rfl ?_|refine Zc rfl ?_|refine Z2 ?_)
     rfl
   ·have h21:y.op=21:=hyo.resolve_left h20
    rw [if_pos (by simp [Zno, h21])] at c1 c2
    have hy:=c2 y rfl
    have c1':T.R (.call Z17 [q, .int .i64 21, .int .i64 21] (.tuple [.agg cx, .bool true])):=c1
    cases m with
    |zero=>exact hy.elim
    |succ m=>
     obtain ⟨yo, yn, yu, yp, yv, ys⟩:=y
     obtain ⟨_, xa, xb, xc, xd, xe, rfl, _, _, _, _, y5⟩:=hy
     have xe1:Pl xe:=c3 _ (by simp)
     have y5one:=(Z3b (op:=20) (by simp [Zn]) y5).one
     have hn:notS (.mk yo yn yu yp yv ys)=Zj (if yo=20 then 21 else 20) ys:=rfl
     have h20':¬yo=20:=h20
     refine ⟨[.int .i64 20, .nilSl, .nilSl, .nilSl, .nilSl, xe], ?_, fun x hx=>(by injection hx with hx;subst hx;rw [hn, if_neg h20'];exact (Z3b (by simp [Zn]) y5).mono (by omega)), (Z3b (op:=20) (by simp [Zn]) y5).c6⟩
     refine Z7 rfl rfl ?_
     repeat' first|((with_reducible show V _ _ _ _ _ _);first|refine Z1 rfl ?_|refine Za rfl rfl ?_|refine Z9 rfl rfl ?_|refine Z6 rfl rfl ?_)|((with_reducible show VO _ _ _ _ _ _ _);first|refine Zg rfl rfl ay ?_|refine Z5 rfl rfl c1' ?_|refine Z0 (Zc1 y5 _ rfl) ?_|refine Z03 rfl rfl o6 rfl rfl rfl rfl ?_|refine Z03 rfl rfl y5one rfl rfl rfl rfl ?_|refine Z0 rfl ?_|refine Zc rfl ?_|refine Z2 ?_)
     rfl
 by_cases o20:op=20
 ·subst o20
  obtain ⟨l, q, rfl, ay, hq⟩:=sub1 (by have:=(Z62 (op:=20) rfl k1).2.2.2.2;omega)
  have hr:rlO 20 nums [l]=Z1r l (Zno 20 21):=by unfold rlO;rw [if_neg (by decide), if_neg (by decide), if_pos rfl];rfl
  rw [hr]
  have plq:=SL.pl hq
  obtain ⟨cx, c1, c2, c3, c4, o6⟩:=Zix hq 20 21
  generalize Z1r l (Zno 20 21)=r at c1 c2 ⊢
  refine ⟨cx, ?_, fun x hx=>(c2 x hx).mono (by omega), ⟨c3, c4, o6⟩⟩
  match cx, c4, c1, c3, o6 with
  |[x0, x1, x2, x3, x4, x5], c4, c1, c3, o6=>
   obtain ⟨y0, y1, y2, y3, y4, y5⟩:=pl6R c3
   refine Z7 rfl rfl ?_
   repeat' first|((with_reducible show V _ _ _ _ _ _);first|refine Z1 rfl ?_|refine Za rfl rfl ?_|refine Z9 rfl rfl ?_|refine Z6 rfl rfl ?_)|((with_reducible show VO _ _ _ _ _ _ _);first|refine Zg rfl rfl ay ?_|refine Z5 rfl rfl c1 ?_|refine Z03 rfl rfl o6 rfl rfl rfl rfl ?_|refine Z0 rfl ?_|refine Zc rfl ?_|refine Z2 ?_)
   rfl
 by_cases o54:op=54∨op=27
 ·obtain ⟨k, rfl⟩:∃k, nums=[k]:=by
   rcases o54 with rfl|rfl
   ·exact len1 (Z62 (op:=54) rfl k1).2.1
   ·exact len1 (Z62 (op:=27) rfl k1).2.1
  obtain ⟨cy, ay, hy, rfl⟩:=h2.at (sz:=1) (fun _ _ h=>h.len1) (j:=0) (a:=k) rfl
  have hr:rlO op [k] subs=if k=0 then some idS else none:=by
   unfold rlO
   rw [if_neg o22, if_neg o21, if_neg o20, if_pos o54]
   rfl
  rw [hr]
  by_cases hk:k=0
  ·rw [if_pos hk]
   refine ⟨idC, ?_, fun x hx=>(by injection hx with hx;subst hx;exact Zkn m), (Zkn 0).c6⟩
   rcases o54 with rfl|rfl
   ·refine Z7 rfl rfl ?_
    repeat' first|((with_reducible show V _ _ _ _ _ _);first|refine Z1 rfl ?_|refine Za rfl rfl ?_|refine Z9 rfl rfl ?_|refine Z6 rfl rfl ?_)|((with_reducible show VO _ _ _ _ _ _ _);first|refine Zg rfl rfl ay ?_|refine Z3 (Z0f hk) rfl ?_|refine Z0 Zng ?_|refine Z03 rfl rfl idone rfl rfl rfl rfl ?_|refine Z0 rfl ?_|refine Zc rfl ?_|refine Z2 ?_)
    rfl
   ·refine Z7 rfl rfl ?_
    repeat' first|((with_reducible show V _ _ _ _ _ _);first|refine Z1 rfl ?_|refine Za rfl rfl ?_|refine Z9 rfl rfl ?_|refine Z6 rfl rfl ?_)|((with_reducible show VO _ _ _ _ _ _ _);first|refine Zg rfl rfl ay ?_|refine Z3 (Z0f hk) rfl ?_|refine Z0 Zng ?_|refine Z03 rfl rfl idone rfl rfl rfl rfl ?_|refine Z0 rfl ?_|refine Zc rfl ?_|refine Z2 ?_)
    rfl
  ·rw [if_neg hk]
   refine ⟨_, ?_, fun x hx=>(by cases hx), hc6⟩
   rcases o54 with rfl|rfl
   ·refine Z7 rfl rfl ?_
    repeat' first|((with_reducible show V _ _ _ _ _ _);first|refine Z1 rfl ?_|refine Za rfl rfl ?_|refine Z9 rfl rfl ?_|refine Z6 rfl rfl ?_)|((with_reducible show VO _ _ _ _ _ _ _);first|refine Zg rfl rfl ay ?_|refine Z3 (Zb hk) rfl ?_|refine Zt rfl rfl rfl ?_|refine Z03 rfl rfl hone rfl rfl rfl rfl ?_|refine Z0 rfl ?_|refine Zc rfl ?_|refine Z2 ?_)
    rfl
   ·refine Z7 rfl rfl ?_
    repeat' first|((with_reducible show V _ _ _ _ _ _);first|refine Z1 rfl ?_|refine Za rfl rfl ?_|refine Z9 rfl rfl ?_|refine Z6 rfl rfl ?_)|((with_reducible show VO _ _ _ _ _ _ _);first|refine Zg rfl rfl ay ?_|refine Z3 (Zb hk) rfl ?_|refine Zt rfl rfl rfl ?_|refine Z03 rfl rfl hone rfl rfl rfl rfl ?_|refine Z0 rfl ?_|refine Zc rfl ?_|refine Z2 ?_)
    rfl
 by_cases o52:op=52
 ·subst o52
  obtain ⟨l, q, rfl, ay, hq⟩:=sub1 (by have:=(Z62 (op:=52) rfl k1).2.2.2.2;omega)
  have hr:rlO 52 nums [l]=Z1r l (fun o=>decide (o=60)):=by unfold rlO;rw [if_neg (by decide), if_neg (by decide), if_neg (by decide), if_neg (by decide), if_pos rfl];rfl
  rw [hr]
  have plq:=SL.pl hq
  obtain ⟨cx, c1, c2, c3, c4, o6⟩:=Zix hq 60 60
  cases hx:Z1r l (fun o=>decide (o=60)) with
  |none=>
   rw [only_sub hx (P':=Zno 60 60) (fun o h=>by simpa [Zno] using h)] at c1
   refine ⟨_, ?_, fun x hx=>(by cases hx), hc6⟩
   refine Z7 rfl rfl ?_
   repeat' first|((with_reducible show V _ _ _ _ _ _);first|refine Z1 rfl ?_|refine Za rfl rfl ?_|refine Z9 rfl rfl ?_|refine Z6 rfl rfl ?_)|((with_reducible show VO _ _ _ _ _ _ _);first|refine Zg rfl rfl ay ?_|refine Z5 rfl rfl c1 ?_|refine Zt rfl rfl rfl ?_|refine Z03 rfl rfl o6 c4 rfl rfl rfl ?_|refine Z03 rfl rfl hone rfl rfl rfl rfl ?_|refine Z0 rfl ?_|refine Zc rfl ?_|refine Z2 ?_)
   rfl
  |some y=>
   obtain ⟨e5, e6⟩:=Z2b hx
   have h60:y.op=60:=by simpa using e6
   have hid:y=idS:=id_of (Zjo k3 e5) h60
   rw [only_of hx, if_pos (by simp [Zno, h60])] at c1
   have c1':T.R (.call Z17 [q, .int .i64 60, .int .i64 60] (.tuple [.agg cx, .bool true])):=c1
   refine ⟨idC, ?_, fun x hx=>(by injection hx with hx;subst hx;rw [hid];exact Zkn m), (Zkn 0).c6⟩
   refine Z7 rfl rfl ?_
   repeat' first|((with_reducible show V _ _ _ _ _ _);first|refine Z1 rfl ?_|refine Za rfl rfl ?_|refine Z9 rfl rfl ?_|refine Z6 rfl rfl ?_)|((with_reducible show VO _ _ _ _ _ _ _);first|refine Zg rfl rfl ay ?_|refine Z5 rfl rfl c1' ?_|refine Z0 Zng ?_|refine Z03 rfl rfl o6 c4 rfl rfl rfl ?_|refine Z03 rfl rfl idone rfl rfl rfl rfl ?_|refine Z0 rfl ?_|refine Zc rfl ?_|refine Z2 ?_)
   rfl
 by_cases o28:op=28
 ·subst o28
  obtain ⟨a, b, rfl⟩:∃a b, nums=[a, b]:=by
   have:=(Z62 (op:=28) rfl k1).2.1
   match nums, this with
   |[a, b], _=>exact ⟨a, b, rfl⟩
  obtain ⟨ca, aa, ha, rfl⟩:=h2.at (sz:=1) (fun _ _ h=>h.len1) (j:=0) (a:=a) rfl
  obtain ⟨cb, ab, hb, rfl⟩:=h2.at (sz:=1) (fun _ _ h=>h.len1) (j:=1) (a:=b) rfl
  have hr:rlO 28 [a, b] subs=if a≥b then some (limS 0) else if a=0 then some (limS b) else none:=by
   unfold rlO
   rw [if_neg (by decide), if_neg (by decide), if_neg (by decide), if_neg (by decide), if_neg (by decide), if_pos rfl]
   rfl
  rw [hr]
  by_cases hab:a≥b
  ·rw [if_pos hab]
   have d1:=Z0f (p:=b≤a) hab
   have lone:=(Z6r (n:=0) (op:=26) (k:=0) (by simp [Zn]) (by simp [Zn])).one
   refine ⟨limC 0, ?_, fun x hx=>(by injection hx with hx;subst hx;exact Z6r (by simp [Zn]) (by simp [Zn])), (Z6r (n:=0) (op:=26) (k:=0) (by simp [Zn]) (by simp [Zn])).c6⟩
   refine Z7 rfl rfl ?_
   repeat' first|((with_reducible show V _ _ _ _ _ _);first|refine Z1 rfl ?_|refine Za rfl rfl ?_|refine Z9 rfl rfl ?_|refine Z6 rfl rfl ?_|refine V_D rfl ?_)|((with_reducible show VO _ _ _ _ _ _ _);first|refine Z03 rfl rfl lone rfl rfl rfl rfl ?_|refine Z0 rfl ?_|refine Zc rfl ?_|refine Z2 ?_)|((with_reducible show VD _ _ _ _ _ _ _);first|refine Z40 rfl rfl aa ?_|refine Z40 rfl rfl ab ?_|refine Zfs d1 rfl ?_|refine Zo rfl ?_|refine Z0a ?_)
   rfl
  ·rw [if_neg hab]
   have d1:=Zb (p:=b≤a) hab
   have lone:=(Z6r (n:=0) (op:=26) (by simp [Zn]) hb).one
   by_cases ha0:a=0
   ·rw [if_pos ha0]
    refine ⟨limC b, ?_, fun x hx=>(by injection hx with hx;subst hx;exact Z6r (by simp [Zn]) hb), (Z6r (n:=0) (op:=26) (by simp [Zn]) hb).c6⟩
    refine Z7 rfl rfl ?_
    repeat' first|((with_reducible show V _ _ _ _ _ _);first|refine Z1 rfl ?_|refine Za rfl rfl ?_|refine Z9 rfl rfl ?_|refine Z6 rfl rfl ?_|refine V_D rfl ?_)|((with_reducible show VO _ _ _ _ _ _ _);first|refine Zg rfl rfl aa ?_|refine Zg rfl rfl ab ?_|refine Z3 (Z0f ha0) rfl ?_|refine Z03 rfl rfl lone rfl rfl rfl rfl ?_|refine Z0 rfl ?_|refine Zc rfl ?_|refine Z2 ?_)|((with_reducible show VD _ _ _ _ _ _ _);first|refine Z40 rfl rfl aa ?_|refine Z40 rfl rfl ab ?_|refine Zfs d1 rfl ?_|refine Zo rfl ?_|refine Z0a ?_)
    rfl
   ·rw [if_neg ha0]
    refine ⟨_, ?_, fun x hx=>(by cases hx), hc6⟩
    refine Z7 rfl rfl ?_
    repeat' first|((with_reducible show V _ _ _ _ _ _);first|refine Z1 rfl ?_|refine Za rfl rfl ?_|refine Z9 rfl rfl ?_|refine Z6 rfl rfl ?_|refine V_D rfl ?_)|((with_reducible show VO _ _ _ _ _ _ _);first|refine Zg rfl rfl aa ?_|refine Z3 (Zb ha0) rfl ?_|refine Zt rfl rfl rfl ?_|refine Z03 rfl rfl hone rfl rfl rfl rfl ?_|refine Z0 rfl ?_|refine Zc rfl ?_|refine Z2 ?_)|((with_reducible show VD _ _ _ _ _ _ _);first|refine Z40 rfl rfl aa ?_|refine Z40 rfl rfl ab ?_|refine Zfs d1 rfl ?_|refine Zo rfl ?_|refine Z0a ?_)
    rfl
 have hr:rlO op nums subs=none:=by
  unfold rlO
  rw [if_neg o22, if_neg o21, if_neg o20, if_neg o54, if_neg o52, if_neg o28]
 rw [hr]
 rw [not_or] at o22 o54
 refine ⟨_, ?_, fun x hx=>(by cases hx), hc6⟩
 refine Z7 rfl rfl ?_
 repeat' first|((with_reducible show V _ _ _ _ _ _);first|refine Z1 rfl ?_|refine Z9 rfl rfl ?_|refine Z6 rfl rfl ?_)|((with_reducible show VO _ _ _ _ _ _ _);first|refine Z3 (Zb o22.2) rfl ?_|refine Z3 (Zb o22.1) rfl ?_|refine Z3 (Zb o21) rfl ?_|refine Z3 (Zb o20) rfl ?_|refine Z3 (Zb o54.1) rfl ?_|refine Z3 (Zb o54.2) rfl ?_|refine Z3 (Zb o52) rfl ?_|refine Z3 (Zb o28) rfl ?_|refine Zt rfl rfl rfl ?_|refine Z03 rfl rfl hone rfl rfl rfl rfl ?_|refine Z0 rfl ?_|refine Zc rfl ?_|refine Z2 ?_)
 rfl
end Go.Proofs.YtnedeokclnbcpaaGreatDoor
