/- Names: value.Name. · slices.IndexFunc and ContainsFunc, over elements of any size. · Steps: what they are over plain cells. · Names, words, shapes, predicates: parse's. · Shapes, predicates, steps: parse's badStep. · How many steps there are, how deep; whether they may be: parse.count, parse.Check. -/
import Derived.Test.YtnedeokclnbcpaaGreatDoorT
import Derived.Test.YtnedeokclnbcpaaGreatDoorAmZ
import Derived.Lib.SlTrimSet
import Derived.Test.YtnedeokclnbcpaaGreatDoorValGToStrA
set_option linter.unusedVariables false
set_option linter.unusedSimpArgs false
namespace Go.Proofs.YtnedeokclnbcpaaGreatDoor
open Go Go.AM Go.RowKit
def Za0 (c:UInt8):Bool:=c == 95||(decide (97≤c.toNat)&&decide (c.toNat≤122))||(decide (65≤c.toNat)&&decide (c.toNat≤90))
def isDg (c:UInt8):Bool:=decide (48≤c.toNat)&&decide (c.toNat≤57)
def Zo0:List UInt8→Bool
 |[]=>false
 |c::r=>decide ((c::r).length≤24)&&Za0 c&&(c::r).all fun c=>Za0 c||isDg c
def nameSet:List UInt8:=[97, 98, 99, 100, 101, 102, 103, 104, 105, 106, 107, 108, 109, 110, 111, 112, 113, 114, 115, 116, 117, 118, 119, 120, 121, 122, 65, 66, 67, 68, 69, 70, 71, 72, 73, 74, 75, 76, 77, 78, 79, 80, 81, 82, 83, 84, 85, 86, 87, 88, 89, 90, 48, 49, 50, 51, 52, 53, 54, 55, 56, 57, 95]
theorem u8_all {P:UInt8→Prop} (h:∀n:Nat, n<256→P (UInt8.ofNat n)) (c:UInt8):P c:=by
 have:=h c.toNat c.toNat_lt
 simpa using this
theorem set_is:∀c:UInt8, nameSet.contains c=(Za0 c||isDg c):=u8_all (by decide +kernel)
theorem set_ascii:∀c∈nameSet, c.toNat<128:=by decide +kernel
theorem dropWhile_nil {α:Type} {p:α→Bool}:∀ {l:List α}, l.dropWhile p=[]↔∀c∈l, p c=true
 |[]=>by simp
 |a::l=>by
  rw [List.dropWhile_cons]
  cases h:p a with
  |true=>rw [if_pos rfl, dropWhile_nil];simp [h]
  |false=>simp [h]
theorem Zk0 {α:Type} {p:α→Bool}:∀ {l:List α}, (∀c∈l.dropWhile p, p c=true)→l.dropWhile p=[]
 |[], _=>rfl
 |a::l, h=>by
  rw [List.dropWhile_cons] at h ⊢
  cases hp:p a with
  |true=>
   rw [hp, if_pos rfl] at h
   rw [if_pos rfl]
   exact Zk0 h
  |false=>
   rw [hp, if_neg (by simp)] at h
   have:=h a (by simp)
   rw [hp] at this
   cases this
theorem trim_nil (l cs:List UInt8):Lib.trimS l cs=[]↔l.all (cs.contains ·)=true:=by
 unfold Lib.trimS Lib.trimLeftS
 rw [dropWhile_nil, List.all_eq_true]
 unfold Lib.trimRightS
 constructor
 ·intro h
  have h1:l.reverse.dropWhile (cs.contains ·)=[]:=Zk0 fun c hc=>h c (by simpa using hc)
  intro c hc
  exact dropWhile_nil.1 h1 c (by simpa using hc)
 ·intro h c hc
  have h1:l.reverse.dropWhile (cs.contains ·)=[]:=dropWhile_nil.2 fun c hc=>h c (by simpa using hc)
  rw [h1] at hc
  simp at hc
theorem run_Name {s:List UInt8} (hs:s.length≤140737488355328):T.R (.call Zlh [.str s] (.bool (Zo0 s))):=by
 have ht:T.R (.call Zge [.str s, .str nameSet] (.str (Lib.trimS s nameSet))):=.prim _ _ _ ⟨rfl, s, nameSet, by omega, by decide, set_ascii, rfl, rfl⟩
 have hn:decide (Lib.trimS s nameSet=[])=s.all fun c=>Za0 c||isDg c:=by
  rw [Bool.eq_iff_iff, decide_eq_true_eq, trim_nil]
  have:(fun c=>nameSet.contains c)=fun c=>Za0 c||isDg c:=funext set_is
  rw [show s.all (nameSet.contains ·)=s.all (fun c=>Za0 c||isDg c) from congrArg _ this]
 generalize Lib.trimS s nameSet=tr at ht hn
 cases s with
 |nil=>
  refine Z7 rfl rfl ?_
  repeat' first|((with_reducible show V _ _ _ _ _ _);first|refine Z1 rfl ?_|refine Z9 rfl rfl ?_|refine Z5 rfl rfl ?_)|((with_reducible show VO _ _ _ _ _ _ _);first|refine Z0 rfl ?_|refine Z2 ?_|refine Z3t rfl ?_|refine Zj rfl rfl ?_)
  rfl
 |cons c r=>
  have hne:¬(c::r)=[]:=by simp
  have hch:(c::r)[(0:Int).toNat]?=some c:=rfl
  show T.R (.call Zlh [.str (c::r)] (.bool (decide ((c::r).length≤24)&&Za0 c&&(c::r).all fun c=>Za0 c||isDg c)))
  by_cases hl:24<(c::r).length
  ·have h1:((24:Int)<((c::r).length:Int)):=by omega
   rw [decide_eq_false (by omega:¬(c::r).length≤24)]
   refine Z7 rfl rfl ?_
   repeat' first|((with_reducible show V _ _ _ _ _ _);first|refine Z1 rfl ?_|refine Z9 rfl rfl ?_|refine Z5 rfl rfl ?_)|((with_reducible show VO _ _ _ _ _ _ _);first|refine Z3 (Zd hne) rfl ?_|refine Z3 (Z0f h1) rfl ?_|refine Z0 rfl ?_|refine Z2 ?_|refine Zg rfl ?_|refine Z3t rfl ?_|refine Zj rfl rfl ?_)
   rfl
  ·have h1:¬((24:Int)<((c::r).length:Int)):=by omega
   rw [decide_eq_true (by omega:(c::r).length≤24)]
   by_cases hd:isDg c=true
   ·have hd':=hd
    unfold isDg at hd'
    simp only [Bool.and_eq_true, decide_eq_true_eq] at hd'
    have h2:(48:Int)≤(c.toNat:Int):=by omega
    have h3:(c.toNat:Int)≤57:=by omega
    have hnl:Za0 c=false:=by
     unfold Za0
     simp only [Bool.or_eq_false_iff, Bool.and_eq_false_iff, beq_eq_false_iff_ne, decide_eq_false_iff_not]
     refine ⟨⟨fun e=>?_, .inl (by omega)⟩, .inl (by omega)⟩
     subst e
     have:(95:UInt8).toNat=95:=rfl
     omega
    rw [hnl]
    refine Z7 rfl rfl ?_
    repeat' first|((with_reducible show V _ _ _ _ _ _);first|refine Z1 rfl ?_|refine Z9 rfl rfl ?_|refine Z5 rfl rfl ?_)|((with_reducible show VO _ _ _ _ _ _ _);first|refine Z3 (Zd hne) rfl ?_|refine Z3 (Zd h1) rfl ?_|refine Zmt c rfl rfl (by decide) hch ?_|refine Z3 (Z0f h2) rfl ?_|refine Z3 (Z0f h3) rfl ?_|refine Z0 rfl ?_|refine Z2 ?_|refine Zg rfl ?_)
    rfl
   ·have hkey:(Za0 c&&(c::r).all fun c=>Za0 c||isDg c)=(c::r).all fun c=>Za0 c||isDg c:=by
     cases hlc:Za0 c with
     |true=>rfl
     |false=>simp [hlc, hd]
    rw [Bool.and_assoc, hkey, Bool.true_and, ←hn]
    have hw:decide ((48:Int)≤(c.toNat:Int))=true→decide ((c.toNat:Int)≤57)=true→False:=fun a b=>hd (by
     have a:=of_decide_eq_true a
     have b:=of_decide_eq_true b
     unfold isDg
     simp only [Bool.and_eq_true, decide_eq_true_eq]
     omega)
    refine Z7 rfl rfl ?_
    repeat' first|((with_reducible show V _ _ _ _ _ _);first|refine Z1 rfl ?_|refine Za rfl rfl ?_|refine Z75 rfl rfl (fun _=>?_) (fun _=>?_)|refine Z5 rfl rfl ?_)|((with_reducible show VO _ _ _ _ _ _ _);first|refine Z3 (Zd hne) rfl ?_|refine Z3 (Zd h1) rfl ?_|refine Zmt c rfl rfl (by decide) hch ?_|refine Z4 rfl rfl ht ?_|refine Z0 rfl ?_|refine Z2 ?_|refine Zg rfl ?_|refine Zj rfl rfl ?_|refine Zay rfl (fun _=>?_) (fun _=>?_))
    all_goals first|rfl|(exfalso;apply hw<;>assumption)
end Go.Proofs.YtnedeokclnbcpaaGreatDoor
namespace Go.Proofs.YtnedeokclnbcpaaGreatDoor
open Go Go.AM Go.RowKit
def ixLoop (sz:Nat) (agg:Bool):PC:=(.seq (.ops [(.mk (some 9) none (.bin .lss (.t 8) (.t 7)))] []) (.seq (.cond (.t 9) .skip (.exit 0)) (.seq (.block 1 (.seq (.ops [(.mk (some 10) none (.move (.t 8))), (.mk (some 5) none (.move (.t 10)))] [10]) (.seq (.ops [(.mk (some 11) none (.move (.t 1))), (.mk (some 12) none (.move (.t 0))), (.mk (some 13) none (.move (.t 5))), (.mk (some 14) none (.indexS (.t 12) (.t 13) sz)), (.mk (some 15) none (.load sz agg (.t 14))), (.mk (some 16) none (.call (.t 11) [(.t 15)]))] [11, 12, 13, 14, 15]) (.cond (.t 16) (.seq (.ops [(.mk (some 17) none (.move (.t 5))), (.mk (some 4) none (.move (.t 17)))] [17]) .ret) .skip)))) (.ops [(.mk (some 18) none (.bin .add (.t 8) (.c (.int .i64 (1))))), (.mk (some 8) none (.move (.t 18)))] [18]))))
def ixPF (sz:Nat) (agg:Bool):PF:=⟨19, [(.tmp 4)], (.seq (.ops [(.mk (some 4) none (.move (.c (.int .i64 (0)))))] []) (.seq (.seq (.ops [(.mk (some 6) none (.move (.t 0))), (.mk (some 7) none (.len false (.t 6))), (.mk (some 8) none (.move (.c (.int .i64 (0)))))] [6]) (.block 0 (.loop (ixLoop sz agg)))) (.seq (.ops [(.mk (some 4) none (.move (.c (.int .i64 (-1)))))] []) .ret)))⟩
def ctPF (f:Nat):PF:=⟨9, [(.tmp 4)], (.seq (.ops [(.mk (some 4) none (.move (.c (.bool false))))] []) (.seq (.ops [(.mk (some 5) none (.move (.t 0))), (.mk (some 6) none (.move (.t 1))), (.mk (some 7) none (.call (.c (.func f [])) [(.t 5), (.t 6)])), (.mk (some 8) none (.bin .geq (.t 7) (.c (.int .i64 (0))))), (.mk (some 4) none (.move (.t 8)))] [5, 6, 7, 8]) .ret))⟩
def idxG {α:Type} (P:α→Bool):List α→Nat→Int
 |[], _ => -1
 |v::r, i=>if P v then i else idxG P r (i+1)
theorem idxG_any {α:Type} (P:α→Bool):∀(l:List α) (i:Nat), decide (0≤idxG P l i)=l.any P
 |[], i=>by simp [idxG]
 |v::r, i=>by
  unfold idxG
  have:=idxG_any P r (i+1)
  cases h:P v with
  |true=>simp [h]
  |false=>simp [h, this]
section
variable {T:Tb} {Q:Z7m} {k:List Fr} {ρ:EC} {st:St} {l:List POp} {kill:List Nat}
theorem O_loadG {d:Option Nat} {x:Opd} {n:Nat} {agg:Bool} {p v:PV} (hx:x.get ρ=some p) (hl:loadAt st.get n agg p=some v) (h:VO T Q l kill k (ρ.sets d v) st):VO T Q (⟨d, none, .load n agg x⟩::l) kill k ρ st:=
 Z0 (by simp only [Zr, Zdn, hx];exact hl) h
end
section
variable {T:Tb} {Q:Z7m} {k:List Fr} {ρ:EC} {st:St}
theorem V_cS {x:EX} {k':List Fr} {n:Nat} {a b:PC} {t:Bool} (ha:Zs 200 k x=(.code (.cond (.t n) a b)::k', .normal)) (hc:ρ.get n=some (.bool t)) (h1:t=true→V T Q (.code a::k') .normal (.put n (.bool true) ρ) st) (h2:t=false→V T Q (.code b::k') .normal (.put n (.bool false) ρ) st):V T Q k x ρ st:=by
 have up:∀r, Sub ρ r→Sub (.put n (.bool t) ρ) r:=fun r hr m p hm=>by
  simp only [EC.get] at hm
  split at hm
  ·rename_i e
   have e':=Nat.eq_of_beq_eq_true e
   subst e'
   rw [←hm]
   exact hr _ _ hc
  ·exact hr _ _ hm
 cases t with
 |true=>exact Z9 ha hc (fun r hr=>h1 rfl r (up r hr))
 |false=>exact Za ha hc (fun r hr=>h2 rfl r (up r hr))
end
section
variable {T:Tb} {α:Type} {R:α→List PV→Prop} {P:α→Bool} {sz:Nat} {agg:Bool} {val:List PV→PV} {g:Nat} {caps:List PV} {l:List α} {p:PV}
theorem ix_loop (hp:LR R p l) (hs:∀a cs, R a cs→cs.length=sz) (hld:∀a cs, R a cs→loadAt emptySt.get sz agg (.iptr cs 0)=some (val cs)) (hpv:∀a cs, R a cs→Pl (val cs)) (plc:∀c∈caps, Pl c)
  (hm:∀a∈l, ∀cs, R a cs→T.R (.call g (val cs::caps) (.bool (P a)))):
  ∀(ra pre:List α), l=pre++ra→
  V T (PE fun x e st'=>st'=emptySt∧((x=.exit 0∧idxG P ra pre.length = -1)∨(x=.ret∧e=Zf [(4, .int .i64 (idxG P ra pre.length))]))) [.code (.loop (ixLoop sz agg))] .normal (Zf [(0, p), (1, .func g caps), (7, .int .i64 l.length), (8, .int .i64 pre.length)]) emptySt:=by
 obtain ⟨lp1, lp2, lp3⟩:=hp.len
 intro ra
 induction ra with
 |nil=>
  intro pre ha
  have hlt:¬(pre.length:Int)<l.length:=by subst ha;simp
  refine Ze ?_
  repeat' first|((with_reducible show V _ _ _ _ _ _);first|refine Zdk rfl rfl hlt ?_|refine Zt [] rfl trivial ⟨rfl, .inl ⟨rfl, rfl⟩⟩|refine Z1 rfl ?_)|refine Z0 rfl ?_|refine Z2 ?_
 |cons y ra ihr=>
  intro pre ha
  have hlt:(pre.length:Int)<l.length:=by subst ha;simp;omega
  have hll:pre.length<l.length:=by subst ha;simp
  have hy:l[pre.length]?=some y:=by subst ha;simp
  obtain ⟨cy, ay, vy⟩:=hp.at hs hy
  have hcall:=hm y (by subst ha;simp) cy vy
  have hvl:Z2l false emptySt.get ([val cy]++caps) (val cy::caps):=Zic (Z0b (hpv _ _ vy) plc)
  have hw:IntKind.i64.wrap ((pre.length:Int)+1)=((pre++[y]).length:Int):=by rw [Z02];simp;omega
  have hi:=ihr (pre++[y]) (by rw [ha];simp)
  refine Ze ?_
  rw [idxG]
  cases hyP:P y with
  |false=>
   rw [hyP] at hcall
   have e1:(pre++[y]).length=pre.length+1:=by simp
   rw [e1] at hi hw
   rw [if_neg (by simp)]
   repeat' first|((with_reducible show V _ _ _ _ _ _);first|refine Z2m rfl rfl hlt ?_|refine Zbp rfl hi ⟨rfl, rfl, rfl, Z05 hw, trivial⟩|refine Z1 rfl ?_|refine Za rfl rfl ?_)|((with_reducible show VO _ _ _ _ _ _ _);first|refine Zh rfl rfl ay ?_|refine O_loadG rfl (hld _ _ vy) ?_|refine Zp5 rfl rfl hvl hcall ?_|refine Z0 rfl ?_|refine Z2 ?_)
  |true=>
   rw [hyP] at hcall
   rw [if_pos rfl]
   repeat' first|((with_reducible show V _ _ _ _ _ _);first|refine Z2m rfl rfl hlt ?_|refine Zt [(4, .int .i64 pre.length)] rfl ⟨rfl, trivial⟩ ⟨rfl, .inr ⟨rfl, rfl⟩⟩|refine Z1 rfl ?_|refine Z9 rfl rfl ?_)|((with_reducible show VO _ _ _ _ _ _ _);first|refine Zh rfl rfl ay ?_|refine O_loadG rfl (hld _ _ vy) ?_|refine Zp5 rfl rfl hvl hcall ?_|refine Z0 rfl ?_|refine Z2 ?_)
theorem run_IndexG {f:Nat} (hf:T.tbl f=some (ixPF sz agg)) (hp:LR R p l) (hs:∀a cs, R a cs→cs.length=sz) (hld:∀a cs, R a cs→loadAt emptySt.get sz agg (.iptr cs 0)=some (val cs)) (hpv:∀a cs, R a cs→Pl (val cs)) (plc:∀c∈caps, Pl c)
  (hm:∀a∈l, ∀cs, R a cs→T.R (.call g (val cs::caps) (.bool (P a)))):T.R (.call f [p, .func g caps] (.int .i64 (idxG P l 0))):=by
 obtain ⟨lp1, lp2, lp3⟩:=hp.len
 have hl:=ix_loop hp hs hld hpv plc hm l [] rfl
 refine Z7 hf rfl ?_
 repeat' first|refine Z0e rfl hl ⟨rfl, rfl, rfl, rfl, trivial⟩ ?_|refine Z1 rfl ?_|((with_reducible show VO _ _ _ _ _ _ _);first|refine Z6 rfl lp1 lp2 ?_|refine Z0 rfl ?_|refine Z2 ?_)
 rintro x e' st' ⟨rfl, ⟨rfl, h⟩|⟨rfl, rfl⟩⟩
 ·repeat' first|refine Z1 rfl ?_|refine Z5 rfl rfl ?_|refine Z0 rfl ?_|refine Z2 ?_
  exact congrArg _ (Eq.symm h)
 ·repeat' first|refine Z5 rfl rfl ?_
  rfl
theorem Z1n {f f':Nat} (hf:T.tbl f=some (ctPF f')) (hf':T.tbl f'=some (ixPF sz agg)) (hp:LR R p l) (hs:∀a cs, R a cs→cs.length=sz) (hld:∀a cs, R a cs→loadAt emptySt.get sz agg (.iptr cs 0)=some (val cs)) (hpv:∀a cs, R a cs→Pl (val cs)) (plp:Pl p) (plc:∀c∈caps, Pl c)
  (hm:∀a∈l, ∀cs, R a cs→T.R (.call g (val cs::caps) (.bool (P a)))):T.R (.call f [p, .func g caps] (.bool (l.any P))):=by
 have h:=run_IndexG hf' hp hs hld hpv plc hm
 have plf:Pl (.func g caps):=.func _ _ plc
 rw [←idxG_any P l 0]
 generalize idxG P l 0=r at h ⊢
 refine Z7 hf rfl ?_
 repeat' first|refine Z1 rfl ?_|refine Z5 rfl rfl ?_|((with_reducible show VO _ _ _ _ _ _ _);first|refine Z4 rfl rfl h ?_|refine Z0 rfl ?_|refine Z2 ?_)
 rfl
theorem Zjk {sz:Nat} {cs:List PV} (h:cs.length=sz) (look:Nat→Option Tok):loadAt look sz true (.iptr cs 0)=some (.agg cs):=by
 subst h
 simp [loadAt, behind, slice?]
end
end Go.Proofs.YtnedeokclnbcpaaGreatDoor
namespace Go.Proofs.YtnedeokclnbcpaaGreatDoor
open Go Go.AM Go.RowKit
inductive Prd where
 |mk (op:Int) (l:List Val)
inductive Stp where
 |mk (op:Int) (names:List (List UInt8)) (nums:List Int) (preds:List Prd) (vals:List Val) (subs:List (List Stp))
def Stp.op:Stp→Int
 |.mk o _ _ _ _ _=>o
def Stp.names:Stp→List (List UInt8)
 |.mk _ n _ _ _ _=>n
def Stp.nums:Stp→List Int
 |.mk _ _ n _ _ _=>n
def Stp.preds:Stp→List Prd
 |.mk _ _ _ n _ _=>n
def Stp.vals:Stp→List Val
 |.mk _ _ _ _ n _=>n
def Stp.subs:Stp→List (List Stp)
 |.mk _ _ _ _ _ n=>n
def NmC (s:List UInt8) (cs:List PV):Prop:=s.length≤140737488355328∧cs=[.str s]
def NuC (n:Int) (cs:List PV):Prop:=Zm n∧cs=[.int .i64 n]
def PrC:Prd→List PV→Prop
 |.mk op l, cs=>Zm op∧∃p, cs=[.int .i64 op, p]∧LR VC p l
def SubC (R:Stp→List PV→Prop) (l:List Stp) (cs:List PV):Prop:=∃p, cs=[p]∧LR R p l
def SC:Nat→Stp→List PV→Prop
 |0, _, _=>False
 |n+1, .mk op names nums preds vals subs, cs=>Zm op∧∃pa pb pc pd pe, cs=[.int .i64 op, pa, pb, pc, pd, pe]∧LR NmC pa names∧LR NuC pb nums∧LR PrC pc preds∧LR VC pd vals∧LR (SubC (SC n)) pe subs
theorem NmC.pl {s:List UInt8} {cs:List PV} (h:NmC s cs):∀c∈cs, Pl c:=by
 obtain ⟨_, rfl⟩:=h
 exact Z0b (.str _) Z1e
theorem NuC.pl {s:Int} {cs:List PV} (h:NuC s cs):∀c∈cs, Pl c:=by
 obtain ⟨_, rfl⟩:=h
 exact Z0b (.int _ _) Z1e
theorem PrC.pl {s:Prd} {cs:List PV} (h:PrC s cs):∀c∈cs, Pl c:=by
 obtain ⟨op, l⟩:=s
 obtain ⟨_, p, rfl, hp⟩:=h
 exact Z0b (.int _ _) (Z0b (hp.pl fun a _ cs h=>h.pl) Z1e)
theorem SubC.pl {R:Stp→List PV→Prop} {l:List Stp} {cs:List PV} (hR:∀s cs, R s cs→∀c∈cs, Pl c) (h:SubC R l cs):∀c∈cs, Pl c:=by
 obtain ⟨p, rfl, hp⟩:=h
 exact Z0b (hp.pl fun a _ cs h=>hR a cs h) Z1e
theorem SC.pl:∀ {n:Nat} {s:Stp} {cs:List PV}, SC n s cs→∀c∈cs, Pl c
 |0, _, _, h=>h.elim
 |n+1, .mk op names nums preds vals subs, cs, h=>by
  obtain ⟨_, pa, pb, pc, pd, pe, rfl, h1, h2, h3, h4, h5⟩:=h
  exact Z0b (.int _ _) (Z0b (h1.pl fun a _ cs h=>h.pl) (Z0b (h2.pl fun a _ cs h=>h.pl) (Z0b (h3.pl fun a _ cs h=>h.pl) (Z0b (h4.pl fun a _ cs h=>h.pl) (Z0b (h5.pl fun a _ cs h=>h.pl fun s cs h=>SC.pl h) Z1e)))))
theorem SC.len6:∀ {n:Nat} {s:Stp} {cs:List PV}, SC n s cs→cs.length=6
 |0, _, _, h=>h.elim
 |n+1, .mk op names nums preds vals subs, cs, h=>by
  obtain ⟨_, pa, pb, pc, pd, pe, rfl, _⟩:=h
  rfl
theorem SC.one:∀ {n:Nat} {s:Stp} {cs:List PV}, SC n s cs→∀c∈cs, PV.one c=true
 |0, _, _, h=>h.elim
 |n+1, .mk op names nums preds vals subs, cs, h=>by
  obtain ⟨_, pa, pb, pc, pd, pe, rfl, h1, h2, h3, h4, h5⟩:=h
  have one:∀ {α:Type} {R:α→List PV→Prop} {p:PV} {l:List α}, LR R p l→PV.one p=true:=fun h=>by
   rcases h with ⟨rfl, _⟩|⟨_, _, rfl, _⟩<;>rfl
  intro c hc
  simp only [List.mem_cons, List.not_mem_nil, or_false] at hc
  rcases hc with rfl|rfl|rfl|rfl|rfl|rfl
  ·rfl
  ·exact one h1
  ·exact one h2
  ·exact one h3
  ·exact one h4
  ·exact one h5
theorem NmC.len1 {s:List UInt8} {cs:List PV} (h:NmC s cs):cs.length=1:=by obtain ⟨_, rfl⟩:=h;rfl
theorem NuC.len1 {s:Int} {cs:List PV} (h:NuC s cs):cs.length=1:=by obtain ⟨_, rfl⟩:=h;rfl
theorem PrC.len2 {s:Prd} {cs:List PV} (h:PrC s cs):cs.length=2:=by
 obtain ⟨op, l⟩:=s
 obtain ⟨_, p, rfl, hp⟩:=h
 rfl
theorem SubC.len1 {R:Stp→List PV→Prop} {l:List Stp} {cs:List PV} (h:SubC R l cs):cs.length=1:=by obtain ⟨p, rfl, _⟩:=h;rfl
theorem SC.mono:∀ {n m:Nat} {s:Stp} {cs:List PV}, n≤m→SC n s cs→SC m s cs
 |0, _, _, _, _, h=>h.elim
 |n+1, 0, _, _, hm, h=>by omega
 |n+1, m+1, .mk op names nums preds vals subs, cs, hm, h=>by
  obtain ⟨h0, pa, pb, pc, pd, pe, e, h1, h2, h3, h4, h5⟩:=h
  refine ⟨h0, pa, pb, pc, pd, pe, e, h1, h2, h3, h4, h5.mono fun l _ cs ⟨p, hc, hp⟩=>⟨p, hc, hp.mono fun s _ cs h=>SC.mono (by omega) h⟩⟩
abbrev SL (n:Nat) (p:PV) (l:List Stp):Prop:=LR (SC n) p l
theorem SL.pl {n:Nat} {p:PV} {l:List Stp} (h:SL n p l):Pl p:=LR.pl h fun a _ cs h=>h.pl
theorem SL.at {n:Nat} {p:PV} {l:List Stp} (h:SL n p l) {j:Nat} {s:Stp} (hs:l[j]?=some s):∃cs, At 6 p j cs∧SC n s cs:=LR.at h (fun _ _ h=>h.len6) hs
theorem i64_of_len {n:Nat} (h:n≤140737488355328):Zm n:=by unfold Zm;omega
theorem Zgm {n:Int} (h:Zm n):IntKind.i64.wrap n=n:=by unfold Zm at h;rw [Z02];omega
theorem wrap_add (a b:Int):IntKind.i64.wrap (IntKind.i64.wrap a+IntKind.i64.wrap b)=IntKind.i64.wrap (a+b):=by rw [Z02, Z02, Z02, Z02];omega
theorem wrap_addL (a b:Int):IntKind.i64.wrap (IntKind.i64.wrap a+b)=IntKind.i64.wrap (a+b):=by rw [Z02, Z02, Z02];omega
end Go.Proofs.YtnedeokclnbcpaaGreatDoor
namespace Go.Proofs.YtnedeokclnbcpaaGreatDoor
open Go Go.AM Go.RowKit
theorem run_badName {s:List UInt8} (hs:s.length≤140737488355328):T.R (.call Zeg [.str s] (.bool (!Zo0 s))):=by
 have h:=run_Name hs
 generalize Zo0 s=r at h ⊢
 refine Z7 rfl rfl ?_
 repeat' first|refine Z1 rfl ?_|refine Z5 rfl rfl ?_|((with_reducible show VO _ _ _ _ _ _ _);first|refine Z4 rfl rfl h ?_|refine Z0 rfl ?_|refine Z2 ?_)
 rfl
def Znx (n:Int):Bool:=decide (0≤n)&&decide (n≤9007199254740992)
theorem run_badNum (n:Int):T.R (.call Zgf [.int .i64 n] (.bool (!Znx n))):=by
 unfold Znx
 by_cases h1:n<0
 ·rw [decide_eq_false (by omega:¬ 0≤n)]
  refine Z7 rfl rfl ?_
  repeat' first|refine Z1 rfl ?_|refine Z5 rfl rfl ?_|((with_reducible show VO _ _ _ _ _ _ _);first|refine Z3 (Z0f h1) rfl ?_|refine Z0 rfl ?_|refine Z2 ?_|refine Zj rfl rfl ?_)
  rfl
 ·rw [decide_eq_true (by omega:0≤n)]
  by_cases h2:9007199254740992<n
  ·rw [decide_eq_false (by omega:¬n≤9007199254740992)]
   refine Z7 rfl rfl ?_
   repeat' first|refine Z1 rfl ?_|refine Z5 rfl rfl ?_|((with_reducible show VO _ _ _ _ _ _ _);first|refine Z3 (Zd h1) rfl ?_|refine Z3 (Z0f h2) rfl ?_|refine Z0 rfl ?_|refine Z2 ?_|refine Zg rfl ?_)
   rfl
  ·rw [decide_eq_true (by omega:n≤9007199254740992)]
   refine Z7 rfl rfl ?_
   repeat' first|refine Z1 rfl ?_|refine Z5 rfl rfl ?_|((with_reducible show VO _ _ _ _ _ _ _);first|refine Z3 (Zd h1) rfl ?_|refine Z3 (Zd h2) rfl ?_|refine Z0 rfl ?_|refine Z2 ?_|refine Zg rfl ?_)
   rfl
theorem run_badValue {v:Val} {cs:List PV} (hv:VC v cs):T.R (.call Zct [.agg cs] (.bool (!Zp 8 v))):=by
 have h:=run_Check hv
 unfold chk at h
 have plv:Pl (.agg cs):=.agg _ hv.pl
 cases hm:Zp 8 v with
 |true=>
  rw [hm] at h
  have h':T.R (.call Zby [.agg cs] (.int .i64 0)):=h
  obtain ⟨k, n, s, l⟩:=v
  obtain ⟨hk, hn, hs, p, rfl, hp⟩:=hv.open
  have plp:=hp.pl
  refine Z7 rfl rfl ?_
  repeat' first|refine Z1 rfl ?_|refine Z5 rfl rfl ?_|((with_reducible show VO _ _ _ _ _ _ _);first|refine Zb rfl ?_|refine Z4 rfl rfl h' ?_|refine Z0 rfl ?_|refine Z2 ?_)
  rfl
 |false=>
  rw [hm] at h
  have h':T.R (.call Zby [.agg cs] (.int .i64 20)):=h
  obtain ⟨k, n, s, l⟩:=v
  obtain ⟨hk, hn, hs, p, rfl, hp⟩:=hv.open
  have plp:=hp.pl
  refine Z7 rfl rfl ?_
  repeat' first|refine Z1 rfl ?_|refine Z5 rfl rfl ?_|((with_reducible show VO _ _ _ _ _ _ _);first|refine Zb rfl ?_|refine Z4 rfl rfl h' ?_|refine Z0 rfl ?_|refine Z2 ?_)
  rfl
def Zn7 (W:List (List UInt8)) (n:Int):List UInt8:=if 1≤n∧n≤W.length then W[(n-1).toNat]?.getD [] else []
theorem run_pword {all:List UInt8} (ha:all.length≤1000000000) (n:Int) (hn:Zm n):T.R (.call Zee [.str all, .int .i64 n] (.str (Zn7 (Z0t 32 all) n))):=by
 have hs:=run_Split all 32 ha
 have hlen:(Z0t 32 all).length≤1000000001:=by rw [Zk7];have:all.count 32≤all.length:=List.count_le_length;omega
 generalize Z0t 32 all=W at hs hlen
 have hv:LV sc (.sl (W.map sc) false) W:=.sl _ _
 have plv:Pl (.sl (W.map sc) false):=.sl _ _ (pl_sc _)
 unfold Zn7
 by_cases h1:n<1
 ·rw [if_neg (by omega)]
  refine Z7 rfl rfl ?_
  repeat' first|((with_reducible show V _ _ _ _ _ _);first|refine Z1 rfl ?_|refine Z9 rfl rfl ?_|refine Z5 rfl rfl ?_)|((with_reducible show VO _ _ _ _ _ _ _);first|refine Z4 rfl rfl hs ?_|refine Z3 (Z0f h1) rfl ?_|refine Z0 rfl ?_|refine Z2 ?_|refine Zj rfl rfl ?_)
  rfl
 ·by_cases h2:(W.length:Int)<n
  ·rw [if_neg (by omega)]
   refine Z7 rfl rfl ?_
   repeat' first|((with_reducible show V _ _ _ _ _ _);first|refine Z1 rfl ?_|refine Z9 rfl rfl ?_|refine Z5 rfl rfl ?_)|((with_reducible show VO _ _ _ _ _ _ _);first|refine Z4 rfl rfl hs ?_|refine Z3 (Zd h1) rfl ?_|refine O_lenL rfl hv ?_|refine Z3 (Z0f h2) rfl ?_|refine Z0 rfl ?_|refine Z2 ?_|refine Zg rfl ?_)
   rfl
  ·rw [if_pos (by omega)]
   have hlt:(n-1).toNat<W.length:=by omega
   have hat:W[(n-1).toNat]?=some W[(n-1).toNat]:=List.getElem?_eq_getElem hlt
   have hw:PV.int .i64 (IntKind.i64.wrap (n-1))=PV.int .i64 (n-1):=Z5m (Zgm (by unfold Zm at hn ⊢;omega))
   rw [hat]
   refine Z7 rfl rfl ?_
   repeat' first|((with_reducible show V _ _ _ _ _ _);first|refine Z1 rfl ?_|refine Za rfl rfl ?_|refine Z5 rfl rfl ?_)|((with_reducible show VO _ _ _ _ _ _ _);first|refine Z4 rfl rfl hs ?_|refine Z3 (Zd h1) rfl ?_|refine O_lenL rfl hv ?_|refine Z3 (Zd h2) rfl ?_|refine Z3 hw rfl ?_|refine O_idxL _ rfl hv rfl (by omega) hat rfl ?_|refine Z0 rfl ?_|refine Z2 ?_|refine Zg rfl ?_)
   rfl
end Go.Proofs.YtnedeokclnbcpaaGreatDoor
namespace Go.Proofs.YtnedeokclnbcpaaGreatDoor
open Go Go.AM Go.RowKit
def shp (op:Int):List Int:=
 if op=1∨op=2 then [0, 0, 0, 32, 0, 0, 0, 0, 0, 0]
 else if op=3 then [0, 0, 0, 0, 0, 0, 0, 32, 0, 0]
 else if op=4∨op=15∨op=16∨op=42∨op=46∨op=47 then [1, 1, 0, 0, 0, 0, 0, 0, 0, 0]
 else if op=5∨op=6∨op=7∨op=8∨op=9∨op=10∨op=32∨op=33 then [0, 32, 0, 0, 0, 0, 0, 0, 0, 0]
 else if op=17∨op=43 then [1, 32, 0, 0, 0, 0, 0, 0, 0, 0]
 else if op=48 then [0, 1, 0, 0, 0, 0, 0, 0, 0, 0]
 else if op=14 then [1, 1, 0, 0, 1, 1, 0, 0, 0, 0]
 else if op=18 then [0, 0, 1, 32, 0, 0, 0, 0, 0, 0]
 else if op=19 then [0, 0, 0, 0, 1, 1, 0, 0, 0, 0]
 else if op=20∨op=21∨op=52 then [0, 0, 0, 0, 0, 0, 0, 0, 1, 1]
 else if op=22∨op=23∨op=50∨op=51 then [0, 0, 0, 0, 0, 0, 0, 0, 1, 32]
 else if op=53 then [0, 0, 0, 0, 0, 0, 0, 0, 3, 3]
 else if op=26∨op=27∨op=29 then [0, 0, 1, 1, 0, 0, 0, 0, 0, 0]
 else if op=28 then [0, 0, 2, 2, 0, 0, 0, 0, 0, 0]
 else if op=34 then [0, 0, 0, 0, 0, 0, 1, 1, 0, 0]
 else if op=54∨op=56 then [0, 0, 1, 1, 0, 0, 0, 0, 1, 1]
 else if op=55 then [0, 0, 0, 0, 0, 0, 0, 0, 2, 2]
 else if op=57 then [3, 3, 0, 0, 0, 0, 0, 0, 0, 0]
 else if op=58 then [1, 1, 0, 0, 0, 0, 1, 1, 0, 0]
 else [0, 0, 0, 0, 0, 0, 0, 0, 0, 0]
def intP (n:Int):PV:=.int .i64 n
theorem ite_len {p:Prop} [Decidable p] {a b:List Int} {n:Nat} (h1:a.length=n) (h2:b.length=n):(if p then a else b).length=n:=by
 by_cases h:p
 ·rw [if_pos h];exact h1
 ·rw [if_neg h];exact h2
theorem shp_ten (op:Int):∃a b c d e f g h i j:Int, shp op=[a, b, c, d, e, f, g, h, i, j]:=by
 have h:(shp op).length=10:=by
  unfold shp
  repeat (refine ite_len rfl ?_)
  rfl
 match shp op, h with
 |[a, b, c, d, e, f, g, hh, i, j], _=>exact ⟨a, b, c, d, e, f, g, hh, i, j, rfl⟩
theorem run_from (n:Int):T.R (.call n_parse_from [.int .i64 n] (.agg [.int .i64 n, .int .i64 32])):=by
 refine Z7 rfl rfl ?_
 repeat' first|refine Z1 rfl ?_|refine Z5 rfl rfl ?_|((with_reducible show VO _ _ _ _ _ _ _);first|refine Z0 rfl ?_|refine Zb rfl ?_|refine Z2 ?_)
 rfl
theorem run_just (n:Int):T.R (.call n_parse_just [.int .i64 n] (.agg [.int .i64 n, .int .i64 n])):=by
 refine Z7 rfl rfl ?_
 repeat' first|refine Z1 rfl ?_|refine Z5 rfl rfl ?_|((with_reducible show VO _ _ _ _ _ _ _);first|refine Z0 rfl ?_|refine Zb rfl ?_|refine Z2 ?_)
 rfl
set_option maxHeartbeats 4000000 in
theorem run_shapeOf (op:Int):T.R (.call Zo6 [.int .i64 op] (.agg ((shp op).map intP))):=by
 refine Z7 rfl rfl ?_
 repeat' first|((with_reducible show V _ _ _ _ _ _);first|refine Z9 rfl rfl ?_|refine V_cS rfl rfl (fun _=>?_) (fun _=>?_)|refine Z1 rfl ?_|refine Z5 rfl rfl ?_)|((with_reducible show VO _ _ _ _ _ _ _);first|refine Z0 rfl ?_|refine Zb rfl ?_|refine Z4 rfl rfl (run_from _) ?_|refine Z4 rfl rfl (run_just _) ?_|refine Z2 ?_)
 all_goals simp only [decide_eq_true_eq, decide_eq_false_iff_not] at *
 all_goals first|(subst_vars;rfl)|(unfold shp;simp only [*, or_self, if_false];rfl)
def Zca (a b:Int) (n:Nat):Bool:=decide (a≤(n:Int))&&decide ((n:Int)≤b)
theorem Zkb (a b:Int) (n:Nat):T.R (.call Zme [.agg [.int .i64 a, .int .i64 b], .int .i64 n] (.bool (Zca a b n))):=by
 unfold Zca
 refine Z7 rfl rfl ?_
 repeat' first|refine Z1 rfl ?_|refine Z5 rfl rfl ?_|((with_reducible show VO _ _ _ _ _ _ _);first|refine Z0 rfl ?_|refine Zb rfl ?_|refine Z2 ?_|refine Zg rfl ?_|refine Zj rfl rfl ?_|refine Zay rfl (fun _=>?_) (fun _=>?_))
 all_goals simp_all
 all_goals omega
def Zpf (op:Int):Int×Int:=if op=7∨op=8 then (0, 32) else if op=9 then (2, 2) else (1, 1)
theorem run_operands (op:Int):T.R (.call Zmf [.int .i64 op] (.agg [.int .i64 (Zpf op).1, .int .i64 (Zpf op).2])):=by
 refine Z7 rfl rfl ?_
 repeat' first|((with_reducible show V _ _ _ _ _ _);first|refine Z9 rfl rfl ?_|refine V_cS rfl rfl (fun _=>?_) (fun _=>?_)|refine Z1 rfl ?_|refine Z5 rfl rfl ?_)|((with_reducible show VO _ _ _ _ _ _ _);first|refine Z0 rfl ?_|refine Zb rfl ?_|refine Z4 rfl rfl (run_from _) ?_|refine Z4 rfl rfl (run_just _) ?_|refine Z2 ?_)
 all_goals simp only [decide_eq_true_eq, decide_eq_false_iff_not] at *
 all_goals first|(subst_vars;rfl)|(unfold Zpf;simp only [*, or_self, if_false];rfl)
def wPreds:List UInt8:=[101, 113, 32, 110, 101, 113, 32, 108, 116, 32, 108, 116, 101, 32, 103, 116, 32, 103, 116, 101, 32, 119, 105, 116, 104, 105, 110, 32, 119, 105, 116, 104, 111, 117, 116, 32, 98, 101, 116, 119, 101, 101, 110]
def Zpw:List UInt8:=[86, 32, 69, 32, 105, 110, 106, 101, 99, 116, 32, 97, 100, 100, 86, 32, 111, 117, 116, 32, 105, 110, 32, 98, 111, 116, 104, 32, 111, 117, 116, 69, 32, 105, 110, 69, 32, 98, 111, 116, 104, 69, 32, 111, 117, 116, 86, 32, 105, 110, 86, 32, 98, 111, 116, 104, 86, 32, 104, 97, 115, 32, 104, 97, 115, 75, 101, 121, 32, 104, 97, 115, 78, 111, 116, 32, 104, 97, 115, 76, 97, 98, 101, 108, 32, 104, 97, 115, 73, 100, 32, 105, 115, 32, 119, 104, 101, 114, 101, 32, 110, 111, 116, 32, 97, 110, 100, 32, 111, 114, 32, 100, 101, 100, 117, 112, 32, 115, 105, 109, 112, 108, 101, 80, 97, 116, 104, 32, 108, 105, 109, 105, 116, 32, 115, 107, 105, 112, 32, 114, 97, 110, 103, 101, 32, 116, 97, 105, 108, 32, 105, 100, 32, 108, 97, 98, 101, 108, 32, 118, 97, 108, 117, 101, 115, 32, 118, 97, 108, 117, 101, 77, 97, 112, 32, 99, 111, 110, 115, 116, 97, 110, 116, 32, 99, 111, 117, 110, 116, 32, 115, 117, 109, 32, 109, 105, 110, 32, 109, 97, 120, 32, 102, 111, 108, 100, 32, 117, 110, 102, 111, 108, 100, 32, 112, 97, 116, 104, 32, 97, 115, 32, 115, 101, 108, 101, 99, 116, 32, 111, 114, 100, 101, 114, 32, 111, 114, 100, 101, 114, 68, 101, 115, 99, 32, 111, 114, 100, 101, 114, 66, 121, 32, 111, 114, 100, 101, 114, 66, 121, 68, 101, 115, 99, 32, 103, 114, 111, 117, 112, 67, 111, 117, 110, 116, 32, 108, 111, 111, 112, 115, 32, 117, 110, 105, 111, 110, 32, 99, 111, 97, 108, 101, 115, 99, 101, 32, 111, 112, 116, 105, 111, 110, 97, 108, 32, 99, 104, 111, 111, 115, 101, 32, 116, 105, 109, 101, 115, 32, 117, 110, 116, 105, 108, 32, 101, 109, 105, 116, 32, 97, 100, 100, 69, 32, 112, 114, 111, 112, 101, 114, 116, 121, 32, 100, 114, 111, 112, 32, 105, 100, 101, 110, 116, 105, 116, 121]
def Zid (op:Int):List UInt8:=Zn7 (Z0t 32 Zpw) op
def predW (op:Int):List UInt8:=Zn7 (Z0t 32 wPreds) op
theorem steps_60:(Z0t 32 Zpw).length=60∧(Z0t 32 Zpw).all (fun w=>!w.isEmpty)=true:=by decide +kernel
theorem preds_9:(Z0t 32 wPreds).length=9∧(Z0t 32 wPreds).all (fun w=>!w.isEmpty)=true:=by decide +kernel
theorem wordAt_ne {W:List (List UInt8)} (h:W.all (fun w=>!w.isEmpty)=true) (n:Int):decide (Zn7 W n=[])=!(decide (1≤n)&&decide (n≤(W.length:Int))):=by
 unfold Zn7
 by_cases hn:1≤n∧n≤W.length
 ·rw [if_pos hn, decide_eq_true hn.1, decide_eq_true hn.2]
  have hlt:(n-1).toNat<W.length:=by omega
  rw [List.getElem?_eq_getElem hlt]
  have:=List.all_eq_true.1 h W[(n-1).toNat] (List.getElem_mem _)
  simp only [Option.getD_some]
  cases hw:W[(n-1).toNat] with
  |nil=>rw [hw] at this;cases this
  |cons a b=>simp
 ·rw [if_neg hn]
  have:¬(decide (1≤n)&&decide (n≤(W.length:Int)))=true:=by simpa using hn
  simp only [Bool.not_eq_true] at this
  rw [this]
  rfl
def opB (op:Int):Bool:=decide (1≤op)&&decide (op≤60)
theorem stepW_ne (op:Int):decide (Zid op=[])=!opB op:=by
 have:=wordAt_ne steps_60.2 op
 rw [steps_60.1] at this
 exact this
theorem predW_ne (op:Int):decide (predW op=[])=!(decide (1≤op)&&decide (op≤9)):=by
 have:=wordAt_ne preds_9.2 op
 rw [preds_9.1] at this
 exact this
theorem run_Word {op:Int} (h:Zm op):T.R (.call n_parse_Word [.int .i64 op] (.str (Zid op))):=by
 have hx:T.R (.call Zee [.str Zpw, .int .i64 op] (.str (Zid op))):=run_pword (by decide +kernel) op h
 generalize Zid op=w at hx ⊢
 refine Z7 rfl rfl ?_
 repeat' first|refine Z1 rfl ?_|refine Z5 rfl rfl ?_|((with_reducible show VO _ _ _ _ _ _ _);first|refine Z4 rfl rfl hx ?_|refine Z0 rfl ?_|refine Z2 ?_)
 rfl
def Zin:Prd→Bool
 |.mk op l=>(decide (1≤op)&&decide (op≤9))&&Zca (Zpf op).1 (Zpf op).2 l.length&&l.all (Zp 8)
theorem Zp3 {α:Type} (P:α→Bool) (l:List α):(l.any fun a=>!P a)=!l.all P:=by
 induction l with
 |nil=>rfl
 |cons v l ih=>simp [ih]
theorem run_ctVal {p:PV} {l:List Val} (hp:LR VC p l):T.R (.call Z0y [p, .func Zct []] (.bool (!l.all (Zp 8)))):=by
 rw [←Zp3]
 exact Z1n (f':=Z33) (sz:=4) (agg:=true) (val:=.agg) rfl rfl hp (fun _ _ h=>h.len4) (fun _ _ h=>Zjk h.len4 _) (fun _ _ h=>.agg _ h.pl) (hp.pl fun _ _ _ h=>h.pl) Z1e (fun a _ cs h=>run_badValue h)
set_option maxHeartbeats 4000000 in
theorem run_badPred {x:Prd} {cs:List PV} (h:PrC x cs):T.R (.call Z9h [.agg cs] (.bool (!Zin x))):=by
 obtain ⟨op, l⟩:=x
 obtain ⟨ho, p, rfl, hp⟩:=h
 have plp:Pl p:=hp.pl fun _ _ _ h=>h.pl
 obtain ⟨lp1, lp2, lp3⟩:=hp.len
 have hx:T.R (.call Zee [.str wPreds, .int .i64 op] (.str (predW op))):=run_pword (by decide +kernel) op ho
 have hc:=run_ctVal hp
 have ho':=run_operands op
 have hh:=Zkb (Zpf op).1 (Zpf op).2 l.length
 show T.R (.call Z9h [.agg [.int .i64 op, p]] (.bool (!((decide (1≤op)&&decide (op≤9))&&Zca (Zpf op).1 (Zpf op).2 l.length&&l.all (Zp 8)))))
 rw [show (decide (1≤op)&&decide (op≤9))=!decide (predW op=[]) by rw [predW_ne];simp]
 generalize predW op=w at hx ⊢
 generalize Zca (Zpf op).1 (Zpf op).2 l.length=b1 at hh ⊢
 generalize l.all (Zp 8)=b2 at hc ⊢
 generalize (Zpf op).1=o1 at *
 generalize (Zpf op).2=o2 at *
 refine Z7 rfl rfl ?_
 repeat' first|((with_reducible show V _ _ _ _ _ _);first|refine Z1 rfl ?_|refine Z5 rfl rfl ?_|refine V_D rfl ?_)|((with_reducible show VO _ _ _ _ _ _ _);first|refine Zb rfl ?_|refine Z0 rfl ?_|refine Z2 ?_)|((with_reducible show VD _ _ _ _ _ _ _);first|refine Zdo rfl rfl hx ?_|refine Zdo rfl rfl ho' ?_|refine D_lenO rfl lp1 lp2 ?_|refine Zdo rfl rfl hh ?_|refine Zdo rfl rfl hc ?_|refine Zn rfl ?_|refine Z08 ?_|refine Zce rfl ?_|refine Z74 rfl rfl ?_|refine D_gS rfl (fun _=>?_) (fun _=>?_))
 all_goals simp_all
def argB (op:Int) (names:List (List UInt8)) (nums:List Int) (preds:List Prd) (vals:List Val) (k:Nat):Bool:=
 match shp op with
 |[a, b, c, d, e, f, g, h, i, j]=>Zca a b names.length&&Zca c d nums.length&&Zca e f preds.length&&Zca g h vals.length&&Zca i j k
 |_=>false
def Zgr (op:Int) (names:List (List UInt8)) (nums:List Int) (preds:List Prd) (vals:List Val) (k:Nat):Bool:=
 opB op&&argB op names nums preds vals k&&names.all Zo0&&nums.all Znx&&preds.all Zin&&vals.all (Zp 8)
set_option maxHeartbeats 4000000 in
theorem run_badStep {n:Nat} {op:Int} {names:List (List UInt8)} {nums:List Int} {preds:List Prd} {vals:List Val} {subs:List (List Stp)} {cs:List PV} (h:SC n (.mk op names nums preds vals subs) cs):
  T.R (.call Zef [.agg cs] (.bool (!Zgr op names nums preds vals subs.length))):=by
 cases n with
 |zero=>exact h.elim
 |succ n=>
 have plcs:=h.pl
 obtain ⟨ho, pa, pb, pc, pd, pe, rfl, h1, h2, h3, h4, h5⟩:=h
 have pla:Pl pa:=h1.pl fun _ _ _ h=>h.pl
 have plb:Pl pb:=h2.pl fun _ _ _ h=>h.pl
 have plc:Pl pc:=h3.pl fun _ _ _ h=>h.pl
 have pld:Pl pd:=h4.pl fun _ _ _ h=>h.pl
 have ple:Pl pe:=plcs pe (by simp)
 obtain ⟨la1, la2, la3⟩:=h1.len
 obtain ⟨lb1, lb2, lb3⟩:=h2.len
 obtain ⟨lc1, lc2, lc3⟩:=h3.len
 obtain ⟨ld1, ld2, ld3⟩:=h4.len
 obtain ⟨le1, le2, le3⟩:=h5.len
 have hw:=run_Word ho
 have hs:=run_shapeOf op
 have c1:T.R (.call Z43 [pa, .func Zeg []] (.bool (!names.all Zo0))):=by
  rw [←Zp3]
  exact Z1n (f':=Z5c) (sz:=1) (agg:=false) (val:=fun cs=>cs.headD .junk) rfl rfl h1 (fun _ _ h=>h.len1) (fun _ _ h=>by obtain ⟨_, rfl⟩:=h;rfl) (fun _ _ h=>by obtain ⟨_, rfl⟩:=h;exact .str _) pla Z1e (fun a _ cs h=>by obtain ⟨hl, rfl⟩:=h;exact run_badName hl)
 have c2:T.R (.call Z4s [pb, .func Zgf []] (.bool (!nums.all Znx))):=by
  rw [←Zp3]
  exact Z1n (f':=Z6m) (sz:=1) (agg:=false) (val:=fun cs=>cs.headD .junk) rfl rfl h2 (fun _ _ h=>h.len1) (fun _ _ h=>by obtain ⟨_, rfl⟩:=h;rfl) (fun _ _ h=>by obtain ⟨_, rfl⟩:=h;exact .int _ _) plb Z1e (fun a _ cs h=>by obtain ⟨hl, rfl⟩:=h;exact run_badNum _)
 have c3:T.R (.call Z6n [pc, .func Z9h []] (.bool (!preds.all Zin))):=by
  rw [←Zp3]
  exact Z1n (f':=Z9c) (sz:=2) (agg:=true) (val:=.agg) rfl rfl h3 (fun _ _ h=>h.len2) (fun _ _ h=>Zjk h.len2 _) (fun _ _ h=>.agg _ h.pl) plc Z1e (fun a _ cs h=>run_badPred h)
 have c4:=run_ctVal h4
 obtain ⟨a, b, c, d, e, f, g, hh, i, j, hten⟩:=shp_ten op
 unfold Zgr argB
 rw [hten] at hs ⊢
 rw [show opB op=!decide (Zid op=[]) by rw [stepW_ne];simp]
 simp only [List.map_cons, List.map_nil, intP] at hs ⊢
 have k1:=Zkb a b names.length
 have k2:=Zkb c d nums.length
 have k3:=Zkb e f preds.length
 have k4:=Zkb g hh vals.length
 have k5:=Zkb i j subs.length
 generalize Zid op=w at hw ⊢
 generalize Zca a b names.length=b1 at k1 ⊢
 generalize Zca c d nums.length=b2 at k2 ⊢
 generalize Zca e f preds.length=b3 at k3 ⊢
 generalize Zca g hh vals.length=b4 at k4 ⊢
 generalize Zca i j subs.length=b5 at k5 ⊢
 generalize names.all Zo0=b6 at c1 ⊢
 generalize nums.all Znx=b7 at c2 ⊢
 generalize preds.all Zin=b8 at c3 ⊢
 generalize vals.all (Zp 8)=b9 at c4 ⊢
 refine Z7 rfl rfl ?_
 repeat' first|refine Z1 rfl ?_|refine Z5 rfl rfl ?_|((with_reducible show VO _ _ _ _ _ _ _);first|refine Zb rfl ?_|refine Z4 rfl rfl hs ?_|refine Z4 rfl rfl hw ?_|refine Z6 rfl la1 la2 ?_|refine Z6 rfl lb1 lb2 ?_|refine Z6 rfl lc1 lc2 ?_|refine Z6 rfl ld1 ld2 ?_|refine Z6 rfl le1 le2 ?_|refine Z4 rfl rfl k1 ?_|refine Z4 rfl rfl k2 ?_|refine Z4 rfl rfl k3 ?_|refine Z4 rfl rfl k4 ?_|refine Z4 rfl rfl k5 ?_|refine Z4 rfl rfl c1 ?_|refine Z4 rfl rfl c2 ?_|refine Z4 rfl rfl c3 ?_|refine Z4 rfl rfl c4 ?_|refine Z0 rfl ?_|refine Z2 ?_|refine Zg rfl ?_|refine Zj rfl rfl ?_|refine Zay rfl (fun _=>?_) (fun _=>?_))
 all_goals clear hs hw k1 k2 k3 k4 k5 c1 c2 c3 c4 la1 lb1 lc1 ld1 le1 h1 h2 h3 h4 h5
 all_goals simp_all
end Go.Proofs.YtnedeokclnbcpaaGreatDoor
namespace Go.Proofs.YtnedeokclnbcpaaGreatDoor
open Go Go.AM Go.RowKit
def stepB1:Stp→Bool
 |.mk op names nums preds vals subs=>Zgr op names nums preds vals subs.length
mutual
def okS:Stp→Bool
 |.mk op names nums preds vals subs=>Zgr op names nums preds vals subs.length&&Zdm subs
def Zn0:List Stp→Bool
 |[]=>true
 |s::r=>okS s&&Zn0 r
def Zdm:List (List Stp)→Bool
 |[]=>true
 |l::r=>(!l.isEmpty&&Zn0 l)&&Zdm r
end
def okL (l:List Stp):Bool:=!l.isEmpty&&Zn0 l
mutual
def Zln:Stp→Nat
 |.mk _ _ _ _ _ subs=>Z48 subs
def Z2n:List Stp→Nat
 |[]=>0
 |s::r=>1+Zln s+Z2n r
def Z48:List (List Stp)→Nat
 |[]=>0
 |l::r=>Z2n l+Z48 r
end
def mxI (a b:Int):Int:=if b>a then b else a
def wr (d:Int):Int:=IntKind.i64.wrap (d+1)
mutual
def dpL:List Stp→Int→Int→Int
 |[], _, acc=>acc
 |s::r, d, acc=>dpL r d (dpS s d acc)
def dpS:Stp→Int→Int→Int
 |.mk _ _ _ _ _ subs, d, acc=>dpLL subs d acc
def dpLL:List (List Stp)→Int→Int→Int
 |[], _, acc=>acc
 |l::r, d, acc=>dpLL r d (mxI acc (dpL l (wr d) (wr d)))
end
def cntP (l:List Stp) (d:Int):PV:=if okL l=true then .tuple [.int .i64 (IntKind.i64.wrap (Z2n l)), .int .i64 (dpL l d d), .bool true] else .tuple [.int .i64 0, .int .i64 0, .bool false]
theorem mx_is (a b:Int):PV.int .i64 (if true=true then (if b>a then b else a) else (if b<a then b else a))=PV.int .i64 (mxI a b):=rfl
def Zlf:List Stp→Bool
 |[]=>true
 |s::r=>Zdm s.subs&&Zlf r
def sumS:List Stp→Nat
 |[]=>0
 |s::r=>Z48 s.subs+sumS r
theorem okL1_two:∀l:List Stp, Zn0 l=(l.all stepB1&&Zlf l)
 |[]=>rfl
 |.mk op names nums preds vals subs::r=>by
  rw [Zn0, okL1_two r, okS, Zlf, List.all_cons, stepB1, Stp.subs]
  generalize Zgr op names nums preds vals subs.length=a
  generalize Zdm subs=b
  generalize r.all stepB1=c
  generalize Zlf r=d
  cases a<;>cases b<;>cases c<;>cases d<;>rfl
theorem cntL_sum:∀l:List Stp, Z2n l=l.length+sumS l
 |[]=>rfl
 |.mk op names nums preds vals subs::r=>by
  rw [Z2n, cntL_sum r, Zln, sumS, Stp.subs, List.length_cons]
  omega
section
variable {T:Tb} {Q:Z7m} {k:List Fr} {ρ:EC} {st:St} {l:List POp} {kill:List Nat}
theorem Z01 {a x:Opd} {t n:Nat} {cs cs0:List PV} (ha:a.get ρ=some (.ptr t 0)) (hx:x.get ρ=some (.agg cs)) (h1:∀c∈cs, PV.one c=true) (hl:cs.length=n) (hn:Nat.blt 0 n=true) (hg:st.get t=some (.var cs0)) (h0:cs0.length=n) (h:VO T Q l kill k (ρ.sets none (.tuple [])) (st.put t (.var cs))):VO T Q (⟨none, none, .store n a x⟩::l) kill k ρ st:=
 Z8j ha hx (List.all_eq_true.2 h1) hl hn (Z2g hg (by rw [h0, hl])) h
end
theorem run_ctStep {n:Nat} {p:PV} {l:List Stp} (hp:SL n p l):T.R (.call Z11 [p, .func Zef []] (.bool (!l.all stepB1))):=by
 rw [←Zp3]
 refine Z1n (f':=Z1g) (sz:=6) (agg:=true) (val:=.agg) rfl rfl hp (fun _ _ h=>h.len6) (fun _ _ h=>Zjk h.len6 _) (fun _ _ h=>.agg _ h.pl) hp.pl Z1e (fun a _ cs h=>?_)
 obtain ⟨op, names, nums, preds, vals, subs⟩:=a
 exact run_badStep h
theorem count_in {n:Nat} {pe:PV} {subs:List (List Stp)} (hp:LR (SubC (SC n)) pe subs) (d:Int) (st:St) (hd:∀x∈subs, ∀q, SL n q x→T.R (.call Z4v [q, .int .i64 (wr d)] (cntP x (wr d)))) (p:PV) (L I:Int) (plp:Pl p):
  ∀(rest pre:List (List Stp)) (N M:Int), subs=pre++rest→
  V T (PE fun x e st'=>st'=st∧((x=.exit 2∧Zdm rest=true∧∃a b:Int, e=Zf [(1, .int .i64 d), (7, .int .i64 a), (8, .int .i64 b), (25, p), (26, .int .i64 L), (27, .int .i64 I)]∧a=IntKind.i64.wrap (N+Z48 rest)∧b=dpLL rest d M)∨(x=.ret∧Zdm rest=false∧e=Zf [(4, .int .i64 0), (5, .int .i64 0), (6, .bool false)])))
   [.code (.loop Zcx)] .normal (Zf [(1, .int .i64 d), (7, .int .i64 (IntKind.i64.wrap N)), (8, .int .i64 M), (25, p), (26, .int .i64 L), (27, .int .i64 I), (32, pe), (33, .int .i64 subs.length), (34, .int .i64 pre.length)]) st:=by
 have ple:Pl pe:=LR.pl hp fun _ _ _ h=>h.pl fun _ _ h=>h.pl
 obtain ⟨le1, le2, le3⟩:=hp.len
 intro rest
 induction rest with
 |nil=>
  intro pre N M ha
  have hlt:¬(pre.length:Int)<subs.length:=by subst ha;simp
  refine Ze ?_
  repeat' first|((with_reducible show V _ _ _ _ _ _);first|refine Zdk rfl rfl hlt ?_|refine Zt [(1, .int .i64 d), (7, .int .i64 (IntKind.i64.wrap N)), (8, .int .i64 M), (25, p), (26, .int .i64 L), (27, .int .i64 I)] rfl ⟨rfl, rfl, rfl, rfl, rfl, rfl, trivial⟩ ⟨rfl, .inl ⟨rfl, rfl, _, _, rfl, by simp [Z48], rfl⟩⟩|refine Z1 rfl ?_)|refine Z0 rfl ?_|refine Z2 ?_
 |cons y rest ih=>
  intro pre N M ha
  have hlt:(pre.length:Int)<subs.length:=by subst ha;simp;omega
  have hll:pre.length<subs.length:=by subst ha;simp
  have hy:subs[pre.length]?=some y:=by subst ha;simp
  obtain ⟨cy, ay, q, rfl, hq⟩:=hp.at (sz:=1) (fun _ _ h=>h.len1) hy
  have plq:=SL.pl hq
  have hcall:=hd y (by subst ha;simp) q hq
  have hw:IntKind.i64.wrap ((pre.length:Int)+1)=((pre++[y]).length:Int):=by rw [Z02];simp;omega
  unfold cntP at hcall
  have hok:Zdm (y::rest)=(okL y&&Zdm rest):=by rw [Zdm];rfl
  rw [hok]
  cases hoy:okL y with
  |false=>
   rw [hoy, if_neg (by simp)] at hcall
   refine Ze ?_
   repeat' first|((with_reducible show V _ _ _ _ _ _);first|refine Z2m rfl rfl hlt ?_|refine Zt [(4, .int .i64 0), (5, .int .i64 0), (6, .bool false)] rfl ⟨rfl, rfl, rfl, trivial⟩ ⟨rfl, .inr ⟨rfl, rfl, rfl⟩⟩|refine Z1 rfl ?_|refine Z9 rfl rfl ?_)|((with_reducible show VO _ _ _ _ _ _ _);first|refine Zh rfl rfl ay ?_|refine Z4 rfl rfl hcall ?_|refine Z0 rfl ?_|refine Z2 ?_)
  |true=>
   rw [hoy, if_pos rfl] at hcall
   have hi:=ih (pre++[y]) (N+Z2n y) (mxI M (dpL y (wr d) (wr d))) (by rw [ha];simp)
   have e2:N+((Z48 (y::rest):Nat):Int)=N+(Z2n y:Int)+(Z48 rest:Int):=by rw [Z48];simp;omega
   have e4:PV.int .i64 (IntKind.i64.wrap (IntKind.i64.wrap N+IntKind.i64.wrap (Z2n y:Int)))=PV.int .i64 (IntKind.i64.wrap (N+Z2n y)):=Z5m (wrap_add _ _)
   rw [e2, dpLL, Bool.true_and]
   refine Ze ?_
   repeat' first|((with_reducible show V _ _ _ _ _ _);first|refine Z2m rfl rfl hlt ?_|refine Zbp rfl hi ⟨rfl, rfl, rfl, rfl, rfl, rfl, rfl, rfl, Z05 hw, trivial⟩|refine Z1 rfl ?_|refine Za rfl rfl ?_)|((with_reducible show VO _ _ _ _ _ _ _);first|refine Zh rfl rfl ay ?_|refine Z4 rfl rfl hcall ?_|refine Z3 e4 rfl ?_|refine Z3 (mx_is _ _) rfl ?_|refine Z0 rfl ?_|refine Z2 ?_)
theorem count_out {n:Nat} {p:PV} {l:List Stp} (hp:SL (n+1) p l) (d:Int) (hd:∀x, ∀q, SL n q x→T.R (.call Z4v [q, .int .i64 (wr d)] (cntP x (wr d)))):
  ∀(rest pre:List Stp) (N M:Int), l=pre++rest→
  V T (PE fun x e st'=>(x=.exit 0∧Zlf rest=true∧∃a b:Int, e=Zf [(7, .int .i64 a), (8, .int .i64 b)]∧a=IntKind.i64.wrap (N+sumS rest)∧b=dpL rest d M)∨(x=.ret∧Zlf rest=false∧e=Zf [(4, .int .i64 0), (5, .int .i64 0), (6, .bool false)]))
   [.code (.loop Zcw)] .normal (Zf [(1, .int .i64 d), (7, .int .i64 (IntKind.i64.wrap N)), (8, .int .i64 M), (25, p), (26, .int .i64 l.length), (27, .int .i64 pre.length)]) emptySt:=by
 have plp:Pl p:=SL.pl hp
 obtain ⟨lp1, lp2, lp3⟩:=hp.len
 intro rest
 induction rest with
 |nil=>
  intro pre N M ha
  have hlt:¬(pre.length:Int)<l.length:=by subst ha;simp
  refine Ze ?_
  repeat' first|((with_reducible show V _ _ _ _ _ _);first|refine Zdk rfl rfl hlt ?_|refine Zt [(7, .int .i64 (IntKind.i64.wrap N)), (8, .int .i64 M)] rfl ⟨rfl, rfl, trivial⟩ (.inl ⟨rfl, rfl, _, _, rfl, by simp [sumS], rfl⟩)|refine Z1 rfl ?_)|refine Z0 rfl ?_|refine Z2 ?_
 |cons y rest ih=>
  intro pre N M ha
  have hlt:(pre.length:Int)<l.length:=by subst ha;simp;omega
  have hll:pre.length<l.length:=by subst ha;simp
  have hy:l[pre.length]?=some y:=by subst ha;simp
  obtain ⟨cy, ay, hc⟩:=SL.at hp hy
  have plc:=hc.pl
  have onec:=hc.one
  have len6:=hc.len6
  obtain ⟨op, names, nums, preds, vals, subs⟩:=y
  obtain ⟨ho, pa, pb, pc, pd, pe, rfl, h1, h2, h3, h4, h5⟩:=hc
  obtain ⟨le1, le2, le3⟩:=h5.len
  have hw:IntKind.i64.wrap ((pre.length:Int)+1)=((pre++[Stp.mk op names nums preds vals subs]).length:Int):=by rw [Z02];simp;omega
  have hin:=count_in h5 d ((emptySt.new (.var [.int .i64 0, .nilSl, .nilSl, .nilSl, .nilSl, .nilSl])).put 0 (.var [.int .i64 op, pa, pb, pc, pd, pe])) (fun x _ q hq=>hd x q hq) p l.length pre.length plp subs [] N M rfl
  have e1:Zlf (Stp.mk op names nums preds vals subs::rest)=(Zdm subs&&Zlf rest):=rfl
  rw [e1]
  refine Ze ?_
  repeat' first|((with_reducible show V _ _ _ _ _ _);first|refine Z2m rfl rfl hlt ?_|refine Z0e rfl hin ⟨rfl, rfl, rfl, rfl, rfl, rfl, rfl, rfl, rfl, trivial⟩ ?_|refine Z1 rfl ?_)|((with_reducible show VO _ _ _ _ _ _ _);first|refine Zh rfl rfl ay ?_|refine Z07 rfl len6 ?_|refine Z0 rfl ?_|refine Z01 rfl rfl onec rfl rfl rfl rfl ?_|refine Z6 rfl le1 le2 ?_|refine Zb rfl ?_|refine Z2 ?_)
  rintro x e' st' ⟨rfl, ⟨rfl, hok, a, b, rfl, rfl, rfl⟩|⟨rfl, hok, rfl⟩⟩
  ·have hi:=ih (pre++[Stp.mk op names nums preds vals subs]) (N+Z48 subs) (dpLL subs d M) (by rw [ha];simp)
   have e2:N+((sumS (Stp.mk op names nums preds vals subs::rest):Nat):Int)=N+(Z48 subs:Int)+(sumS rest:Int):=by rw [sumS, Stp.subs];simp;omega
   rw [hok, e2, dpL, dpS, Bool.true_and]
   repeat' first|refine V_reF rfl hi rfl ⟨rfl, rfl, rfl, rfl, rfl, Z05 hw, trivial⟩ ⟨.int _ _, .int _ _, .int _ _, plp, .int _ _, .int _ _, trivial⟩|refine Z1 rfl ?_|refine Z0 rfl ?_|refine Z2 ?_
  ·rw [hok, Bool.false_and]
   repeat' first|refine Zt [(4, .int .i64 0), (5, .int .i64 0), (6, .bool false)] rfl ⟨rfl, rfl, rfl, trivial⟩ (.inr ⟨rfl, rfl, rfl⟩)
theorem Zoj {α:Type} (l:List α):decide ((l.length:Int)=0)=l.isEmpty:=by
 cases l with
 |nil=>rfl
 |cons a r=>
  rw [decide_eq_false (by simp;omega)]
  rfl
theorem run_count:∀(n:Nat) (l:List Stp) (p:PV) (d:Int), SL n p l→T.R (.call Z4v [p, .int .i64 d] (cntP l d)):=by
 have main:∀(n:Nat) (l:List Stp) (p:PV) (d:Int), SL (n+1) p l→(∀(l:List Stp) (p:PV) (d:Int), SL n p l→T.R (.call Z4v [p, .int .i64 d] (cntP l d)))→T.R (.call Z4v [p, .int .i64 d] (cntP l d)):=by
  intro n l p d hp ih
  have plp:Pl p:=SL.pl hp
  obtain ⟨lp1, lp2, lp3⟩:=hp.len
  have hct:=run_ctStep hp
  have hout:=count_out hp d (fun x q hq=>ih x q (wr d) hq) l [] l.length d rfl
  have hwl:IntKind.i64.wrap (l.length:Int)=l.length:=Zgm (i64_of_len lp3)
  rw [hwl] at hout
  unfold cntP okL
  rw [okL1_two]
  have hem:=Zoj l
  cases hE:l.isEmpty with
  |true=>
   rw [hE] at hem
   refine Z7 rfl rfl ?_
   repeat' first|((with_reducible show V _ _ _ _ _ _);first|refine Z1 rfl ?_|refine Z9 rfl rfl ?_|refine Z5 rfl rfl ?_)|((with_reducible show VO _ _ _ _ _ _ _);first|refine Z6 rfl lp1 lp2 ?_|refine Z3 (Zp0 hem) rfl ?_|refine Z0 rfl ?_|refine Z2 ?_|refine Zj rfl rfl ?_)
   rfl
  |false=>
   rw [hE] at hem
   cases hB:l.all stepB1 with
   |false=>
    rw [hB] at hct
    refine Z7 rfl rfl ?_
    repeat' first|((with_reducible show V _ _ _ _ _ _);first|refine Z1 rfl ?_|refine Z9 rfl rfl ?_|refine Z5 rfl rfl ?_)|((with_reducible show VO _ _ _ _ _ _ _);first|refine Z6 rfl lp1 lp2 ?_|refine Z3 (Zp0 hem) rfl ?_|refine Z4 rfl rfl hct ?_|refine Z0 rfl ?_|refine Z2 ?_|refine Zg rfl ?_)
    rfl
   |true=>
    rw [hB] at hct
    refine Z7 rfl rfl ?_
    repeat' first|((with_reducible show V _ _ _ _ _ _);first|refine Z0e rfl hout ⟨rfl, rfl, rfl, rfl, rfl, rfl, trivial⟩ ?_|refine Z1 rfl ?_|refine Za rfl rfl ?_)|((with_reducible show VO _ _ _ _ _ _ _);first|refine Z6 rfl lp1 lp2 ?_|refine Z3 (Zp0 hem) rfl ?_|refine Z4 rfl rfl hct ?_|refine Z0 rfl ?_|refine Z2 ?_|refine Zg rfl ?_)
    rintro x e' st' (⟨rfl, hok, a, b, rfl, rfl, rfl⟩|⟨rfl, hok, rfl⟩)
    ·rw [hok]
     have e1:((l.length:Int)+(sumS l:Int))=(Z2n l:Int):=by rw [cntL_sum];simp
     rw [e1]
     repeat' first|refine Z1 rfl ?_|refine Z5 rfl rfl ?_|refine Z0 rfl ?_|refine Z2 ?_
     rfl
    ·rw [hok]
     repeat' first|refine Z5 rfl rfl ?_
     rfl
 intro n
 induction n with
 |zero=>
  intro l p d hp
  have hl:l=[]:=by
   cases l with
   |nil=>rfl
   |cons s r=>
    obtain ⟨cs, _, h⟩:=SL.at hp (j:=0) (s:=s) rfl
    exact h.elim
  subst hl
  obtain ⟨lp1, lp2, lp3⟩:=hp.len
  have plp:Pl p:=SL.pl hp
  refine Z7 rfl rfl ?_
  repeat' first|((with_reducible show V _ _ _ _ _ _);first|refine Z1 rfl ?_|refine Z9 rfl rfl ?_|refine Z5 rfl rfl ?_)|((with_reducible show VO _ _ _ _ _ _ _);first|refine Z6 rfl lp1 lp2 ?_|refine Z0 rfl ?_|refine Z2 ?_|refine Zj rfl rfl ?_)
  rfl
 |succ n ih=>exact fun l p d hp=>main n l p d hp ih
def Zhz (l:List Stp):Int:=if okL l=true then (if 256<IntKind.i64.wrap (Z2n l)∨8<dpL l 1 1 then 3 else 0) else 161
theorem Zq5 {n:Nat} {l:List Stp} {p:PV} (hp:SL n p l):T.R (.call n_parse_Check [p] (.int .i64 (Zhz l))):=by
 have h:=run_count n l p 1 hp
 have plp:Pl p:=SL.pl hp
 unfold cntP at h
 unfold Zhz
 cases hok:okL l with
 |false=>
  rw [hok, if_neg (by simp)] at h
  refine Z7 rfl rfl ?_
  repeat' first|((with_reducible show V _ _ _ _ _ _);first|refine Z1 rfl ?_|refine Z9 rfl rfl ?_|refine Z5 rfl rfl ?_)|((with_reducible show VO _ _ _ _ _ _ _);first|refine Z4 rfl rfl h ?_|refine Z0 rfl ?_|refine Z2 ?_)
  rfl
 |true=>
  rw [hok, if_pos rfl] at h
  rw [if_pos rfl]
  generalize IntKind.i64.wrap (Z2n l:Int)=a at *
  generalize dpL l 1 1=b at *
  refine Z7 rfl rfl ?_
  repeat' first|((with_reducible show V _ _ _ _ _ _);first|refine Z1 rfl ?_|refine Z9 rfl rfl ?_|refine Za rfl rfl ?_|refine Z75 rfl rfl (fun _=>?_) (fun _=>?_)|refine Z5 rfl rfl ?_)|((with_reducible show VO _ _ _ _ _ _ _);first|refine Z4 rfl rfl h ?_|refine Z0 rfl ?_|refine Z2 ?_|refine Zg rfl ?_|refine Zj rfl rfl ?_|refine Zay rfl (fun _=>?_) (fun _=>?_))
  all_goals simp_all
end Go.Proofs.YtnedeokclnbcpaaGreatDoor
