/- Names: value.Name. · slices.IndexFunc and ContainsFunc, over elements of any size. · Steps: what they are over plain cells. · Names, words, shapes, predicates: parse's. · Shapes, predicates, steps: parse's badStep. · How many steps there are, how deep; whether they may be: parse.count, parse.Check. -/
import Derived.Test.YtnedeokclnbcpaaGreatDoorT
import Derived.Test.YtnedeokclnbcpaaGreatDoorAmZ
import Derived.Lib.SlTrimSet
import Derived.Test.YtnedeokclnbcpaaGreatDoorValGToStrA
set_option linter.unusedVariables false
set_option linter.unusedSimpArgs false
namespace Go.Proofs.YtnedeokclnbcpaaGreatDoor
open Go Go.AM Go.RowKit
def Zac (c:UInt8):Bool:=c == 95||(decide (97≤c.toNat)&&decide (c.toNat≤122))||(decide (65≤c.toNat)&&decide (c.toNat≤90))
def isDg (c:UInt8):Bool:=decide (48≤c.toNat)&&decide (c.toNat≤57)
def Zoh:List UInt8→Bool
 |[]=>false
 |c::r=>decide ((c::r).length≤24)&&Zac c&&(c::r).all fun c=>Zac c||isDg c
def nameSet:List UInt8:=[97, 98, 99, 100, 101, 102, 103, 104, 105, 106, 107, 108, 109, 110, 111, 112, 113, 114, 115, 116, 117, 118, 119, 120, 121, 122, 65, 66, 67, 68, 69, 70, 71, 72, 73, 74, 75, 76, 77, 78, 79, 80, 81, 82, 83, 84, 85, 86, 87, 88, 89, 90, 48, 49, 50, 51, 52, 53, 54, 55, 56, 57, 95]
theorem u8_all {P:UInt8→Prop} (h:∀n:Nat, n<256→P (UInt8.ofNat n)) (c:UInt8):P c:=by
 have:=h c.toNat c.toNat_lt
 simpa using this
theorem set_is:∀c:UInt8, nameSet.contains c=(Zac c||isDg c):=u8_all (by decide +kernel)
theorem set_ascii:∀c∈nameSet, c.toNat<128:=by decide +kernel
theorem dropWhile_nil {α:Type} {p:α→Bool}:∀ {l:List α}, l.dropWhile p=[]↔∀c∈l, p c=true
 |[]=>by simp
 |a::l=>by
  rw [List.dropWhile_cons]
  cases h:p a with
  |true=>rw [if_pos rfl, dropWhile_nil];simp [h]
  |false=>simp [h]
theorem Zkc {α:Type} {p:α→Bool}:∀ {l:List α}, (∀c∈l.dropWhile p, p c=true)→l.dropWhile p=[]
 |[], _=>rfl
 |a::l, h=>by
  rw [List.dropWhile_cons] at h ⊢
  cases hp:p a with
  |true=>
   rw [hp, if_pos rfl] at h
   rw [if_pos rfl]
   exact Zkc h
  |false=>
   rw [hp, if_neg (by simp)] at h
   have:=h a (by simp)
   rw [hp] at this
   cases this
theorem trim_nil (l cs:List UInt8):Lib.trimS l cs=[]↔l.all (cs.contains ·)=true:=by
 unfold Lib.trimS Lib.trimLeftS
 rw [dropWhile_nil, List.all_eq_true]
 unfold Lib.trimRightS
 constructor
 ·intro h
  have h1:l.reverse.dropWhile (cs.contains ·)=[]:=Zkc fun c hc=>h c (by simpa using hc)
  intro c hc
  exact dropWhile_nil.1 h1 c (by simpa using hc)
 ·intro h c hc
  have h1:l.reverse.dropWhile (cs.contains ·)=[]:=dropWhile_nil.2 fun c hc=>h c (by simpa using hc)
  rw [h1] at hc
  simp at hc
theorem run_Name {s:List UInt8} (hs:s.length≤140737488355328):T.R (.call Zlx [.str s] (.bool (Zoh s))):=by
 have ht:T.R (.call Zgu [.str s, .str nameSet] (.str (Lib.trimS s nameSet))):=.prim _ _ _ ⟨rfl, s, nameSet, by omega, by decide, set_ascii, rfl, rfl⟩
 have hn:decide (Lib.trimS s nameSet=[])=s.all fun c=>Zac c||isDg c:=by
  rw [Bool.eq_iff_iff, decide_eq_true_eq, trim_nil]
  have:(fun c=>nameSet.contains c)=fun c=>Zac c||isDg c:=funext set_is
  rw [show s.all (nameSet.contains ·)=s.all (fun c=>Zac c||isDg c) from congrArg _ this]
 generalize Lib.trimS s nameSet=tr at ht hn
 cases s with
 |nil=>
  refine Z7 rfl rfl ?_
  repeat' first|((with_reducible show V _ _ _ _ _ _);first|refine Z1 rfl ?_|refine Za rfl rfl ?_|refine Z6 rfl rfl ?_)|((with_reducible show VO _ _ _ _ _ _ _);first|refine Z0 rfl ?_|refine Z2 ?_|refine Z3x rfl ?_|refine Zk rfl rfl ?_)
  rfl
 |cons c r=>
  have hne:¬(c::r)=[]:=by simp
  have hch:(c::r)[(0:Int).toNat]?=some c:=rfl
  show T.R (.call Zlx [.str (c::r)] (.bool (decide ((c::r).length≤24)&&Zac c&&(c::r).all fun c=>Zac c||isDg c)))
  by_cases hl:24<(c::r).length
  ·have h1:((24:Int)<((c::r).length:Int)):=by omega
   rw [decide_eq_false (by omega:¬(c::r).length≤24)]
   refine Z7 rfl rfl ?_
   repeat' first|((with_reducible show V _ _ _ _ _ _);first|refine Z1 rfl ?_|refine Za rfl rfl ?_|refine Z6 rfl rfl ?_)|((with_reducible show VO _ _ _ _ _ _ _);first|refine Z3 (Zb hne) rfl ?_|refine Z3 (Z0f h1) rfl ?_|refine Z0 rfl ?_|refine Z2 ?_|refine Zh rfl ?_|refine Z3x rfl ?_|refine Zk rfl rfl ?_)
   rfl
  ·have h1:¬((24:Int)<((c::r).length:Int)):=by omega
   rw [decide_eq_true (by omega:(c::r).length≤24)]
   by_cases hd:isDg c=true
   ·have hd':=hd
    unfold isDg at hd'
    simp only [Bool.and_eq_true, decide_eq_true_eq] at hd'
    have h2:(48:Int)≤(c.toNat:Int):=by omega
    have h3:(c.toNat:Int)≤57:=by omega
    have hnl:Zac c=false:=by
     unfold Zac
     simp only [Bool.or_eq_false_iff, Bool.and_eq_false_iff, beq_eq_false_iff_ne, decide_eq_false_iff_not]
     refine ⟨⟨fun e=>?_, .inl (by omega)⟩, .inl (by omega)⟩
     subst e
     have:(95:UInt8).toNat=95:=rfl
     omega
    rw [hnl]
    refine Z7 rfl rfl ?_
    repeat' first|((with_reducible show V _ _ _ _ _ _);first|refine Z1 rfl ?_|refine Za rfl rfl ?_|refine Z6 rfl rfl ?_)|((with_reducible show VO _ _ _ _ _ _ _);first|refine Z3 (Zb hne) rfl ?_|refine Z3 (Zb h1) rfl ?_|refine Zn4 c rfl rfl (by decide) hch ?_|refine Z3 (Z0f h2) rfl ?_|refine Z3 (Z0f h3) rfl ?_|refine Z0 rfl ?_|refine Z2 ?_|refine Zh rfl ?_)
    rfl
   ·have hkey:(Zac c&&(c::r).all fun c=>Zac c||isDg c)=(c::r).all fun c=>Zac c||isDg c:=by
     cases hlc:Zac c with
     |true=>rfl
     |false=>simp [hlc, hd]
    rw [Bool.and_assoc, hkey, Bool.true_and, ←hn]
    have hw:decide ((48:Int)≤(c.toNat:Int))=true→decide ((c.toNat:Int)≤57)=true→False:=fun a b=>hd (by
     have a:=of_decide_eq_true a
     have b:=of_decide_eq_true b
     unfold isDg
     simp only [Bool.and_eq_true, decide_eq_true_eq]
     omega)
    refine Z7 rfl rfl ?_
    repeat' first|((with_reducible show V _ _ _ _ _ _);first|refine Z1 rfl ?_|refine Z9 rfl rfl ?_|refine Z7j rfl rfl (fun _=>?_) (fun _=>?_)|refine Z6 rfl rfl ?_)|((with_reducible show VO _ _ _ _ _ _ _);first|refine Z3 (Zb hne) rfl ?_|refine Z3 (Zb h1) rfl ?_|refine Zn4 c rfl rfl (by decide) hch ?_|refine Z5 rfl rfl ht ?_|refine Z0 rfl ?_|refine Z2 ?_|refine Zh rfl ?_|refine Zk rfl rfl ?_|refine Zba rfl (fun _=>?_) (fun _=>?_))
    all_goals first|rfl|(exfalso;apply hw<;>assumption)
end Go.Proofs.YtnedeokclnbcpaaGreatDoor
namespace Go.Proofs.YtnedeokclnbcpaaGreatDoor
open Go Go.AM Go.RowKit
def ixLoop (sz:Nat) (agg:Bool):PC:=(.seq (.ops [(.mk (some 9) none (.bin .lss (.t 8) (.t 7)))] []) (.seq (.cond (.t 9) .skip (.exit 0)) (.seq (.block 1 (.seq (.ops [(.mk (some 10) none (.move (.t 8))), (.mk (some 5) none (.move (.t 10)))] [10]) (.seq (.ops [(.mk (some 11) none (.move (.t 1))), (.mk (some 12) none (.move (.t 0))), (.mk (some 13) none (.move (.t 5))), (.mk (some 14) none (.indexS (.t 12) (.t 13) sz)), (.mk (some 15) none (.load sz agg (.t 14))), (.mk (some 16) none (.call (.t 11) [(.t 15)]))] [11, 12, 13, 14, 15]) (.cond (.t 16) (.seq (.ops [(.mk (some 17) none (.move (.t 5))), (.mk (some 4) none (.move (.t 17)))] [17]) .ret) .skip)))) (.ops [(.mk (some 18) none (.bin .add (.t 8) (.c (.int .i64 (1))))), (.mk (some 8) none (.move (.t 18)))] [18]))))
def ixPF (sz:Nat) (agg:Bool):PF:=⟨19, [(.tmp 4)], (.seq (.ops [(.mk (some 4) none (.move (.c (.int .i64 (0)))))] []) (.seq (.seq (.ops [(.mk (some 6) none (.move (.t 0))), (.mk (some 7) none (.len false (.t 6))), (.mk (some 8) none (.move (.c (.int .i64 (0)))))] [6]) (.block 0 (.loop (ixLoop sz agg)))) (.seq (.ops [(.mk (some 4) none (.move (.c (.int .i64 (-1)))))] []) .ret)))⟩
def ctPF (f:Nat):PF:=⟨9, [(.tmp 4)], (.seq (.ops [(.mk (some 4) none (.move (.c (.bool false))))] []) (.seq (.ops [(.mk (some 5) none (.move (.t 0))), (.mk (some 6) none (.move (.t 1))), (.mk (some 7) none (.call (.c (.func f [])) [(.t 5), (.t 6)])), (.mk (some 8) none (.bin .geq (.t 7) (.c (.int .i64 (0))))), (.mk (some 4) none (.move (.t 8)))] [5, 6, 7, 8]) .ret))⟩
def idxG {α:Type} (P:α→Bool):List α→Nat→Int
 |[], _ => -1
 |v::r, i=>if P v then i else idxG P r (i+1)
theorem idxG_any {α:Type} (P:α→Bool):∀(l:List α) (i:Nat), decide (0≤idxG P l i)=l.any P
 |[], i=>by simp [idxG]
 |v::r, i=>by
  unfold idxG
  have:=idxG_any P r (i+1)
  cases h:P v with
  |true=>simp [h]
  |false=>simp [h, this]
section
variable {T:Tb} {Q:Z6k} {k:List Fr} {ρ:EC} {st:St} {l:List POp} {kill:List Nat}
theorem O_loadG {d:Option Nat} {x:Opd} {n:Nat} {agg:Bool} {p v:PV} (hx:x.get ρ=some p) (hl:loadAt st.get n agg p=some v) (h:VO T Q l kill k (ρ.sets d v) st):VO T Q (⟨d, none, .load n agg x⟩::l) kill k ρ st:=
 Z0 (by simp only [Zl, Zcq, hx];exact hl) h
end
section
variable {T:Tb} {Q:Z6k} {k:List Fr} {ρ:EC} {st:St}
theorem V_cS {x:EX} {k':List Fr} {n:Nat} {a b:PC} {t:Bool} (ha:Zs 200 k x=(.code (.cond (.t n) a b)::k', .normal)) (hc:ρ.get n=some (.bool t)) (h1:t=true→V T Q (.code a::k') .normal (.put n (.bool true) ρ) st) (h2:t=false→V T Q (.code b::k') .normal (.put n (.bool false) ρ) st):V T Q k x ρ st:=by
 have up:∀r, Sub ρ r→Sub (.put n (.bool t) ρ) r:=fun r hr m p hm=>by
  simp only [EC.get] at hm
  split at hm
  ·rename_i e
   have e':=Nat.eq_of_beq_eq_true e
   subst e'
   rw [←hm]
   exact hr _ _ hc
  ·exact hr _ _ hm
 cases t with
 |true=>exact Za ha hc (fun r hr=>h1 rfl r (up r hr))
 |false=>exact Z9 ha hc (fun r hr=>h2 rfl r (up r hr))
end
section
variable {T:Tb} {α:Type} {R:α→List PV→Prop} {P:α→Bool} {sz:Nat} {agg:Bool} {val:List PV→PV} {g:Nat} {caps:List PV} {l:List α} {p:PV}
theorem ix_loop (hp:LR R p l) (hs:∀a cs, R a cs→cs.length=sz) (hld:∀a cs, R a cs→loadAt emptySt.get sz agg (.iptr cs 0)=some (val cs)) (hpv:∀a cs, R a cs→Pl (val cs)) (plc:∀c∈caps, Pl c)
  (hm:∀a∈l, ∀cs, R a cs→T.R (.call g (val cs::caps) (.bool (P a)))):
  ∀(ra pre:List α), l=pre++ra→
  V T (PE fun x e st'=>st'=emptySt∧((x=.exit 0∧idxG P ra pre.length = -1)∨(x=.ret∧e=Ze [(4, .int .i64 (idxG P ra pre.length))]))) [.code (.loop (ixLoop sz agg))] .normal (Ze [(0, p), (1, .func g caps), (7, .int .i64 l.length), (8, .int .i64 pre.length)]) emptySt:=by
 obtain ⟨lp1, lp2, lp3⟩:=hp.len
 intro ra
 induction ra with
 |nil=>
  intro pre ha
  have hlt:¬(pre.length:Int)<l.length:=by subst ha;simp
  refine Zf ?_
  repeat' first|((with_reducible show V _ _ _ _ _ _);first|refine Ze4 rfl rfl hlt ?_|refine Zr [] rfl trivial ⟨rfl, .inl ⟨rfl, rfl⟩⟩|refine Z1 rfl ?_)|refine Z0 rfl ?_|refine Z2 ?_
 |cons y ra ihr=>
  intro pre ha
  have hlt:(pre.length:Int)<l.length:=by subst ha;simp;omega
  have hll:pre.length<l.length:=by subst ha;simp
  have hy:l[pre.length]?=some y:=by subst ha;simp
  obtain ⟨cy, ay, vy⟩:=hp.at hs hy
  have hcall:=hm y (by subst ha;simp) cy vy
  have hvl:Z2r false emptySt.get ([val cy]++caps) (val cy::caps):=Zip (Z0s (hpv _ _ vy) plc)
  have hw:IntKind.i64.wrap ((pre.length:Int)+1)=((pre++[y]).length:Int):=by rw [Z01];simp;omega
  have hi:=ihr (pre++[y]) (by rw [ha];simp)
  refine Zf ?_
  rw [idxG]
  cases hyP:P y with
  |false=>
   rw [hyP] at hcall
   have e1:(pre++[y]).length=pre.length+1:=by simp
   rw [e1] at hi hw
   rw [if_neg (by simp)]
   repeat' first|((with_reducible show V _ _ _ _ _ _);first|refine Z2s rfl rfl hlt ?_|refine Z7z rfl hi ⟨rfl, rfl, rfl, Z04 hw, trivial⟩|refine Z1 rfl ?_|refine Z9 rfl rfl ?_)|((with_reducible show VO _ _ _ _ _ _ _);first|refine Zg rfl rfl ay ?_|refine O_loadG rfl (hld _ _ vy) ?_|refine Zpm rfl rfl hvl hcall ?_|refine Z0 rfl ?_|refine Z2 ?_)
  |true=>
   rw [hyP] at hcall
   rw [if_pos rfl]
   repeat' first|((with_reducible show V _ _ _ _ _ _);first|refine Z2s rfl rfl hlt ?_|refine Zr [(4, .int .i64 pre.length)] rfl ⟨rfl, trivial⟩ ⟨rfl, .inr ⟨rfl, rfl⟩⟩|refine Z1 rfl ?_|refine Za rfl rfl ?_)|((with_reducible show VO _ _ _ _ _ _ _);first|refine Zg rfl rfl ay ?_|refine O_loadG rfl (hld _ _ vy) ?_|refine Zpm rfl rfl hvl hcall ?_|refine Z0 rfl ?_|refine Z2 ?_)
theorem run_IndexG {f:Nat} (hf:T.tbl f=some (ixPF sz agg)) (hp:LR R p l) (hs:∀a cs, R a cs→cs.length=sz) (hld:∀a cs, R a cs→loadAt emptySt.get sz agg (.iptr cs 0)=some (val cs)) (hpv:∀a cs, R a cs→Pl (val cs)) (plc:∀c∈caps, Pl c)
  (hm:∀a∈l, ∀cs, R a cs→T.R (.call g (val cs::caps) (.bool (P a)))):T.R (.call f [p, .func g caps] (.int .i64 (idxG P l 0))):=by
 obtain ⟨lp1, lp2, lp3⟩:=hp.len
 have hl:=ix_loop hp hs hld hpv plc hm l [] rfl
 refine Z7 hf rfl ?_
 repeat' first|refine Z08 rfl hl ⟨rfl, rfl, rfl, rfl, trivial⟩ ?_|refine Z1 rfl ?_|((with_reducible show VO _ _ _ _ _ _ _);first|refine Z4 rfl lp1 lp2 ?_|refine Z0 rfl ?_|refine Z2 ?_)
 rintro x e' st' ⟨rfl, ⟨rfl, h⟩|⟨rfl, rfl⟩⟩
 ·repeat' first|refine Z1 rfl ?_|refine Z6 rfl rfl ?_|refine Z0 rfl ?_|refine Z2 ?_
  exact congrArg _ (Eq.symm h)
 ·repeat' first|refine Z6 rfl rfl ?_
  rfl
theorem Z2l {f f':Nat} (hf:T.tbl f=some (ctPF f')) (hf':T.tbl f'=some (ixPF sz agg)) (hp:LR R p l) (hs:∀a cs, R a cs→cs.length=sz) (hld:∀a cs, R a cs→loadAt emptySt.get sz agg (.iptr cs 0)=some (val cs)) (hpv:∀a cs, R a cs→Pl (val cs)) (plp:Pl p) (plc:∀c∈caps, Pl c)
  (hm:∀a∈l, ∀cs, R a cs→T.R (.call g (val cs::caps) (.bool (P a)))):T.R (.call f [p, .func g caps] (.bool (l.any P))):=by
 have h:=run_IndexG hf' hp hs hld hpv plc hm
 have plf:Pl (.func g caps):=.func _ _ plc
 rw [←idxG_any P l 0]
 generalize idxG P l 0=r at h ⊢
 refine Z7 hf rfl ?_
 repeat' first|refine Z1 rfl ?_|refine Z6 rfl rfl ?_|((with_reducible show VO _ _ _ _ _ _ _);first|refine Z5 rfl rfl h ?_|refine Z0 rfl ?_|refine Z2 ?_)
 rfl
theorem Znd {sz:Nat} {cs:List PV} (h:cs.length=sz) (look:Nat→Option Tok):loadAt look sz true (.iptr cs 0)=some (.agg cs):=by
 subst h
 simp [loadAt, behind, slice?]
end
end Go.Proofs.YtnedeokclnbcpaaGreatDoor
namespace Go.Proofs.YtnedeokclnbcpaaGreatDoor
open Go Go.AM Go.RowKit
inductive Prd where
 |mk (op:Int) (l:List Val)
inductive Stp where
 |mk (op:Int) (names:List (List UInt8)) (nums:List Int) (preds:List Prd) (vals:List Val) (subs:List (List Stp))
def Stp.op:Stp→Int
 |.mk o _ _ _ _ _=>o
def Stp.names:Stp→List (List UInt8)
 |.mk _ n _ _ _ _=>n
def Stp.nums:Stp→List Int
 |.mk _ _ n _ _ _=>n
def Stp.preds:Stp→List Prd
 |.mk _ _ _ n _ _=>n
def Stp.vals:Stp→List Val
 |.mk _ _ _ _ n _=>n
def Stp.subs:Stp→List (List Stp)
 |.mk _ _ _ _ _ n=>n
def NmC (s:List UInt8) (cs:List PV):Prop:=s.length≤140737488355328∧cs=[.str s]
def NuC (n:Int) (cs:List PV):Prop:=Zn n∧cs=[.int .i64 n]
def PrC:Prd→List PV→Prop
 |.mk op l, cs=>Zn op∧∃p, cs=[.int .i64 op, p]∧LR VC p l
def SubC (R:Stp→List PV→Prop) (l:List Stp) (cs:List PV):Prop:=∃p, cs=[p]∧LR R p l
def SC:Nat→Stp→List PV→Prop
 |0, _, _=>False
 |n+1, .mk op names nums preds vals subs, cs=>Zn op∧∃pa pb pc pd pe, cs=[.int .i64 op, pa, pb, pc, pd, pe]∧LR NmC pa names∧LR NuC pb nums∧LR PrC pc preds∧LR VC pd vals∧LR (SubC (SC n)) pe subs
theorem NmC.pl {s:List UInt8} {cs:List PV} (h:NmC s cs):∀c∈cs, Pl c:=by
 obtain ⟨_, rfl⟩:=h
 exact Z0s (.str _) Z31
theorem NuC.pl {s:Int} {cs:List PV} (h:NuC s cs):∀c∈cs, Pl c:=by
 obtain ⟨_, rfl⟩:=h
 exact Z0s (.int _ _) Z31
theorem PrC.pl {s:Prd} {cs:List PV} (h:PrC s cs):∀c∈cs, Pl c:=by
 obtain ⟨op, l⟩:=s
 obtain ⟨_, p, rfl, hp⟩:=h
 exact Z0s (.int _ _) (Z0s (hp.pl fun a _ cs h=>h.pl) Z31)
theorem SubC.pl {R:Stp→List PV→Prop} {l:List Stp} {cs:List PV} (hR:∀s cs, R s cs→∀c∈cs, Pl c) (h:SubC R l cs):∀c∈cs, Pl c:=by
 obtain ⟨p, rfl, hp⟩:=h
 exact Z0s (hp.pl fun a _ cs h=>hR a cs h) Z31
theorem SC.pl:∀ {n:Nat} {s:Stp} {cs:List PV}, SC n s cs→∀c∈cs, Pl c
 |0, _, _, h=>h.elim
 |n+1, .mk op names nums preds vals subs, cs, h=>by
  obtain ⟨_, pa, pb, pc, pd, pe, rfl, h1, h2, h3, h4, h5⟩:=h
  exact Z0s (.int _ _) (Z0s (h1.pl fun a _ cs h=>h.pl) (Z0s (h2.pl fun a _ cs h=>h.pl) (Z0s (h3.pl fun a _ cs h=>h.pl) (Z0s (h4.pl fun a _ cs h=>h.pl) (Z0s (h5.pl fun a _ cs h=>h.pl fun s cs h=>SC.pl h) Z31)))))
theorem SC.len6:∀ {n:Nat} {s:Stp} {cs:List PV}, SC n s cs→cs.length=6
 |0, _, _, h=>h.elim
 |n+1, .mk op names nums preds vals subs, cs, h=>by
  obtain ⟨_, pa, pb, pc, pd, pe, rfl, _⟩:=h
  rfl
theorem SC.one:∀ {n:Nat} {s:Stp} {cs:List PV}, SC n s cs→∀c∈cs, PV.one c=true
 |0, _, _, h=>h.elim
 |n+1, .mk op names nums preds vals subs, cs, h=>by
  obtain ⟨_, pa, pb, pc, pd, pe, rfl, h1, h2, h3, h4, h5⟩:=h
  have one:∀ {α:Type} {R:α→List PV→Prop} {p:PV} {l:List α}, LR R p l→PV.one p=true:=fun h=>by
   rcases h with ⟨rfl, _⟩|⟨_, _, rfl, _⟩<;>rfl
  intro c hc
  simp only [List.mem_cons, List.not_mem_nil, or_false] at hc
  rcases hc with rfl|rfl|rfl|rfl|rfl|rfl
  ·rfl
  ·exact one h1
  ·exact one h2
  ·exact one h3
  ·exact one h4
  ·exact one h5
theorem NmC.len1 {s:List UInt8} {cs:List PV} (h:NmC s cs):cs.length=1:=by obtain ⟨_, rfl⟩:=h;rfl
theorem NuC.len1 {s:Int} {cs:List PV} (h:NuC s cs):cs.length=1:=by obtain ⟨_, rfl⟩:=h;rfl
theorem PrC.len2 {s:Prd} {cs:List PV} (h:PrC s cs):cs.length=2:=by
 obtain ⟨op, l⟩:=s
 obtain ⟨_, p, rfl, hp⟩:=h
 rfl
theorem SubC.len1 {R:Stp→List PV→Prop} {l:List Stp} {cs:List PV} (h:SubC R l cs):cs.length=1:=by obtain ⟨p, rfl, _⟩:=h;rfl
theorem SC.mono:∀ {n m:Nat} {s:Stp} {cs:List PV}, n≤m→SC n s cs→SC m s cs
 |0, _, _, _, _, h=>h.elim
 |n+1, 0, _, _, hm, h=>by omega
 |n+1, m+1, .mk op names nums preds vals subs, cs, hm, h=>by
  obtain ⟨h0, pa, pb, pc, pd, pe, e, h1, h2, h3, h4, h5⟩:=h
  refine ⟨h0, pa, pb, pc, pd, pe, e, h1, h2, h3, h4, h5.mono fun l _ cs ⟨p, hc, hp⟩=>⟨p, hc, hp.mono fun s _ cs h=>SC.mono (by omega) h⟩⟩
abbrev SL (n:Nat) (p:PV) (l:List Stp):Prop:=LR (SC n) p l
theorem SL.pl {n:Nat} {p:PV} {l:List Stp} (h:SL n p l):Pl p:=LR.pl h fun a _ cs h=>h.pl
theorem SL.at {n:Nat} {p:PV} {l:List Stp} (h:SL n p l) {j:Nat} {s:Stp} (hs:l[j]?=some s):∃cs, At 6 p j cs∧SC n s cs:=LR.at h (fun _ _ h=>h.len6) hs
theorem i64_of_len {n:Nat} (h:n≤140737488355328):Zn n:=by unfold Zn;omega
theorem Zh3 {n:Int} (h:Zn n):IntKind.i64.wrap n=n:=by unfold Zn at h;rw [Z01];omega
theorem wrap_add (a b:Int):IntKind.i64.wrap (IntKind.i64.wrap a+IntKind.i64.wrap b)=IntKind.i64.wrap (a+b):=by rw [Z01, Z01, Z01, Z01];omega
theorem wrap_addL (a b:Int):IntKind.i64.wrap (IntKind.i64.wrap a+b)=IntKind.i64.wrap (a+b):=by rw [Z01, Z01, Z01];omega
end Go.Proofs.YtnedeokclnbcpaaGreatDoor
namespace Go.Proofs.YtnedeokclnbcpaaGreatDoor
open Go Go.AM Go.RowKit
theorem run_badName {s:List UInt8} (hs:s.length≤140737488355328):T.R (.call Zew [.str s] (.bool (!Zoh s))):=by
 have h:=run_Name hs
 generalize Zoh s=r at h ⊢
 refine Z7 rfl rfl ?_
 repeat' first|refine Z1 rfl ?_|refine Z6 rfl rfl ?_|((with_reducible show VO _ _ _ _ _ _ _);first|refine Z5 rfl rfl h ?_|refine Z0 rfl ?_|refine Z2 ?_)
 rfl
def Zoe (n:Int):Bool:=decide (0≤n)&&decide (n≤9007199254740992)
theorem run_badNum (n:Int):T.R (.call Zgv [.int .i64 n] (.bool (!Zoe n))):=by
 unfold Zoe
 by_cases h1:n<0
 ·rw [decide_eq_false (by omega:¬ 0≤n)]
  refine Z7 rfl rfl ?_
  repeat' first|refine Z1 rfl ?_|refine Z6 rfl rfl ?_|((with_reducible show VO _ _ _ _ _ _ _);first|refine Z3 (Z0f h1) rfl ?_|refine Z0 rfl ?_|refine Z2 ?_|refine Zk rfl rfl ?_)
  rfl
 ·rw [decide_eq_true (by omega:0≤n)]
  by_cases h2:9007199254740992<n
  ·rw [decide_eq_false (by omega:¬n≤9007199254740992)]
   refine Z7 rfl rfl ?_
   repeat' first|refine Z1 rfl ?_|refine Z6 rfl rfl ?_|((with_reducible show VO _ _ _ _ _ _ _);first|refine Z3 (Zb h1) rfl ?_|refine Z3 (Z0f h2) rfl ?_|refine Z0 rfl ?_|refine Z2 ?_|refine Zh rfl ?_)
   rfl
  ·rw [decide_eq_true (by omega:n≤9007199254740992)]
   refine Z7 rfl rfl ?_
   repeat' first|refine Z1 rfl ?_|refine Z6 rfl rfl ?_|((with_reducible show VO _ _ _ _ _ _ _);first|refine Z3 (Zb h1) rfl ?_|refine Z3 (Zb h2) rfl ?_|refine Z0 rfl ?_|refine Z2 ?_|refine Zh rfl ?_)
   rfl
theorem run_badValue {v:Val} {cs:List PV} (hv:VC v cs):T.R (.call Zd8 [.agg cs] (.bool (!Zp 8 v))):=by
 have h:=run_Check hv
 unfold chk at h
 have plv:Pl (.agg cs):=.agg _ hv.pl
 cases hm:Zp 8 v with
 |true=>
  rw [hm] at h
  have h':T.R (.call Zcd [.agg cs] (.int .i64 0)):=h
  obtain ⟨k, n, s, l⟩:=v
  obtain ⟨hk, hn, hs, p, rfl, hp⟩:=hv.open
  have plp:=hp.pl
  refine Z7 rfl rfl ?_
  repeat' first|refine Z1 rfl ?_|refine Z6 rfl rfl ?_|((with_reducible show VO _ _ _ _ _ _ _);first|refine Zc rfl ?_|refine Z5 rfl rfl h' ?_|refine Z0 rfl ?_|refine Z2 ?_)
  rfl
 |false=>
  rw [hm] at h
  have h':T.R (.call Zcd [.agg cs] (.int .i64 20)):=h
  obtain ⟨k, n, s, l⟩:=v
  obtain ⟨hk, hn, hs, p, rfl, hp⟩:=hv.open
  have plp:=hp.pl
  refine Z7 rfl rfl ?_
  repeat' first|refine Z1 rfl ?_|refine Z6 rfl rfl ?_|((with_reducible show VO _ _ _ _ _ _ _);first|refine Zc rfl ?_|refine Z5 rfl rfl h' ?_|refine Z0 rfl ?_|refine Z2 ?_)
  rfl
def Znm (W:List (List UInt8)) (n:Int):List UInt8:=if 1≤n∧n≤W.length then W[(n-1).toNat]?.getD [] else []
theorem run_pword {all:List UInt8} (ha:all.length≤1000000000) (n:Int) (hn:Zn n):T.R (.call Zeu [.str all, .int .i64 n] (.str (Znm (Z0u 32 all) n))):=by
 have hs:=run_Split all 32 ha
 have hlen:(Z0u 32 all).length≤1000000001:=by rw [Zkl];have:all.count 32≤all.length:=List.count_le_length;omega
 generalize Z0u 32 all=W at hs hlen
 have hv:LV sc (.sl (W.map sc) false) W:=.sl _ _
 have plv:Pl (.sl (W.map sc) false):=.sl _ _ (pl_sc _)
 unfold Znm
 by_cases h1:n<1
 ·rw [if_neg (by omega)]
  refine Z7 rfl rfl ?_
  repeat' first|((with_reducible show V _ _ _ _ _ _);first|refine Z1 rfl ?_|refine Za rfl rfl ?_|refine Z6 rfl rfl ?_)|((with_reducible show VO _ _ _ _ _ _ _);first|refine Z5 rfl rfl hs ?_|refine Z3 (Z0f h1) rfl ?_|refine Z0 rfl ?_|refine Z2 ?_|refine Zk rfl rfl ?_)
  rfl
 ·by_cases h2:(W.length:Int)<n
  ·rw [if_neg (by omega)]
   refine Z7 rfl rfl ?_
   repeat' first|((with_reducible show V _ _ _ _ _ _);first|refine Z1 rfl ?_|refine Za rfl rfl ?_|refine Z6 rfl rfl ?_)|((with_reducible show VO _ _ _ _ _ _ _);first|refine Z5 rfl rfl hs ?_|refine Z3 (Zb h1) rfl ?_|refine O_lenL rfl hv ?_|refine Z3 (Z0f h2) rfl ?_|refine Z0 rfl ?_|refine Z2 ?_|refine Zh rfl ?_)
   rfl
  ·rw [if_pos (by omega)]
   have hlt:(n-1).toNat<W.length:=by omega
   have hat:W[(n-1).toNat]?=some W[(n-1).toNat]:=List.getElem?_eq_getElem hlt
   have hw:PV.int .i64 (IntKind.i64.wrap (n-1))=PV.int .i64 (n-1):=Z5e (Zh3 (by unfold Zn at hn ⊢;omega))
   rw [hat]
   refine Z7 rfl rfl ?_
   repeat' first|((with_reducible show V _ _ _ _ _ _);first|refine Z1 rfl ?_|refine Z9 rfl rfl ?_|refine Z6 rfl rfl ?_)|((with_reducible show VO _ _ _ _ _ _ _);first|refine Z5 rfl rfl hs ?_|refine Z3 (Zb h1) rfl ?_|refine O_lenL rfl hv ?_|refine Z3 (Zb h2) rfl ?_|refine Z3 hw rfl ?_|refine O_idxL _ rfl hv rfl (by omega) hat rfl ?_|refine Z0 rfl ?_|refine Z2 ?_|refine Zh rfl ?_)
   rfl
end Go.Proofs.YtnedeokclnbcpaaGreatDoor
namespace Go.Proofs.YtnedeokclnbcpaaGreatDoor
open Go Go.AM Go.RowKit
def shp (op:Int):List Int:=
 if op=1∨op=2 then [0, 0, 0, 32, 0, 0, 0, 0, 0, 0]
 else if op=3 then [0, 0, 0, 0, 0, 0, 0, 32, 0, 0]
 else if op=4∨op=15∨op=16∨op=42∨op=46∨op=47 then [1, 1, 0, 0, 0, 0, 0, 0, 0, 0]
 else if op=5∨op=6∨op=7∨op=8∨op=9∨op=10∨op=32∨op=33 then [0, 32, 0, 0, 0, 0, 0, 0, 0, 0]
 else if op=17∨op=43 then [1, 32, 0, 0, 0, 0, 0, 0, 0, 0]
 else if op=48 then [0, 1, 0, 0, 0, 0, 0, 0, 0, 0]
 else if op=14 then [1, 1, 0, 0, 1, 1, 0, 0, 0, 0]
 else if op=18 then [0, 0, 1, 32, 0, 0, 0, 0, 0, 0]
 else if op=19 then [0, 0, 0, 0, 1, 1, 0, 0, 0, 0]
 else if op=20∨op=21∨op=52 then [0, 0, 0, 0, 0, 0, 0, 0, 1, 1]
 else if op=22∨op=23∨op=50∨op=51 then [0, 0, 0, 0, 0, 0, 0, 0, 1, 32]
 else if op=53 then [0, 0, 0, 0, 0, 0, 0, 0, 3, 3]
 else if op=26∨op=27∨op=29 then [0, 0, 1, 1, 0, 0, 0, 0, 0, 0]
 else if op=28 then [0, 0, 2, 2, 0, 0, 0, 0, 0, 0]
 else if op=34 then [0, 0, 0, 0, 0, 0, 1, 1, 0, 0]
 else if op=54∨op=56 then [0, 0, 1, 1, 0, 0, 0, 0, 1, 1]
 else if op=55 then [0, 0, 0, 0, 0, 0, 0, 0, 2, 2]
 else if op=57 then [3, 3, 0, 0, 0, 0, 0, 0, 0, 0]
 else if op=58 then [1, 1, 0, 0, 0, 0, 1, 1, 0, 0]
 else [0, 0, 0, 0, 0, 0, 0, 0, 0, 0]
def intP (n:Int):PV:=.int .i64 n
theorem ite_len {p:Prop} [Decidable p] {a b:List Int} {n:Nat} (h1:a.length=n) (h2:b.length=n):(if p then a else b).length=n:=by
 by_cases h:p
 ·rw [if_pos h];exact h1
 ·rw [if_neg h];exact h2
theorem shp_ten (op:Int):∃a b c d e f g h i j:Int, shp op=[a, b, c, d, e, f, g, h, i, j]:=by
 have h:(shp op).length=10:=by
  unfold shp
  repeat (refine ite_len rfl ?_)
  rfl
 match shp op, h with
 |[a, b, c, d, e, f, g, hh, i, j], _=>exact ⟨a, b, c, d, e, f, g, hh, i, j, rfl⟩
theorem run_from (n:Int):T.R (.call n_parse_from [.int .i64 n] (.agg [.int .i64 n, .int .i64 32])):=by
 refine Z7 rfl rfl ?_
 repeat' first|refine Z1 rfl ?_|refine Z6 rfl rfl ?_|((with_reducible show VO _ _ _ _ _ _ _);first|refine Z0 rfl ?_|refine Zc rfl ?_|refine Z2 ?_)
 rfl
theorem run_just (n:Int):T.R (.call n_parse_just [.int .i64 n] (.agg [.int .i64 n, .int .i64 n])):=by
 refine Z7 rfl rfl ?_
 repeat' first|refine Z1 rfl ?_|refine Z6 rfl rfl ?_|((with_reducible show VO _ _ _ _ _ _ _);first|refine Z0 rfl ?_|refine Zc rfl ?_|refine Z2 ?_)
 rfl
set_option maxHeartbeats 4000000 in
theorem run_shapeOf (op:Int):T.R (.call Zom [.int .i64 op] (.agg ((shp op).map intP))):=by
 refine Z7 rfl rfl ?_
 repeat' first|((with_reducible show V _ _ _ _ _ _);first|refine Za rfl rfl ?_|refine V_cS rfl rfl (fun _=>?_) (fun _=>?_)|refine Z1 rfl ?_|refine Z6 rfl rfl ?_)|((with_reducible show VO _ _ _ _ _ _ _);first|refine Z0 rfl ?_|refine Zc rfl ?_|refine Z5 rfl rfl (run_from _) ?_|refine Z5 rfl rfl (run_just _) ?_|refine Z2 ?_)
 all_goals simp only [decide_eq_true_eq, decide_eq_false_iff_not] at *
 all_goals first|(subst_vars;rfl)|(unfold shp;simp only [*, or_self, if_false];rfl)
def Zcp (a b:Int) (n:Nat):Bool:=decide (a≤(n:Int))&&decide ((n:Int)≤b)
theorem Zkp (a b:Int) (n:Nat):T.R (.call Zmr [.agg [.int .i64 a, .int .i64 b], .int .i64 n] (.bool (Zcp a b n))):=by
 unfold Zcp
 refine Z7 rfl rfl ?_
 repeat' first|refine Z1 rfl ?_|refine Z6 rfl rfl ?_|((with_reducible show VO _ _ _ _ _ _ _);first|refine Z0 rfl ?_|refine Zc rfl ?_|refine Z2 ?_|refine Zh rfl ?_|refine Zk rfl rfl ?_|refine Zba rfl (fun _=>?_) (fun _=>?_))
 all_goals simp_all
 all_goals omega
def Zpv (op:Int):Int×Int:=if op=7∨op=8 then (0, 32) else if op=9 then (2, 2) else (1, 1)
theorem run_operands (op:Int):T.R (.call Zms [.int .i64 op] (.agg [.int .i64 (Zpv op).1, .int .i64 (Zpv op).2])):=by
 refine Z7 rfl rfl ?_
 repeat' first|((with_reducible show V _ _ _ _ _ _);first|refine Za rfl rfl ?_|refine V_cS rfl rfl (fun _=>?_) (fun _=>?_)|refine Z1 rfl ?_|refine Z6 rfl rfl ?_)|((with_reducible show VO _ _ _ _ _ _ _);first|refine Z0 rfl ?_|refine Zc rfl ?_|refine Z5 rfl rfl (run_from _) ?_|refine Z5 rfl rfl (run_just _) ?_|refine Z2 ?_)
 all_goals simp only [decide_eq_true_eq, decide_eq_false_iff_not] at *
 all_goals first|(subst_vars;rfl)|(unfold Zpv;simp only [*, or_self, if_false];rfl)
def wPreds:List UInt8:=[101, 113, 32, 110, 101, 113, 32, 108, 116, 32, 108, 116, 101, 32, 103, 116, 32, 103, 116, 101, 32, 119, 105, 116, 104, 105, 110, 32, 119, 105, 116, 104, 111, 117, 116, 32, 98, 101, 116, 119, 101, 101, 110]
def Zqd:List UInt8:=[86, 32, 69, 32, 105, 110, 106, 101, 99, 116, 32, 97, 100, 100, 86, 32, 111, 117, 116, 32, 105, 110, 32, 98, 111, 116, 104, 32, 111, 117, 116, 69, 32, 105, 110, 69, 32, 98, 111, 116, 104, 69, 32, 111, 117, 116, 86, 32, 105, 110, 86, 32, 98, 111, 116, 104, 86, 32, 104, 97, 115, 32, 104, 97, 115, 75, 101, 121, 32, 104, 97, 115, 78, 111, 116, 32, 104, 97, 115, 76, 97, 98, 101, 108, 32, 104, 97, 115, 73, 100, 32, 105, 115, 32, 119, 104, 101, 114, 101, 32, 110, 111, 116, 32, 97, 110, 100, 32, 111, 114, 32, 100, 101, 100, 117, 112, 32, 115, 105, 109, 112, 108, 101, 80, 97, 116, 104, 32, 108, 105, 109, 105, 116, 32, 115, 107, 105, 112, 32, 114, 97, 110, 103, 101, 32, 116, 97, 105, 108, 32, 105, 100, 32, 108, 97, 98, 101, 108, 32, 118, 97, 108, 117, 101, 115, 32, 118, 97, 108, 117, 101, 77, 97, 112, 32, 99, 111, 110, 115, 116, 97, 110, 116, 32, 99, 111, 117, 110, 116, 32, 115, 117, 109, 32, 109, 105, 110, 32, 109, 97, 120, 32, 102, 111, 108, 100, 32, 117, 110, 102, 111, 108, 100, 32, 112, 97, 116, 104, 32, 97, 115, 32, 115, 101, 108, 101, 99, 116, 32, 111, 114, 100, 101, 114, 32, 111, 114, 100, 101, 114, 68, 101, 115, 99, 32, 111, 114, 100, 101, 114, 66, 121, 32, 111, 114, 100, 101, 114, 66, 121, 68, 101, 115, 99, 32, 103, 114, 111, 117, 112, 67, 111, 117, 110, 116, 32, 108, 111, 111, 112, 115, 32, 117, 110, 105, 111, 110, 32, 99, 111, 97, 108, 101, 115, 99, 101, 32, 111, 112, 116, 105, 111, 110, 97, 108, 32, 99, 104, 111, 111, 115, 101, 32, 116, 105, 109, 101, 115, 32, 117, 110, 116, 105, 108, 32, 101, 109, 105, 116, 32, 97, 100, 100, 69, 32, 112, 114, 111, 112, 101, 114, 116, 121, 32, 100, 114, 111, 112, 32, 105, 100, 101, 110, 116, 105, 116, 121]
def Ziq (op:Int):List UInt8:=Znm (Z0u 32 Zqd) op
def predW (op:Int):List UInt8:=Znm (Z0u 32 wPreds) op
theorem steps_60:(Z0u 32 Zqd).length=60∧(Z0u 32 Zqd).all (fun w=>!w.isEmpty)=true:=by decide +kernel
theorem preds_9:(Z0u 32 wPreds).length=9∧(Z0u 32 wPreds).all (fun w=>!w.isEmpty)=true:=by decide +kernel
theorem wordAt_ne {W:List (List UInt8)} (h:W.all (fun w=>!w.isEmpty)=true) (n:Int):decide (Znm W n=[])=!(decide (1≤n)&&decide (n≤(W.length:Int))):=by
 unfold Znm
 by_cases hn:1≤n∧n≤W.length
 ·rw [if_pos hn, decide_eq_true hn.1, decide_eq_true hn.2]
  have hlt:(n-1).toNat<W.length:=by omega
  rw [List.getElem?_eq_getElem hlt]
  have:=List.all_eq_true.1 h W[(n-1).toNat] (List.getElem_mem _)
  simp only [Option.getD_some]
  cases hw:W[(n-1).toNat] with
  |nil=>rw [hw] at this;cases this
  |cons a b=>simp
 ·rw [if_neg hn]
  have:¬(decide (1≤n)&&decide (n≤(W.length:Int)))=true:=by simpa using hn
  simp only [Bool.not_eq_true] at this
  rw [this]
  rfl
def opB (op:Int):Bool:=decide (1≤op)&&decide (op≤60)
theorem stepW_ne (op:Int):decide (Ziq op=[])=!opB op:=by
 have:=wordAt_ne steps_60.2 op
 rw [steps_60.1] at this
 exact this
theorem predW_ne (op:Int):decide (predW op=[])=!(decide (1≤op)&&decide (op≤9)):=by
 have:=wordAt_ne preds_9.2 op
 rw [preds_9.1] at this
 exact this
theorem run_Word {op:Int} (h:Zn op):T.R (.call n_parse_Word [.int .i64 op] (.str (Ziq op))):=by
 have hx:T.R (.call Zeu [.str Zqd, .int .i64 op] (.str (Ziq op))):=run_pword (by decide +kernel) op h
 generalize Ziq op=w at hx ⊢
 refine Z7 rfl rfl ?_
 repeat' first|refine Z1 rfl ?_|refine Z6 rfl rfl ?_|((with_reducible show VO _ _ _ _ _ _ _);first|refine Z5 rfl rfl hx ?_|refine Z0 rfl ?_|refine Z2 ?_)
 rfl
def Zft:Prd→Bool
 |.mk op l=>(decide (1≤op)&&decide (op≤9))&&Zcp (Zpv op).1 (Zpv op).2 l.length&&l.all (Zp 8)
theorem Zpk {α:Type} (P:α→Bool) (l:List α):(l.any fun a=>!P a)=!l.all P:=by
 induction l with
 |nil=>rfl
 |cons v l ih=>simp [ih]
theorem run_ctVal {p:PV} {l:List Val} (hp:LR VC p l):T.R (.call Z11 [p, .func Zd8 []] (.bool (!l.all (Zp 8)))):=by
 rw [←Zpk]
 exact Z2l (f':=Z37) (sz:=4) (agg:=true) (val:=.agg) rfl rfl hp (fun _ _ h=>h.len4) (fun _ _ h=>Znd h.len4 _) (fun _ _ h=>.agg _ h.pl) (hp.pl fun _ _ _ h=>h.pl) Z31 (fun a _ cs h=>run_badValue h)
set_option maxHeartbeats 4000000 in
theorem run_badPred {x:Prd} {cs:List PV} (h:PrC x cs):T.R (.call Z9q [.agg cs] (.bool (!Zft x))):=by
 obtain ⟨op, l⟩:=x
 obtain ⟨ho, p, rfl, hp⟩:=h
 have plp:Pl p:=hp.pl fun _ _ _ h=>h.pl
 obtain ⟨lp1, lp2, lp3⟩:=hp.len
 have hx:T.R (.call Zeu [.str wPreds, .int .i64 op] (.str (predW op))):=run_pword (by decide +kernel) op ho
 have hc:=run_ctVal hp
 have ho':=run_operands op
 have hh:=Zkp (Zpv op).1 (Zpv op).2 l.length
 show T.R (.call Z9q [.agg [.int .i64 op, p]] (.bool (!((decide (1≤op)&&decide (op≤9))&&Zcp (Zpv op).1 (Zpv op).2 l.length&&l.all (Zp 8)))))
 rw [show (decide (1≤op)&&decide (op≤9))=!decide (predW op=[]) by rw [predW_ne];simp]
 generalize predW op=w at hx ⊢
 generalize Zcp (Zpv op).1 (Zpv op).2 l.length=b1 at hh ⊢
 generalize l.all (Zp 8)=b2 at hc ⊢
 generalize (Zpv op).1=o1 at *
 generalize (Zpv op).2=o2 at *
 refine Z7 rfl rfl ?_
 repeat' first|((with_reducible show V _ _ _ _ _ _);first|refine Z1 rfl ?_|refine Z6 rfl rfl ?_|refine V_D rfl ?_)|((with_reducible show VO _ _ _ _ _ _ _);first|refine Zc rfl ?_|refine Z0 rfl ?_|refine Z2 ?_)|((with_reducible show VD _ _ _ _ _ _ _);first|refine Zn5 rfl rfl hx ?_|refine Zn5 rfl rfl ho' ?_|refine D_lenO rfl lp1 lp2 ?_|refine Zn5 rfl rfl hh ?_|refine Zn5 rfl rfl hc ?_|refine Zo rfl ?_|refine Z0a ?_|refine Ze6 rfl ?_|refine Z7h rfl rfl ?_|refine D_gS rfl (fun _=>?_) (fun _=>?_))
 all_goals simp_all
def argB (op:Int) (names:List (List UInt8)) (nums:List Int) (preds:List Prd) (vals:List Val) (k:Nat):Bool:=
 match shp op with
 |[a, b, c, d, e, f, g, h, i, j]=>Zcp a b names.length&&Zcp c d nums.length&&Zcp e f preds.length&&Zcp g h vals.length&&Zcp i j k
 |_=>false
def Zh8 (op:Int) (names:List (List UInt8)) (nums:List Int) (preds:List Prd) (vals:List Val) (k:Nat):Bool:=
 opB op&&argB op names nums preds vals k&&names.all Zoh&&nums.all Zoe&&preds.all Zft&&vals.all (Zp 8)
set_option maxHeartbeats 4000000 in
theorem run_badStep {n:Nat} {op:Int} {names:List (List UInt8)} {nums:List Int} {preds:List Prd} {vals:List Val} {subs:List (List Stp)} {cs:List PV} (h:SC n (.mk op names nums preds vals subs) cs):
  T.R (.call Zev [.agg cs] (.bool (!Zh8 op names nums preds vals subs.length))):=by
 cases n with
 |zero=>exact h.elim
 |succ n=>
 have plcs:=h.pl
 obtain ⟨ho, pa, pb, pc, pd, pe, rfl, h1, h2, h3, h4, h5⟩:=h
 have pla:Pl pa:=h1.pl fun _ _ _ h=>h.pl
 have plb:Pl pb:=h2.pl fun _ _ _ h=>h.pl
 have plc:Pl pc:=h3.pl fun _ _ _ h=>h.pl
 have pld:Pl pd:=h4.pl fun _ _ _ h=>h.pl
 have ple:Pl pe:=plcs pe (by simp)
 obtain ⟨la1, la2, la3⟩:=h1.len
 obtain ⟨lb1, lb2, lb3⟩:=h2.len
 obtain ⟨lc1, lc2, lc3⟩:=h3.len
 obtain ⟨ld1, ld2, ld3⟩:=h4.len
 obtain ⟨le1, le2, le3⟩:=h5.len
 have hw:=run_Word ho
 have hs:=run_shapeOf op
 have c1:T.R (.call Z4b [pa, .func Zew []] (.bool (!names.all Zoh))):=by
  rw [←Zpk]
  exact Z2l (f':=Z5o) (sz:=1) (agg:=false) (val:=fun cs=>cs.headD .junk) rfl rfl h1 (fun _ _ h=>h.len1) (fun _ _ h=>by obtain ⟨_, rfl⟩:=h;rfl) (fun _ _ h=>by obtain ⟨_, rfl⟩:=h;exact .str _) pla Z31 (fun a _ cs h=>by obtain ⟨hl, rfl⟩:=h;exact run_badName hl)
 have c2:T.R (.call Z52 [pb, .func Zgv []] (.bool (!nums.all Zoe))):=by
  rw [←Zpk]
  exact Z2l (f':=Z6z) (sz:=1) (agg:=false) (val:=fun cs=>cs.headD .junk) rfl rfl h2 (fun _ _ h=>h.len1) (fun _ _ h=>by obtain ⟨_, rfl⟩:=h;rfl) (fun _ _ h=>by obtain ⟨_, rfl⟩:=h;exact .int _ _) plb Z31 (fun a _ cs h=>by obtain ⟨hl, rfl⟩:=h;exact run_badNum _)
 have c3:T.R (.call Z70 [pc, .func Z9q []] (.bool (!preds.all Zft))):=by
  rw [←Zpk]
  exact Z2l (f':=Z9l) (sz:=2) (agg:=true) (val:=.agg) rfl rfl h3 (fun _ _ h=>h.len2) (fun _ _ h=>Znd h.len2 _) (fun _ _ h=>.agg _ h.pl) plc Z31 (fun a _ cs h=>run_badPred h)
 have c4:=run_ctVal h4
 obtain ⟨a, b, c, d, e, f, g, hh, i, j, hten⟩:=shp_ten op
 unfold Zh8 argB
 rw [hten] at hs ⊢
 rw [show opB op=!decide (Ziq op=[]) by rw [stepW_ne];simp]
 simp only [List.map_cons, List.map_nil, intP] at hs ⊢
 have k1:=Zkp a b names.length
 have k2:=Zkp c d nums.length
 have k3:=Zkp e f preds.length
 have k4:=Zkp g hh vals.length
 have k5:=Zkp i j subs.length
 generalize Ziq op=w at hw ⊢
 generalize Zcp a b names.length=b1 at k1 ⊢
 generalize Zcp c d nums.length=b2 at k2 ⊢
 generalize Zcp e f preds.length=b3 at k3 ⊢
 generalize Zcp g hh vals.length=b4 at k4 ⊢
 generalize Zcp i j subs.length=b5 at k5 ⊢
 generalize names.all Zoh=b6 at c1 ⊢
 generalize nums.all Zoe=b7 at c2 ⊢
 generalize preds.all Zft=b8 at c3 ⊢
 generalize vals.all (Zp 8)=b9 at c4 ⊢
 refine Z7 rfl rfl ?_
 repeat' first|refine Z1 rfl ?_|refine Z6 rfl rfl ?_|((with_reducible show VO _ _ _ _ _ _ _);first|refine Zc rfl ?_|refine Z5 rfl rfl hs ?_|refine Z5 rfl rfl hw ?_|refine Z4 rfl la1 la2 ?_|refine Z4 rfl lb1 lb2 ?_|refine Z4 rfl lc1 lc2 ?_|refine Z4 rfl ld1 ld2 ?_|refine Z4 rfl le1 le2 ?_|refine Z5 rfl rfl k1 ?_|refine Z5 rfl rfl k2 ?_|refine Z5 rfl rfl k3 ?_|refine Z5 rfl rfl k4 ?_|refine Z5 rfl rfl k5 ?_|refine Z5 rfl rfl c1 ?_|refine Z5 rfl rfl c2 ?_|refine Z5 rfl rfl c3 ?_|refine Z5 rfl rfl c4 ?_|refine Z0 rfl ?_|refine Z2 ?_|refine Zh rfl ?_|refine Zk rfl rfl ?_|refine Zba rfl (fun _=>?_) (fun _=>?_))
 all_goals clear hs hw k1 k2 k3 k4 k5 c1 c2 c3 c4 la1 lb1 lc1 ld1 le1 h1 h2 h3 h4 h5
 all_goals simp_all
end Go.Proofs.YtnedeokclnbcpaaGreatDoor
namespace Go.Proofs.YtnedeokclnbcpaaGreatDoor
open Go Go.AM Go.RowKit
def stepB1:Stp→Bool
 |.mk op names nums preds vals subs=>Zh8 op names nums preds vals subs.length
mutual
def okS:Stp→Bool
 |.mk op names nums preds vals subs=>Zh8 op names nums preds vals subs.length&&Ze7 subs
def Zlv:List Stp→Bool
 |[]=>true
 |s::r=>okS s&&Zlv r
def Ze7:List (List Stp)→Bool
 |[]=>true
 |l::r=>(!l.isEmpty&&Zlv l)&&Ze7 r
end
def okL (l:List Stp):Bool:=!l.isEmpty&&Zlv l
mutual
def cntS:Stp→Nat
 |.mk _ _ _ _ _ subs=>Z8t subs
def Zgy:List Stp→Nat
 |[]=>0
 |s::r=>1+cntS s+Zgy r
def Z8t:List (List Stp)→Nat
 |[]=>0
 |l::r=>Zgy l+Z8t r
end
def mxI (a b:Int):Int:=if b>a then b else a
def wr (d:Int):Int:=IntKind.i64.wrap (d+1)
mutual
def dpL:List Stp→Int→Int→Int
 |[], _, acc=>acc
 |s::r, d, acc=>dpL r d (dpS s d acc)
def dpS:Stp→Int→Int→Int
 |.mk _ _ _ _ _ subs, d, acc=>dpLL subs d acc
def dpLL:List (List Stp)→Int→Int→Int
 |[], _, acc=>acc
 |l::r, d, acc=>dpLL r d (mxI acc (dpL l (wr d) (wr d)))
end
def cntP (l:List Stp) (d:Int):PV:=if okL l=true then .tuple [.int .i64 (IntKind.i64.wrap (Zgy l)), .int .i64 (dpL l d d), .bool true] else .tuple [.int .i64 0, .int .i64 0, .bool false]
theorem mx_is (a b:Int):PV.int .i64 (if true=true then (if b>a then b else a) else (if b<a then b else a))=PV.int .i64 (mxI a b):=rfl
def Zlu:List Stp→Bool
 |[]=>true
 |s::r=>Ze7 s.subs&&Zlu r
def sumS:List Stp→Nat
 |[]=>0
 |s::r=>Z8t s.subs+sumS r
theorem okL1_two:∀l:List Stp, Zlv l=(l.all stepB1&&Zlu l)
 |[]=>rfl
 |.mk op names nums preds vals subs::r=>by
  rw [Zlv, okL1_two r, okS, Zlu, List.all_cons, stepB1, Stp.subs]
  generalize Zh8 op names nums preds vals subs.length=a
  generalize Ze7 subs=b
  generalize r.all stepB1=c
  generalize Zlu r=d
  cases a<;>cases b<;>cases c<;>cases d<;>rfl
theorem cntL_sum:∀l:List Stp, Zgy l=l.length+sumS l
 |[]=>rfl
 |.mk op names nums preds vals subs::r=>by
  rw [Zgy, cntL_sum r, cntS, sumS, Stp.subs, List.length_cons]
  omega
section
variable {T:Tb} {Q:Z6k} {k:List Fr} {ρ:EC} {st:St} {l:List POp} {kill:List Nat}
theorem Z03 {a x:Opd} {t n:Nat} {cs cs0:List PV} (ha:a.get ρ=some (.ptr t 0)) (hx:x.get ρ=some (.agg cs)) (h1:∀c∈cs, PV.one c=true) (hl:cs.length=n) (hn:Nat.blt 0 n=true) (hg:st.get t=some (.var cs0)) (h0:cs0.length=n) (h:VO T Q l kill k (ρ.sets none (.tuple [])) (st.put t (.var cs))):VO T Q (⟨none, none, .store n a x⟩::l) kill k ρ st:=
 Z8v ha hx (List.all_eq_true.2 h1) hl hn (Z1d hg (by rw [h0, hl])) h
end
theorem run_ctStep {n:Nat} {p:PV} {l:List Stp} (hp:SL n p l):T.R (.call Z2j [p, .func Zev []] (.bool (!l.all stepB1))):=by
 rw [←Zpk]
 refine Z2l (f':=Z3f) (sz:=6) (agg:=true) (val:=.agg) rfl rfl hp (fun _ _ h=>h.len6) (fun _ _ h=>Znd h.len6 _) (fun _ _ h=>.agg _ h.pl) hp.pl Z31 (fun a _ cs h=>?_)
 obtain ⟨op, names, nums, preds, vals, subs⟩:=a
 exact run_badStep h
theorem count_in {n:Nat} {pe:PV} {subs:List (List Stp)} (hp:LR (SubC (SC n)) pe subs) (d:Int) (st:St) (hd:∀x∈subs, ∀q, SL n q x→T.R (.call Z55 [q, .int .i64 (wr d)] (cntP x (wr d)))) (p:PV) (L I:Int) (plp:Pl p):
  ∀(rest pre:List (List Stp)) (N M:Int), subs=pre++rest→
  V T (PE fun x e st'=>st'=st∧((x=.exit 2∧Ze7 rest=true∧∃a b:Int, e=Ze [(1, .int .i64 d), (7, .int .i64 a), (8, .int .i64 b), (25, p), (26, .int .i64 L), (27, .int .i64 I)]∧a=IntKind.i64.wrap (N+Z8t rest)∧b=dpLL rest d M)∨(x=.ret∧Ze7 rest=false∧e=Ze [(4, .int .i64 0), (5, .int .i64 0), (6, .bool false)])))
   [.code (.loop Zdc)] .normal (Ze [(1, .int .i64 d), (7, .int .i64 (IntKind.i64.wrap N)), (8, .int .i64 M), (25, p), (26, .int .i64 L), (27, .int .i64 I), (32, pe), (33, .int .i64 subs.length), (34, .int .i64 pre.length)]) st:=by
 have ple:Pl pe:=LR.pl hp fun _ _ _ h=>h.pl fun _ _ h=>h.pl
 obtain ⟨le1, le2, le3⟩:=hp.len
 intro rest
 induction rest with
 |nil=>
  intro pre N M ha
  have hlt:¬(pre.length:Int)<subs.length:=by subst ha;simp
  refine Zf ?_
  repeat' first|((with_reducible show V _ _ _ _ _ _);first|refine Ze4 rfl rfl hlt ?_|refine Zr [(1, .int .i64 d), (7, .int .i64 (IntKind.i64.wrap N)), (8, .int .i64 M), (25, p), (26, .int .i64 L), (27, .int .i64 I)] rfl ⟨rfl, rfl, rfl, rfl, rfl, rfl, trivial⟩ ⟨rfl, .inl ⟨rfl, rfl, _, _, rfl, by simp [Z8t], rfl⟩⟩|refine Z1 rfl ?_)|refine Z0 rfl ?_|refine Z2 ?_
 |cons y rest ih=>
  intro pre N M ha
  have hlt:(pre.length:Int)<subs.length:=by subst ha;simp;omega
  have hll:pre.length<subs.length:=by subst ha;simp
  have hy:subs[pre.length]?=some y:=by subst ha;simp
  obtain ⟨cy, ay, q, rfl, hq⟩:=hp.at (sz:=1) (fun _ _ h=>h.len1) hy
  have plq:=SL.pl hq
  have hcall:=hd y (by subst ha;simp) q hq
  have hw:IntKind.i64.wrap ((pre.length:Int)+1)=((pre++[y]).length:Int):=by rw [Z01];simp;omega
  unfold cntP at hcall
  have hok:Ze7 (y::rest)=(okL y&&Ze7 rest):=by rw [Ze7];rfl
  rw [hok]
  cases hoy:okL y with
  |false=>
   rw [hoy, if_neg (by simp)] at hcall
   refine Zf ?_
   repeat' first|((with_reducible show V _ _ _ _ _ _);first|refine Z2s rfl rfl hlt ?_|refine Zr [(4, .int .i64 0), (5, .int .i64 0), (6, .bool false)] rfl ⟨rfl, rfl, rfl, trivial⟩ ⟨rfl, .inr ⟨rfl, rfl, rfl⟩⟩|refine Z1 rfl ?_|refine Za rfl rfl ?_)|((with_reducible show VO _ _ _ _ _ _ _);first|refine Zg rfl rfl ay ?_|refine Z5 rfl rfl hcall ?_|refine Z0 rfl ?_|refine Z2 ?_)
  |true=>
   rw [hoy, if_pos rfl] at hcall
   have hi:=ih (pre++[y]) (N+Zgy y) (mxI M (dpL y (wr d) (wr d))) (by rw [ha];simp)
   have e2:N+((Z8t (y::rest):Nat):Int)=N+(Zgy y:Int)+(Z8t rest:Int):=by rw [Z8t];simp;omega
   have e4:PV.int .i64 (IntKind.i64.wrap (IntKind.i64.wrap N+IntKind.i64.wrap (Zgy y:Int)))=PV.int .i64 (IntKind.i64.wrap (N+Zgy y)):=Z5e (wrap_add _ _)
   rw [e2, dpLL, Bool.true_and]
   refine Zf ?_
   repeat' first|((with_reducible show V _ _ _ _ _ _);first|refine Z2s rfl rfl hlt ?_|refine Z7z rfl hi ⟨rfl, rfl, rfl, rfl, rfl, rfl, rfl, rfl, Z04 hw, trivial⟩|refine Z1 rfl ?_|refine Z9 rfl rfl ?_)|((with_reducible show VO _ _ _ _ _ _ _);first|refine Zg rfl rfl ay ?_|refine Z5 rfl rfl hcall ?_|refine Z3 e4 rfl ?_|refine Z3 (mx_is _ _) rfl ?_|refine Z0 rfl ?_|refine Z2 ?_)
theorem count_out {n:Nat} {p:PV} {l:List Stp} (hp:SL (n+1) p l) (d:Int) (hd:∀x, ∀q, SL n q x→T.R (.call Z55 [q, .int .i64 (wr d)] (cntP x (wr d)))):
  ∀(rest pre:List Stp) (N M:Int), l=pre++rest→
  V T (PE fun x e st'=>(x=.exit 0∧Zlu rest=true∧∃a b:Int, e=Ze [(7, .int .i64 a), (8, .int .i64 b)]∧a=IntKind.i64.wrap (N+sumS rest)∧b=dpL rest d M)∨(x=.ret∧Zlu rest=false∧e=Ze [(4, .int .i64 0), (5, .int .i64 0), (6, .bool false)]))
   [.code (.loop Zdb)] .normal (Ze [(1, .int .i64 d), (7, .int .i64 (IntKind.i64.wrap N)), (8, .int .i64 M), (25, p), (26, .int .i64 l.length), (27, .int .i64 pre.length)]) emptySt:=by
 have plp:Pl p:=SL.pl hp
 obtain ⟨lp1, lp2, lp3⟩:=hp.len
 intro rest
 induction rest with
 |nil=>
  intro pre N M ha
  have hlt:¬(pre.length:Int)<l.length:=by subst ha;simp
  refine Zf ?_
  repeat' first|((with_reducible show V _ _ _ _ _ _);first|refine Ze4 rfl rfl hlt ?_|refine Zr [(7, .int .i64 (IntKind.i64.wrap N)), (8, .int .i64 M)] rfl ⟨rfl, rfl, trivial⟩ (.inl ⟨rfl, rfl, _, _, rfl, by simp [sumS], rfl⟩)|refine Z1 rfl ?_)|refine Z0 rfl ?_|refine Z2 ?_
 |cons y rest ih=>
  intro pre N M ha
  have hlt:(pre.length:Int)<l.length:=by subst ha;simp;omega
  have hll:pre.length<l.length:=by subst ha;simp
  have hy:l[pre.length]?=some y:=by subst ha;simp
  obtain ⟨cy, ay, hc⟩:=SL.at hp hy
  have plc:=hc.pl
  have onec:=hc.one
  have len6:=hc.len6
  obtain ⟨op, names, nums, preds, vals, subs⟩:=y
  obtain ⟨ho, pa, pb, pc, pd, pe, rfl, h1, h2, h3, h4, h5⟩:=hc
  obtain ⟨le1, le2, le3⟩:=h5.len
  have hw:IntKind.i64.wrap ((pre.length:Int)+1)=((pre++[Stp.mk op names nums preds vals subs]).length:Int):=by rw [Z01];simp;omega
  have hin:=count_in h5 d ((emptySt.new (.var [.int .i64 0, .nilSl, .nilSl, .nilSl, .nilSl, .nilSl])).put 0 (.var [.int .i64 op, pa, pb, pc, pd, pe])) (fun x _ q hq=>hd x q hq) p l.length pre.length plp subs [] N M rfl
  have e1:Zlu (Stp.mk op names nums preds vals subs::rest)=(Ze7 subs&&Zlu rest):=rfl
  rw [e1]
  refine Zf ?_
  repeat' first|((with_reducible show V _ _ _ _ _ _);first|refine Z2s rfl rfl hlt ?_|refine Z08 rfl hin ⟨rfl, rfl, rfl, rfl, rfl, rfl, rfl, rfl, rfl, trivial⟩ ?_|refine Z1 rfl ?_)|((with_reducible show VO _ _ _ _ _ _ _);first|refine Zg rfl rfl ay ?_|refine Z07 rfl len6 ?_|refine Z0 rfl ?_|refine Z03 rfl rfl onec rfl rfl rfl rfl ?_|refine Z4 rfl le1 le2 ?_|refine Zc rfl ?_|refine Z2 ?_)
  rintro x e' st' ⟨rfl, ⟨rfl, hok, a, b, rfl, rfl, rfl⟩|⟨rfl, hok, rfl⟩⟩
  ·have hi:=ih (pre++[Stp.mk op names nums preds vals subs]) (N+Z8t subs) (dpLL subs d M) (by rw [ha];simp)
   have e2:N+((sumS (Stp.mk op names nums preds vals subs::rest):Nat):Int)=N+(Z8t subs:Int)+(sumS rest:Int):=by rw [sumS, Stp.subs];simp;omega
   rw [hok, e2, dpL, dpS, Bool.true_and]
   repeat' first|refine V_reF rfl hi rfl ⟨rfl, rfl, rfl, rfl, rfl, Z04 hw, trivial⟩ ⟨.int _ _, .int _ _, .int _ _, plp, .int _ _, .int _ _, trivial⟩|refine Z1 rfl ?_|refine Z0 rfl ?_|refine Z2 ?_
  ·rw [hok, Bool.false_and]
   repeat' first|refine Zr [(4, .int .i64 0), (5, .int .i64 0), (6, .bool false)] rfl ⟨rfl, rfl, rfl, trivial⟩ (.inr ⟨rfl, rfl, rfl⟩)
theorem Zoz {α:Type} (l:List α):decide ((l.length:Int)=0)=l.isEmpty:=by
 cases l with
 |nil=>rfl
 |cons a r=>
  rw [decide_eq_false (by simp;omega)]
  rfl
theorem run_count:∀(n:Nat) (l:List Stp) (p:PV) (d:Int), SL n p l→T.R (.call Z55 [p, .int .i64 d] (cntP l d)):=by
 have main:∀(n:Nat) (l:List Stp) (p:PV) (d:Int), SL (n+1) p l→(∀(l:List Stp) (p:PV) (d:Int), SL n p l→T.R (.call Z55 [p, .int .i64 d] (cntP l d)))→T.R (.call Z55 [p, .int .i64 d] (cntP l d)):=by
  intro n l p d hp ih
  have plp:Pl p:=SL.pl hp
  obtain ⟨lp1, lp2, lp3⟩:=hp.len
  have hct:=run_ctStep hp
  have hout:=count_out hp d (fun x q hq=>ih x q (wr d) hq) l [] l.length d rfl
  have hwl:IntKind.i64.wrap (l.length:Int)=l.length:=Zh3 (i64_of_len lp3)
  rw [hwl] at hout
  unfold cntP okL
  rw [okL1_two]
  have hem:=Zoz l
  cases hE:l.isEmpty with
  |true=>
   rw [hE] at hem
   refine Z7 rfl rfl ?_
   repeat' first|((with_reducible show V _ _ _ _ _ _);first|refine Z1 rfl ?_|refine Za rfl rfl ?_|refine Z6 rfl rfl ?_)|((with_reducible show VO _ _ _ _ _ _ _);first|refine Z4 rfl lp1 lp2 ?_|refine Z3 (Zph hem) rfl ?_|refine Z0 rfl ?_|refine Z2 ?_|refine Zk rfl rfl ?_)
   rfl
  |false=>
   rw [hE] at hem
   cases hB:l.all stepB1 with
   |false=>
    rw [hB] at hct
    refine Z7 rfl rfl ?_
    repeat' first|((with_reducible show V _ _ _ _ _ _);first|refine Z1 rfl ?_|refine Za rfl rfl ?_|refine Z6 rfl rfl ?_)|((with_reducible show VO _ _ _ _ _ _ _);first|refine Z4 rfl lp1 lp2 ?_|refine Z3 (Zph hem) rfl ?_|refine Z5 rfl rfl hct ?_|refine Z0 rfl ?_|refine Z2 ?_|refine Zh rfl ?_)
    rfl
   |true=>
    rw [hB] at hct
    refine Z7 rfl rfl ?_
    repeat' first|((with_reducible show V _ _ _ _ _ _);first|refine Z08 rfl hout ⟨rfl, rfl, rfl, rfl, rfl, rfl, trivial⟩ ?_|refine Z1 rfl ?_|refine Z9 rfl rfl ?_)|((with_reducible show VO _ _ _ _ _ _ _);first|refine Z4 rfl lp1 lp2 ?_|refine Z3 (Zph hem) rfl ?_|refine Z5 rfl rfl hct ?_|refine Z0 rfl ?_|refine Z2 ?_|refine Zh rfl ?_)
    rintro x e' st' (⟨rfl, hok, a, b, rfl, rfl, rfl⟩|⟨rfl, hok, rfl⟩)
    ·rw [hok]
     have e1:((l.length:Int)+(sumS l:Int))=(Zgy l:Int):=by rw [cntL_sum];simp
     rw [e1]
     repeat' first|refine Z1 rfl ?_|refine Z6 rfl rfl ?_|refine Z0 rfl ?_|refine Z2 ?_
     rfl
    ·rw [hok]
     repeat' first|refine Z6 rfl rfl ?_
     rfl
 intro n
 induction n with
 |zero=>
  intro l p d hp
  have hl:l=[]:=by
   cases l with
   |nil=>rfl
   |cons s r=>
    obtain ⟨cs, _, h⟩:=SL.at hp (j:=0) (s:=s) rfl
    exact h.elim
  subst hl
  obtain ⟨lp1, lp2, lp3⟩:=hp.len
  have plp:Pl p:=SL.pl hp
  refine Z7 rfl rfl ?_
  repeat' first|((with_reducible show V _ _ _ _ _ _);first|refine Z1 rfl ?_|refine Za rfl rfl ?_|refine Z6 rfl rfl ?_)|((with_reducible show VO _ _ _ _ _ _ _);first|refine Z4 rfl lp1 lp2 ?_|refine Z0 rfl ?_|refine Z2 ?_|refine Zk rfl rfl ?_)
  rfl
 |succ n ih=>exact fun l p d hp=>main n l p d hp ih
def Zpb (l:List Stp):Int:=if okL l=true then (if 256<IntKind.i64.wrap (Zgy l)∨8<dpL l 1 1 then 3 else 0) else 161
theorem run_PCheck {n:Nat} {l:List Stp} {p:PV} (hp:SL n p l):T.R (.call n_parse_Check [p] (.int .i64 (Zpb l))):=by
 have h:=run_count n l p 1 hp
 have plp:Pl p:=SL.pl hp
 unfold cntP at h
 unfold Zpb
 cases hok:okL l with
 |false=>
  rw [hok, if_neg (by simp)] at h
  refine Z7 rfl rfl ?_
  repeat' first|((with_reducible show V _ _ _ _ _ _);first|refine Z1 rfl ?_|refine Za rfl rfl ?_|refine Z6 rfl rfl ?_)|((with_reducible show VO _ _ _ _ _ _ _);first|refine Z5 rfl rfl h ?_|refine Z0 rfl ?_|refine Z2 ?_)
  rfl
 |true=>
  rw [hok, if_pos rfl] at h
  rw [if_pos rfl]
  generalize IntKind.i64.wrap (Zgy l:Int)=a at *
  generalize dpL l 1 1=b at *
  refine Z7 rfl rfl ?_
  repeat' first|((with_reducible show V _ _ _ _ _ _);first|refine Z1 rfl ?_|refine Za rfl rfl ?_|refine Z9 rfl rfl ?_|refine Z7j rfl rfl (fun _=>?_) (fun _=>?_)|refine Z6 rfl rfl ?_)|((with_reducible show VO _ _ _ _ _ _ _);first|refine Z5 rfl rfl h ?_|refine Z0 rfl ?_|refine Z2 ?_|refine Zh rfl ?_|refine Zk rfl rfl ?_|refine Zba rfl (fun _=>?_) (fun _=>?_))
  all_goals simp_all
end Go.Proofs.YtnedeokclnbcpaaGreatDoor
