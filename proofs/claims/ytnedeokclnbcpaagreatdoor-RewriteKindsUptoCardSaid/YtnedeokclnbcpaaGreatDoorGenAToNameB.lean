/- slices.IndexFunc and ContainsFunc, over elements of any size. · Steps: what they are over plain cells. · Names, words, shapes, predicates: parse's. · Shapes, predicates, steps: parse's badStep. · How many steps there are, how deep; whether they may be: parse.count, parse.Check. · Names: rambleref02.Name. -/
import Derived.Test.YtnedeokclnbcpaaGreatDoorAmZ
import Derived.Test.YtnedeokclnbcpaaGreatDoorValHToNameA
import Derived.Lib.SlTrimSet
set_option linter.unusedVariables false
set_option linter.unusedSimpArgs false
namespace Go.Proofs.YtnedeokclnbcpaaGreatDoor
open Go Go.AM Go.RowKit
def ixLoop (sz:Nat) (agg:Bool):PC:=(.seq (.ops [(.mk (some 9) none (.bin .lss (.t 8) (.t 7)))] []) (.seq (.cond (.t 9) .skip (.exit 0)) (.seq (.block 1 (.seq (.ops [(.mk (some 10) none (.move (.t 8))), (.mk (some 5) none (.move (.t 10)))] [10]) (.seq (.ops [(.mk (some 11) none (.move (.t 1))), (.mk (some 12) none (.move (.t 0))), (.mk (some 13) none (.move (.t 5))), (.mk (some 14) none (.indexS (.t 12) (.t 13) sz)), (.mk (some 15) none (.load sz agg (.t 14))), (.mk (some 16) none (.call (.t 11) [(.t 15)]))] [11, 12, 13, 14, 15]) (.cond (.t 16) (.seq (.ops [(.mk (some 17) none (.move (.t 5))), (.mk (some 4) none (.move (.t 17)))] [17]) .ret) .skip)))) (.ops [(.mk (some 18) none (.bin .add (.t 8) (.c (.int .i64 (1))))), (.mk (some 8) none (.move (.t 18)))] [18]))))
def ixPF (sz:Nat) (agg:Bool):PF:=⟨19, [(.tmp 4)], (.seq (.ops [(.mk (some 4) none (.move (.c (.int .i64 (0)))))] []) (.seq (.seq (.ops [(.mk (some 6) none (.move (.t 0))), (.mk (some 7) none (.len false (.t 6))), (.mk (some 8) none (.move (.c (.int .i64 (0)))))] [6]) (.block 0 (.loop (ixLoop sz agg)))) (.seq (.ops [(.mk (some 4) none (.move (.c (.int .i64 (-1)))))] []) .ret)))⟩
def ctPF (f:Nat):PF:=⟨9, [(.tmp 4)], (.seq (.ops [(.mk (some 4) none (.move (.c (.bool false))))] []) (.seq (.ops [(.mk (some 5) none (.move (.t 0))), (.mk (some 6) none (.move (.t 1))), (.mk (some 7) none (.call (.c (.func f [])) [(.t 5), (.t 6)])), (.mk (some 8) none (.bin .geq (.t 7) (.c (.int .i64 (0))))), (.mk (some 4) none (.move (.t 8)))] [5, 6, 7, 8]) .ret))⟩
def idxG {α:Type} (P:α→Bool):List α→Nat→Int
 |[], _ => -1
 |v::r, i=>if P v then i else idxG P r (i+1)
theorem idxG_any {α:Type} (P:α→Bool):∀(l:List α) (i:Nat), decide (0≤idxG P l i)=l.any P
 |[], i=>by simp [idxG]
 |v::r, i=>by
  unfold idxG
  have:=idxG_any P r (i+1)
  cases h:P v with
  |true=>simp [h]
  |false=>simp [h, this]
section
variable {T:Tb} {Q:Z73} {k:List Fr} {ρ:EC} {st:St} {l:List POp} {kill:List Nat}
theorem O_loadG {d:Option Nat} {x:Opd} {n:Nat} {agg:Bool} {p v:PV} (hx:x.get ρ=some p) (hl:loadAt st.get n agg p=some v) (h:VO T Q l kill k (ρ.sets d v) st):VO T Q (⟨d, none, .load n agg x⟩::l) kill k ρ st:=
 Z0 (by simp only [Zm, Zd3, hx];exact hl) h
end
section
variable {T:Tb} {Q:Z73} {k:List Fr} {ρ:EC} {st:St}
theorem V_cS {x:EX} {k':List Fr} {n:Nat} {a b:PC} {t:Bool} (ha:Zp 200 k x=(.code (.cond (.t n) a b)::k', .normal)) (hc:ρ.get n=some (.bool t)) (h1:t=true→V T Q (.code a::k') .normal (.put n (.bool true) ρ) st) (h2:t=false→V T Q (.code b::k') .normal (.put n (.bool false) ρ) st):V T Q k x ρ st:=by
 have up:∀r, Sub ρ r→Sub (.put n (.bool t) ρ) r:=fun r hr m p hm=>by
  simp only [EC.get] at hm
  split at hm
  ·rename_i e
   have e':=Nat.eq_of_beq_eq_true e
   subst e'
   rw [←hm]
   exact hr _ _ hc
  ·exact hr _ _ hm
 cases t with
 |true=>exact Za ha hc (fun r hr=>h1 rfl r (up r hr))
 |false=>exact Zb ha hc (fun r hr=>h2 rfl r (up r hr))
end
section
variable {T:Tb} {α:Type} {R:α→List PV→Prop} {P:α→Bool} {sz:Nat} {agg:Bool} {val:List PV→PV} {g:Nat} {caps:List PV} {l:List α} {p:PV}
theorem ix_loop (hp:LR R p l) (hs:∀a cs, R a cs→cs.length=sz) (hld:∀a cs, R a cs→loadAt emptySt.get sz agg (.iptr cs 0)=some (val cs)) (hpv:∀a cs, R a cs→Pl (val cs)) (plc:∀c∈caps, Pl c)
  (hm:∀a∈l, ∀cs, R a cs→T.R (.call g (val cs::caps) (.bool (P a)))):
  ∀(ra pre:List α), l=pre++ra→
  V T (PE fun x e st'=>st'=emptySt∧((x=.exit 0∧idxG P ra pre.length = -1)∨(x=.ret∧e=Zi [(4, .int .i64 (idxG P ra pre.length))]))) [.code (.loop (ixLoop sz agg))] .normal (Zi [(0, p), (1, .func g caps), (7, .int .i64 l.length), (8, .int .i64 pre.length)]) emptySt:=by
 obtain ⟨lp1, lp2, lp3⟩:=hp.len
 intro ra
 induction ra with
 |nil=>
  intro pre ha
  have hlt:¬(pre.length:Int)<l.length:=by subst ha;simp
  refine Ze ?_
  repeat' first|((with_reducible show V _ _ _ _ _ _);first|refine Z72 rfl rfl hlt ?_|refine Z0o [] rfl trivial ⟨rfl, .inl ⟨rfl, rfl⟩⟩|refine Z1 rfl ?_)|refine Z0 rfl ?_|refine Z2 ?_
 |cons y ra ihr=>
  intro pre ha
  have hlt:(pre.length:Int)<l.length:=by subst ha;simp;omega
  have hll:pre.length<l.length:=by subst ha;simp
  have hy:l[pre.length]?=some y:=by subst ha;simp
  obtain ⟨cy, ay, vy⟩:=hp.at hs hy
  have hcall:=hm y (by subst ha;simp) cy vy
  have hvl:Z2a false emptySt.get ([val cy]++caps) (val cy::caps):=Zhn (Z0r (hpv _ _ vy) plc)
  have hw:IntKind.i64.wrap ((pre.length:Int)+1)=((pre++[y]).length:Int):=by rw [Z00];simp;omega
  have hi:=ihr (pre++[y]) (by rw [ha];simp)
  refine Ze ?_
  rw [idxG]
  cases hyP:P y with
  |false=>
   rw [hyP] at hcall
   have e1:(pre++[y]).length=pre.length+1:=by simp
   rw [e1] at hi hw
   rw [if_neg (by simp)]
   repeat' first|((with_reducible show V _ _ _ _ _ _);first|refine Z1e rfl rfl hlt ?_|refine Zef rfl hi ⟨rfl, rfl, rfl, Z03 hw, trivial⟩|refine Z1 rfl ?_|refine Zb rfl rfl ?_)|((with_reducible show VO _ _ _ _ _ _ _);first|refine Zn rfl rfl ay ?_|refine O_loadG rfl (hld _ _ vy) ?_|refine Zom rfl rfl hvl hcall ?_|refine Z0 rfl ?_|refine Z2 ?_)
  |true=>
   rw [hyP] at hcall
   rw [if_pos rfl]
   repeat' first|((with_reducible show V _ _ _ _ _ _);first|refine Z1e rfl rfl hlt ?_|refine Z0o [(4, .int .i64 pre.length)] rfl ⟨rfl, trivial⟩ ⟨rfl, .inr ⟨rfl, rfl⟩⟩|refine Z1 rfl ?_|refine Za rfl rfl ?_)|((with_reducible show VO _ _ _ _ _ _ _);first|refine Zn rfl rfl ay ?_|refine O_loadG rfl (hld _ _ vy) ?_|refine Zom rfl rfl hvl hcall ?_|refine Z0 rfl ?_|refine Z2 ?_)
theorem run_IndexG {f:Nat} (hf:T.tbl f=some (ixPF sz agg)) (hp:LR R p l) (hs:∀a cs, R a cs→cs.length=sz) (hld:∀a cs, R a cs→loadAt emptySt.get sz agg (.iptr cs 0)=some (val cs)) (hpv:∀a cs, R a cs→Pl (val cs)) (plc:∀c∈caps, Pl c)
  (hm:∀a∈l, ∀cs, R a cs→T.R (.call g (val cs::caps) (.bool (P a)))):T.R (.call f [p, .func g caps] (.int .i64 (idxG P l 0))):=by
 obtain ⟨lp1, lp2, lp3⟩:=hp.len
 have hl:=ix_loop hp hs hld hpv plc hm l [] rfl
 refine Z7 hf rfl ?_
 repeat' first|refine Z0g rfl hl ⟨rfl, rfl, rfl, rfl, trivial⟩ ?_|refine Z1 rfl ?_|((with_reducible show VO _ _ _ _ _ _ _);first|refine Z8 rfl lp1 lp2 ?_|refine Z0 rfl ?_|refine Z2 ?_)
 rintro x e' st' ⟨rfl, ⟨rfl, h⟩|⟨rfl, rfl⟩⟩
 ·repeat' first|refine Z1 rfl ?_|refine Z4 rfl rfl ?_|refine Z0 rfl ?_|refine Z2 ?_
  exact congrArg _ (Eq.symm h)
 ·repeat' first|refine Z4 rfl rfl ?_
  rfl
theorem Z25 {f f':Nat} (hf:T.tbl f=some (ctPF f')) (hf':T.tbl f'=some (ixPF sz agg)) (hp:LR R p l) (hs:∀a cs, R a cs→cs.length=sz) (hld:∀a cs, R a cs→loadAt emptySt.get sz agg (.iptr cs 0)=some (val cs)) (hpv:∀a cs, R a cs→Pl (val cs)) (plp:Pl p) (plc:∀c∈caps, Pl c)
  (hm:∀a∈l, ∀cs, R a cs→T.R (.call g (val cs::caps) (.bool (P a)))):T.R (.call f [p, .func g caps] (.bool (l.any P))):=by
 have h:=run_IndexG hf' hp hs hld hpv plc hm
 have plf:Pl (.func g caps):=.func _ _ plc
 rw [←idxG_any P l 0]
 generalize idxG P l 0=r at h ⊢
 refine Z7 hf rfl ?_
 repeat' first|refine Z1 rfl ?_|refine Z4 rfl rfl ?_|((with_reducible show VO _ _ _ _ _ _ _);first|refine Z6 rfl rfl h ?_|refine Z0 rfl ?_|refine Z2 ?_)
 rfl
theorem Zmd {sz:Nat} {cs:List PV} (h:cs.length=sz) (look:Nat→Option Tok):loadAt look sz true (.iptr cs 0)=some (.agg cs):=by
 subst h
 simp [loadAt, behind, slice?]
end
end Go.Proofs.YtnedeokclnbcpaaGreatDoor
namespace Go.Proofs.YtnedeokclnbcpaaGreatDoor
open Go Go.AM Go.RowKit
inductive Prd where
 |mk (op:Int) (l:List Val)
inductive Stp where
 |mk (op:Int) (names:List (List UInt8)) (nums:List Int) (preds:List Prd) (vals:List Val) (subs:List (List Stp))
def Stp.op:Stp→Int
 |.mk o _ _ _ _ _=>o
def Stp.names:Stp→List (List UInt8)
 |.mk _ n _ _ _ _=>n
def Stp.nums:Stp→List Int
 |.mk _ _ n _ _ _=>n
def Stp.preds:Stp→List Prd
 |.mk _ _ _ n _ _=>n
def Stp.vals:Stp→List Val
 |.mk _ _ _ _ n _=>n
def Stp.subs:Stp→List (List Stp)
 |.mk _ _ _ _ _ n=>n
def NmC (s:List UInt8) (cs:List PV):Prop:=s.length≤140737488355328∧cs=[.str s]
def NuC (n:Int) (cs:List PV):Prop:=Zr n∧cs=[.int .i64 n]
def PrC:Prd→List PV→Prop
 |.mk op l, cs=>Zr op∧∃p, cs=[.int .i64 op, p]∧LR VC p l
def SubC (R:Stp→List PV→Prop) (l:List Stp) (cs:List PV):Prop:=∃p, cs=[p]∧LR R p l
def SC:Nat→Stp→List PV→Prop
 |0, _, _=>False
 |n+1, .mk op names nums preds vals subs, cs=>Zr op∧∃pa pb pc pd pe, cs=[.int .i64 op, pa, pb, pc, pd, pe]∧LR NmC pa names∧LR NuC pb nums∧LR PrC pc preds∧LR VC pd vals∧LR (SubC (SC n)) pe subs
theorem NmC.pl {s:List UInt8} {cs:List PV} (h:NmC s cs):∀c∈cs, Pl c:=by
 obtain ⟨_, rfl⟩:=h
 exact Z0r (.str _) Z2w
theorem NuC.pl {s:Int} {cs:List PV} (h:NuC s cs):∀c∈cs, Pl c:=by
 obtain ⟨_, rfl⟩:=h
 exact Z0r (.int _ _) Z2w
theorem PrC.pl {s:Prd} {cs:List PV} (h:PrC s cs):∀c∈cs, Pl c:=by
 obtain ⟨op, l⟩:=s
 obtain ⟨_, p, rfl, hp⟩:=h
 exact Z0r (.int _ _) (Z0r (hp.pl fun a _ cs h=>h.pl) Z2w)
theorem SubC.pl {R:Stp→List PV→Prop} {l:List Stp} {cs:List PV} (hR:∀s cs, R s cs→∀c∈cs, Pl c) (h:SubC R l cs):∀c∈cs, Pl c:=by
 obtain ⟨p, rfl, hp⟩:=h
 exact Z0r (hp.pl fun a _ cs h=>hR a cs h) Z2w
theorem SC.pl:∀ {n:Nat} {s:Stp} {cs:List PV}, SC n s cs→∀c∈cs, Pl c
 |0, _, _, h=>h.elim
 |n+1, .mk op names nums preds vals subs, cs, h=>by
  obtain ⟨_, pa, pb, pc, pd, pe, rfl, h1, h2, h3, h4, h5⟩:=h
  exact Z0r (.int _ _) (Z0r (h1.pl fun a _ cs h=>h.pl) (Z0r (h2.pl fun a _ cs h=>h.pl) (Z0r (h3.pl fun a _ cs h=>h.pl) (Z0r (h4.pl fun a _ cs h=>h.pl) (Z0r (h5.pl fun a _ cs h=>h.pl fun s cs h=>SC.pl h) Z2w)))))
theorem SC.len6:∀ {n:Nat} {s:Stp} {cs:List PV}, SC n s cs→cs.length=6
 |0, _, _, h=>h.elim
 |n+1, .mk op names nums preds vals subs, cs, h=>by
  obtain ⟨_, pa, pb, pc, pd, pe, rfl, _⟩:=h
  rfl
theorem SC.one:∀ {n:Nat} {s:Stp} {cs:List PV}, SC n s cs→∀c∈cs, PV.one c=true
 |0, _, _, h=>h.elim
 |n+1, .mk op names nums preds vals subs, cs, h=>by
  obtain ⟨_, pa, pb, pc, pd, pe, rfl, h1, h2, h3, h4, h5⟩:=h
  have one:∀ {α:Type} {R:α→List PV→Prop} {p:PV} {l:List α}, LR R p l→PV.one p=true:=fun h=>by
   rcases h with ⟨rfl, _⟩|⟨_, _, rfl, _⟩<;>rfl
  intro c hc
  simp only [List.mem_cons, List.not_mem_nil, or_false] at hc
  rcases hc with rfl|rfl|rfl|rfl|rfl|rfl
  ·rfl
  ·exact one h1
  ·exact one h2
  ·exact one h3
  ·exact one h4
  ·exact one h5
theorem NmC.len1 {s:List UInt8} {cs:List PV} (h:NmC s cs):cs.length=1:=by obtain ⟨_, rfl⟩:=h;rfl
theorem NuC.len1 {s:Int} {cs:List PV} (h:NuC s cs):cs.length=1:=by obtain ⟨_, rfl⟩:=h;rfl
theorem PrC.len2 {s:Prd} {cs:List PV} (h:PrC s cs):cs.length=2:=by
 obtain ⟨op, l⟩:=s
 obtain ⟨_, p, rfl, hp⟩:=h
 rfl
theorem SubC.len1 {R:Stp→List PV→Prop} {l:List Stp} {cs:List PV} (h:SubC R l cs):cs.length=1:=by obtain ⟨p, rfl, _⟩:=h;rfl
theorem SC.mono:∀ {n m:Nat} {s:Stp} {cs:List PV}, n≤m→SC n s cs→SC m s cs
 |0, _, _, _, _, h=>h.elim
 |n+1, 0, _, _, hm, h=>by omega
 |n+1, m+1, .mk op names nums preds vals subs, cs, hm, h=>by
  obtain ⟨h0, pa, pb, pc, pd, pe, e, h1, h2, h3, h4, h5⟩:=h
  refine ⟨h0, pa, pb, pc, pd, pe, e, h1, h2, h3, h4, h5.mono fun l _ cs ⟨p, hc, hp⟩=>⟨p, hc, hp.mono fun s _ cs h=>SC.mono (by omega) h⟩⟩
abbrev SL (n:Nat) (p:PV) (l:List Stp):Prop:=LR (SC n) p l
theorem SL.pl {n:Nat} {p:PV} {l:List Stp} (h:SL n p l):Pl p:=LR.pl h fun a _ cs h=>h.pl
theorem SL.at {n:Nat} {p:PV} {l:List Stp} (h:SL n p l) {j:Nat} {s:Stp} (hs:l[j]?=some s):∃cs, At 6 p j cs∧SC n s cs:=LR.at h (fun _ _ h=>h.len6) hs
theorem i64_of_len {n:Nat} (h:n≤140737488355328):Zr n:=by unfold Zr;omega
theorem Zg5 {n:Int} (h:Zr n):IntKind.i64.wrap n=n:=by unfold Zr at h;rw [Z00];omega
theorem wrap_add (a b:Int):IntKind.i64.wrap (IntKind.i64.wrap a+IntKind.i64.wrap b)=IntKind.i64.wrap (a+b):=by rw [Z00, Z00, Z00, Z00];omega
theorem wrap_addL (a b:Int):IntKind.i64.wrap (IntKind.i64.wrap a+b)=IntKind.i64.wrap (a+b):=by rw [Z00, Z00, Z00];omega
end Go.Proofs.YtnedeokclnbcpaaGreatDoor
namespace Go.Proofs.YtnedeokclnbcpaaGreatDoor
open Go Go.AM Go.RowKit
theorem run_badName {s:List UInt8} (hs:s.length≤140737488355328):T.R (.call Zdr [.str s] (.bool (!Zne s))):=by
 have h:=run_Name hs
 generalize Zne s=r at h ⊢
 refine Z7 rfl rfl ?_
 repeat' first|refine Z1 rfl ?_|refine Z4 rfl rfl ?_|((with_reducible show VO _ _ _ _ _ _ _);first|refine Z6 rfl rfl h ?_|refine Z0 rfl ?_|refine Z2 ?_)
 rfl
def Zmc (n:Int):Bool:=decide (0≤n)&&decide (n≤9007199254740992)
theorem run_badNum (n:Int):T.R (.call Zg0 [.int .i64 n] (.bool (!Zmc n))):=by
 unfold Zmc
 by_cases h1:n<0
 ·rw [decide_eq_false (by omega:¬ 0≤n)]
  refine Z7 rfl rfl ?_
  repeat' first|refine Z1 rfl ?_|refine Z4 rfl rfl ?_|((with_reducible show VO _ _ _ _ _ _ _);first|refine Z3 (Z04 h1) rfl ?_|refine Z0 rfl ?_|refine Z2 ?_|refine Zq rfl rfl ?_)
  rfl
 ·rw [decide_eq_true (by omega:0≤n)]
  by_cases h2:9007199254740992<n
  ·rw [decide_eq_false (by omega:¬n≤9007199254740992)]
   refine Z7 rfl rfl ?_
   repeat' first|refine Z1 rfl ?_|refine Z4 rfl rfl ?_|((with_reducible show VO _ _ _ _ _ _ _);first|refine Z3 (Zd h1) rfl ?_|refine Z3 (Z04 h2) rfl ?_|refine Z0 rfl ?_|refine Z2 ?_|refine Zg rfl ?_)
   rfl
  ·rw [decide_eq_true (by omega:n≤9007199254740992)]
   refine Z7 rfl rfl ?_
   repeat' first|refine Z1 rfl ?_|refine Z4 rfl rfl ?_|((with_reducible show VO _ _ _ _ _ _ _);first|refine Z3 (Zd h1) rfl ?_|refine Z3 (Zd h2) rfl ?_|refine Z0 rfl ?_|refine Z2 ?_|refine Zg rfl ?_)
   rfl
theorem run_badValue {v:Val} {cs:List PV} (hv:VC v cs):T.R (.call Zc7 [.agg cs] (.bool (!Zl 8 v))):=by
 have h:=run_Check hv
 unfold chk at h
 have plv:Pl (.agg cs):=.agg _ hv.pl
 cases hm:Zl 8 v with
 |true=>
  rw [hm] at h
  have h':T.R (.call Zbi [.agg cs] (.int .i64 0)):=h
  obtain ⟨k, n, s, l⟩:=v
  obtain ⟨hk, hn, hs, p, rfl, hp⟩:=hv.open
  have plp:=hp.pl
  refine Z7 rfl rfl ?_
  repeat' first|refine Z1 rfl ?_|refine Z4 rfl rfl ?_|((with_reducible show VO _ _ _ _ _ _ _);first|refine Zc rfl ?_|refine Z6 rfl rfl h' ?_|refine Z0 rfl ?_|refine Z2 ?_)
  rfl
 |false=>
  rw [hm] at h
  have h':T.R (.call Zbi [.agg cs] (.int .i64 20)):=h
  obtain ⟨k, n, s, l⟩:=v
  obtain ⟨hk, hn, hs, p, rfl, hp⟩:=hv.open
  have plp:=hp.pl
  refine Z7 rfl rfl ?_
  repeat' first|refine Z1 rfl ?_|refine Z4 rfl rfl ?_|((with_reducible show VO _ _ _ _ _ _ _);first|refine Zc rfl ?_|refine Z6 rfl rfl h' ?_|refine Z0 rfl ?_|refine Z2 ?_)
  rfl
def Zmm (W:List (List UInt8)) (n:Int):List UInt8:=if 1≤n∧n≤W.length then W[(n-1).toNat]?.getD [] else []
theorem run_pword {all:List UInt8} (ha:all.length≤1000000000) (n:Int) (hn:Zr n):T.R (.call Zdp [.str all, .int .i64 n] (.str (Zmm (Z0p 32 all) n))):=by
 have hs:=run_Split all 32 ha
 have hlen:(Z0p 32 all).length≤1000000001:=by rw [Zjm];have:all.count 32≤all.length:=List.count_le_length;omega
 generalize Z0p 32 all=W at hs hlen
 have hv:LV sc (.sl (W.map sc) false) W:=.sl _ _
 have plv:Pl (.sl (W.map sc) false):=.sl _ _ (pl_sc _)
 unfold Zmm
 by_cases h1:n<1
 ·rw [if_neg (by omega)]
  refine Z7 rfl rfl ?_
  repeat' first|((with_reducible show V _ _ _ _ _ _);first|refine Z1 rfl ?_|refine Za rfl rfl ?_|refine Z4 rfl rfl ?_)|((with_reducible show VO _ _ _ _ _ _ _);first|refine Z6 rfl rfl hs ?_|refine Z3 (Z04 h1) rfl ?_|refine Z0 rfl ?_|refine Z2 ?_|refine Zq rfl rfl ?_)
  rfl
 ·by_cases h2:(W.length:Int)<n
  ·rw [if_neg (by omega)]
   refine Z7 rfl rfl ?_
   repeat' first|((with_reducible show V _ _ _ _ _ _);first|refine Z1 rfl ?_|refine Za rfl rfl ?_|refine Z4 rfl rfl ?_)|((with_reducible show VO _ _ _ _ _ _ _);first|refine Z6 rfl rfl hs ?_|refine Z3 (Zd h1) rfl ?_|refine O_lenL rfl hv ?_|refine Z3 (Z04 h2) rfl ?_|refine Z0 rfl ?_|refine Z2 ?_|refine Zg rfl ?_)
   rfl
  ·rw [if_pos (by omega)]
   have hlt:(n-1).toNat<W.length:=by omega
   have hat:W[(n-1).toNat]?=some W[(n-1).toNat]:=List.getElem?_eq_getElem hlt
   have hw:PV.int .i64 (IntKind.i64.wrap (n-1))=PV.int .i64 (n-1):=Z1y (Zg5 (by unfold Zr at hn ⊢;omega))
   rw [hat]
   refine Z7 rfl rfl ?_
   repeat' first|((with_reducible show V _ _ _ _ _ _);first|refine Z1 rfl ?_|refine Zb rfl rfl ?_|refine Z4 rfl rfl ?_)|((with_reducible show VO _ _ _ _ _ _ _);first|refine Z6 rfl rfl hs ?_|refine Z3 (Zd h1) rfl ?_|refine O_lenL rfl hv ?_|refine Z3 (Zd h2) rfl ?_|refine Z3 hw rfl ?_|refine O_idxL _ rfl hv rfl (by omega) hat rfl ?_|refine Z0 rfl ?_|refine Z2 ?_|refine Zg rfl ?_)
   rfl
end Go.Proofs.YtnedeokclnbcpaaGreatDoor
namespace Go.Proofs.YtnedeokclnbcpaaGreatDoor
open Go Go.AM Go.RowKit
def shp (op:Int):List Int:=
 if op=1∨op=2 then [0, 0, 0, 32, 0, 0, 0, 0, 0, 0]
 else if op=3 then [0, 0, 0, 0, 0, 0, 0, 32, 0, 0]
 else if op=4∨op=15∨op=16∨op=42∨op=46∨op=47 then [1, 1, 0, 0, 0, 0, 0, 0, 0, 0]
 else if op=5∨op=6∨op=7∨op=8∨op=9∨op=10∨op=32∨op=33 then [0, 32, 0, 0, 0, 0, 0, 0, 0, 0]
 else if op=17∨op=43 then [1, 32, 0, 0, 0, 0, 0, 0, 0, 0]
 else if op=48 then [0, 1, 0, 0, 0, 0, 0, 0, 0, 0]
 else if op=14 then [1, 1, 0, 0, 1, 1, 0, 0, 0, 0]
 else if op=18 then [0, 0, 1, 32, 0, 0, 0, 0, 0, 0]
 else if op=19 then [0, 0, 0, 0, 1, 1, 0, 0, 0, 0]
 else if op=20∨op=21∨op=52 then [0, 0, 0, 0, 0, 0, 0, 0, 1, 1]
 else if op=22∨op=23∨op=50∨op=51 then [0, 0, 0, 0, 0, 0, 0, 0, 1, 32]
 else if op=53 then [0, 0, 0, 0, 0, 0, 0, 0, 3, 3]
 else if op=26∨op=27∨op=29 then [0, 0, 1, 1, 0, 0, 0, 0, 0, 0]
 else if op=28 then [0, 0, 2, 2, 0, 0, 0, 0, 0, 0]
 else if op=34 then [0, 0, 0, 0, 0, 0, 1, 1, 0, 0]
 else if op=54∨op=56 then [0, 0, 1, 1, 0, 0, 0, 0, 1, 1]
 else if op=55 then [0, 0, 0, 0, 0, 0, 0, 0, 2, 2]
 else if op=57 then [3, 3, 0, 0, 0, 0, 0, 0, 0, 0]
 else if op=58 then [1, 1, 0, 0, 0, 0, 1, 1, 0, 0]
 else [0, 0, 0, 0, 0, 0, 0, 0, 0, 0]
def intP (n:Int):PV:=.int .i64 n
theorem ite_len {p:Prop} [Decidable p] {a b:List Int} {n:Nat} (h1:a.length=n) (h2:b.length=n):(if p then a else b).length=n:=by
 by_cases h:p
 ·rw [if_pos h];exact h1
 ·rw [if_neg h];exact h2
theorem shp_ten (op:Int):∃a b c d e f g h i j:Int, shp op=[a, b, c, d, e, f, g, h, i, j]:=by
 have h:(shp op).length=10:=by
  unfold shp
  repeat (refine ite_len rfl ?_)
  rfl
 match shp op, h with
 |[a, b, c, d, e, f, g, hh, i, j], _=>exact ⟨a, b, c, d, e, f, g, hh, i, j, rfl⟩
theorem run_from (n:Int):T.R (.call n_parse_from [.int .i64 n] (.agg [.int .i64 n, .int .i64 32])):=by
 refine Z7 rfl rfl ?_
 repeat' first|refine Z1 rfl ?_|refine Z4 rfl rfl ?_|((with_reducible show VO _ _ _ _ _ _ _);first|refine Z0 rfl ?_|refine Zc rfl ?_|refine Z2 ?_)
 rfl
theorem run_just (n:Int):T.R (.call n_parse_just [.int .i64 n] (.agg [.int .i64 n, .int .i64 n])):=by
 refine Z7 rfl rfl ?_
 repeat' first|refine Z1 rfl ?_|refine Z4 rfl rfl ?_|((with_reducible show VO _ _ _ _ _ _ _);first|refine Z0 rfl ?_|refine Zc rfl ?_|refine Z2 ?_)
 rfl
set_option maxHeartbeats 4000000 in
theorem run_shapeOf (op:Int):T.R (.call Znj [.int .i64 op] (.agg ((shp op).map intP))):=by
 refine Z7 rfl rfl ?_
 repeat' first|((with_reducible show V _ _ _ _ _ _);first|refine Za rfl rfl ?_|refine V_cS rfl rfl (fun _=>?_) (fun _=>?_)|refine Z1 rfl ?_|refine Z4 rfl rfl ?_)|((with_reducible show VO _ _ _ _ _ _ _);first|refine Z0 rfl ?_|refine Zc rfl ?_|refine Z6 rfl rfl (run_from _) ?_|refine Z6 rfl rfl (run_just _) ?_|refine Z2 ?_)
 all_goals simp only [decide_eq_true_eq, decide_eq_false_iff_not] at *
 all_goals first|(subst_vars;rfl)|(unfold shp;simp only [*, or_self, if_false];rfl)
def Zai (a b:Int) (n:Nat):Bool:=decide (a≤(n:Int))&&decide ((n:Int)≤b)
theorem Zjq (a b:Int) (n:Nat):T.R (.call Zlq [.agg [.int .i64 a, .int .i64 b], .int .i64 n] (.bool (Zai a b n))):=by
 unfold Zai
 refine Z7 rfl rfl ?_
 repeat' first|refine Z1 rfl ?_|refine Z4 rfl rfl ?_|((with_reducible show VO _ _ _ _ _ _ _);first|refine Z0 rfl ?_|refine Zc rfl ?_|refine Z2 ?_|refine Zg rfl ?_|refine Zq rfl rfl ?_|refine Zei rfl (fun _=>?_) (fun _=>?_))
 all_goals simp_all
 all_goals omega
def Zow (op:Int):Int×Int:=if op=7∨op=8 then (0, 32) else if op=9 then (2, 2) else (1, 1)
theorem run_operands (op:Int):T.R (.call Zlr [.int .i64 op] (.agg [.int .i64 (Zow op).1, .int .i64 (Zow op).2])):=by
 refine Z7 rfl rfl ?_
 repeat' first|((with_reducible show V _ _ _ _ _ _);first|refine Za rfl rfl ?_|refine V_cS rfl rfl (fun _=>?_) (fun _=>?_)|refine Z1 rfl ?_|refine Z4 rfl rfl ?_)|((with_reducible show VO _ _ _ _ _ _ _);first|refine Z0 rfl ?_|refine Zc rfl ?_|refine Z6 rfl rfl (run_from _) ?_|refine Z6 rfl rfl (run_just _) ?_|refine Z2 ?_)
 all_goals simp only [decide_eq_true_eq, decide_eq_false_iff_not] at *
 all_goals first|(subst_vars;rfl)|(unfold Zow;simp only [*, or_self, if_false];rfl)
def wPreds:List UInt8:=[101, 113, 32, 110, 101, 113, 32, 108, 116, 32, 108, 116, 101, 32, 103, 116, 32, 103, 116, 101, 32, 119, 105, 116, 104, 105, 110, 32, 119, 105, 116, 104, 111, 117, 116, 32, 98, 101, 116, 119, 101, 101, 110]
def Zpc:List UInt8:=[86, 32, 69, 32, 105, 110, 106, 101, 99, 116, 32, 97, 100, 100, 86, 32, 111, 117, 116, 32, 105, 110, 32, 98, 111, 116, 104, 32, 111, 117, 116, 69, 32, 105, 110, 69, 32, 98, 111, 116, 104, 69, 32, 111, 117, 116, 86, 32, 105, 110, 86, 32, 98, 111, 116, 104, 86, 32, 104, 97, 115, 32, 104, 97, 115, 75, 101, 121, 32, 104, 97, 115, 78, 111, 116, 32, 104, 97, 115, 76, 97, 98, 101, 108, 32, 104, 97, 115, 73, 100, 32, 105, 115, 32, 119, 104, 101, 114, 101, 32, 110, 111, 116, 32, 97, 110, 100, 32, 111, 114, 32, 100, 101, 100, 117, 112, 32, 115, 105, 109, 112, 108, 101, 80, 97, 116, 104, 32, 108, 105, 109, 105, 116, 32, 115, 107, 105, 112, 32, 114, 97, 110, 103, 101, 32, 116, 97, 105, 108, 32, 105, 100, 32, 108, 97, 98, 101, 108, 32, 118, 97, 108, 117, 101, 115, 32, 118, 97, 108, 117, 101, 77, 97, 112, 32, 99, 111, 110, 115, 116, 97, 110, 116, 32, 99, 111, 117, 110, 116, 32, 115, 117, 109, 32, 109, 105, 110, 32, 109, 97, 120, 32, 102, 111, 108, 100, 32, 117, 110, 102, 111, 108, 100, 32, 112, 97, 116, 104, 32, 97, 115, 32, 115, 101, 108, 101, 99, 116, 32, 111, 114, 100, 101, 114, 32, 111, 114, 100, 101, 114, 68, 101, 115, 99, 32, 111, 114, 100, 101, 114, 66, 121, 32, 111, 114, 100, 101, 114, 66, 121, 68, 101, 115, 99, 32, 103, 114, 111, 117, 112, 67, 111, 117, 110, 116, 32, 108, 111, 111, 112, 115, 32, 117, 110, 105, 111, 110, 32, 99, 111, 97, 108, 101, 115, 99, 101, 32, 111, 112, 116, 105, 111, 110, 97, 108, 32, 99, 104, 111, 111, 115, 101, 32, 116, 105, 109, 101, 115, 32, 117, 110, 116, 105, 108, 32, 101, 109, 105, 116, 32, 97, 100, 100, 69, 32, 112, 114, 111, 112, 101, 114, 116, 121, 32, 100, 114, 111, 112, 32, 105, 100, 101, 110, 116, 105, 116, 121]
def Zer (op:Int):List UInt8:=Zmm (Z0p 32 Zpc) op
def predW (op:Int):List UInt8:=Zmm (Z0p 32 wPreds) op
theorem steps_60:(Z0p 32 Zpc).length=60∧(Z0p 32 Zpc).all (fun w=>!w.isEmpty)=true:=by decide +kernel
theorem preds_9:(Z0p 32 wPreds).length=9∧(Z0p 32 wPreds).all (fun w=>!w.isEmpty)=true:=by decide +kernel
theorem wordAt_ne {W:List (List UInt8)} (h:W.all (fun w=>!w.isEmpty)=true) (n:Int):decide (Zmm W n=[])=!(decide (1≤n)&&decide (n≤(W.length:Int))):=by
 unfold Zmm
 by_cases hn:1≤n∧n≤W.length
 ·rw [if_pos hn, decide_eq_true hn.1, decide_eq_true hn.2]
  have hlt:(n-1).toNat<W.length:=by omega
  rw [List.getElem?_eq_getElem hlt]
  have:=List.all_eq_true.1 h W[(n-1).toNat] (List.getElem_mem _)
  simp only [Option.getD_some]
  cases hw:W[(n-1).toNat] with
  |nil=>rw [hw] at this;cases this
  |cons a b=>simp
 ·rw [if_neg hn]
  have:¬(decide (1≤n)&&decide (n≤(W.length:Int)))=true:=by simpa using hn
  simp only [Bool.not_eq_true] at this
  rw [this]
  rfl
def opB (op:Int):Bool:=decide (1≤op)&&decide (op≤60)
theorem stepW_ne (op:Int):decide (Zer op=[])=!opB op:=by
 have:=wordAt_ne steps_60.2 op
 rw [steps_60.1] at this
 exact this
theorem predW_ne (op:Int):decide (predW op=[])=!(decide (1≤op)&&decide (op≤9)):=by
 have:=wordAt_ne preds_9.2 op
 rw [preds_9.1] at this
 exact this
theorem run_Word {op:Int} (h:Zr op):T.R (.call n_parse_Word [.int .i64 op] (.str (Zer op))):=by
 have hx:T.R (.call Zdp [.str Zpc, .int .i64 op] (.str (Zer op))):=run_pword (by decide +kernel) op h
 generalize Zer op=w at hx ⊢
 refine Z7 rfl rfl ?_
 repeat' first|refine Z1 rfl ?_|refine Z4 rfl rfl ?_|((with_reducible show VO _ _ _ _ _ _ _);first|refine Z6 rfl rfl hx ?_|refine Z0 rfl ?_|refine Z2 ?_)
 rfl
def Zi2:Prd→Bool
 |.mk op l=>(decide (1≤op)&&decide (op≤9))&&Zai (Zow op).1 (Zow op).2 l.length&&l.all (Zl 8)
theorem Zoi {α:Type} (P:α→Bool) (l:List α):(l.any fun a=>!P a)=!l.all P:=by
 induction l with
 |nil=>rfl
 |cons v l ih=>simp [ih]
theorem run_ctVal {p:PV} {l:List Val} (hp:LR VC p l):T.R (.call Z0v [p, .func Zc7 []] (.bool (!l.all (Zl 8)))):=by
 rw [←Zoi]
 exact Z25 (f':=Z2r) (sz:=4) (agg:=true) (val:=.agg) rfl rfl hp (fun _ _ h=>h.len4) (fun _ _ h=>Zmd h.len4 _) (fun _ _ h=>.agg _ h.pl) (hp.pl fun _ _ _ h=>h.pl) Z2w (fun a _ cs h=>run_badValue h)
set_option maxHeartbeats 4000000 in
theorem run_badPred {x:Prd} {cs:List PV} (h:PrC x cs):T.R (.call Z90 [.agg cs] (.bool (!Zi2 x))):=by
 obtain ⟨op, l⟩:=x
 obtain ⟨ho, p, rfl, hp⟩:=h
 have plp:Pl p:=hp.pl fun _ _ _ h=>h.pl
 obtain ⟨lp1, lp2, lp3⟩:=hp.len
 have hx:T.R (.call Zdp [.str wPreds, .int .i64 op] (.str (predW op))):=run_pword (by decide +kernel) op ho
 have hc:=run_ctVal hp
 have ho':=run_operands op
 have hh:=Zjq (Zow op).1 (Zow op).2 l.length
 show T.R (.call Z90 [.agg [.int .i64 op, p]] (.bool (!((decide (1≤op)&&decide (op≤9))&&Zai (Zow op).1 (Zow op).2 l.length&&l.all (Zl 8)))))
 rw [show (decide (1≤op)&&decide (op≤9))=!decide (predW op=[]) by rw [predW_ne];simp]
 generalize predW op=w at hx ⊢
 generalize Zai (Zow op).1 (Zow op).2 l.length=b1 at hh ⊢
 generalize l.all (Zl 8)=b2 at hc ⊢
 generalize (Zow op).1=o1 at *
 generalize (Zow op).2=o2 at *
 refine Z7 rfl rfl ?_
 repeat' first|((with_reducible show V _ _ _ _ _ _);first|refine Z1 rfl ?_|refine Z4 rfl rfl ?_|refine V_D rfl ?_)|((with_reducible show VO _ _ _ _ _ _ _);first|refine Zc rfl ?_|refine Z0 rfl ?_|refine Z2 ?_)|((with_reducible show VD _ _ _ _ _ _ _);first|refine D_cA rfl rfl hx ?_|refine D_cA rfl rfl ho' ?_|refine D_lenO rfl lp1 lp2 ?_|refine D_cA rfl rfl hh ?_|refine D_cA rfl rfl hc ?_|refine Z0z rfl ?_|refine Z55 ?_|refine D_gT' rfl ?_|refine D_gF' rfl rfl ?_|refine D_gS rfl (fun _=>?_) (fun _=>?_))
 all_goals simp_all
def argB (op:Int) (names:List (List UInt8)) (nums:List Int) (preds:List Prd) (vals:List Val) (k:Nat):Bool:=
 match shp op with
 |[a, b, c, d, e, f, g, h, i, j]=>Zai a b names.length&&Zai c d nums.length&&Zai e f preds.length&&Zai g h vals.length&&Zai i j k
 |_=>false
def Zd7 (op:Int) (names:List (List UInt8)) (nums:List Int) (preds:List Prd) (vals:List Val) (k:Nat):Bool:=
 opB op&&argB op names nums preds vals k&&names.all Zne&&nums.all Zmc&&preds.all Zi2&&vals.all (Zl 8)
set_option maxHeartbeats 4000000 in
theorem run_badStep {n:Nat} {op:Int} {names:List (List UInt8)} {nums:List Int} {preds:List Prd} {vals:List Val} {subs:List (List Stp)} {cs:List PV} (h:SC n (.mk op names nums preds vals subs) cs):
  T.R (.call Zdq [.agg cs] (.bool (!Zd7 op names nums preds vals subs.length))):=by
 cases n with
 |zero=>exact h.elim
 |succ n=>
 have plcs:=h.pl
 obtain ⟨ho, pa, pb, pc, pd, pe, rfl, h1, h2, h3, h4, h5⟩:=h
 have pla:Pl pa:=h1.pl fun _ _ _ h=>h.pl
 have plb:Pl pb:=h2.pl fun _ _ _ h=>h.pl
 have plc:Pl pc:=h3.pl fun _ _ _ h=>h.pl
 have pld:Pl pd:=h4.pl fun _ _ _ h=>h.pl
 have ple:Pl pe:=plcs pe (by simp)
 obtain ⟨la1, la2, la3⟩:=h1.len
 obtain ⟨lb1, lb2, lb3⟩:=h2.len
 obtain ⟨lc1, lc2, lc3⟩:=h3.len
 obtain ⟨ld1, ld2, ld3⟩:=h4.len
 obtain ⟨le1, le2, le3⟩:=h5.len
 have hw:=run_Word ho
 have hs:=run_shapeOf op
 have c1:T.R (.call Z3k [pa, .func Zdr []] (.bool (!names.all Zne))):=by
  rw [←Zoi]
  exact Z25 (f':=Z4s) (sz:=1) (agg:=false) (val:=fun cs=>cs.headD .junk) rfl rfl h1 (fun _ _ h=>h.len1) (fun _ _ h=>by obtain ⟨_, rfl⟩:=h;rfl) (fun _ _ h=>by obtain ⟨_, rfl⟩:=h;exact .str _) pla Z2w (fun a _ cs h=>by obtain ⟨hl, rfl⟩:=h;exact run_badName hl)
 have c2:T.R (.call Z4b [pb, .func Zg0 []] (.bool (!nums.all Zmc))):=by
  rw [←Zoi]
  exact Z25 (f':=Z61) (sz:=1) (agg:=false) (val:=fun cs=>cs.headD .junk) rfl rfl h2 (fun _ _ h=>h.len1) (fun _ _ h=>by obtain ⟨_, rfl⟩:=h;rfl) (fun _ _ h=>by obtain ⟨_, rfl⟩:=h;exact .int _ _) plb Z2w (fun a _ cs h=>by obtain ⟨hl, rfl⟩:=h;exact run_badNum _)
 have c3:T.R (.call Z62 [pc, .func Z90 []] (.bool (!preds.all Zi2))):=by
  rw [←Zoi]
  exact Z25 (f':=Z8t) (sz:=2) (agg:=true) (val:=.agg) rfl rfl h3 (fun _ _ h=>h.len2) (fun _ _ h=>Zmd h.len2 _) (fun _ _ h=>.agg _ h.pl) plc Z2w (fun a _ cs h=>run_badPred h)
 have c4:=run_ctVal h4
 obtain ⟨a, b, c, d, e, f, g, hh, i, j, hten⟩:=shp_ten op
 unfold Zd7 argB
 rw [hten] at hs ⊢
 rw [show opB op=!decide (Zer op=[]) by rw [stepW_ne];simp]
 simp only [List.map_cons, List.map_nil, intP] at hs ⊢
 have k1:=Zjq a b names.length
 have k2:=Zjq c d nums.length
 have k3:=Zjq e f preds.length
 have k4:=Zjq g hh vals.length
 have k5:=Zjq i j subs.length
 generalize Zer op=w at hw ⊢
 generalize Zai a b names.length=b1 at k1 ⊢
 generalize Zai c d nums.length=b2 at k2 ⊢
 generalize Zai e f preds.length=b3 at k3 ⊢
 generalize Zai g hh vals.length=b4 at k4 ⊢
 generalize Zai i j subs.length=b5 at k5 ⊢
 generalize names.all Zne=b6 at c1 ⊢
 generalize nums.all Zmc=b7 at c2 ⊢
 generalize preds.all Zi2=b8 at c3 ⊢
 generalize vals.all (Zl 8)=b9 at c4 ⊢
 refine Z7 rfl rfl ?_
 repeat' first|refine Z1 rfl ?_|refine Z4 rfl rfl ?_|((with_reducible show VO _ _ _ _ _ _ _);first|refine Zc rfl ?_|refine Z6 rfl rfl hs ?_|refine Z6 rfl rfl hw ?_|refine Z8 rfl la1 la2 ?_|refine Z8 rfl lb1 lb2 ?_|refine Z8 rfl lc1 lc2 ?_|refine Z8 rfl ld1 ld2 ?_|refine Z8 rfl le1 le2 ?_|refine Z6 rfl rfl k1 ?_|refine Z6 rfl rfl k2 ?_|refine Z6 rfl rfl k3 ?_|refine Z6 rfl rfl k4 ?_|refine Z6 rfl rfl k5 ?_|refine Z6 rfl rfl c1 ?_|refine Z6 rfl rfl c2 ?_|refine Z6 rfl rfl c3 ?_|refine Z6 rfl rfl c4 ?_|refine Z0 rfl ?_|refine Z2 ?_|refine Zg rfl ?_|refine Zq rfl rfl ?_|refine Zei rfl (fun _=>?_) (fun _=>?_))
 all_goals clear hs hw k1 k2 k3 k4 k5 c1 c2 c3 c4 la1 lb1 lc1 ld1 le1 h1 h2 h3 h4 h5
 all_goals simp_all
end Go.Proofs.YtnedeokclnbcpaaGreatDoor
namespace Go.Proofs.YtnedeokclnbcpaaGreatDoor
open Go Go.AM Go.RowKit
def stepB1:Stp→Bool
 |.mk op names nums preds vals subs=>Zd7 op names nums preds vals subs.length
mutual
def okS:Stp→Bool
 |.mk op names nums preds vals subs=>Zd7 op names nums preds vals subs.length&&Zbb subs
def Zjh:List Stp→Bool
 |[]=>true
 |s::r=>okS s&&Zjh r
def Zbb:List (List Stp)→Bool
 |[]=>true
 |l::r=>(!l.isEmpty&&Zjh l)&&Zbb r
end
def okL (l:List Stp):Bool:=!l.isEmpty&&Zjh l
mutual
def Zfo:Stp→Nat
 |.mk _ _ _ _ _ subs=>Z2f subs
def Zk:List Stp→Nat
 |[]=>0
 |s::r=>1+Zfo s+Zk r
def Z2f:List (List Stp)→Nat
 |[]=>0
 |l::r=>Zk l+Z2f r
end
def mxI (a b:Int):Int:=if b>a then b else a
def wr (d:Int):Int:=IntKind.i64.wrap (d+1)
mutual
def dpL:List Stp→Int→Int→Int
 |[], _, acc=>acc
 |s::r, d, acc=>dpL r d (dpS s d acc)
def dpS:Stp→Int→Int→Int
 |.mk _ _ _ _ _ subs, d, acc=>dpLL subs d acc
def dpLL:List (List Stp)→Int→Int→Int
 |[], _, acc=>acc
 |l::r, d, acc=>dpLL r d (mxI acc (dpL l (wr d) (wr d)))
end
def cntP (l:List Stp) (d:Int):PV:=if okL l=true then .tuple [.int .i64 (IntKind.i64.wrap (Zk l)), .int .i64 (dpL l d d), .bool true] else .tuple [.int .i64 0, .int .i64 0, .bool false]
theorem mx_is (a b:Int):PV.int .i64 (if true=true then (if b>a then b else a) else (if b<a then b else a))=PV.int .i64 (mxI a b):=rfl
def Zks:List Stp→Bool
 |[]=>true
 |s::r=>Zbb s.subs&&Zks r
def sumS:List Stp→Nat
 |[]=>0
 |s::r=>Z2f s.subs+sumS r
theorem okL1_two:∀l:List Stp, Zjh l=(l.all stepB1&&Zks l)
 |[]=>rfl
 |.mk op names nums preds vals subs::r=>by
  rw [Zjh, okL1_two r, okS, Zks, List.all_cons, stepB1, Stp.subs]
  generalize Zd7 op names nums preds vals subs.length=a
  generalize Zbb subs=b
  generalize r.all stepB1=c
  generalize Zks r=d
  cases a<;>cases b<;>cases c<;>cases d<;>rfl
theorem cntL_sum:∀l:List Stp, Zk l=l.length+sumS l
 |[]=>rfl
 |.mk op names nums preds vals subs::r=>by
  rw [Zk, cntL_sum r, Zfo, sumS, Stp.subs, List.length_cons]
  omega
section
variable {T:Tb} {Q:Z73} {k:List Fr} {ρ:EC} {st:St} {l:List POp} {kill:List Nat}
theorem Z0f {a x:Opd} {t n:Nat} {cs cs0:List PV} (ha:a.get ρ=some (.ptr t 0)) (hx:x.get ρ=some (.agg cs)) (h1:∀c∈cs, PV.one c=true) (hl:cs.length=n) (hn:Nat.blt 0 n=true) (hg:st.get t=some (.var cs0)) (h0:cs0.length=n) (h:VO T Q l kill k (ρ.sets none (.tuple [])) (st.put t (.var cs))):VO T Q (⟨none, none, .store n a x⟩::l) kill k ρ st:=
 Z83 ha hx (List.all_eq_true.2 h1) hl hn (Z24 hg (by rw [h0, hl])) h
end
theorem run_ctStep {n:Nat} {p:PV} {l:List Stp} (hp:SL n p l):T.R (.call Z22 [p, .func Zdq []] (.bool (!l.all stepB1))):=by
 rw [←Zoi]
 refine Z25 (f':=Z31) (sz:=6) (agg:=true) (val:=.agg) rfl rfl hp (fun _ _ h=>h.len6) (fun _ _ h=>Zmd h.len6 _) (fun _ _ h=>.agg _ h.pl) hp.pl Z2w (fun a _ cs h=>?_)
 obtain ⟨op, names, nums, preds, vals, subs⟩:=a
 exact run_badStep h
theorem count_in {n:Nat} {pe:PV} {subs:List (List Stp)} (hp:LR (SubC (SC n)) pe subs) (d:Int) (st:St) (hd:∀x∈subs, ∀q, SL n q x→T.R (.call Z4d [q, .int .i64 (wr d)] (cntP x (wr d)))) (p:PV) (L I:Int) (plp:Pl p):
  ∀(rest pre:List (List Stp)) (N M:Int), subs=pre++rest→
  V T (PE fun x e st'=>st'=st∧((x=.exit 2∧Zbb rest=true∧∃a b:Int, e=Zi [(1, .int .i64 d), (7, .int .i64 a), (8, .int .i64 b), (25, p), (26, .int .i64 L), (27, .int .i64 I)]∧a=IntKind.i64.wrap (N+Z2f rest)∧b=dpLL rest d M)∨(x=.ret∧Zbb rest=false∧e=Zi [(4, .int .i64 0), (5, .int .i64 0), (6, .bool false)])))
   [.code (.loop Zcb)] .normal (Zi [(1, .int .i64 d), (7, .int .i64 (IntKind.i64.wrap N)), (8, .int .i64 M), (25, p), (26, .int .i64 L), (27, .int .i64 I), (32, pe), (33, .int .i64 subs.length), (34, .int .i64 pre.length)]) st:=by
 have ple:Pl pe:=LR.pl hp fun _ _ _ h=>h.pl fun _ _ h=>h.pl
 obtain ⟨le1, le2, le3⟩:=hp.len
 intro rest
 induction rest with
 |nil=>
  intro pre N M ha
  have hlt:¬(pre.length:Int)<subs.length:=by subst ha;simp
  refine Ze ?_
  repeat' first|((with_reducible show V _ _ _ _ _ _);first|refine Z72 rfl rfl hlt ?_|refine Z0o [(1, .int .i64 d), (7, .int .i64 (IntKind.i64.wrap N)), (8, .int .i64 M), (25, p), (26, .int .i64 L), (27, .int .i64 I)] rfl ⟨rfl, rfl, rfl, rfl, rfl, rfl, trivial⟩ ⟨rfl, .inl ⟨rfl, rfl, _, _, rfl, by simp [Z2f], rfl⟩⟩|refine Z1 rfl ?_)|refine Z0 rfl ?_|refine Z2 ?_
 |cons y rest ih=>
  intro pre N M ha
  have hlt:(pre.length:Int)<subs.length:=by subst ha;simp;omega
  have hll:pre.length<subs.length:=by subst ha;simp
  have hy:subs[pre.length]?=some y:=by subst ha;simp
  obtain ⟨cy, ay, q, rfl, hq⟩:=hp.at (sz:=1) (fun _ _ h=>h.len1) hy
  have plq:=SL.pl hq
  have hcall:=hd y (by subst ha;simp) q hq
  have hw:IntKind.i64.wrap ((pre.length:Int)+1)=((pre++[y]).length:Int):=by rw [Z00];simp;omega
  unfold cntP at hcall
  have hok:Zbb (y::rest)=(okL y&&Zbb rest):=by rw [Zbb];rfl
  rw [hok]
  cases hoy:okL y with
  |false=>
   rw [hoy, if_neg (by simp)] at hcall
   refine Ze ?_
   repeat' first|((with_reducible show V _ _ _ _ _ _);first|refine Z1e rfl rfl hlt ?_|refine Z0o [(4, .int .i64 0), (5, .int .i64 0), (6, .bool false)] rfl ⟨rfl, rfl, rfl, trivial⟩ ⟨rfl, .inr ⟨rfl, rfl, rfl⟩⟩|refine Z1 rfl ?_|refine Za rfl rfl ?_)|((with_reducible show VO _ _ _ _ _ _ _);first|refine Zn rfl rfl ay ?_|refine Z6 rfl rfl hcall ?_|refine Z0 rfl ?_|refine Z2 ?_)
  |true=>
   rw [hoy, if_pos rfl] at hcall
   have hi:=ih (pre++[y]) (N+Zk y) (mxI M (dpL y (wr d) (wr d))) (by rw [ha];simp)
   have e2:N+((Z2f (y::rest):Nat):Int)=N+(Zk y:Int)+(Z2f rest:Int):=by rw [Z2f];simp;omega
   have e4:PV.int .i64 (IntKind.i64.wrap (IntKind.i64.wrap N+IntKind.i64.wrap (Zk y:Int)))=PV.int .i64 (IntKind.i64.wrap (N+Zk y)):=Z1y (wrap_add _ _)
   rw [e2, dpLL, Bool.true_and]
   refine Ze ?_
   repeat' first|((with_reducible show V _ _ _ _ _ _);first|refine Z1e rfl rfl hlt ?_|refine Zef rfl hi ⟨rfl, rfl, rfl, rfl, rfl, rfl, rfl, rfl, Z03 hw, trivial⟩|refine Z1 rfl ?_|refine Zb rfl rfl ?_)|((with_reducible show VO _ _ _ _ _ _ _);first|refine Zn rfl rfl ay ?_|refine Z6 rfl rfl hcall ?_|refine Z3 e4 rfl ?_|refine Z3 (mx_is _ _) rfl ?_|refine Z0 rfl ?_|refine Z2 ?_)
theorem count_out {n:Nat} {p:PV} {l:List Stp} (hp:SL (n+1) p l) (d:Int) (hd:∀x, ∀q, SL n q x→T.R (.call Z4d [q, .int .i64 (wr d)] (cntP x (wr d)))):
  ∀(rest pre:List Stp) (N M:Int), l=pre++rest→
  V T (PE fun x e st'=>(x=.exit 0∧Zks rest=true∧∃a b:Int, e=Zi [(7, .int .i64 a), (8, .int .i64 b)]∧a=IntKind.i64.wrap (N+sumS rest)∧b=dpL rest d M)∨(x=.ret∧Zks rest=false∧e=Zi [(4, .int .i64 0), (5, .int .i64 0), (6, .bool false)]))
   [.code (.loop Zca)] .normal (Zi [(1, .int .i64 d), (7, .int .i64 (IntKind.i64.wrap N)), (8, .int .i64 M), (25, p), (26, .int .i64 l.length), (27, .int .i64 pre.length)]) emptySt:=by
 have plp:Pl p:=SL.pl hp
 obtain ⟨lp1, lp2, lp3⟩:=hp.len
 intro rest
 induction rest with
 |nil=>
  intro pre N M ha
  have hlt:¬(pre.length:Int)<l.length:=by subst ha;simp
  refine Ze ?_
  repeat' first|((with_reducible show V _ _ _ _ _ _);first|refine Z72 rfl rfl hlt ?_|refine Z0o [(7, .int .i64 (IntKind.i64.wrap N)), (8, .int .i64 M)] rfl ⟨rfl, rfl, trivial⟩ (.inl ⟨rfl, rfl, _, _, rfl, by simp [sumS], rfl⟩)|refine Z1 rfl ?_)|refine Z0 rfl ?_|refine Z2 ?_
 |cons y rest ih=>
  intro pre N M ha
  have hlt:(pre.length:Int)<l.length:=by subst ha;simp;omega
  have hll:pre.length<l.length:=by subst ha;simp
  have hy:l[pre.length]?=some y:=by subst ha;simp
  obtain ⟨cy, ay, hc⟩:=SL.at hp hy
  have plc:=hc.pl
  have onec:=hc.one
  have len6:=hc.len6
  obtain ⟨op, names, nums, preds, vals, subs⟩:=y
  obtain ⟨ho, pa, pb, pc, pd, pe, rfl, h1, h2, h3, h4, h5⟩:=hc
  obtain ⟨le1, le2, le3⟩:=h5.len
  have hw:IntKind.i64.wrap ((pre.length:Int)+1)=((pre++[Stp.mk op names nums preds vals subs]).length:Int):=by rw [Z00];simp;omega
  have hin:=count_in h5 d ((emptySt.new (.var [.int .i64 0, .nilSl, .nilSl, .nilSl, .nilSl, .nilSl])).put 0 (.var [.int .i64 op, pa, pb, pc, pd, pe])) (fun x _ q hq=>hd x q hq) p l.length pre.length plp subs [] N M rfl
  have e1:Zks (Stp.mk op names nums preds vals subs::rest)=(Zbb subs&&Zks rest):=rfl
  rw [e1]
  refine Ze ?_
  repeat' first|((with_reducible show V _ _ _ _ _ _);first|refine Z1e rfl rfl hlt ?_|refine Z0g rfl hin ⟨rfl, rfl, rfl, rfl, rfl, rfl, rfl, rfl, rfl, trivial⟩ ?_|refine Z1 rfl ?_)|((with_reducible show VO _ _ _ _ _ _ _);first|refine Zn rfl rfl ay ?_|refine Z0j rfl len6 ?_|refine Z0 rfl ?_|refine Z0f rfl rfl onec rfl rfl rfl rfl ?_|refine Z8 rfl le1 le2 ?_|refine Zc rfl ?_|refine Z2 ?_)
  rintro x e' st' ⟨rfl, ⟨rfl, hok, a, b, rfl, rfl, rfl⟩|⟨rfl, hok, rfl⟩⟩
  ·have hi:=ih (pre++[Stp.mk op names nums preds vals subs]) (N+Z2f subs) (dpLL subs d M) (by rw [ha];simp)
   have e2:N+((sumS (Stp.mk op names nums preds vals subs::rest):Nat):Int)=N+(Z2f subs:Int)+(sumS rest:Int):=by rw [sumS, Stp.subs];simp;omega
   rw [hok, e2, dpL, dpS, Bool.true_and]
   repeat' first|refine V_reF rfl hi rfl ⟨rfl, rfl, rfl, rfl, rfl, Z03 hw, trivial⟩ ⟨.int _ _, .int _ _, .int _ _, plp, .int _ _, .int _ _, trivial⟩|refine Z1 rfl ?_|refine Z0 rfl ?_|refine Z2 ?_
  ·rw [hok, Bool.false_and]
   repeat' first|refine Z0o [(4, .int .i64 0), (5, .int .i64 0), (6, .bool false)] rfl ⟨rfl, rfl, rfl, trivial⟩ (.inr ⟨rfl, rfl, rfl⟩)
theorem Znw {α:Type} (l:List α):decide ((l.length:Int)=0)=l.isEmpty:=by
 cases l with
 |nil=>rfl
 |cons a r=>
  rw [decide_eq_false (by simp;omega)]
  rfl
theorem run_count:∀(n:Nat) (l:List Stp) (p:PV) (d:Int), SL n p l→T.R (.call Z4d [p, .int .i64 d] (cntP l d)):=by
 have main:∀(n:Nat) (l:List Stp) (p:PV) (d:Int), SL (n+1) p l→(∀(l:List Stp) (p:PV) (d:Int), SL n p l→T.R (.call Z4d [p, .int .i64 d] (cntP l d)))→T.R (.call Z4d [p, .int .i64 d] (cntP l d)):=by
  intro n l p d hp ih
  have plp:Pl p:=SL.pl hp
  obtain ⟨lp1, lp2, lp3⟩:=hp.len
  have hct:=run_ctStep hp
  have hout:=count_out hp d (fun x q hq=>ih x q (wr d) hq) l [] l.length d rfl
  have hwl:IntKind.i64.wrap (l.length:Int)=l.length:=Zg5 (i64_of_len lp3)
  rw [hwl] at hout
  unfold cntP okL
  rw [okL1_two]
  have hem:=Znw l
  cases hE:l.isEmpty with
  |true=>
   rw [hE] at hem
   refine Z7 rfl rfl ?_
   repeat' first|((with_reducible show V _ _ _ _ _ _);first|refine Z1 rfl ?_|refine Za rfl rfl ?_|refine Z4 rfl rfl ?_)|((with_reducible show VO _ _ _ _ _ _ _);first|refine Z8 rfl lp1 lp2 ?_|refine Z3 (Zki hem) rfl ?_|refine Z0 rfl ?_|refine Z2 ?_|refine Zq rfl rfl ?_)
   rfl
  |false=>
   rw [hE] at hem
   cases hB:l.all stepB1 with
   |false=>
    rw [hB] at hct
    refine Z7 rfl rfl ?_
    repeat' first|((with_reducible show V _ _ _ _ _ _);first|refine Z1 rfl ?_|refine Za rfl rfl ?_|refine Z4 rfl rfl ?_)|((with_reducible show VO _ _ _ _ _ _ _);first|refine Z8 rfl lp1 lp2 ?_|refine Z3 (Zki hem) rfl ?_|refine Z6 rfl rfl hct ?_|refine Z0 rfl ?_|refine Z2 ?_|refine Zg rfl ?_)
    rfl
   |true=>
    rw [hB] at hct
    refine Z7 rfl rfl ?_
    repeat' first|((with_reducible show V _ _ _ _ _ _);first|refine Z0g rfl hout ⟨rfl, rfl, rfl, rfl, rfl, rfl, trivial⟩ ?_|refine Z1 rfl ?_|refine Zb rfl rfl ?_)|((with_reducible show VO _ _ _ _ _ _ _);first|refine Z8 rfl lp1 lp2 ?_|refine Z3 (Zki hem) rfl ?_|refine Z6 rfl rfl hct ?_|refine Z0 rfl ?_|refine Z2 ?_|refine Zg rfl ?_)
    rintro x e' st' (⟨rfl, hok, a, b, rfl, rfl, rfl⟩|⟨rfl, hok, rfl⟩)
    ·rw [hok]
     have e1:((l.length:Int)+(sumS l:Int))=(Zk l:Int):=by rw [cntL_sum];simp
     rw [e1]
     repeat' first|refine Z1 rfl ?_|refine Z4 rfl rfl ?_|refine Z0 rfl ?_|refine Z2 ?_
     rfl
    ·rw [hok]
     repeat' first|refine Z4 rfl rfl ?_
     rfl
 intro n
 induction n with
 |zero=>
  intro l p d hp
  have hl:l=[]:=by
   cases l with
   |nil=>rfl
   |cons s r=>
    obtain ⟨cs, _, h⟩:=SL.at hp (j:=0) (s:=s) rfl
    exact h.elim
  subst hl
  obtain ⟨lp1, lp2, lp3⟩:=hp.len
  have plp:Pl p:=SL.pl hp
  refine Z7 rfl rfl ?_
  repeat' first|((with_reducible show V _ _ _ _ _ _);first|refine Z1 rfl ?_|refine Za rfl rfl ?_|refine Z4 rfl rfl ?_)|((with_reducible show VO _ _ _ _ _ _ _);first|refine Z8 rfl lp1 lp2 ?_|refine Z0 rfl ?_|refine Z2 ?_|refine Zq rfl rfl ?_)
  rfl
 |succ n ih=>exact fun l p d hp=>main n l p d hp ih
def Zl2 (l:List Stp):Int:=if okL l=true then (if 256<IntKind.i64.wrap (Zk l)∨8<dpL l 1 1 then 3 else 0) else 161
theorem run_PCheck {n:Nat} {l:List Stp} {p:PV} (hp:SL n p l):T.R (.call n_parse_Check [p] (.int .i64 (Zl2 l))):=by
 have h:=run_count n l p 1 hp
 have plp:Pl p:=SL.pl hp
 unfold cntP at h
 unfold Zl2
 cases hok:okL l with
 |false=>
  rw [hok, if_neg (by simp)] at h
  refine Z7 rfl rfl ?_
  repeat' first|((with_reducible show V _ _ _ _ _ _);first|refine Z1 rfl ?_|refine Za rfl rfl ?_|refine Z4 rfl rfl ?_)|((with_reducible show VO _ _ _ _ _ _ _);first|refine Z6 rfl rfl h ?_|refine Z0 rfl ?_|refine Z2 ?_)
  rfl
 |true=>
  rw [hok, if_pos rfl] at h
  rw [if_pos rfl]
  generalize IntKind.i64.wrap (Zk l:Int)=a at *
  generalize dpL l 1 1=b at *
  refine Z7 rfl rfl ?_
  repeat' first|((with_reducible show V _ _ _ _ _ _);first|refine Z1 rfl ?_|refine Za rfl rfl ?_|refine Zb rfl rfl ?_|refine Z96 rfl rfl (fun _=>?_) (fun _=>?_)|refine Z4 rfl rfl ?_)|((with_reducible show VO _ _ _ _ _ _ _);first|refine Z6 rfl rfl h ?_|refine Z0 rfl ?_|refine Z2 ?_|refine Zg rfl ?_|refine Zq rfl rfl ?_|refine Zei rfl (fun _=>?_) (fun _=>?_))
  all_goals simp_all
end Go.Proofs.YtnedeokclnbcpaaGreatDoor
namespace Go.Proofs.YtnedeokclnbcpaaGreatDoor
open Go Go.AM Go.RowKit
def isLetI (n:Int):Bool:=decide (n=95)||(decide (97≤n)&&decide (n≤122))||(decide (65≤n)&&decide (n≤90))
theorem isLet_I (c:UInt8):Z9k c=isLetI c.toNat:=by
 unfold Z9k isLetI
 have h1:(c == 95)=decide ((c.toNat:Int)=95):=by
  rw [Bool.eq_iff_iff, beq_iff_eq, decide_eq_true_eq]
  constructor
  ·intro h;subst h;rfl
  ·intro h;exact UInt8.toNat_inj.1 (by have:(95:UInt8).toNat=95:=rfl;omega)
 have h2:∀n:Nat, decide (n≤c.toNat)=decide ((n:Int)≤(c.toNat:Int)):=fun n=>by rw [decide_eq_decide];omega
 have h3:∀n:Nat, decide (c.toNat≤n)=decide ((c.toNat:Int)≤(n:Int)):=fun n=>by rw [decide_eq_decide];omega
 rw [h1, h2, h2, h3, h3]
 rfl
theorem Zpo (c:UInt8):T.R (.call Zfc [.int .u8 c.toNat] (.bool (Z9k c))):=by
 rw [isLet_I]
 unfold isLetI
 generalize (c.toNat:Int)=n
 refine Z7 rfl rfl ?_
 repeat' first|refine Z1 rfl ?_|refine Z4 rfl rfl ?_|((with_reducible show VO _ _ _ _ _ _ _);first|refine Z0 rfl ?_|refine Z2 ?_|refine Zg rfl ?_|refine O_gU' rfl ?_|refine Zq rfl rfl ?_|refine Zei rfl (fun _=>?_) (fun _=>?_))
 all_goals simp_all
 all_goals omega
def okC (c:UInt8):Bool:=Z9k c||isDg c
theorem dg_parts (c:UInt8):isDg c=(!decide ((c.toNat:Int)<48)&&!decide (57<(c.toNat:Int))):=by
 unfold isDg
 rw [Bool.eq_iff_iff]
 simp only [Bool.and_eq_true, decide_eq_true_eq, Bool.not_eq_true', decide_eq_false_iff_not]
 omega
theorem rname_loop {s:List UInt8} (hs:s.length≤140737488355328):∀(rest pre:List UInt8), s=pre++rest→
  V T (PE fun x e st'=>st'=emptySt∧((x=.exit 0∧rest.all okC=true)∨(x=.ret∧rest.all okC=false∧e=Zi [(2, .bool false)])))
   [.code (.loop Z6d)] .normal (Zi [(0, .str s), (3, .int .i64 pre.length)]) emptySt:=by
 intro rest
 induction rest with
 |nil=>
  intro pre ha
  have hlt:¬(pre.length:Int)<s.length:=by subst ha;simp
  refine Ze ?_
  repeat' first|((with_reducible show V _ _ _ _ _ _);first|refine Z72 rfl rfl hlt ?_|refine Z0o [] rfl trivial ⟨rfl, .inl ⟨rfl, rfl⟩⟩|refine Z1 rfl ?_)|refine Z0 rfl ?_|refine Z2 ?_
 |cons c rest ih=>
  intro pre ha
  have hlt:(pre.length:Int)<s.length:=by subst ha;simp;omega
  have hll:pre.length<s.length:=by subst ha;simp
  have hch:s[((pre.length:Nat):Int).toNat]?=some c:=by subst ha;simp
  have hw:IntKind.i64.wrap ((pre.length:Int)+1)=((pre++[c]).length:Int):=by rw [Z00];simp;omega
  have hi:=ih (pre++[c]) (by rw [ha];simp)
  have hl:=Zpo c
  have hd:=dg_parts c
  rw [List.all_cons]
  have hok:okC c=(Z9k c||isDg c):=rfl
  rw [hok]
  refine Ze ?_
  cases hL:Z9k c with
  |true=>
   rw [hL] at hl
   rw [Bool.true_or, Bool.true_and]
   repeat' first|((with_reducible show V _ _ _ _ _ _);first|refine Z1e rfl rfl hlt ?_|refine Zef rfl hi ⟨rfl, Z03 hw, trivial⟩|refine Z1 rfl ?_|refine Zb rfl rfl ?_)|((with_reducible show VO _ _ _ _ _ _ _);first|refine Zm3 c rfl rfl (by omega) hch ?_|refine Z6 rfl rfl hl ?_|refine Z0 rfl ?_|refine Z2 ?_|refine O_gU' rfl ?_|refine Zq rfl rfl ?_)
  |false=>
   rw [hL] at hl
   rw [Bool.false_or, hd]
   by_cases c1:(c.toNat:Int)<48
   ·rw [decide_eq_true c1]
    repeat' first|((with_reducible show V _ _ _ _ _ _);first|refine Z1e rfl rfl hlt ?_|refine Z0o [(2, .bool false)] rfl ⟨rfl, trivial⟩ ⟨rfl, .inr ⟨rfl, rfl, rfl⟩⟩|refine Z1 rfl ?_|refine Za rfl rfl ?_)|((with_reducible show VO _ _ _ _ _ _ _);first|refine Zm3 c rfl rfl (by omega) hch ?_|refine Z6 rfl rfl hl ?_|refine Z3 (Z04 c1) rfl ?_|refine Z0 rfl ?_|refine Z2 ?_|refine Zg rfl ?_|refine Zq rfl rfl ?_)
   ·rw [decide_eq_false c1]
    by_cases c2:57<(c.toNat:Int)
    ·rw [decide_eq_true c2]
     repeat' first|((with_reducible show V _ _ _ _ _ _);first|refine Z1e rfl rfl hlt ?_|refine Z0o [(2, .bool false)] rfl ⟨rfl, trivial⟩ ⟨rfl, .inr ⟨rfl, rfl, rfl⟩⟩|refine Z1 rfl ?_|refine Za rfl rfl ?_)|((with_reducible show VO _ _ _ _ _ _ _);first|refine Zm3 c rfl rfl (by omega) hch ?_|refine Z6 rfl rfl hl ?_|refine Z3 (Zd c1) rfl ?_|refine Z3 (Z04 c2) rfl ?_|refine Z0 rfl ?_|refine Z2 ?_|refine Zg rfl ?_)
    ·rw [decide_eq_false c2]
     repeat' first|((with_reducible show V _ _ _ _ _ _);first|refine Z1e rfl rfl hlt ?_|refine Zef rfl hi ⟨rfl, Z03 hw, trivial⟩|refine Z1 rfl ?_|refine Zb rfl rfl ?_)|((with_reducible show VO _ _ _ _ _ _ _);first|refine Zm3 c rfl rfl (by omega) hch ?_|refine Z6 rfl rfl hl ?_|refine Z3 (Zd c1) rfl ?_|refine Z3 (Zd c2) rfl ?_|refine Z0 rfl ?_|refine Z2 ?_|refine Zg rfl ?_)
theorem run_rName {s:List UInt8} (hs:s.length≤140737488355328):T.R (.call Za1 [.str s] (.bool (Zne s))):=by
 have hl:=rname_loop hs s [] rfl
 cases s with
 |nil=>
  refine Z7 rfl rfl ?_
  repeat' first|((with_reducible show V _ _ _ _ _ _);first|refine Z1 rfl ?_|refine Za rfl rfl ?_|refine Z4 rfl rfl ?_)|((with_reducible show VO _ _ _ _ _ _ _);first|refine Z0 rfl ?_|refine Z2 ?_|refine Zq rfl rfl ?_)
  rfl
 |cons c r=>
  have hne:¬(c::r)=[]:=by simp
  have hch:(c::r)[(0:Int).toNat]?=some c:=rfl
  have hlt:=Zpo c
  show T.R (.call Za1 [.str (c::r)] (.bool (decide ((c::r).length≤24)&&Z9k c&&(c::r).all okC)))
  by_cases hl24:24<(c::r).length
  ·have h1:((24:Int)<((c::r).length:Int)):=by omega
   rw [decide_eq_false (by omega:¬(c::r).length≤24)]
   refine Z7 rfl rfl ?_
   repeat' first|((with_reducible show V _ _ _ _ _ _);first|refine Z1 rfl ?_|refine Za rfl rfl ?_|refine Z4 rfl rfl ?_)|((with_reducible show VO _ _ _ _ _ _ _);first|refine Z3 (Zd hne) rfl ?_|refine Z3 (Z04 h1) rfl ?_|refine Z0 rfl ?_|refine Z2 ?_|refine Zg rfl ?_|refine Zq rfl rfl ?_)
   rfl
  ·have h1:¬((24:Int)<((c::r).length:Int)):=by omega
   rw [decide_eq_true (by omega:(c::r).length≤24)]
   cases hL:Z9k c with
   |false=>
    rw [hL] at hlt
    refine Z7 rfl rfl ?_
    repeat' first|((with_reducible show V _ _ _ _ _ _);first|refine Z1 rfl ?_|refine Za rfl rfl ?_|refine Z4 rfl rfl ?_)|((with_reducible show VO _ _ _ _ _ _ _);first|refine Z3 (Zd hne) rfl ?_|refine Z3 (Zd h1) rfl ?_|refine Zm3 c rfl rfl (by decide) hch ?_|refine Z6 rfl rfl hlt ?_|refine Z0 rfl ?_|refine Z2 ?_|refine Zg rfl ?_)
    rfl
   |true=>
    rw [hL] at hlt
    refine Z7 rfl rfl ?_
    repeat' first|((with_reducible show V _ _ _ _ _ _);first|refine Z0g rfl hl ⟨rfl, rfl, trivial⟩ ?_|refine Z1 rfl ?_|refine Zb rfl rfl ?_)|((with_reducible show VO _ _ _ _ _ _ _);first|refine Z3 (Zd hne) rfl ?_|refine Z3 (Zd h1) rfl ?_|refine Zm3 c rfl rfl (by decide) hch ?_|refine Z6 rfl rfl hlt ?_|refine Z0 rfl ?_|refine Z2 ?_|refine Zg rfl ?_)
    rintro x e' st' ⟨rfl, ⟨rfl, h⟩|⟨rfl, h, rfl⟩⟩
    ·rw [h]
     repeat' first|refine Z1 rfl ?_|refine Z4 rfl rfl ?_|refine Z0 rfl ?_|refine Z2 ?_
     rfl
    ·rw [h]
     repeat' first|refine Z4 rfl rfl ?_
     rfl
end Go.Proofs.YtnedeokclnbcpaaGreatDoor
