/- The abstract machine: AM50: drawn regions with a chain of loud operations: the steps. · AM51: drawn regions with one loud operation and a variable boxed aside: the steps. · AM52: rows of one's own that are no longer written; what is known of them told outright. · AM53: a row of one's own, told outright. -/
import Derived.Test.YtnedeokclnbcpaaGreatDoorAmG
set_option linter.unusedSectionVars false
set_option linter.unusedVariables false
set_option linter.unusedSimpArgs false
namespace Go.AM
open Go.RowKit
def nthSt:St→List St→Nat→St
 |a, [], _=>a
 |a, _::_, 0=>a
 |_, b::r, i+1=>nthSt b r i
def AllS (Q:St→Prop):St→List St→Prop
 |a, []=>Q a
 |a, b::r=>Q a∧AllS Q b r
theorem Zcu {Q:St→Prop}:∀ {a:St} {r:List St}, AllS Q a r→∀i, Q (nthSt a r i)
 |a, [], h, 0=>h
 |a, [], h, _+1=>h
 |a, b::r, h, 0=>h.1
 |a, b::r, h, i+1=>Zcu (a:=b) (r:=r) h.2 i
def mkC (pos:List Nat) (d:List (Option Nat)) (A:St) (r:List St) (al:Option (Nat×Nat×Nat×List PV)):Chn:=⟨fun k=>pos.findIdx? (Nat.beq k ·), fun i=>(d[i]?).getD none, nthSt A r, al, fun _=>[]⟩
def mkN (pos:List Nat) (d:List (Option Nat)) (A:St) (r:List St) (need:List (List Nat)):Chn:=⟨fun k=>pos.findIdx? (Nat.beq k ·), fun i=>(d[i]?).getD none, nthSt A r, none, fun i=>(need[i]?).getD []⟩
def VC (T:Tb) (Q:Z6k) (C:Chn) (j:Nat) (l:List POp) (kill:List Nat) (fr:List Fr) (e:EC) (b:Bool) (i:Nat):Prop:=
 ∀ ρ, Sub e ρ→∃ ρ1 b1 i1, T.R (.dlc C j l ρ b i ρ1 b1 i1)∧C.float b1 i1=false∧W T Q fr .normal (Z3v kill ρ1) (C.S i1)
section
variable {T:Tb} {Q:Z6k} {C:Chn} {j:Nat} {k:List Fr} {l:List POp} {kill:List Nat} {ρ:EC} {b:Bool} {i:Nat}
theorem V_C (C:Chn) {st:St} {x:EX} {k':List Fr} (hS:C.S 0=st) (ha:Zs 200 k x=(.code (.drawn l kill)::k', .normal)) (h:VC T Q C 0 l kill k' ρ false 0):V T Q k x ρ st:=Z5j ha fun r hr=>by
 obtain ⟨ρ1, b1, i1, h1, h2, h3⟩:=h r hr
 exact ⟨_, _, _, hS ▸ .drawnLc _ _ _ _ _ _ _ h2 h1, h3⟩
theorem C_nil {st:St} (hf:C.float b i=false) (hS:C.S i=st) (h:V T Q k .normal (.drop kill ρ) st):VC T Q C j [] kill k ρ b i:=fun r hr=>⟨_, _, _, .dlcNil _ _ _ _ _, hf, by rw [hS];exact h _ (hr.drop kill)⟩
theorem Zpp {d:Option Nat} {op:PI} {p:PV} (hx:C.idx j=none) (hw:C.away j ⟨d, none, op⟩=true) (hq:∀i, Zl (C.S i).get ρ op=some p) (h:VC T Q C (j+1) l kill k (ρ.sets d p) b i):VC T Q C j (⟨d, none, op⟩::l) kill k ρ b i:=fun r hr=>by
 obtain ⟨ρ1, b1, i1, h1, h2⟩:=h _ (hr.sets d p)
 exact ⟨_, _, _, .dlcQuiet _ _ _ _ _ _ _ p _ _ _ hx hw rfl (fun i=>Z1w hr (hq i)) h1, h2⟩
theorem Z9z {d:Option Nat} {op:PI} {p:PV} (hx:C.idx j=none) (hw:C.away j ⟨d, none, op⟩=true) (hq:∀look, Zl look ρ op=some p) (h:VC T Q C (j+1) l kill k (ρ.sets d p) b i):VC T Q C j (⟨d, none, op⟩::l) kill k ρ b i:=Zpp hx hw (fun i=>hq _) h
theorem Zpq {d:Option Nat} {a:Opd} {t off:Nat} {cs:List PV} {c:PV} (hx:C.idx j=none) (hw:C.away j ⟨d, none, .load 1 false a⟩=true) (ha:a.get ρ=some (.ptr t off)) (hg:∀i, (C.S i).get t=some (.var cs)) (hc:cs[off]?=some c) (h:VC T Q C (j+1) l kill k (ρ.sets d c) b i):VC T Q C j (⟨d, none, .load 1 false a⟩::l) kill k ρ b i:=
 Zpp hx hw (fun i=>by
  have hs:=hg i
  have hlt:=(List.getElem?_eq_some_iff.1 hc).1
  simp only [Zl, Zcq, ha, loadAt, behind, hs, Option.bind_some, slice?]
  rw [if_pos (by omega)]
  simpa using hc) h
theorem C_loadP {d:Option Nat} {a:Opd} {t n:Nat} {cs:List PV} (hx:C.idx j=none) (hw:C.away j ⟨d, none, .load n true a⟩=true) (ha:a.get ρ=some (.ptr t 0)) (hg:∀i, (C.S i).get t=some (.var cs)) (hl:cs.length=n) (h:VC T Q C (j+1) l kill k (ρ.sets d (.agg cs)) b i):VC T Q C j (⟨d, none, .load n true a⟩::l) kill k ρ b i:=
 Zpp hx hw (fun i=>by
  have hs:=hg i
  simp only [Zl, Zcq, ha, loadAt, behind, hs]
  subst hl
  simp [slice?]) h
theorem C_call {d:Option Nat} {f:Opd} {xs:List Opd} {g:Nat} {caps vals args:List PV} {r:PV} (hx:C.idx j=none) (hw:C.away j ⟨d, none, .call f xs⟩=true) (hf:f.get ρ=some (.func g caps)) (hxs:Zqr ρ xs=some vals) (hv:∀look, Z2r false look (vals++caps) args) (hc:T.R (.call g args r)) (h:VC T Q C (j+1) l kill k (ρ.sets d r) b i):VC T Q C j (⟨d, none, .call f xs⟩::l) kill k ρ b i:=fun e he=>by
 obtain ⟨ρ1, b1, i1, h1, h2⟩:=h _ (he.sets d r)
 exact ⟨_, _, _, .dlcCall _ _ _ _ _ _ _ _ _ _ _ _ _ _ _ _ hx hw rfl rfl (Opd.ev_of he hf) (fun i=>by rw [Z6i he hxs];exact hv _) hc h1, h2⟩
theorem Zki {d:Option Nat} {op:PI} {p:PV} (hx:C.idx j=some i) (hw:C.away j ⟨d, none, op⟩=true) (hl:C.link i ⟨d, none, op⟩=true) (hd:d=C.d i) (hs:C.stores i=false) (hq:Z13 (C.S i) ρ op=some (p, C.S (i+1))) (h:VC T Q C (j+1) l kill k (ρ.sets d p) b (i+1)):VC T Q C j (⟨d, none, op⟩::l) kill k ρ b i:=fun r hr=>by
 obtain ⟨ρ1, b1, i1, h1, h2⟩:=h _ (hr.sets d p)
 exact ⟨_, _, _, .dlcLoud _ _ _ _ _ _ _ p _ _ _ hx hw hl hd hs rfl (Zbe hr hq) h1, h2⟩
theorem Znk {A B:St} {d:Option Nat} {sz bytes:Nat} {z:List PV} {s x:Opd} {p q r:PV} {src:List (List PV)} (hx:C.idx j=some i) (hw:C.away j ⟨d, none, .append sz bytes z s x⟩=true) (hl:C.link i ⟨d, none, .append sz bytes z s x⟩=true) (hd:d=C.d i) (hs:C.stores i=false) (hA:C.S i=A) (hB:C.S (i+1)=B) (hsv:s.get ρ=some p) (hxv:x.get ρ=some q) (hsrc:Zdk A q=some src) (hok:okEls sz src=true) (hsz:0<sz) (hby:0<bytes)
  (ha:Z0n A sz bytes p src=some (r, B)) (h:VC T Q C (j+1) l kill k (ρ.sets d r) b (i+1)):VC T Q C j (⟨d, none, .append sz bytes z s x⟩::l) kill k ρ b i:=by
 refine Zki hx hw hl hd hs ?_ h
 subst hA hB
 simp only [Z13, hsv, hxv, hsrc, Option.bind_some]
 rw [if_pos ⟨hok, hsz, hby⟩]
 exact ha
theorem Zpo {A:St} {d:Option Nat} {op:PI} {p:PV} (hx:C.idx j=some i) (hw:C.away j ⟨d, none, op⟩=true) (hl:C.link i ⟨d, none, op⟩=true) (hd:d=C.d i) (hs:C.stores i=false) (hA:C.S i=A) (hB:C.S (i+1)=A) (hq:Zl A.get ρ op=some p) (h:VC T Q C (j+1) l kill k (ρ.sets d p) b (i+1)):VC T Q C j (⟨d, none, op⟩::l) kill k ρ b i:=fun r hr=>by
 subst hA
 obtain ⟨ρ1, b1, i1, h1, h2⟩:=h _ (hr.sets d p)
 exact ⟨_, _, _, .dlcMove _ _ _ _ _ _ _ p _ _ _ hx hw hl hd hs rfl hB (Z1w hr hq) h1, h2⟩
theorem C_raw {A:St} {d:Option Nat} {f:Opd} {xs:List Opd} {g:Nat} {caps vals:List PV} (q τ:List (Nat×Tok)) {r:PV} {st1:St} (hx:C.idx j=some i) (hw:C.away j ⟨d, none, .call f xs⟩=true) (hl:C.link i ⟨d, none, .call f xs⟩=true) (hd:d=C.d i) (hs:C.stores i=false) (hA:C.S i=A) (hf:f.get ρ=some (.func g caps)) (hxs:Zqr ρ xs=some vals) (hp:Ze5 A q τ) (hb:st1.base=A.next) (hc:T.R (.raw g (vals++caps) (Z3e A τ) r st1)) (hB:C.S (i+1)=Z23 A q st1) (h:VC T Q C (j+1) l kill k (ρ.sets d r) b (i+1)):VC T Q C j (⟨d, none, .call f xs⟩::l) kill k ρ b i:=fun e he=>by
 subst hA
 obtain ⟨ρ1, b1, i1, h1, h2⟩:=h _ (he.sets d r)
 exact ⟨_, _, _, .dlcRaw _ _ _ _ _ _ _ _ _ _ _ q τ _ _ _ _ _ hx hw hl hd hs rfl rfl (Opd.ev_of he hf) hp hb hB (by rw [Z6i he hxs];exact hc) h1, h2⟩
theorem Znj {A:St} {d:Option Nat} {f:Opd} {xs:List Opd} {g:Nat} {caps vals:List PV} {r:PV} {st1:St} (hx:C.idx j=some i) (hw:C.away j ⟨d, none, .call f xs⟩=true) (hl:C.link i ⟨d, none, .call f xs⟩=true) (hd:d=C.d i) (hs:C.stores i=false) (hA:C.S i=A) (hf:f.get ρ=some (.func g caps)) (hxs:Zqr ρ xs=some vals) (hc:T.R (.raw g (vals++caps) ⟨A.next, A.next, A.toks⟩ r st1)) (hb:st1.base=A.next) (hB:C.S (i+1)=⟨A.base, st1.next, st1.toks⟩) (h:VC T Q C (j+1) l kill k (ρ.sets d r) b (i+1)):VC T Q C j (⟨d, none, .call f xs⟩::l) kill k ρ b i:=
 C_raw [] A.toks hx hw hl hd hs hA hf hxs (fun t=>⟨rfl, .inl rfl⟩) hb hc hB h
end
def Bx.at (C:Bx):Bool→St
 |false=>C.A
 |true=>C.B
section
variable {T:Tb} {Q:Z6k} {k:List Fr}
theorem W_froze {c:PC} {ρ:Env} {st:St} {t g sz:Nat} {es:List (List PV)} (hg:st.get t=some (.row g sz es true)) (h:W T Q (.code c::k) .normal ρ (st.put t (.row g sz es false))):W T Q (.code c::k) .normal ρ st:=by
 obtain ⟨x1, ρ1, st1, h1, h2⟩:=h
 exact ⟨_, _, _, .froze _ _ _ _ _ _ _ _ _ _ hg h1, h2⟩
theorem W_look {c:PC} {ρ ρ':Env} {st st':St} (hw:Seen ρ st ρ' st') (h:W T Q (.code c::k) .normal ρ' st'):W T Q (.code c::k) .normal ρ st:=by
 obtain ⟨x1, ρ1, st1, h1, h2⟩:=h
 exact ⟨_, _, _, .look _ _ _ _ _ _ _ _ hw h1, h2⟩
end
theorem SeenL.refl (st:St) (cs:List PV):SeenL st cs cs:=⟨rfl, fun i c d h1 h2=>by rw [h1] at h2;injection h2 with h2;exact .inl h2⟩
theorem SeenT.refl (st:St):∀k:Tok, SeenT st k k
 |.var cs=>SeenL.refl st cs
 |.row g sz es lv=>⟨rfl, rfl, rfl, rfl, fun j cs ds h1 h2=>by rw [h1] at h2;injection h2 with h2;subst h2;exact SeenL.refl st cs⟩
 |.mp es=>rfl
theorem SeenL.nil (st:St):SeenL st [] []:=SeenL.refl st []
theorem SeenL.cons {st:St} {c d:PV} {cs ds:List PV} (h:Zq9 st c d) (k:SeenL st cs ds):SeenL st (c::cs) (d::ds):=
 ⟨by simp [k.1], fun i x y h1 h2=>by
  cases i with
  |zero=>simp at h1 h2;subst h1 h2;exact h
  |succ i=>simp at h1 h2;exact k.2 i x y h1 h2⟩
section
variable {T:Tb} {Q:Z6k} {k k':List Fr} {x:EX} {ρ:EC} {st:St} {c:PC}
theorem V_froze {t g sz:Nat} {es:List (List PV)} (ha:Zs 200 k x=(.code c::k', .normal)) (hg:st.get t=some (.row g sz es true)) (h:V T Q (.code c::k') .normal ρ (st.put t (.row g sz es false))):V T Q k x ρ st:=
 Z5j ha fun r hr=>W_froze hg (h r hr)
theorem V_lookVar {t:Nat} {cs ds:List PV} (ha:Zs 200 k x=(.code c::k', .normal)) (hg:st.get t=some (.var cs)) (hv:SeenL st cs ds) (h:V T Q (.code c::k') .normal ρ (st.put t (.var ds))):V T Q k x ρ st:=
 Z5j ha fun r hr=>W_look (st':=st.put t (.var ds)) ⟨rfl, rfl, fun u p' hp=>⟨p', hp, .inl rfl⟩, fun u k' hk=>by
  unfold St.get St.put at hk
  simp only [Z0i] at hk
  split at hk
  ·rename_i e
   subst e
   injection hk with hk
   subst hk
   exact ⟨_, hg, hv⟩
  ·exact ⟨k', hk, SeenT.refl st k'⟩⟩ (h r hr)
theorem V_lookRow {t g sz:Nat} {lv:Bool} {es fs:List (List PV)} (ha:Zs 200 k x=(.code c::k', .normal)) (hg:st.get t=some (.row g sz es lv)) (hl:es.length=fs.length) (hv:∀(j:Nat) (cs ds:List PV), es[j]?=some cs→fs[j]?=some ds→SeenL st cs ds) (h:V T Q (.code c::k') .normal ρ (st.put t (.row g sz fs lv))):V T Q k x ρ st:=
 Z5j ha fun r hr=>W_look (st':=st.put t (.row g sz fs lv)) ⟨rfl, rfl, fun u p' hp=>⟨p', hp, .inl rfl⟩, fun u k' hk=>by
  unfold St.get St.put at hk
  simp only [Z0i] at hk
  split at hk
  ·rename_i e
   subst e
   injection hk with hk
   subst hk
   exact ⟨_, hg, rfl, rfl, rfl, hl, hv⟩
  ·exact ⟨k', hk, SeenT.refl st k'⟩⟩ (h r hr)
theorem seen_get {st:St}:∀ {l:List (Nat×PV×PV)} {t:Nat} {p':PV}, Zd t (l.map fun x=>(x.1, x.2.2))=some p'→∃p, (t, p, p')∈l
 |[], t, p', h=>by cases h
 |(u, p, q)::l, t, p', h=>by
  simp only [List.map_cons, Zd] at h
  split at h
  ·rename_i e
   subst e
   injection h with h
   subst h
   exact ⟨p, .head _⟩
  ·obtain ⟨p0, hp⟩:=seen_get (st:=st) h
   exact ⟨p0, .tail _ hp⟩
theorem V_lookEnv (l:List (Nat×PV×PV)) (ha:Zs 200 k x=(.code c::k', .normal)) (hl:∀y∈l, ρ.get y.1=some y.2.1∧Zq9 st y.2.1 y.2.2) (h:V T Q (.code c::k') .normal (Ze (l.map fun x=>(x.1, x.2.2))) st):V T Q k x ρ st:=
 Z5j ha fun r hr=>W_look (ρ':=l.map fun x=>(x.1, x.2.2)) ⟨rfl, rfl, fun u p' hp=>by
  obtain ⟨p, hm⟩:=seen_get (st:=st) hp
  have:=hl _ hm
  exact ⟨p, hr _ _ this.1, this.2⟩, fun u k' hk=>⟨k', hk, SeenT.refl st k'⟩⟩ (h _ (sub_ecOf _))
end
theorem seen_osl {st:St} {t g len sz:Nat} {f:Bool} {es:List (List PV)} (hg:st.get t=some (.row g sz es false)) (hl:len≤es.length) (hp:∀cs∈es.take len, ∀c∈cs, Pl c):Zq9 st (.osl t g 0 len f) (.sl (es.take len) f):=
 .inr (.osl t g 0 len f sz es false (es.take len) hg (.inr rfl) (by omega) (by simp) (fun j cs ds h1 h2=>by
  rw [List.drop_zero, h2] at h1
  injection h1 with h1
  rw [h1]) (fun j cs ds i c d h1 h2 h3 h4=>by
  rw [List.drop_zero, h2] at h1
  injection h1 with h1
  subst h1
  rw [h3] at h4
  injection h4 with h4
  subst h4
  exact (hp ds (List.mem_of_getElem? h2) c (List.mem_of_getElem? h3)).view))
section
variable {T:Tb} {Q:Z6k} {k k':List Fr} {x:EX} {ρ:EC} {st S':St} {c:PC}
theorem Znh {t g sz:Nat} {es:List (List PV)} (hg:st.get t=some (.row g sz es true)) (hS:st.put t (.row g sz es false)=S') (ha:Zs 200 k x=(.code c::k', .normal)) (h:V T Q (.code c::k') .normal ρ S'):V T Q k x ρ st:=by
 subst hS
 exact V_froze ha hg h
theorem Zlj {t:Nat} {cs ds:List PV} (hg:st.get t=some (.var cs)) (hv:SeenL st cs ds) (hS:st.put t (.var ds)=S') (ha:Zs 200 k x=(.code c::k', .normal)) (h:V T Q (.code c::k') .normal ρ S'):V T Q k x ρ st:=by
 subst hS
 exact V_lookVar ha hg hv h
theorem V_lookRowE {t g sz:Nat} {lv:Bool} {es fs:List (List PV)} (hg:st.get t=some (.row g sz es lv)) (hl:es.length=fs.length) (hv:∀(j:Nat) (cs ds:List PV), es[j]?=some cs→fs[j]?=some ds→SeenL st cs ds) (hS:st.put t (.row g sz fs lv)=S') (ha:Zs 200 k x=(.code c::k', .normal)) (h:V T Q (.code c::k') .normal ρ S'):V T Q k x ρ st:=by
 subst hS
 exact V_lookRow ha hg hl hv h
end
theorem C_mcall {T:Tb} {Q:Z6k} {C:Chn} {j:Nat} {k:List Fr} {l:List POp} {kill:List Nat} {ρ:EC} {b:Bool} {i:Nat} {A:St} {d:Option Nat} {f:Opd} {xs:List Opd} {g:Nat} {caps vals args:List PV} {r:PV} (hx:C.idx j=some i) (hw:C.away j ⟨d, none, .call f xs⟩=true) (hl:C.link i ⟨d, none, .call f xs⟩=true) (hd:d=C.d i) (hs:C.stores i=false) (hA:C.S i=A) (hB:C.S (i+1)=A) (hf:f.get ρ=some (.func g caps)) (hxs:Zqr ρ xs=some vals) (hv:Z2r false A.get (vals++caps) args) (hc:T.R (.call g args r)) (h:VC T Q C (j+1) l kill k (ρ.sets d r) b (i+1)):VC T Q C j (⟨d, none, .call f xs⟩::l) kill k ρ b i:=fun e he=>by
 subst hA
 obtain ⟨ρ1, b1, i1, h1, h2⟩:=h _ (he.sets d r)
 exact ⟨_, _, _, .dlcMCall _ _ _ _ _ _ _ _ _ _ _ _ _ _ _ _ hx hw hl hd hs rfl hB rfl (Opd.ev_of he hf) (by rw [Z6i he hxs];exact hv) hc h1, h2⟩
theorem C_early {T:Tb} {Q:Z6k} {C:Chn} {j:Nat} {k:List Fr} {l:List POp} {kill:List Nat} {ρ:EC} {b:Bool} {i:Nat} (m:Nat) {d:Nat} {op:PI} {p:PV} (hx:C.idx j=none) (hw:C.away j ⟨some d, none, op⟩=true) (hn:(C.need m).contains d=true) (hm:Nat.ble i m=true) (hq:∀u, u≤m→Zl (C.S u).get ρ op=some p) (h:VC T Q C (j+1) l kill k (ρ.sets (some d) p) b i):VC T Q C j (⟨some d, none, op⟩::l) kill k ρ b i:=fun r hr=>by
 obtain ⟨ρ1, b1, i1, h1, h2⟩:=h _ (hr.sets (some d) p)
 exact ⟨_, _, _, .dlcEarly _ _ _ _ _ _ _ m d p _ _ _ hx hw rfl (by simpa using hn) (Nat.le_of_ble_eq_true hm) rfl (fun u hu=>Z1w hr (hq u hu)) h1, h2⟩
end Go.AM
