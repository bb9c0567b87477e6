/- Each operation of the reckoner does in a memory what it reckons: Go's builtin functions. -/
import Derived.Test.YtpkfimijnkkbjaaGreatJ03
import Derived.Orders
set_option linter.unusedVariables false
namespace Go.Proofs.YtpkfimijnkkbjaaGreat
namespace Ev
section
variable {P:Program} {s s':St} {env:Env} {o:Op} {v:AV}
variable {n b off len:Nat} {α:Type} {c:Call} {φ:bo} {e t:TypeId} {i:TypeInfo} {w:World} {old x:ak} {R:Nat->Prop} {sy sy':Bool} {q:Prop}
theorem Jc2 {y:AV} (h:y.len=some n) (φ:bo): ∃ a c,Jb1 φ y= .slice a n c:=by
 unfold AV.len at h
 split at h<;>first | (cases h;exact ⟨_,_,rfl⟩) | cases h
theorem jK {sz:Nat} {y:AV} {k:List AV->St->eO α} {a:α} (h:l7 s sz y n k= .ok a s'):
  ∃ R vs s1,bC s s1 R∧k vs s1= .ok a s'∧(s1.pre->vs.length=n*sz)∧(∀ D:Nat->Prop,s1.pre->(∀ b o,R b->s.get b=some o->o.aD D)->aR D vs)∧
   (∀ φ w,s1.pre->Fits s R φ w->n≠0-> ∃ Cs len cap,Jb1 φ y= .slice (some Cs) len cap∧ ∀ j u,(az φ vs)[j]?=some u->w.cell? (Cs.add j)=some u)∧(n=0->vs=[]∧s1=s):=by
 unfold l7 at h
 split at h
 ·exact ⟨_,[],s,bC.refl s,h,λ_=>by simp,λD _ _=>trivial,λ_ _ _ _ h=>absurd rfl h,λ_=>⟨rfl,rfl⟩⟩
 ·rename_i n'
  split at h
  ·rename_i b off len df
   split at h
   ·rename_i dP
    have Qq:=Nat.le_of_ble_eq_true dP
    obtain ⟨sy,l,t,q,vs,s1,hg,hq,aQ,h⟩:=mh h
    refine ⟨_,vs,s1,hq,h,λhp=>(aQ hp).1,λD hp hR=> ?_,λφ w hp hf _=> ?_,λh=>by cases h⟩
    ·obtain ⟨h1,h2⟩:=aQ hp
     exact g9 (hR b _ rfl hg) (λi hi=>h2 i (by omega))
    ·obtain ⟨h1,h2⟩:=aQ hp
     have hc:=(hf.holds b _ rfl hg).cells (off:=off) (vs:=vs) (λi hi=>h2 i (by omega))
     unfold AV.sl at df
     split at df
     ·cases df
     ·cases df;exact ⟨_,_,_,rfl,hc⟩
     ·split at df
      ·rename_i hz hk
       cases df
       have ru:=Nat.le_of_ble_eq_true hk
       refine ⟨_,_,_,rfl,?_⟩
       rw [if_neg (by omega)]
       exact hc
      ·cases df
     ·cases df
   ·cases h
  ·cases h
theorem sD {b:Builtin} (hb:c.callee= .builtin b) {args:List AV} (ha:nm env c.args.toList=some args) {ρ:Operand->Value} (hρ:xB φ env ρ (.call c)) (r:Oper) (hr:r.op= .call c) (w:World):
  (execOp ρ r).run P w=(builtin b c.argTypes r.type (c.args.map fun | .const _=>true | _=>false) (az φ args).toArray).run P w:=by
 have h1:=kA (φ:=φ) (ρ:=ρ) ha (λx hx=>hρ x (by simp [Op.operands,Call.operands];exact .inr (by simpa using hx)))
 have h2:c.args.map ρ=(az φ args).toArray:=by rw [<- h1];simp [<- Array.toList_map]
 obtain ⟨_,_,_,_,_,_⟩:=r
 cases hr
 simp [execOp,resolve,hb,invoke,h2]
 rfl
theorem oN {args:List AV} (ha:nm env c.args.toList=some args) {D:Nat->Prop} (cF:nU env (.call c) D):aR D args:=
 oK ha (λx hx=>cF x (by simp [Op.operands,Call.operands];exact .inr (by simpa using hx)))
theorem pX (h:AW P e=true): ∃ z i zz,l6 P e=some z∧P.info? e=some i∧i.zero=some zz∧zz.cells.size=aK P e∧i.size=aK P e∧i.bytes=P.bytesOf e:=by
 unfold AW at h
 split at h
 ·rename_i z hz
  have h':=Nat.eq_of_beq_eq_true h
  rw [jF] at h'
  obtain ⟨_,_,i,zz,hi,qP,S0⟩:=ej hz default (λ_=>⟨0,0⟩)
  refine ⟨z,i,zz,hz,hi,qP,?_,by simp [aK,hi],by simp [Program.bytesOf,hi]⟩
  rw [<- S0,e9]
  simpa [bc] using h'
 ·cases h
theorem sE (h:roomy P e n=true):n*P.bytesOf e<=140737488355328∧n<=maxLen:=by
 unfold roomy at h
 rw [Bool.and_eq_true] at h
 exact ⟨Nat.le_of_ble_eq_true h.1,Nat.le_of_ble_eq_true h.2⟩
theorem gP {ty:TypeId} (ht:P.underlying t=some (.slice e)) (hi:P.info? e=some i) (base:Option Addr) (len cap:Nat) (LG:len<=cap) (a:Option Addr) (c:Nat) (w:World):
  (Builtin.append_ #[t,t] ty #[.slice base len cap,.slice a 0 c]).run P w= .ok (.slice base len cap) w:=by
 cases a<;>cases base<;>simp [Builtin.append_,run_underlying ht,sizeOf,typeInfo,hi,Builtin.lenOf,LG,Builtin.firstCells,loadCells,loadCellsFrom,storeCells]
theorem kC {ow old sz:Nat} {l:List AV} {zz:Value} (hl:aR (· < n) l) (dP:l.length=ow*sz) (hz:zz.cells.size=sz) (hm:ow<=maxLen) (nB:1<=sz):
  cf (AH φ n ⟨w.heap.size,grownCap w ow old e-ow⟩) n (.row false l e (some sz))
   (w.drew.alloc (.cells ((az φ l).toArray++Builtin.zeroCells zz.cells (grownCap w ow old e-ow)) e)):=by
 rw [nS nB]
 simp only [fA]
 rw [cJ (D:=(· < n)) (λi hi=>su _ _ (by omega)) hl]
 have h1:=grownCap_ge w ow old e
 have h2:=grownCap_le_maxLen w ow old e hm
 exact ⟨_,ow,heap_alloc_new w.drew _,by rw [size_zeroCells,hz],dP,by omega⟩
theorem lu (φ:bo) (n b sz ow cap:Nat) (h:ow<=cap):Jb1 (AH φ n ⟨b,cap-ow⟩) (.aF n sz 0 0 ow ow)= .slice (some ⟨b,0,none⟩) ow cap:=by
 unfold Jb1
 simp only [fA]
 congr 1
 ·simp
 ·omega
theorem dH (w:World) (o:Obj):(∀ r,r<w.heap.size->(w.drew.alloc o).heap[r]?=w.heap[r]?)∧AZ w (w.drew.alloc o):=
 ⟨λr hr=>heap_alloc_old w.drew _ hr,by simp,rfl,rfl⟩
theorem ml {s s1:St} (h:bC s s1 R) (hb:R b) (hg:s.get b=some old):
  Sp s ((s1.ft b).made x) (λc=>R c∨c=s.next) (λc=>c=b∨c=s.next) where
 next:=by show s.next<=s1.next+1;rw [h.next];omega
 same c hc:=by
  rw [ga (by show c≠s1.next;rw [h.next];exact λe=>hc (.inr e))]
  show Tr.look deep (Tr.put deep s1.heap b none) c=_
  rw [fY _ _ _ _ _ (λe=>hc (.inl e.symm)),h.heap];rfl
 sub c hc:=hc.elim (λe=> .inl (e▸hb)) .inr
 rd c hc:=hc.elim (λhc=>di _ _ _ (h.rd c hc)) (λhc=>by subst hc;rw [<- h.next];exact dO _ _)
 wr c hc:=hc.elim (λhc=>by subst hc;exact di _ _ _ (dO _ _)) (λhc=>by subst hc;rw [<- h.next];exact dO _ _)
 rdm c hc:=di _ _ _ (h.rdm c hc)
 wrm c hc:=di _ _ _ (di _ _ _ (h.wrm c hc))
 lt c hc hn:=hc.elim (λe=>by subst e;rw [hg] at hn;cases hn) (λe=>by subst e;show s.next<s1.next+1;rw [h.next];omega)
 made c h1 h2:=by change c<s1.next+1 at h2;rw [h.next] at h2;exact .inr (by omega)
 born c h1 h2:=by
  by_cases hc:c=s.next
  ·omega
  ·rw [ga (by show c≠s1.next;rw [h.next];exact hc)] at h2
   by_cases nA:c=b
   ·subst nA;rw [hg] at h1;cases h1
   ·change Tr.look deep (Tr.put deep s1.heap b none) c≠none at h2
    rw [fY _ _ _ _ _ (λe=>nA e.symm),h.heap] at h2
    exact absurd h1 h2
 pre:=h.pre
theorem kD {s s1:St} (h:bC s s1 R) (hg:s.get b=some old) (dA:b<s.next) {w':World} {y:np} (hh:cf (AH φ s.next y) s.next x w')
  (hy:w.heap.size<=y.dp∨y.dp=(φ b).dp) (Tm: ∀ r,r<w.heap.size->r≠(φ b).dp->w'.heap[r]?=w.heap[r]?) (fy:AZ w w'):
  dG s ((s1.ft b).made x) (λc=>c=b∨c=s.next) φ (AH φ s.next y) w w':=by
 have dead: ∀ o,((s1.ft b).made x).get b=some o->False:=by
  intro o ho
  rw [ga (by show b≠s1.next;rw [h.next];omega)] at ho
  have:=fZ _ _ _ _ _ ho
  cases this
 have only: ∀ c,(c=b∨c=s.next)->((s1.ft b).made x).get c≠none->c=s.next:=by
  intro c hc hn
  rcases hc with rfl | rfl
  ·obtain ⟨o,ho⟩:=aZ hn;exact (dead o ho).elim
  ·rfl
 exact {
  eH:=λi hi=>by
   change ¬ (s.next<=i∧i<s1.next+1) at hi
   rw [h.next] at hi
   exact su _ _ (by omega)
  holds:=λc o hc ho=>by
   rcases hc with rfl | rfl
   ·exact (dead o ho).elim
   ·have:((s1.ft b).made x).get (s1.ft b).next=some o:=by show _=_;rw [show (s1.ft b).next=s.next from h.next];exact ho
    rw [mg this];exact hh
  inj:=λc d hc hd gN pO _=>by rw [only c hc gN,only d hd pO]
  source:=λc hc gN=>by
   rw [only c hc gN,fA]
   exact hy.imp id λe=>⟨b,.inl rfl,by rw [hg];simp,e⟩
  frame:=λr hr hc=>Tm r hr λe=>hc b (.inl rfl) (by rw [hg];simp) e.symm
  size:=fy.1,kept:=fy.2 }
theorem cf.yA {l:List AV} {q:Option Nat} (h:cf φ b (.row sy l t q) w):cf φ b (.row sy' l t q) w:=by
 rcases q with _ | _ | q<;>exact h
theorem qY {s s1:St} {t1:TypeId} {zz:Value} {n0 m:Nat} {fP aN:List AV} {Cs:Addr}
  (hu:P.underlying t=some (.slice t1)) (hi:P.info? t1=some i) (qP:i.zero=some zz) (PU:zz.cells.size=aK P t1) (AP:i.size=aK P t1) (DW:i.bytes=P.bytesOf t1) (rO:1<=aK P t1)
  (hq:bC s s1 R) (nD:R b) (pN:s.get b=some (.row sy fP t1 (some (aK P t1)))) (S2:b<s.next) (hH:cf φ b (.row sy fP t1 (some (aK P t1))) w)
  (c3':fP.length=n0*aK P t1) (Ag:aN.length=(m+1)*aK P t1) (kO:(n0+(m+1))*P.bytesOf t1<=140737488355328) (kz:n0+(m+1)<=maxLen) (c5:iP aN=true)
  (hold:aR (· < s.next) (fP++aN)) (gC: ∀ j u,(az φ aN)[j]?=some u->w.cell? (Cs.add j)=some u):
  ∃ φ' w',(∀ ty cap,(Builtin.append_ #[t,t] ty #[Jb1 φ (.aF b (aK P t1) 0 0 n0 n0),.slice (some Cs) (m+1) cap]).run P w= .ok (Jb1 φ' (.aF s.next (aK P t1) 0 0 (n0+(m+1)) (n0+(m+1)))) w')∧
   dG s ((s1.ft b).made (.row sy' (fP++aN) t1 (some (aK P t1)))) (λc=>c=b∨c=s.next) φ φ' w w':=by
 have Gf:(fP++aN).length=(n0+(m+1))*aK P t1:=by rw [List.length_append,c3',Ag,<- Nat.add_mul]
 have xl: ∀ j u,(az φ fP)[j]?=some u->w.cell? ((⟨(φ b).dp,0,none⟩:Addr).add j)=some u:=hH.cells (off:=0) (vs:=fP) (λi hi=>by simp)
 rw [nS rO] at hH
 obtain ⟨rest,n1,fI,P6,hn0,Jaa⟩:=hH
 have YI:n1=n0:=by
  rw [c3'] at hn0
  exact (Nat.eq_of_mul_eq_mul_right (by omega) hn0).symm
 subst YI
 have hx:Jb1 φ (.aF b (aK P t1) 0 0 n1 n1)= .slice (some ⟨(φ b).dp,0,none⟩) n1 (n1+(φ b).fr):=by
  simp [Jb1]
 by_cases DX:m+1<=(φ b).fr
 ·
  have fy:((az φ fP).toArray++rest).size=(n1+(φ b).fr)*aK P t1:=by
   simp [bc,c3',P6,Nat.add_mul]
  have bx:n1*i.size+(az φ aN).length<=((az φ fP).toArray++rest).size:=by
   rw [fy,bc,Ag,AP,<- Nat.add_mul]
   exact Nat.mul_le_mul_right _ (by omega)
  have OZ:(((az φ fP).toArray++rest).toList.take (n1*i.size)++az φ aN++((az φ fP).toArray++rest).toList.drop (n1*i.size+(az φ aN).length)).toArray=
    (az φ (fP++aN)).toArray++(rest.toList.drop ((m+1)*aK P t1)).toArray:=by
   apply Array.ext'
   simp only [Array.toList_append,bZ,AP,bc,Ag]
   have e1:n1*aK P t1=(az φ fP).length:=by rw [bc,c3']
   rw [List.take_append_of_le_length (by simp [e1]),List.drop_append]
   simp [e1]
  refine ⟨AH φ s.next ⟨(φ b).dp,(φ b).fr-(m+1)⟩,w.setRow (φ b).dp ((az φ (fP++aN)).toArray++(rest.toList.drop ((m+1)*aK P t1)).toArray),λty cap=> ?_,kD hq pN S2 ?_ ?_ ?_ ?_⟩
  ·rw [hx]
   have:=run_append_room (P:=P) w t (ty:=ty) t1 i hu hi (φ b).dp n1 (n1+(φ b).fr) _ fI Cs (m+1) cap (az φ aN) (by rw [bc,Ag,AP]) gC (pS c5) (by omega) bx
   rw [this,OZ]
   congr 1
   unfold Jb1
   simp only [fA]
   congr 1
   ·simp
   ·omega
  ·rw [nS rO]
   refine ⟨(rest.toList.drop ((m+1)*aK P t1)).toArray,n1+(m+1),?_,?_,Gf,?_⟩
   ·simp only [fA]
    rw [cJ (D:=(· < s.next)) (λi hi=>su _ _ (by omega)) hold]
    exact setRow_heap w _ _ _ _ _ fI
   ·simp only [fA]
    simp [P6,Nat.sub_mul]
   ·simp only [fA];omega
  ·exact .inr rfl
  ·intro k hk bq
   exact setRow_other w _ k _ bq
  ·exact ⟨Nat.le_of_eq (by unfold World.setRow;simp),rfl,rfl⟩
 ·have tP:n1+(φ b).fr<n1+(m+1):=by omega
  refine ⟨AH φ s.next ⟨w.heap.size,grownCap w (n1+(m+1)) (n1+(φ b).fr) t1-(n1+(m+1))⟩,_,λty cap=> ?_,kD hq pN S2 (kC hold Gf PU kz (by assumption)).yA (.inl (Nat.le_refl _)) (λk hk _=>(dH w _).1 k hk) (dH w _).2⟩
  rw [hx,lu φ s.next w.heap.size (aK P t1) (n1+(m+1)) _ (grownCap_ge _ _ _ _)]
  have:=run_append_grow (P:=P) w t ty t1 i zz hu hi qP ⟨(φ b).dp,0,none⟩ n1 (n1+(φ b).fr) (az φ fP) (by rw [bc,c3',AP]) xl Cs (m+1) cap (az φ aN) (by rw [bc,Ag,AP]) gC tP
   (by simp only [maxLen] at kz;omega) (growslice_fits tP (by rw [DW];exact kO))
  rw [this]
  simp [bZ]
theorem rC {s s1:St} (hq:bC s s1 R) {v:AV} {ins:(Nat->Prop)->Prop} (hv: ∀ D:Nat->Prop,D s.next->v.aD D)
  (hid: ∀ D:Nat->Prop,s1.pre->(∀ c y,R c->s.get c=some y->y.aD D)->x.aD D):nG s ((s1.ft b).made x) (λc=>R c∨c=s.next) (λc=>c=b∨c=s.next) ins (λD=>v.aD D):=by
 intro D hp hD _ hR
 have WW:D s.next:=hD s.next (Nat.le_refl _) (by show s.next<s1.next+1;rw [hq.next];omega)
 refine ⟨hv D WW,λc y hc hg=> ?_⟩
 by_cases AS:c=s.next
 ·subst AS
  have:((s1.ft b).made x).get (s1.ft b).next=some y:=by
   rw [show (s1.ft b).next=s.next from hq.next];exact hg
  rw [mg this]
  exact hid D hp (λc y hc hg=>hR c y (.inl hc) hg)
 ·have nA:=hc.resolve_right AS
  subst nA
  rw [ga (by rw [show (s1.ft c).next=s.next from hq.next];exact AS)] at hg
  have:=fZ _ _ _ _ _ hg
  cases this
theorem Pm {y:AV} {sz:Nat} (h:y.sy sz=some (b,off,len,q)) (φ:bo) (hq:q) (hl:0<len): ∃ cap,Jb1 φ y= .slice (some ⟨(φ b).dp,off,none⟩) len cap:=by
 unfold AV.sy at h
 split at h
 ·cases h;exact ⟨_,rfl⟩
 ·split at h
  ·rename_i hz
   cases h
   unfold Jb1
   rw [if_neg (by omega)]
   exact ⟨_,rfl⟩
  ·cases h
 ·cases h
theorem Gz {y:AV} {sz:Nat} (h:y.sy sz=some (b,off,len,q)) (φ:bo): ∃ a cap,Jb1 φ y= .slice a len cap:=by
 unfold AV.sy at h
 split at h
 ·cases h;exact ⟨_,_,rfl⟩
 ·split at h
  ·cases h;exact ⟨_,_,rfl⟩
  ·cases h
 ·cases h
theorem yB {k:List AV->St->eO α} {a:α} (h:CM s b off n k= .ok a s'):
  ∃ sy l t q vs s1,s.get b=some (.row sy l t q)∧bC s s1 (λc=>c=b)∧(s1.pre->vs.length=n∧ ∀ i,i<n->l[off+i]?=vs[i]?)∧k vs s1= .ok a s':=by
 unfold CM at h
 obtain ⟨x,hg,h⟩:=je h
 split at h
 ·rename_i sy l t q
  refine ⟨sy,l,t,q,_,_,hg,?_,?_,h⟩
  ·rw [fK];exact ⟨rfl,rfl,λc hc=>by subst hc;exact dO _ _,λc hc=>di _ _ _ hc,λ_ hc=>hc,λhc=>hc.1⟩
  ·rw [fK];intro hc
   have hl:=hc.2
   refine ⟨by simp;omega,λi hi=> ?_⟩
   rw [List.getElem?_take_of_lt hi,List.getElem?_drop]
 ·cases h
theorem El (hb:c.callee= .builtin .append) {x y:AV} {u:TypeId} (ha:nm env c.args.toList=some [x,y]) (Pd:c.argTypes.toList=[t,u]) (h:sn P t u x y s= .ok v s'):fL P s s' env (.call c) v:=by
 unfold sn at h
 split at h
 ·cases h
 rename_i e he
 have hu:=jg he
 have run: ∀ (φ:bo) (w w':World) (ρ:Operand->Value) (r:Oper) (q:Value),u=t->r.op= .call c->xB φ env ρ (.call c)->(∀ ty,(Builtin.append_ #[t,t] ty #[Jb1 φ x,Jb1 φ y]).run P w= .ok q w')->(execOp ρ r).run P w= .ok (.value q) w':=by
  intro φ w w' ρ r q xG hr hρ hq
  rw [sD hb ha hρ r hr w]
  have:c.argTypes= #[t,t]:=by rw [<- xG];subst xG;apply Array.ext';rw [Pd]
  rw [this]
  simp [builtin,az,hq]
 split at h
 ·
  rename_i h1 h2 h3 hl
  have xG:=(Nat.eq_of_beq_eq_true h1).symm
  obtain ⟨z,i,zz,hz,hi,qP,_,AP,_⟩:=pX h3
  have cC: ∀ D,nU env (.call c) D->x.aD D:=λD cF=>(oN ha cF).1
  split at h
  ·cases h
   refine bD (λD cF=>cC D cF) (λφ w ρ r hr hρ=> ?_)
   obtain ⟨a,cc,hy⟩:=Jc2 hl φ
   exact run φ w w ρ r _ xG hr hρ (λty=>by rw [hy];exact gP hu hi _ _ _ (Nat.le_refl _) _ _ w)
  ·split at h
   ·rename_i LG
    cases h
    refine bD (λD cF=>cC D cF) (λφ w ρ r hr hρ=> ?_)
    obtain ⟨a,cc,hy⟩:=Jc2 hl φ
    exact run φ w w ρ r _ xG hr hρ (λty=>by rw [hy];exact gP hu hi _ _ _ (Nat.le_of_ble_eq_true LG) _ _ w)
   ·cases h
  ·split at h
   ·rename_i LG
    cases h
    refine bD (λD cF=>cC D cF) (λφ w ρ r hr hρ=> ?_)
    obtain ⟨a,cc,hy⟩:=Jc2 hl φ
    have:=Nat.le_of_ble_eq_true LG
    exact run φ w w ρ r _ xG hr hρ (λty=>by rw [hy];exact gP hu hi _ _ _ (by omega) _ _ w)
   ·cases h
  ·cases h
 ·rename_i m h1 h2 h3 hl
  have xG:=(Nat.eq_of_beq_eq_true h1).symm
  have rO:=Nat.le_of_ble_eq_true h2
  obtain ⟨z,i,zz,hz,hi,qP,PU,AP,DW⟩:=pX h3
  split at h
  ·
   obtain ⟨R,vs,s1,hq,h,dP,hid,gm,_⟩:=jK h
   split at h
   ·rename_i hr vz
    rw [fu] at h
    cases h
    obtain ⟨kO,kz⟩:=sE hr
    rw [hq.next]
    refine gp R hq _ _ (λD hD=>hD) (λD hp _ hR=>hid D hp hR) (λφ w ρ r qN hp hf ho cF hρ=> ?_)
    have hold:aR (· < s.next) vs:=hid _ hp λb o hb hg=>(ho b o hb hg).2
    obtain ⟨Cs,len,cap,hy,gC⟩:=gm φ w hp hf (by omega)
    obtain ⟨a',c',l0⟩:=Jc2 hl φ
    have:len=m+1:=by rw [hy] at l0;cases l0;rfl
    subst this
    have Gf:=dP hp
    refine ⟨⟨w.heap.size,grownCap w (m+1) 0 e-(m+1)⟩,_,?_,kC hold Gf PU kz (by assumption),Nat.le_refl _,(dH w _).1,(dH w _).2⟩
    rw [lu φ s.next w.heap.size (aK P e) (m+1) (grownCap w (m+1) 0 e) (grownCap_ge _ _ _ _)]
    refine run φ w _ ρ r _ xG qN hρ (λty=> ?_)
    rw [hy]
    exact run_append_nil w t ty e i zz hu hi qP Cs (m+1) cap (az φ vs) (by rw [bc,Gf,AP]) gC (by omega) (by simp only [maxLen] at kz;omega) (by rw [DW];omega)
   ·cases h
  ·
   rename_i b off gB LN
   split at h
   ·cases h
   ·rename_i DX
    have tP:LN<gB+(m+1):=by
     rcases Nat.lt_or_ge LN (gB+(m+1)) with h' | h'
     ·exact h'
     ·rw [Nat.ble_eq_true_of_le h'] at DX;cases DX
    obtain ⟨R1,fP,s1,lX,h,uc,xg,ot,Tt⟩:=jK h
    obtain ⟨R2,aN,s2,D4,h,P1,ZX,SI,_⟩:=jK h
    split at h
    ·rename_i hr vz
     rw [fu] at h
     cases h
     obtain ⟨kO,kz⟩:=sE hr
     have hq:=lX.trans D4
     rw [hq.next]
     have hid: ∀ D:Nat->Prop,s2.pre->(∀ b y,(R1 b∨R2 b)->s.get b=some y->y.aD D)->aR D (fP++aN):=λD hp hR=>
      cT.2 ⟨xg D (D4.pre hp) (λb y hb hg=>hR b y (.inl hb) hg),ZX D hp (λb y hb hg=>hR b y (.inr hb) (by rw [<- lX.get];exact hg))⟩
     refine gp _ hq _ _ (λD hD=>hD) (λD hp _ hR=>hid D hp hR) (λφ w ρ r qN hp hf ho cF hρ=> ?_)
     have hold:aR (· < s.next) (fP++aN):=hid _ hp λb o hb hg=>(ho b o hb hg).2
     have FW:Fits s1 R2 φ w:=⟨λc o hc hg=>hf.holds c o (.inr hc) (by rw [<- lX.get];exact hg),λc d hc hd gN pO=>hf.inj c d (.inr hc) (.inr hd) (by rw [<- lX.get];exact gN) (by rw [<- lX.get];exact pO)⟩
     obtain ⟨Cs,len,cap,hy,gC⟩:=SI φ w hp FW (by omega)
     obtain ⟨a',c',l0⟩:=Jc2 hl φ
     have:len=m+1:=by rw [hy] at l0;cases l0;rfl
     subst this
     have Ag:=uc (D4.pre hp)
     have V3:=P1 hp
     have xl: ∀ j u,(az φ fP)[j]?=some u->w.cell? ((⟨(φ b).dp,off,none⟩:Addr).add j)=some u:=by
      by_cases h0:gB=0
      ·rw [(Tt h0).1];intro j u hj;simp [az] at hj
      ·obtain ⟨Jap,FT,CF,xk,VD⟩:=ot φ w (D4.pre hp) (hf.mono λb hb=> .inl hb) h0
       simp only [Jb1] at xk
       cases xk
       exact VD
     have Gf:(fP++aN).length=(gB+(m+1))*aK P e:=by rw [List.length_append,Ag,V3,<- Nat.add_mul]
     refine ⟨⟨w.heap.size,grownCap w (gB+(m+1)) LN e-(gB+(m+1))⟩,_,?_,kC hold Gf PU kz (by assumption),Nat.le_refl _,(dH w _).1,(dH w _).2⟩
     rw [lu φ s.next w.heap.size (aK P e) (gB+(m+1)) (grownCap w (gB+(m+1)) LN e) (grownCap_ge _ _ _ _)]
     refine run φ w _ ρ r _ xG qN hρ (λty=> ?_)
     rw [hy]
     have:=run_append_grow (P:=P) w t ty e i zz hu hi qP ⟨(φ b).dp,off,none⟩ gB LN (az φ fP) (by rw [bc,Ag,AP]) xl Cs (m+1) cap (az φ aN) (by rw [bc,V3,AP]) gC tP
      (by simp only [maxLen] at kz;omega) (growslice_fits tP (by rw [DW];exact kO))
     simp only [Jb1]
     rw [this]
     simp [bZ]
    ·cases h
  ·
   rename_i b z' gB FH
   split at h
   ·rename_i Ea ht0
    have SN:=Nat.eq_of_beq_eq_true Ea
    have ZF:=Nat.eq_of_beq_eq_true ht0
    subst SN ZF
    obtain ⟨R1,aN,s1,lX,h,uc,xg,ot,_⟩:=jK h
    obtain ⟨ob,ki,h⟩:=je h
    split at h
    ·rename_i fP t1 z1
     split at h
     ·rename_i c1 c2 c3 c4 c5
      have Mj:=Nat.eq_of_beq_eq_true c1
      have c2':=Nat.eq_of_beq_eq_true c2
      have c3':=Nat.eq_of_beq_eq_true c3
      rw [jF] at c3'
      subst Mj c2'
      obtain ⟨kO,kz⟩:=sE c4
      have Qc:(ee (mark (s1.seen b).wr b) λw=>iu (⟨Tr.put deep (s1.seen b).heap b none,(s1.seen b).next,(s1.seen b).rd,w,(s1.seen b).pre,(s1.seen b).AG⟩:St) (.row false (fP++aN) t1 (some (aK P t1))) λb'=>AV.aF b' (aK P t1) 0 0 (gB+(m+1)) (gB+(m+1)))= .ok v s':=h
      rw [dN,fu] at Qc
      cases Qc
      have hq:=lX.trans (bC.seen s1 b)
      have pN:s.get b=some (.row false fP t1 (some (aK P t1))):=by rw [<- lX.get];exact ki
      have eP:(s1.seen b).next=s.next:=hq.next
      have hid: ∀ D:Nat->Prop,s1.pre->(∀ c y,(R1 c∨c=b)->s.get c=some y->y.aD D)->aR D (fP++aN):=λD hp hR=>
       cT.2 ⟨hR b _ (.inr rfl) pN,xg D hp (λc y hc hg=>hR c y (.inl hc) hg)⟩
      show fL P s (((s1.seen b).ft b).made _) env (.call c) _
      rw [eP]
      refine ⟨_,_,ml hq (.inr rfl) pN,?_,?_⟩
      ·intro D hp hD cF hR
       have WW:D s.next:=hD s.next (Nat.le_refl _) (by show s.next<(s1.seen b).next+1;rw [eP];omega)
       refine ⟨WW,λc y hc hg=> ?_⟩
       by_cases AS:c=s.next
       ·subst AS
        have:(((s1.seen b).ft b).made (.row false (fP++aN) t1 (some (aK P t1)))).get ((s1.seen b).ft b).next=some y:=by
         rw [show ((s1.seen b).ft b).next=s.next from eP];exact hg
        rw [mg this]
        exact hid D hp (λc y hc hg=>hR c y (.inl hc) hg)
       ·have nA:=hc.resolve_right AS
        subst nA
        rw [ga (by rw [show ((s1.seen c).ft c).next=s.next from eP];exact AS)] at hg
        have:=fZ _ _ _ _ _ hg
        cases this
      ·intro φ w ρ r qN hp hf ho cF hρ
       have ua:s1.pre:=hp
       have hold:aR (· < s.next) (fP++aN):=hid _ ua λc o hc hg=>(ho c o (.inl hc) hg).2
       obtain ⟨Cs,len,cap,hy,gC⟩:=ot φ w ua (hf.mono λc hc=> .inl (.inl hc)) (by omega)
       obtain ⟨a',c',l0⟩:=Jc2 hl φ
       have:len=m+1:=by rw [hy] at l0;cases l0;rfl
       subst this
       obtain ⟨φ',w',h4,h5⟩:=qY (sy':=false) hu hi qP PU AP DW rO hq (.inr rfl) pN (ho b _ (.inl (.inr rfl)) pN).1 (hf.holds b _ (.inl (.inr rfl)) pN) c3' (uc ua) kO kz c5 hold gC
       exact ⟨φ',w',_,run φ w w' ρ r _ xG qN hρ (λty=>by rw [hy];exact h4 ty cap),rfl,h5⟩
     ·cases h
    ·cases h
   ·cases h
  ·
   rename_i b z' gB FH
   split at h
   ·rename_i Ea
    have SN:=Nat.eq_of_beq_eq_true Ea
    subst SN
    obtain ⟨R1,aN,s1,lX,h,uc,xg,ot,_⟩:=jK h
    obtain ⟨ob,ki,h⟩:=je h
    split at h
    ·rename_i sy fP t1 z1
     split at h
     ·rename_i c1 c2 c5
      have Mj:=Nat.eq_of_beq_eq_true c1
      have c2':=Nat.eq_of_beq_eq_true c2
      subst Mj c2'
      have nK:(ask (s1.seen b) (gB=FH∧fP.length=gB*aK P t1∧(gB+(m+1))*P.bytesOf t1<=room∧gB+(m+1)<=maxLen))=_:=fK _ _
      rw [nK] at h
      simp only [dN] at h
      rw [fu] at h
      cases h
      have hqa:=bC.lp (s1.seen b) (gB=FH∧fP.length=gB*aK P t1∧(gB+(m+1))*P.bytesOf t1<=room∧gB+(m+1)<=maxLen)
      generalize Jal:(ask (s1.seen b) (gB=FH∧fP.length=gB*aK P t1∧(gB+(m+1))*P.bytesOf t1<=room∧gB+(m+1)<=maxLen))=s2 at*
      have hq:=(lX.trans (bC.seen s1 b)).trans hqa
      have pN:s.get b=some (.row sy fP t1 (some (aK P t1))):=by rw [<- lX.get];exact ki
      have eP:s2.next=s.next:=hq.next
      have kn:s2.pre->s1.pre∧gB=FH∧fP.length=gB*aK P t1∧(gB+(m+1))*P.bytesOf t1<=room∧gB+(m+1)<=maxLen:=by
       intro hp;rw [nK] at hp;exact ⟨hp.1,hp.2⟩
      have hid: ∀ D:Nat->Prop,s2.pre->(∀ c y,((R1 c∨c=b)∨False)->s.get c=some y->y.aD D)->aR D (fP++aN):=λD hp hR=>
       cT.2 ⟨hR b _ (.inl (.inr rfl)) pN,xg D (kn hp).1 (λc y hc hg=>hR c y (.inl (.inl hc)) hg)⟩
      have Tg:(⟨Tr.put deep (s1.seen b).heap b none,(s1.seen b).next,(s1.seen b).rd,mark (s1.seen b).wr b,(s1.seen b).pre∧(gB=FH∧fP.length=gB*aK P t1∧(gB+(m+1))*P.bytesOf t1<=room∧gB+(m+1)<=maxLen),(s1.seen b).AG⟩:St)=s2.ft b:=by rw [nK];rfl
      rw [Tg]
      rw [show (s2.ft b).next=s.next from eP]
      refine ⟨_,_,ml hq (.inl (.inr rfl)) pN,rC hq (λD hD=>hD) hid,?_⟩
      intro φ w ρ r qN hp hf ho cF hρ
      obtain ⟨ua,dA,c3',kO,kz⟩:=kn hp
      subst dA
      have hold:aR (· < s.next) (fP++aN):=hid _ hp λc o hc hg=>(ho c o (.inl hc) hg).2
      obtain ⟨Cs,len,cap,hy,gC⟩:=ot φ w ua (hf.mono λc hc=> .inl (.inl (.inl hc))) (by omega)
      obtain ⟨a',c',l0⟩:=Jc2 hl φ
      have:len=m+1:=by rw [hy] at l0;cases l0;rfl
      subst this
      obtain ⟨φ',w',h4,h5⟩:=qY (sy':=true) hu hi qP PU AP DW rO hq (.inl (.inr rfl)) pN (ho b _ (.inl (.inl (.inr rfl))) pN).1 (hf.holds b _ (.inl (.inl (.inr rfl))) pN) c3' (uc ua) kO kz c5 hold gC
      exact ⟨φ',w',_,run φ w w' ρ r _ xG qN hρ (λty=>by rw [hy];exact h4 ty cap),rfl,h5⟩
     ·cases h
    ·cases h
   ·cases h
  ·cases h
 ·
  rename_i h1 h2 h3 hl
  have xG:=(Nat.eq_of_beq_eq_true h1).symm
  have rO:=Nat.le_of_ble_eq_true h2
  obtain ⟨z,i,zz,hz,hi,qP,PU,AP,DW⟩:=pX h3
  split at h
  ·rename_i b off b' lb len q V1
   rw [fK] at h
   have cC: ∀ D,nU env (.call c) D->D b:=λD cF=>(oN ha cF).1
   split at h
   ·rename_i hh n r w p oo he
    injection he with e1 e2 e3 e4 e5 e6
    subst e1 e2 e3 e4 e5
    injection h with hv AR
    subst hv AR
    refine cU (λ_=>False) ⟨rfl,rfl,λ_ h=>h.elim,λ_ h=>h,λ_ h=>h,λh=>h.1.1⟩ (λD _ cF _=>cC D cF) (λφ w ρ r hr hp _ hρ=> ?_)
    obtain ⟨a,cap,hy⟩:=Gz V1 φ
    have TG:len=0:=hp.2
    subst TG
    exact run φ w w ρ r _ xG hr hρ (λty=>by rw [hy];exact gP hu hi _ _ _ (Nat.le_refl _) _ _ w)
   ·rename_i hh n r w p oo he
    injection he with e1 e2 e3 e4 e5 e6
    subst e1 e2 e3 e4 e5
    obtain ⟨sy,l,t',qq,vs,s1,hg,lX,aQ,h⟩:=yB h
    rw [fu] at h
    cases h
    have QA:bC s ⟨s.heap,s.next,s.rd,s.wr,(s.pre∧q)∧0<len∧len*P.bytesOf e<=room∧len<=maxLen,oo⟩ (λ_=>False):=⟨rfl,rfl,λ_ h=>h.elim,λ_ h=>h,λ_ h=>h,λh=>h.1.1⟩
    have hq:=QA.trans lX
    have pN:s.get b'=some (.row sy l t' qq):=hg
    rw [hq.next]
    have hid: ∀ D:Nat->Prop,s1.pre->(∀ c y,(False∨c=b')->s.get c=some y->y.aD D)->aR D vs:=λD hp hR=>by
     obtain ⟨k1,k2⟩:=aQ hp
     exact g9 (hR b' _ (.inr rfl) pN) (λi hi=>k2 i (by omega))
    refine gp _ hq _ _ (λD hD=>hD) (λD hp _ hR=>hid D hp hR) (λφ w ρ r qN hp hf ho cF hρ=> ?_)
    have hold:aR (· < s.next) vs:=hid _ hp λc o hc hg=>(ho c o hc hg).2
    obtain ⟨⟨_,Ys⟩,fj,kO,kz⟩:=lX.pre hp
    obtain ⟨k1,k2⟩:=aQ hp
    obtain ⟨cap,hy⟩:=Pm V1 φ Ys fj
    have gC:=(hf.holds b' _ (.inr rfl) pN).cells (off:=lb) (vs:=vs) (λi hi=>k2 i (by omega))
    refine ⟨⟨w.heap.size,grownCap w len 0 e-len⟩,_,?_,(kC (old:=0) hold k1 PU kz (by assumption)).yA,Nat.le_refl _,(dH w _).1,(dH w _).2⟩
    have hcg:Jb1 (AH φ s.next ⟨w.heap.size,grownCap w len 0 e-len⟩) (.ae s.next (aK P e) 0 0 len len)= .slice (some ⟨w.heap.size,0,none⟩) len (grownCap w len 0 e):=lu φ s.next w.heap.size (aK P e) len (grownCap w len 0 e) (grownCap_ge _ _ _ _)
    rw [hcg]
    refine run φ w _ ρ r _ xG qN hρ (λty=> ?_)
    rw [hy]
    have:=run_append_grow (P:=P) w t ty e i zz hu hi qP ⟨(φ b).dp,off,none⟩ 0 0 [] (by simp) (λj v hj=>by simp at hj) ⟨(φ b').dp,lb,none⟩ len cap (az φ vs) (by rw [bc,k1,AP]) gC (by omega)
     (by simp only [maxLen] at kz;omega) (growslice_fits (by omega) (by rw [DW,Nat.zero_add];simp only [room] at kO;omega))
    simp only [Jb1]
    rw [this]
    simp
   ·cases h
  ·cases h
 ·cases h
theorem uT (φ:bo) (w:World): ∀ (l:List AV) (sy:Bool) (k:IntKind) (a:Int) (r:AV),qX sy k a l=some r->((az φ l).foldlM Builtin.max2 (.int k a)).run P w= .ok (Jb1 φ r) w
 | [],sy,k,a,r,h=>by
  simp only [qX] at h
  cases h
  cases sy<;>simp [az,mkI,Jb1]
 | y::l,sy,k,a,r,h=>by
  simp only [qX] at h
  cases hn:y.num with
  | none=>rw [hn] at h;cases h
  | some q=>
   obtain ⟨sy',k',b⟩:=q
   rw [hn] at h
   have:=uT φ w l _ k _ r h
   simp only [az,List.foldlM_cons]
   rw [eI hn φ]
   simp [Builtin.max2,this]
theorem uU (D:Nat->Prop): ∀ (l:List AV) (sy:Bool) (k:IntKind) (a:Int) (r:AV),qX sy k a l=some r->r.aD D
 | [],sy,k,a,r,h=>by simp only [qX] at h;cases h;cases sy<;>trivial
 | y::l,sy,k,a,r,h=>by
  simp only [qX] at h
  cases hn:y.num with
  | none=>rw [hn] at h;cases h
  | some q=>rw [hn] at h;exact uU D l _ k _ r h
set_option maxHeartbeats 1000000 in
theorem T3 {bi:Builtin} (hb:c.callee= .builtin bi) {args:List AV} (ha:nm env c.args.toList=some args) (h:pR P bi c.argTypes.toList args s= .ok v s'):fL P s s' env (.call c) v:=by
 unfold pR at h
 split at h
 ·
  rename_i t x Pd
  have run: ∀ (φ:bo) (w:World) (ρ:Operand->Value) (r:Oper) (q:Value),r.op= .call c->xB φ env ρ (.call c)->(∀ ty,(Builtin.len_ #[t] ty #[Jb1 φ x]).run P w= .ok q w)->(execOp ρ r).run P w= .ok (.value q) w:=by
   intro φ w ρ r q hr hρ hq
   rw [sD hb ha hρ r hr w]
   have:c.argTypes= #[t]:=by apply Array.ext';rw [Pd]
   rw [this]
   simp [builtin,az,hq]
  split at h
  ·rename_i n e _ hu
   cases h
   exact bD (λD _=>trivial) (λφ w ρ r hr hρ=>run φ w ρ r _ hr hρ (λty=>by simp [Builtin.len_,run_underlying hu,goInt,Jb1]))
  ·rename_i e hu
   cases h
   exact bD (λD _=>trivial) (λφ w ρ r hr hρ=>run φ w ρ r _ hr hρ (λty=>by simp [Builtin.len_,run_underlying hu,goInt,Jb1]))
  ·rename_i hu
   cases h
   exact bD (λD _=>trivial) (λφ w ρ r hr hρ=>run φ w ρ r _ hr hρ (λty=>by simp [Builtin.len_,run_underlying hu,goInt,Jb1]))
  ·rename_i hu
   cases h
   exact bD (λD _=>trivial) (λφ w ρ r hr hρ=>run φ w ρ r _ hr hρ (λty=>by simp [Builtin.len_,run_underlying hu,goInt,Jb1]))
  ·rename_i hu
   cases h
   exact bD (λD _=>trivial) (λφ w ρ r hr hρ=>run φ w ρ r _ hr hρ (λty=>by simp [Builtin.len_,run_underlying hu,goInt,Jb1]))
  ·rename_i hu
   cases h
   exact bD (λD _=>trivial) (λφ w ρ r hr hρ=>run φ w ρ r _ hr hρ (λty=>by simp [Builtin.len_,run_underlying hu,goInt,Jb1]))
  ·cases h
 ·rename_i t u x y Pd
  exact El hb ha Pd h
 ·
  rename_i _ x l
  split at h
  ·rename_i sy k a hn
   split at h
   ·rename_i r hm
    cases h
    refine bD (λD _=>uU D l sy k a v hm) (λφ w ρ r hr hρ=> ?_)
    rw [sD hb ha hρ r hr w]
    have:=uT (P:=P) φ w l sy k a v hm
    simp only [builtin,Builtin.max_,az]
    rw [eI hn φ]
    simp [this]
   ·cases h
  ·cases h
 ·
  rename_i t u b off len cap y Pd
  split at h
  ·rename_i e m he xG hl
   have Lv:=(Nat.eq_of_beq_eq_true xG).symm
   have hu:=jg he
   split at h
   ·rename_i h1
    have xE:=Nat.eq_of_beq_eq_true h1
    have nB:(P.info? e).map (·.size)=some 1:=by
     obtain ⟨i,hi,AP⟩:=sv (P:=P) (t:=e) (by omega)
     simp [hi,AP,xE]
    have run: ∀ (φ:bo) (w w':World) (ρ:Operand->Value) (r:Oper) (q:Value),r.op= .call c->xB φ env ρ (.call c)->(∀ ty,(Builtin.copy_ #[t,t] ty #[Jb1 φ (.slice b off len cap),Jb1 φ y]).run P w= .ok q w')->(execOp ρ r).run P w= .ok (.value q) w':=by
     intro φ w w' ρ r q hr hρ hq
     rw [sD hb ha hρ r hr w]
     have:c.argTypes= #[t,t]:=by rw [<- Lv];subst Lv;apply Array.ext';rw [Pd]
     rw [this]
     simp [builtin,az,hq]
    split at h
    ·rename_i Lu
     cases h
     refine bD (λD _=>trivial) (λφ w ρ r hr hρ=>run φ w w ρ r _ hr hρ (λty=> ?_))
     obtain ⟨a,cc,hy⟩:=Jc2 hl φ
     rw [hy]
     have fy:=dF (P:=P) (t:=e) (by omega) w
     cases a<;>simp [Jb1,Builtin.copy_,run_underlying hu,Builtin.lenOf,fy,xE,Builtin.firstCells,loadCells,loadCellsFrom,storeCells,goInt,Lu]
    ·rename_i n Lu
     obtain ⟨R1,vs,s1,lX,h,uc,xg,ot,_⟩:=jK h
     split at h
     ·cases h
     rename_i v0 Zv _
     have P8:v0::Zv≠[]:=by simp
     generalize v0::Zv=vs at*
     obtain ⟨sy,l,t',q,s2,hg,D4,vz,rz,bx,rfl,l',rfl,F1⟩:=uN h P8
     have hq:=lX.trans D4
     have pN:s.get b=some (.row sy l t' q):=by rw [<- lX.get];exact hg
     refine lr _ hq (.inr rfl) pN _ (λD=>trivial) (λD hp _ hR=> ?_) (λφ w ρ r hr hp hf hρ=> ?_)
     ·rw [F1 hp]
      have ho:=hR b _ (.inr rfl) pN
      exact cT.2 ⟨cT.2 ⟨mT ho _,xg D (D4.pre hp) (λc y hc hg=>hR c y (.inl hc) hg)⟩,mU ho _⟩
     ·rw [F1 hp]
      have ua:=D4.pre hp
      obtain ⟨Cs,YN,Jar,hy,gC⟩:=ot φ w ua (hf.mono λc hc=> .inl hc) (by omega)
      obtain ⟨a',c',l0⟩:=Jc2 hl φ
      have:YN=m:=by rw [hy] at l0;cases l0;rfl
      subst this
      have Gf:=uc ua
      rw [xE,Nat.mul_one] at Gf
      obtain ⟨w',h2,h3,h4,h5⟩:=nT (P:=P) rz (hf.holds b _ (.inr rfl) pN) vz (bx hp)
      refine ⟨w',_,run φ w w' ρ r (.int .i64 (n+1:Nat)) hr hρ (λty=> ?_),rfl,h3,h4,Nat.le_of_eq h5.1.symm,h5.2⟩
      have fy:=dF (P:=P) (t:=e) (by omega) w
      have LG:=run_loadCells_list (P:=P) w Cs (az φ vs) gC
      rw [bc,Gf] at LG
      rw [hy]
      simp [Jb1,Builtin.copy_,run_underlying hu,Builtin.lenOf,fy,xE,Builtin.firstCells,Lu,LG,h2,goInt]
   ·cases h
  ·cases h
 ·
  rename_i t u b off len cap y Pd
  split at h
  ·rename_i e he xG
   have Lv:=(Nat.eq_of_beq_eq_true xG).symm
   have hu:=jg he
   have run: ∀ (φ:bo) (w w':World) (ρ:Operand->Value) (r:Oper) (q:Value),r.op= .call c->xB φ env ρ (.call c)->(∀ ty,(Builtin.copy_ #[t,t] ty #[Jb1 φ (.aL b off len cap),Jb1 φ y]).run P w= .ok q w')->(execOp ρ r).run P w= .ok (.value q) w':=by
    intro φ w w' ρ r q hr hρ hq
    rw [sD hb ha hρ r hr w]
    have:c.argTypes= #[t,t]:=by rw [<- Lv];subst Lv;apply Array.ext';rw [Pd]
    rw [this]
    simp [builtin,az,hq]
   split at h
   ·rename_i h1
    have xE:=Nat.eq_of_beq_eq_true h1
    cases h
    refine bD (λD _=>trivial) (λφ w ρ r hr hρ=>run φ w w ρ r _ hr hρ (λty=> ?_))
    have fy:=dF (P:=P) (t:=e) (by omega) w
    simp [Jb1,Builtin.copy_,run_underlying hu,Builtin.lenOf,fy,xE,Builtin.firstCells,storeCells,goInt]
   ·rename_i h1 _
    have xE:=Nat.eq_of_beq_eq_true h1
    split at h
    ·rename_i b' lb m q V1
     obtain ⟨sy1,l1,t1,q1,vs,s1,YK,lX,cb,h⟩:=yB h
     obtain ⟨ob,ki,h⟩:=je h
     split at h
     ·rename_i sy l t' qq
      split at h
      case h_2=>cases h
      rename_i rz
      rw [ma] at h
      injection h with hv AR
      subst hv AR
      have QA:=bC.lp s (q∧m<=len)
      have D4:=bC.lp (s1.seen b) (off+vs.length<=l.length∧ ∀ v∈vs,v.flat=true)
      have hq:=((QA.trans lX).trans (bC.seen s1 b)).trans D4
      have pN:s.get b=some (.row sy l t' qq):=by rw [<- QA.get,<- lX.get];exact ki
      have VU:s.get b'=some (.row sy1 l1 t1 q1):=by rw [<- QA.get];exact YK
      have kn:(ask (s1.seen b) (off+vs.length<=l.length∧ ∀ v∈vs,v.flat=true)).pre->s1.pre∧(off+vs.length<=l.length∧ ∀ v∈vs,v.flat=true):=by rw [fK];exact λh=>h
      have Vu:s1.pre->q∧m<=len:=λhp=>by have:=lX.pre hp;rw [fK] at this;exact this.2
      refine lr _ hq (.inl (.inr rfl)) pN _ (λD=>trivial) (λD hp _ hR=> ?_) (λφ w ρ r hr hp hf hρ=> ?_)
      ·obtain ⟨ua,_⟩:=kn hp
       obtain ⟨k1,k2⟩:=cb ua
       have ho:=hR b _ (.inl (.inr rfl)) pN
       have DZ:=hR b' _ (.inl (.inl (.inr rfl))) VU
       exact cT.2 ⟨cT.2 ⟨mT ho _,g9 DZ (λi hi=>k2 i (by omega))⟩,mU ho _⟩
      ·obtain ⟨ua,bx,AE⟩:=kn hp
       obtain ⟨k1,k2⟩:=cb ua
       obtain ⟨Ys,hml⟩:=Vu ua
       have vz:iP vs=true:=by
        have: ∀ l:List AV,(∀ v∈l,v.flat=true)->iP l=true:=by
         intro l
         induction l with
         | nil=>intro _;rfl
         | cons a l ih=>intro h;simp only [iP];rw [h a (by simp)];exact ih λv hv=>h v (by simp [hv])
        exact this vs AE
       have gC:=(hf.holds b' _ (.inl (.inl (.inr rfl))) VU).cells (off:=lb) (vs:=vs) (λi hi=>k2 i (by omega))
       obtain ⟨w',h2,h3,h4,h5⟩:=nT (P:=P) rz (hf.holds b _ (.inl (.inr rfl)) pN) vz bx
       refine ⟨w',_,run φ w w' ρ r (.int .i64 (m:Nat)) hr hρ (λty=> ?_),rfl,h3.yA,h4,Nat.le_of_eq h5.1.symm,h5.2⟩
       have fy:=dF (P:=P) (t:=e) (by omega) w
       have Lu:Nat.min m len=m:=Nat.min_eq_left hml
       by_cases hm0:m=0
       ·subst hm0
        have P8:vs=[]:=List.eq_nil_of_length_eq_zero k1
        subst P8
        obtain ⟨a,rH,hy⟩:=Gz V1 φ
        rw [hy]
        simp only [az,storeCells] at h2
        have hw:w=w':=by simpa using h2
        subst hw
        cases a<;>simp [Jb1,Builtin.copy_,run_underlying hu,Builtin.lenOf,fy,xE,Builtin.firstCells,loadCells,loadCellsFrom,storeCells,goInt]
       ·obtain ⟨rH,hy⟩:=Pm V1 φ Ys (by omega)
        have LG:=run_loadCells_list (P:=P) w ⟨(φ b').dp,lb,none⟩ (az φ vs) gC
        rw [bc,k1] at LG
        rw [hy]
        simp [Jb1,Builtin.copy_,run_underlying hu,Builtin.lenOf,fy,xE,Builtin.firstCells,Lu,LG,h2,goInt]
     ·cases h
    ·cases h
   ·cases h
  ·cases h
 ·cases h
theorem QM (h:dQ P env o s= .ok v s'):fL P s s' env o v:=by
 cases o with
 | move x=>exact Mq h
 | assign x=>exact Ej h
 | pick c a b=>exact Mr h
 | alloc e=>exact Gv h
 | box e x=>exact QJ h
 | build t ps=>exact Gx h
 | buildSlice t n ps=>exact um h
 | load t a=>exact Mv h
 | store t a x=>exact Gw h
 | nilCheck x=>exact xT h
 | binOp op t x y yt=>exact Gu h
 | unOp op t x=>exact Ms h
 | convert a b x=>exact A1 h
 | makeInterface t x=>exact pU h
 | makeFunc f a b=>exact xU h
 | makeMap t r=>cases r with
  | none=>exact A3 h
  | some r=>cases h
 | makeSlice t l c=>exact vN h
 | slice t x a b c=>exact Gy h
 | fieldAddr t x f=>exact vK h
 | field t x f=>exact Gp h
 | indexAddr t x i=>exact vL h
 | index t x i=>exact Gq h
 | lookup t x i ok=>exact Ek h
 | mapUpdate t m k x=>exact vO h
 | typeAssert x t u ok=>cases ok with
  | true=>exact uo h
  | false=>cases h
 | extract x i=>exact A2 h
 | _=>cases h
end
section
variable {P:Program} {s s1 s2 s':St} {env cH xo cm:Env} {o:Op} {v:AV}
variable {f:FuncId} {t:Tmp} {ops:Array Oper} {r:Oper} {D:Nat->Prop} {φ:bo} {a:Act} {nt:Nat} {dst:Option Tmp}
def iv (P:Program) (call:FuncId->List AV->St->eO AV):Prop:=
 ∀ f args s v s',call f args s= .ok v s'->(∃ fn,P.funcs[f]?=some fn∧fn.body.isSome=true)∧
  ∃ R W,Sp s s' R W∧nG s s' R W (λD=>aR D args) (λD=>v.aD D)∧
   ∀ φ w,s'.pre->Fits s R φ w->l9 s R->aR (· < s.next) args->
    Calls P f (az φ args).toArray w (λe w'=> ∃ φ',e= .returned (Jb1 φ' v)∧dG s s' W φ φ' w w')
def gF (P : Program) : Prop := ∀ (f : Nat) (fn : Func), P.funcs[f]? = some fn -> (fn.name == "runtime.NumGoroutine") = false
def CQ (P:Program) (s s':St) (env:Env) (o:Op) (v:AV):Prop:=
 ∃ R W:Nat->Prop,Sp s s' R W∧nG s s' R W (nU env o) (λD=>v.aD D)∧
  ∀ (φ:bo) (w:World) (a:Act) (r:Oper) (K:Act->World->Prop) (Q:Exit->Act->World->Prop),r.op=o->s'.pre->Fits s R φ w->l9 s R->nU env o (· < s.next)->xB φ env a.eval o->
   (∀ φ' w',dG s s' W φ φ' w w'->K (a.put r.dst (Jb1 φ' v)) w')->r.wp P a w K Q
theorem fL.any (h:fL P s s' env o v):CQ P s s' env o v:=by
 obtain ⟨R,W,h1,h2,h3⟩:=h
 refine ⟨R,W,h1,h2,λφ w a r K Q hr hp hf ho cF hρ hK=> ?_⟩
 obtain ⟨φ',w',nx,h4,h5,h6⟩:=h3 φ w a.eval r hr hp hf ho cF hρ
 have:=hK φ' w' h6
 unfold Oper.wp
 rw [h4]
 unfold Gn at h5
 split at h5
 ·cases h5;exact this
 ·injection h5 with h5
  simp only [Oper.upon_skip]
  rw [h5];exact this
 ·cases h5
theorem jH (hn:gF P) (hf: ∃ fn,P.funcs[f]?=some fn∧fn.body.isSome=true) (args:Array Value) (w:World):(callFunc f args).run P w= .ok (.enter f args) w:=by
 obtain ⟨fn,h1,h2⟩:=hf
 have h3:=hn f fn h1
 have h4:fn.body.isNone=false:=by cases hb:fn.body with | none=>rw [hb] at h2;cases h2 | some b=>rfl
 have h5 : ¬ (fn.name = "runtime.NumGoroutine") := by simpa using h3
 have h6: ¬ (fn.body=none):=by intro h;rw [h] at h4;cases h4
 simp [callFunc,h1,h5,h6]
theorem uV {call:FuncId->List AV->St->eO AV} (hc:iv P call) {args:List AV} (h:call f args s= .ok v s') (et: ∀ D,nU env o D->aR D args)
  (jJ: ∀ (φ:bo) (w:World) (ρ:Operand->Value) (r:Oper),r.op=o->xB φ env ρ o->(execOp ρ r).run P w= .ok (.enter f (az φ args).toArray) w):CQ P s s' env o v:=by
 obtain ⟨_,R,W,h1,h2,h3⟩:=hc f args s v s' h
 refine ⟨R,W,h1,λD hp hD cF hR=>h2 D hp hD (et D cF) hR,λφ w a r K Q hr hp hf ho cF hρ hK=> ?_⟩
 unfold Oper.wp
 rw [jJ φ w a.eval r hr hρ]
 rw [Oper.upon_enter]
 refine (h3 φ w hp hf ho (et _ cF)).mono ?_
 rintro e w' ⟨φ',rfl,hm⟩
 exact hK φ' w' hm
theorem GA {t:TypeId} {name:String} (h:Gk P t name=some f) (v:Value) (w:World) (n:Nat):(method (n+1) t v name).run P w= .ok (f,v) w:=by
 unfold Gk at h
 split at h
 ·cases h
 ·rename_i i hi
  split at h
  ·cases h
  ·rename_i m hm
   split at h
   ·rename_i f' pr PY lW
    have hp:m.path= #[]:=by apply Array.ext';rw [PY]
    simp only [method]
    simp [typeInfo,hi,hm,PY,follow,lW]
    split at h
    ·rename_i e hu
     cases h
     simp [receiverAt,run_underlying hu,Place.get]
    ·cases h
    ·cases h
    ·rename_i d _ _ hu
     cases h
     cases d<;>simp_all [receiverAt,run_underlying hu,Place.get]
    ·cases h
   ·cases h
theorem yC {call:FuncId->List AV->St->eO AV} (hn:gF P) (hc:iv P call) {c:Call} (h:sq P call env c s= .ok v s'):CQ P s s' env (.call c) v:=by
 unfold sq at h
 split at h
 ·cases h
 ·rename_i args ha
  have mem: ∀ x∈c.args.toList,x∈(Op.call c).operands.toList:=λx hx=>by
   simp [Op.operands,Call.operands];exact .inr (by simpa using hx)
  split at h
  ·rename_i b hb
   exact (T3 hb ha h).any
  ·rename_i f jV
   have mf:f∈(Op.call c).operands.toList:=by simp [Op.operands,Call.operands,jV]
   split at h
   ·rename_i g first captured hf
    refine uV hc h (λD cF=> ?_) (λφ w ρ r hr hρ=> ?_)
    ·have h1:=cF f mf _ hf
     exact cT.2 ⟨h1.1,cT.2 ⟨oN ha cF,h1.2⟩⟩
    ·have h1:=hρ f mf _ hf
     have h2:=kA (φ:=φ) (ρ:=ρ) ha (λx hx=>hρ x (mem x hx))
     have h3:c.args.map ρ=(az φ args).toArray:=by rw [<- h2];simp [<- Array.toList_map]
     obtain ⟨lW,_⟩:=hc _ _ _ _ _ h
     obtain ⟨_,_,_,_,_,_⟩:=r
     cases hr
     have:=jH hn lW (az φ (first++(args++captured))).toArray w
     simp only [execOp,resolve,jV,h1,h3]
     simp [Jb1,Deferred.ofValue,invoke]
     rw [<- this]
     congr 2
     simp [bZ]
   ·cases h
  ·rename_i rc name jV
   have mr:rc∈(Op.call c).operands.toList:=by simp [Op.operands,Call.operands,jV]
   split at h
   ·rename_i t u V5
    split at h
    ·rename_i g hm
     refine uV hc h (λD cF=> ?_) (λφ w ρ r hr hρ=> ?_)
     ·have h1:=cF rc mr _ V5
      exact ⟨h1,oN ha cF⟩
     ·have h1:=hρ rc mr _ V5
      have h2:=kA (φ:=φ) (ρ:=ρ) ha (λx hx=>hρ x (mem x hx))
      have h3:c.args.map ρ=(az φ args).toArray:=by rw [<- h2];simp [<- Array.toList_map]
      obtain ⟨lW,_⟩:=hc _ _ _ _ _ h
      obtain ⟨_,_,_,_,_,_⟩:=r
      cases hr
      have:=jH hn lW (az φ (u::args)).toArray w
      have hmt:=GA hm (Jb1 φ u) w (P.types.size+Made.depth-1)
      have fj:0<Made.depth:=by decide
      have hd:P.types.size+Made.depth-1+1=P.types.size+Made.depth:=by omega
      rw [hd] at hmt
      simp only [execOp,resolve,jV,h1,h3]
      simp [Jb1,invoke,callMethod,hmt]
      rw [<- this]
      congr 2
    ·cases h
   ·cases h
theorem GB {call:FuncId->List AV->St->eO AV} (hn:gF P) (hc:iv P call) (h:uG P call env o s= .ok v s'):CQ P s s' env o v:=by
 unfold uG at h
 split at h
 ·exact yC hn hc h
 ·exact (QM h).any
def fc (D:Nat->Prop) (env:Env):Prop:= ∀ t u,env.look t=some u->u.aD D
def oO (φ:bo) (env:Env) (tmps:Array Value):Prop:= ∀ t u,env.look t=some u->tmps[t]?=some (Jb1 φ u)
theorem yD (h:Operand.tmp t∈r.op.operands.toList):t∈ay ops r:=by
 unfold ay
 exact List.mem_append_left _ (List.mem_filterMap.2 ⟨.tmp t,h,rfl⟩)
theorem yE {g:Nat} {want:Bool} (hg:r.guard=some (g,want)) (ht:(match ops[g]? with | some og=>og.dst | none=>none)=some t):t∈ay ops r:=by
 unfold ay
 refine List.mem_append_right _ ?_
 rw [hg]
 simp only
 cases ho:ops[g]? with
 | none=>rw [ho] at ht;cases ht
 | some og=>rw [ho] at ht;simp only at ht ⊢;rw [ht];simp
def Seen (φ:bo) (env:Env) (ops:Array Oper) (r:Oper) (tmps:Array Value):Prop:= ∀ t∈ay ops r,∀ u,env.look t=some u->tmps[t]?=some (Jb1 φ u)
def gQ (D:Nat->Prop) (env:Env) (ops:Array Oper) (r:Oper):Prop:= ∀ t∈ay ops r,∀ u,env.look t=some u->u.aD D
theorem gQ.ins (h:gQ D env ops r):nU env r.op D:=by
 intro x hx u hu
 cases x with
 | tmp t=>exact h t (yD hx) u hu
 | const c=>exact (pT hu (λ_=>⟨0,0⟩)).2 D
 | global g=>cases hu
 | func f=>cases hu;exact ⟨trivial,trivial⟩
theorem oP {x:Operand} {u:AV} (hx: ∀ t,x= .tmp t-> ∀ u,env.look t=some u->a.tmps[t]?=some (Jb1 φ u)) (hu:dM env x=some u):a.eval x=Jb1 φ u:=by
 cases x with
 | tmp t=>
  have:=hx t rfl u hu
  simp [Act.eval,this]
 | const c=>exact (pT hu φ).1.symm
 | global g=>cases hu
 | func f=>cases hu;rfl
theorem Seen.reads (h:Seen φ env ops r a.tmps):xB φ env a.eval r.op:=
 λx hx u hu=>oP (λt ht u hu=>h t (yD (ht▸hx)) u hu) hu
theorem pY {call:FuncId->List AV->St->eO AV} (hn:gF P) (hc:iv P call) (h:nR P call ops r env s= .ok v s'):
  ∃ R W:Nat->Prop,Sp s s' R W∧nG s s' R W (λD=>gQ D env ops r) (λD=>v.aD D)∧
   ∀ (φ:bo) (w:World) (a:Act) (i:Nat) (K:Act->World->Prop) (Q:Exit->Act->World->Prop),ops[i]?=some r->s'.pre->Fits s R φ w->l9 s R->gQ (· < s.next) env ops r->Seen φ env ops r a.tmps->
    (∀ φ' w',dG s s' W φ φ' w w'->K (a.put r.dst (Jb1 φ' v)) w')->wpOp P ops Q i K a w:=by
 have wanted: ∀ {s0:St},uG P call env r.op s0= .ok v s'->bC s s0 (λ_=>False)->(∀ (a:Act) (φ:bo),s0.pre->Seen φ env ops r a.tmps->Region.wanted r (yielded ops a.tmps)=true)->
   ∃ R W:Nat->Prop,Sp s s' R W∧nG s s' R W (λD=>gQ D env ops r) (λD=>v.aD D)∧
   ∀ (φ:bo) (w:World) (a:Act) (i:Nat) (K:Act->World->Prop) (Q:Exit->Act->World->Prop),ops[i]?=some r->s'.pre->Fits s R φ w->l9 s R->gQ (· < s.next) env ops r->Seen φ env ops r a.tmps->
    (∀ φ' w',dG s s' W φ φ' w w'->K (a.put r.dst (Jb1 φ' v)) w')->wpOp P ops Q i K a w:=by
  intro s0 h hq hw
  obtain ⟨R,W,h1,h2,h3⟩:=GB hn hc h
  refine ⟨λb=>False∨R b,λb=>False∨W b,hq.sp.trans h1,?_,?_⟩
  ·refine nG.trans hq.sp h1 (mid:=λD=>gQ D env ops r) (hq.ids λD _ hD _=>hD) ?_
   exact λD hp hD cF hR=>h2 D hp hD cF.ins hR
  ·intro φ w a i K Q hi hp hf ho cF hs hK
   have hf0:Fits s0 R φ w:=⟨λb o hb hg=>hf.holds b o (.inr hb) (by rw [<- hq.get];exact hg),λb c hb hc ki gN=>hf.inj b c (.inr hb) (.inr hc) (by rw [<- hq.get];exact ki) (by rw [<- hq.get];exact gN)⟩
   have Z4:l9 s0 R:=λb o hb hg=>by rw [hq.next];exact ho b o (.inr hb) (by rw [<- hq.get];exact hg)
   unfold wpOp
   simp only [hi,hw a φ (h1.pre hp) hs,if_true]
   refine .inl (h3 φ w a r K Q rfl hp hf0 Z4 (by rw [hq.next];exact cF.ins) hs.reads λφ' w' hm=>hK φ' w' ?_)
   exact ⟨λj hj=>hm.eH j (by rw [hq.next];exact hj),λb o hb hg=>hm.holds b o (hb.resolve_left id) hg,λb c hb hc=>hm.inj b c (hb.resolve_left id) (hc.resolve_left id),
    λb hb hg=>(hm.source b (hb.resolve_left id) hg).imp id λ⟨c,hc,gN,he⟩=>⟨c,.inr hc,by rw [<- hq.get];exact gN,he⟩,
    λk hk hc=>hm.frame k hk λc ud gN=>hc c (.inr ud) (by rw [<- hq.get];exact gN),hm.size,hm.kept⟩
 have tV: ∀ {s0:St},v= .eT []->s'=s0->bC s s0 (λ_=>False)->(∀ (a:Act) (φ:bo),s0.pre->Seen φ env ops r a.tmps->Region.wanted r (yielded ops a.tmps)=false)->
   ∃ R W:Nat->Prop,Sp s s' R W∧nG s s' R W (λD=>gQ D env ops r) (λD=>v.aD D)∧
   ∀ (φ:bo) (w:World) (a:Act) (i:Nat) (K:Act->World->Prop) (Q:Exit->Act->World->Prop),ops[i]?=some r->s'.pre->Fits s R φ w->l9 s R->gQ (· < s.next) env ops r->Seen φ env ops r a.tmps->
    (∀ φ' w',dG s s' W φ φ' w w'->K (a.put r.dst (Jb1 φ' v)) w')->wpOp P ops Q i K a w:=by
  intro s0 hv TT hq hw
  subst hv TT
  refine ⟨_,_,hq.sp,hq.ids λD _ _ _=>trivial,?_⟩
  intro φ w a i K Q hi hp hf ho cF hs hK
  unfold wpOp
  simp only [hi,hw a φ hp hs]
  exact hK φ w (dG.refl _ _ _ _)
 unfold nR at h
 split at h
 ·rename_i hg
  exact wanted h (bC.refl s) (λa φ _ _=>by simp [Region.wanted,hg])
 ·rename_i g want hg
  split at h
  ·cases h
  ·rename_i t ht
   have Au: ∀ (a:Act) (φ:bo) (u:AV),env.look t=some u->Seen φ env ops r a.tmps->yielded ops a.tmps g=(match Jb1 φ u with | .bool b=>some b | _=>none):=by
    intro a φ u hu hs
    have h1:=hs t (yE hg ht) u hu
    have h2:(ops[g]?).bind (·.dst)=some t:=by
     cases ho:ops[g]? with
     | none=>rw [ho] at ht;cases ht
     | some og=>rw [ho] at ht;exact ht
    unfold yielded
    rw [h2,Option.bind_some,h1]
    split<;>simp_all
   split at h
   ·rename_i q hq
    obtain ⟨hp,n,rd,wr,p,oo⟩:=s
    split at h
    ·rename_i b vA he
     injection he with e1 e2 e3 e4 e5 e6
     subst e1 e2 e3 e4 e5 e6
     have hqs:bC (⟨hp,n,rd,wr,p,.br b::vA⟩:St) ⟨hp,n,rd,wr,p∧q=b,vA⟩ (λ_=>False):=⟨rfl,rfl,λ_ h=>h.elim,λ_ h=>h,λ_ h=>h,λh=>h.1⟩
     split at h
     ·rename_i Qd
      refine wanted h hqs (λa φ aQ hs=> ?_)
      have Zk:q=b:=aQ.2
      simp [Region.wanted,hg,Au a φ _ hq hs,Jb1]
      rw [Zk];exact beq_iff_eq.1 Qd
     ·rename_i Qd
      cases h
      refine tV rfl rfl hqs (λa φ aQ hs=> ?_)
      have Zk:q=b:=aQ.2
      simp [Region.wanted,hg,Au a φ _ hq hs,Jb1]
      intro he;rw [<- Zk,he] at Qd;simp at Qd
    ·cases h
   ·rename_i b hb
    split at h
    ·rename_i Qd
     refine wanted h (bC.refl s) (λa φ _ hs=> ?_)
     simp [Region.wanted,hg,Au a φ _ hb hs,Jb1]
     exact beq_iff_eq.1 Qd
    ·rename_i Qd
     cases h
     refine tV rfl rfl (bC.refl s) (λa φ _ hs=> ?_)
     simp [Region.wanted,hg,Au a φ _ hb hs,Jb1]
     intro he;subst he;simp at Qd
   ·rename_i hb
    cases h
    refine tV rfl rfl (bC.refl s) (λa φ _ hs=> ?_)
    simp [Region.wanted,hg,Au a φ _ hb hs,Jb1]
   ·cases h
def fE (s s':St) (env cm:Env) (nt:Nat) (T:(Act->World->Prop)->Act->World->Prop):Prop:=
 ∃ R W:Nat->Prop,Sp s s' R W∧nG s s' R W (λD=>fc D env) (λD=>fc D cm)∧
  ∀ (φ:bo) (w:World) (a:Act) (K:Act->World->Prop),s'.pre->a.tmps.size=nt->oO φ env a.tmps->Fits s R φ w->l9 s R->fc (· < s.next) env->
   (∀ φ' w' a',dG s s' W φ φ' w w'->a'.tmps.size=nt->a'.defers=a.defers->oO φ' cm a'.tmps->K a' w')->T K a w
theorem fE.trans {nt:Nat} {T1 T2 T:(Act->World->Prop)->Act->World->Prop} (h1:fE s s1 env cH nt T1) (h2:fE s1 s2 cH xo nt T2) (hT: ∀ K a w,T1 (T2 K) a w->T K a w):fE s s2 env xo nt T:=by
 obtain ⟨R1,W1,xw,id1,SQ⟩:=h1
 obtain ⟨R2,W2,Pa,TQ,Le⟩:=h2
 refine ⟨_,_,xw.trans Pa,nG.trans xw Pa id1 TQ,λφ w a K hp fy he hf ho cF hK=>hT K a w ?_⟩
 have ua:=Pa.pre hp
 refine SQ φ w a (T2 K) ua fy he (hf.mono λb hb=> .inl hb) (ho.mono λb hb=> .inl hb) cF ?_
 intro φ1 w1 a1 se WB Z5 Wy
 have kO: ∀ b,R1 b->(R1 b∨R2 b):=λb hb=> .inl hb
 have kz: ∀ b,R2 b->(R1 b∨R2 b):=λb hb=> .inr hb
 have OW:fc (· < s1.next) env:=λt u hu=>(cF t u hu).mono λi hi=>Nat.lt_of_lt_of_le hi xw.next
 have FW:=hf.step xw se ho kO
 have DZ:=ho.step xw id1 ua OW kO
 have ZC:fc (· < s1.next) cH:=(id1 (· < s1.next) ua (λi _ h=>h) OW (λb o hb hg=>(ho b o (.inl hb) hg).2.mono λi hi=>Nat.lt_of_lt_of_le hi xw.next)).1
 refine Le φ1 w1 a1 K hp WB Wy (FW.mono kz) (DZ.mono kz) ZC ?_
 intro φ2 w2 a2 Ay Z9 hd2 ZI
 exact hK φ2 w2 a2 (dG.trans xw Pa se Ay hf ho FW DZ kO kz) Z9 (hd2.trans Z5) ZI
theorem fE.refl {nt:Nat} {T:(Act->World->Prop)->Act->World->Prop} (hT: ∀ K a w,K a w->T K a w):fE s s env env nt T:=
 ⟨_,_,(bC.refl s).sp,(bC.refl s).ids λD _ h _=>h,λφ w a K _ fy he _ _ _ hK=>hT K a w (hK φ w a (dG.refl _ _ _ _) fy rfl he)⟩
theorem hJ (t d:Nat) (v:AV) (env:Env):Env.look ((d,v)::env) t=if d=t then some v else env.look t:=by
 simp only [Env.look]
 cases h:Nat.beq d t with
 | true=>simp [Nat.eq_of_beq_eq_true h]
 | false=>simp [Nat.ne_of_beq_eq_false h]
theorem vP (h:jE nt dst v env=some cm) {φ φ':bo} (fy:a.tmps.size=nt) (he: ∀ t u,env.look t=some u->a.tmps[t]?=some (Jb1 φ' u)):
  (a.put dst (Jb1 φ' v)).tmps.size=nt∧(a.put dst (Jb1 φ' v)).defers=a.defers∧oO φ' cm (a.put dst (Jb1 φ' v)).tmps:=by
 cases dst with
 | none=>simp [jE] at h;subst h;exact ⟨fy,rfl,he⟩
 | some d=>
  simp only [jE] at h
  split at h
  ·rename_i hd
   have VO:d<nt:=Nat.le_of_ble_eq_true hd
   cases h
   refine ⟨by simp [Act.put,fy],rfl,λt u hu=> ?_⟩
   rw [hJ] at hu
   by_cases JD:d=t
   ·subst JD
    rw [if_pos rfl] at hu
    cases hu
    simp [Act.put,fy,VO]
   ·rw [if_neg JD] at hu
    simp only [Act.put]
    rw [Array.getElem?_setIfInBounds_ne JD]
    exact he t u hu
  ·cases h
theorem kE (h:jE nt dst v env=some cm) (hv:v.aD D) (he:fc D env):fc D cm:=by
 cases dst with
 | none=>simp [jE] at h;subst h;exact he
 | some d=>
  simp only [jE] at h
  split at h
  ·cases h
   intro t u hu
   rw [hJ] at hu
   split at hu
   ·cases hu;exact hv
   ·exact he t u hu
  ·cases h
theorem uW {call:FuncId->List AV->St->eO AV} (hn:gF P) (hc:iv P call) {nt:Nat} {ops:Array Oper} {Q:Exit->Act->World->Prop}:
  ∀ (l:List Oper) (i:Nat) (env cm:Env) (s s':St),dI P call nt ops l env s= .ok cm s'->(∀ j,l[j]?=ops[i+j]?)->
   fE s s' env cm nt (λK a w=> ∀ Q:Exit->Act->World->Prop,(∀ a w,K a w->Q .normal a w)->wpOps P ops Q (List.range' i l.length) a w)
 | [],i,env,cm,s,s',h,_=>by
  simp only [dI] at h
  cases h
  exact fE.refl λK a w h Q hQ=>by simpa [wpOps] using hQ a w h
 | r::l,i,env,cm,s,s',h,hl=>by
  simp only [dI] at h
  split at h
  ·rename_i v s1 hv
   split at h
   ·rename_i cH cY
    obtain ⟨R,W,h1,h2,h3⟩:=pY hn hc hv
    have hi:ops[i]?=some r:=by have:=hl 0;simpa using this.symm
    have first:fE s s1 env cH nt (λK a w=> ∀ Q:Exit->Act->World->Prop,wpOp P ops Q i K a w):=by
     refine ⟨R,W,h1,λD hp hD cF hR=> ?_,λφ w a K hp fy he hf ho cF hK Q=> ?_⟩
     ·have:=h2 D hp hD (λt _ u hu=>cF t u hu) hR
      exact ⟨kE cY this.1 cF,this.2⟩
     ·refine h3 φ w a i K Q hi hp hf ho (λt _ u hu=>cF t u hu) (λt _ u hu=>he t u hu) λφ' w' hm=> ?_
      have nw: ∀ t u,env.look t=some u->a.tmps[t]?=some (Jb1 φ' u):=λt u hu=>by
       rw [he t u hu,dD (D:=(· < s.next)) (λj hj=>hm.eH j (by omega)) (cF t u hu)]
      obtain ⟨q1,q2,q3⟩:=vP cY (φ:=φ) fy nw
      exact hK φ' w' _ hm q1 q2 q3
    have rest:=uW (Q:=Q) hn hc l (i+1) cH cm s1 s' h (λj=>by have:=hl (j+1);simp only [List.getElem?_cons_succ] at this;rw [this];congr 1;omega)
    refine fE.trans first rest λK a w hT Q hQ=> ?_
    rw [List.length_cons,List.range'_succ,wpOps_cons]
    exact wpOp_mono (λa w ha=>ha Q hQ) (hT Q)
   ·cases h
  ·cases h
end
end Ev
end Go.Proofs.YtpkfimijnkkbjaaGreat
