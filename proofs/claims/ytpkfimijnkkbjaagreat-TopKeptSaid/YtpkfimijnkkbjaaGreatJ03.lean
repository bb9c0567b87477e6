/- Each operation of the reckoner does in a memory what it reckons: sums and comparisons. -/
import Derived.Test.YtpkfimijnkkbjaaGreatJ02
set_option linter.unusedVariables false
namespace Go.Proofs.YtpkfimijnkkbjaaGreat
namespace Ev
section
variable {P:Program} {s s':St} {env:Env} {o:Op} {v:AV}
variable {op:BinOp} {k k':IntKind} {a b:Int} {t:TypeId} {x y:Operand} {sy r:Bool}
theorem CP {n:Int} {g:Bool} (hc:xK op=false) (hk:xL op k k'=true) (h:QI op k a b=some (n,g)) (hg:g=true) (w:World):
  (binOp op t (.int k a) (.int k' b)).run P w= .ok (.int k n) w:=by
 cases op<;>simp [xK] at hc<;>simp [QI] at h<;>obtain ⟨rfl,rfl⟩:=h<;>simp [xL] at hk<;>(try subst hk)<;>simp at hg<;>
  simp [binOp,Op.intArith,Op.intDiv,Op.intBits,Op.shift,hg]<;>(try omega)
theorem Mu (hc:xK op=true) (hk:xL op k k'=true) (w:World):
  (binOp op t (.int k a) (.int k' b)).run P w= .ok (.bool (aq op a b)) w:=by
 cases op<;>simp [xK] at hc<;>simp [xL] at hk<;>subst hk<;>simp [binOp,Op.intCmp,aq]
theorem kI (w:World):(eqGuard op t x y (.int k a) (.int k' b)).run P w= .ok () w:=by
 unfold eqGuard;split<;>simp
theorem pW {v:AV} {b:Bool} (h:v.LS=some (sy,b)) (φ:bo):Jb1 φ v= .bool b:=by
 unfold AV.LS at h
 split at h<;>first | (cases h;rfl) | cases h
theorem Gr {a b:AV} (h:Pk (P.underlying t) a b=some (sy,r)) (φ:bo) (w:World) (d:Nat):
  (Op.equalIn (d+1) t (Jb1 φ a) (Jb1 φ b)).run P w= .ok r w∧(∃ x,si P t=some x∧x=false):=by
 unfold Pk at h
 split at h
 ·rename_i k hu
  split at h
  ·rename_i sx k x sy' k' y h1 h2
   split at h
   ·rename_i hk
    cases h
    have:=of_decide_eq_true hk
    subst this
    rw [eI h1 φ,eI h2 φ]
    exact ⟨run_equalIn_int w d t k _ x y hu,false,by simp [si,hu],rfl⟩
   ·cases h
  ·cases h
 ·rename_i hu
  split at h
  ·rename_i sx x sy' y h1 h2
   cases h
   rw [pW h1 φ,pW h2 φ]
   exact ⟨run_equalIn_bool' w d t x y hu,false,by simp [si,hu],rfl⟩
  ·cases h
 ·cases h
theorem Gs (φ:bo) (w:World) (d:Nat): ∀ (fs:List Field) (i:Nat) (l m L M:List AV) (sy r:Bool),Eh P fs i l m=some (sy,r)->L.drop i=l->M.drop i=m->
  (Op.eqFields (d+1) (az φ L).toArray (az φ M).toArray fs).run P w= .ok r w
 | [],i,l,m,L,M,sy,r,h,_,_=>by
  cases l with
  | nil=>cases m with
   | nil=>simp [Eh] at h;obtain ⟨_,rfl⟩:=h;simp [Op.eqFields]
   | cons b m=>simp [Eh] at h
  | cons a l=>simp [Eh] at h
 | f::fs,i,l,m,L,M,sy,r,h,hl,hm=>by
  cases l with
  | nil=>simp [Eh] at h
  | cons a l=>
   cases m with
   | nil=>simp [Eh] at h
   | cons b m=>
    simp only [Eh] at h
    split at h
    ·rename_i sx x ho hn hc
     split at h
     ·rename_i sy' y hf
      cases h
      have Mk:=Nat.eq_of_beq_eq_true ho
      obtain ⟨h1,_,h2,h3⟩:=Gr hc φ w d
      subst h3
      obtain ⟨h4,h5⟩:=lq h2 w
      have hL:(az φ L)[f.offset]?=some (Jb1 φ a):=by
       rw [eQ,Mk]
       have:=congrArg (·[0]?) hl
       simp at this
       rw [this];rfl
      have hM:(az φ M)[f.offset]?=some (Jb1 φ b):=by
       rw [eQ,Mk]
       have:=congrArg (·[0]?) hm
       simp at this
       rw [this];rfl
      have ih:=Gs φ w d fs (i+1) l m L M sy' y hf (by rw [<- List.tail_drop,hl];rfl) (by rw [<- List.tail_drop,hm];rfl)
      have FL : f.name ≠ "_" := by simpa using hn
      simp [Op.eqFields,FL,part,h4,hL,hM,h1]
      cases x
      ·simp
      ·simp [ih]
     ·cases h
    ·cases h
theorem uP: ∀ (fs:List Field) (i:Nat) (l m:List AV) (q:Bool×Bool),Eh P fs i l m=some q-> ∀ f∈fs,(∃ k,P.underlying f.type=some (.int k))∨P.underlying f.type=some .bool
 | [],_,_,_,_,_,f,hf=>by cases hf
 | f::fs,i,l,m,q,h,g,hg=>by
  cases l with
  | nil=>simp [Eh] at h
  | cons a l=>
   cases m with
   | nil=>simp [Eh] at h
   | cons b m=>
    simp only [Eh] at h
    split at h
    ·rename_i sx x ho hn hc
     split at h
     ·rename_i sy' y hf
      rcases List.mem_cons.1 hg with rfl | hg
      ·unfold Pk at hc
       split at hc
       ·rename_i k hu;exact .inl ⟨k,hu⟩
       ·rename_i hu;exact .inr hu
       ·cases hc
      ·exact uP fs (i+1) l m _ hf g hg
     ·cases h
    ·cases h
def T0 (op:BinOp) (t:TypeId) (x y:Value):Prop:=binOp op t x y=match op with
 | .eql=>(do pure (.bool (<- Op.equal t x y)))
 | _=>(do pure (.bool (!(<- Op.equal t x y))))
set_option maxHeartbeats 2000000 in
theorem Gt {a b:AV} (h:W7 P t (xM x||xM y) a b=some (sy,r)) (φ:bo) (w:World) (op:BinOp) (pG:op= .eql∨op= .neq):
  (eqGuard op t x y (Jb1 φ a) (Jb1 φ b)).run P w= .ok () w∧(∀ d,(Op.equalIn (d+1+1) t (Jb1 φ a) (Jb1 φ b)).run P w= .ok r w)∧T0 op t (Jb1 φ a) (Jb1 φ b):=by
 unfold W7 at h
 split at h
 ·cases h
 ·rename_i d hu
  split at h
  ·cases h;exact ⟨by rcases pG with rfl | rfl<;>simp [eqGuard,Jb1],λd=>by simp [Op.equalIn,run_underlying hu,Jb1],by rcases pG with rfl | rfl<;>rfl⟩
  ·cases h;exact ⟨by rcases pG with rfl | rfl<;>simp [eqGuard,Jb1],λd=>by simp [Op.equalIn,run_underlying hu,Jb1],by rcases pG with rfl | rfl<;>rfl⟩
  ·cases h;exact ⟨by rcases pG with rfl | rfl<;>simp [eqGuard,Jb1],λd=>by simp [Op.equalIn,run_underlying hu,Jb1],by rcases pG with rfl | rfl<;>rfl⟩
  ·cases h;exact ⟨by rcases pG with rfl | rfl<;>simp [eqGuard,Jb1],λd=>by simp [Op.equalIn,run_underlying hu,Jb1],by rcases pG with rfl | rfl<;>rfl⟩
  ·cases h;exact ⟨by rcases pG with rfl | rfl<;>simp [eqGuard,Jb1],λd=>by simp [Op.equalIn,run_underlying hu,Jb1],by rcases pG with rfl | rfl<;>rfl⟩
  ·cases h;exact ⟨by rcases pG with rfl | rfl<;>simp [eqGuard,Jb1],λd=>by simp [Op.equalIn,run_underlying hu,Jb1],by rcases pG with rfl | rfl<;>rfl⟩
  ·cases h;exact ⟨by rcases pG with rfl | rfl<;>simp [eqGuard,Jb1],λd=>by simp [Op.equalIn,run_underlying hu,Jb1],by rcases pG with rfl | rfl<;>rfl⟩
  ·cases h;exact ⟨by rcases pG with rfl | rfl<;>simp [eqGuard,Jb1],λd=>by simp [Op.equalIn,run_underlying hu,Jb1],by rcases pG with rfl | rfl<;>rfl⟩
  ·cases h;exact ⟨by rcases pG with rfl | rfl<;>simp [eqGuard,Jb1],λd=>by simp [Op.equalIn,run_underlying hu,Jb1],by rcases pG with rfl | rfl<;>rfl⟩
  ·cases h;exact ⟨by rcases pG with rfl | rfl<;>simp [eqGuard,Jb1],λd=>by simp [Op.equalIn,run_underlying hu,Jb1],by rcases pG with rfl | rfl<;>rfl⟩
  ·cases h;exact ⟨by rcases pG with rfl | rfl<;>simp [eqGuard,Jb1],λd=>by simp [Op.equalIn,run_underlying hu,Jb1],by rcases pG with rfl | rfl<;>rfl⟩
  ·split at h
   ·rename_i hl
    cases h
    refine ⟨?_,λd=>by simp [Op.equalIn,run_underlying hu,Jb1],by rcases pG with rfl | rfl<;>rfl⟩
    cases x<;>cases y<;>simp [xM] at hl<;>rcases pG with rfl | rfl<;>simp [eqGuard,Jb1]
   ·cases h
  ·rename_i fs l m
   split at h
   ·cases h
   ·rename_i hh
    have hp:=uP _ _ _ _ _ h
    have AT:P.fieldsOf t=fs:=by simp [Program.fieldsOf,hu]
    have hg:P.eqGuardType P.depth t=false:=by
     have hd:P.depth=(P.depth-2)+1+1:=by unfold Program.depth;omega
     rw [hd]
     simp only [Program.eqGuardType,hu]
     rw [Array.any_eq_false']
     intro f hf
     have:=hp f (by simpa using hf)
     rcases this with ⟨k,hk⟩ | hk<;>simp [hk]
    refine ⟨run_eqGuard_agg w op t x y _ _ hg,λd=> ?_,by rcases pG with rfl | rfl<;>rfl⟩
    simp only [Jb1]
    rw [run_equalIn_agg w (d+1) t _ _ (by rw [AT];exact hu) hh,AT]
    exact Gs φ w d fs.toList 0 l m l m sy r h rfl rfl
  ·have hc:Pk (P.underlying t) a b=some (sy,r):=by rw [hu];exact h
   refine ⟨?_,λd=>(Gr hc φ w (d+1)).1,?_⟩
   ·unfold Pk at h
    simp only at h
    split at h
    ·rename_i h1 h2
     rw [pW h1 φ,pW h2 φ]
     rcases pG with rfl | rfl<;>simp [eqGuard]
    ·cases h
   ·unfold Pk at h
    simp only at h
    split at h
    ·rename_i h1 h2
     rw [pW h1 φ,pW h2 φ]
     rcases pG with rfl | rfl<;>rfl
    ·cases h
  ·cases h
theorem vM {yA b:Bool} (h:Gl yA b s= .ok v s'): ∃ c,v= .bool c∧bC s s' (λ_=>False)∧(s'.pre->b=c):=by
 unfold Gl at h
 split at h
 ·cases h;exact ⟨b,rfl,bC.refl s,λ_=>rfl⟩
 ·obtain ⟨hp,n,r,w,p,oo⟩:=s
  split at h
  ·rename_i c vA he
   injection he with e1 e2 e3 e4 e5 e6
   subst e1 e2 e3 e4 e5 e6
   cases h
   exact ⟨c,rfl,⟨rfl,rfl,λ_ h=>h.elim,λ_ h=>h,λ_ h=>h,λh=>h.1⟩,λh=>h.2⟩
  ·cases h
theorem Gu {yt:TypeId} (h:dQ P env (.binOp op t x y yt) s= .ok v s'):fL P s s' env (.binOp op t x y yt) v:=by
 have mx:x∈(Op.binOp op t x y yt).operands.toList:=by simp [Op.operands]
 have my:y∈(Op.binOp op t x y yt).operands.toList:=by simp [Op.operands]
 simp only [dQ] at h
 split at h
 case h_2=>cases h
 rename_i a b hx hy
 have run: ∀ (φ:bo) (w:World) (ρ:Operand->Value) (r:Oper) (u:Value),r.op= .binOp op t x y yt->xB φ env ρ (.binOp op t x y yt)->(eqGuard op t x y (Jb1 φ a) (Jb1 φ b)).run P w= .ok () w->
   (binOp op t (Jb1 φ a) (Jb1 φ b)).run P w= .ok u w->(execOp ρ r).run P w= .ok (.value u) w:=by
  intro φ w ρ r u hr hρ h1 h2
  have jx:=hρ x mx _ hx
  have l0:=hρ y my _ hy
  obtain ⟨_,_,_,_,_,_⟩:=r
  cases hr
  simp only [execOp]
  rw [jx,l0]
  simp [h1,h2]
 unfold Pl at h
 split at h
 ·rename_i sx k m sy k' n h1 h2
  split at h
  ·cases h
  ·rename_i hk
   split at h
   ·rename_i hc
    obtain ⟨c,rfl,hq,aQ⟩:=vM h
    refine cU _ hq (λD _ _ _=>trivial) (λφ w ρ r hr hp _ hρ=> ?_)
    refine run φ w ρ r _ hr hρ (by rw [eI h1 φ,eI h2 φ];exact kI w) ?_
    rw [eI h1 φ,eI h2 φ]
    have:=Mu (P:=P) (t:=t) (a:=m) (b:=n) hc hk w
    rw [aQ hp] at this
    exact this
   ·rename_i hc
    split at h
    ·cases h
    ·rename_i u g ha
     split at h
     ·cases h
      refine cU _ (bC.lp s _) (λD _ _ _=>trivial) (λφ w ρ r hr hp _ hρ=> ?_)
      rw [fK] at hp
      refine run φ w ρ r _ hr hρ (by rw [eI h1 φ,eI h2 φ];exact kI w) ?_
      rw [eI h1 φ,eI h2 φ]
      exact CP hc hk ha hp.2 w
     ·split at h
      ·cases h
       refine bD (λD _=>trivial) (λφ w ρ r hr hρ=> ?_)
       refine run φ w ρ r _ hr hρ (by rw [eI h1 φ,eI h2 φ];exact kI w) ?_
       rw [eI h1 φ,eI h2 φ]
       exact CP hc hk ha rfl w
      ·cases h
 ·split at h
  ·split at h
   ·rename_i sy r he
    obtain ⟨c,rfl,hq,aQ⟩:=vM h
    refine cU _ hq (λD _ _ _=>trivial) (λφ w ρ rr hr hp _ hρ=> ?_)
    obtain ⟨h1,h2,h3⟩:=Gt he φ w .eql (.inl rfl)
    refine run φ w ρ rr _ hr hρ h1 ?_
    have hc:=aQ hp
    rw [h3]
    have:=h2 9998
    simp only [Op.equal,Op.maxDepth]
    simp [this,Jb1,<- hc]
   ·cases h
  ·split at h
   ·rename_i sy r he
    obtain ⟨c,rfl,hq,aQ⟩:=vM h
    refine cU _ hq (λD _ _ _=>trivial) (λφ w ρ rr hr hp _ hρ=> ?_)
    obtain ⟨h1,h2,h3⟩:=Gt he φ w .neq (.inr rfl)
    refine run φ w ρ rr _ hr hρ h1 ?_
    have hc:=aQ hp
    rw [h3]
    have:=h2 9998
    simp only [Op.equal,Op.maxDepth]
    simp [this,Jb1,<- hc]
   ·cases h
  ·cases h
end
section
variable {P:Program} {s s':St} {env:Env} {o:Op} {v:AV}
variable {t:TypeId} {x:Operand} {D:Nat->Prop}
theorem gp {s1:St} (R:Nat->Prop) (hq:bC s s1 R) (x:ak) (v:AV) (hv: ∀ D:Nat->Prop,D s.next->v.aD D)
  (hx: ∀ D:Nat->Prop,s1.pre->nU env o D->(∀ b y,R b->s.get b=some y->y.aD D)->x.aD D)
  (jJ: ∀ (φ:bo) (w:World) (ρ:Operand->Value) (r:Oper),r.op=o->s1.pre->Fits s R φ w->l9 s R->nU env o (· < s.next)->xB φ env ρ o->
   ∃ (y:np) (w':World),(execOp ρ r).run P w= .ok (.value (Jb1 (AH φ s.next y) v)) w'∧cf (AH φ s.next y) s.next x w'∧w.heap.size<=y.dp∧
    (∀ r,r<w.heap.size->w'.heap[r]?=w.heap[r]?)∧AZ w w'):fL P s (s1.made x) env o v:=by
 refine ⟨_,_,hq.Mp (x:=x),?_,?_⟩
 ·intro D hp hD cF hR
  have WW:D s.next:=hD s.next (Nat.le_refl _) (by show s.next<s1.next+1;rw [hq.next];omega)
  refine ⟨hv D WW,λb y hb hg=> ?_⟩
  subst hb
  rw [<- hq.next] at hg
  rw [mg hg]
  exact hx D hp cF (λb y hb hg=>hR b y (.inl hb) hg)
 ·intro φ w ρ r hr hp hf ho cF hρ
  obtain ⟨y,w',h1,h2,h3,h4,h5⟩:=jJ φ w ρ r hr hp (hf.mono λb hb=> .inl hb) (ho.mono λb hb=> .inl hb) cF hρ
  exact ⟨_,w',_,h1,rfl,hq.A0 h2 h3 h4 h5⟩
theorem kR {φ:bo} {w:World} {n:Nat} {sy:Bool} {l:List AV} (hl:aR (· < n) l):
  cf (AH φ n ⟨w.heap.size,0⟩) n (.row sy l t none) (w.alloc (.cells (az φ l).toArray t))∧
   (∀ r,r<w.heap.size->(w.alloc (.cells (az φ l).toArray t)).heap[r]?=w.heap[r]?)∧AZ w (w.alloc (.cells (az φ l).toArray t)):=by
 refine ⟨?_,λr hr=>heap_alloc_old w _ hr,by simp,rfl,rfl⟩
 unfold cf
 simp only [fA]
 rw [cJ (D:=(· < n)) (λi hi=>su _ _ (by omega)) hl]
 exact heap_alloc_new w _
theorem QJ (h:dQ P env (.box t x) s= .ok v s'):fL P s s' env (.box t x) v:=by
 have mx:x∈(Op.box t x).operands.toList:=by simp [Op.operands]
 simp only [dQ] at h
 split at h
 ·rename_i a hx
  rw [fu] at h
  cases h
  refine gp _ (bC.refl s) _ _ (λD hD=>hD) (λD _ hi _=>eR (hi x mx _ hx)) (λφ w ρ r hr _ _ _ cF hρ=> ?_)
  have jx:=hρ x mx _ hx
  obtain ⟨h1,h2,h3⟩:=kR (φ:=φ) (w:=w) (n:=s.next) (sy:=false) (t:=t) (eR (cF x mx _ hx))
  refine ⟨⟨w.heap.size,0⟩,_,?_,h1,Nat.le_refl _,h2,h3⟩
  obtain ⟨_,_,_,_,_,_⟩:=r
  cases hr
  simp [execOp,Instr.box,newVar,newRow,jx,e9,Jb1,fA]
 ·cases h
theorem ej {z:AV} (h:l6 P t=some z) (w:World) (φ:bo):(zeroValue t).run P w= .ok (Jb1 φ z) w∧(∀ D,z.aD D)∧ ∃ i zz,P.info? t=some i∧i.zero=some zz∧Jb1 φ z=zz:=by
 unfold l6 at h
 split at h
 ·rename_i i hi
  split at h
  ·rename_i zz hz
   obtain ⟨h1,h2⟩:=pT h φ
   exact ⟨by simp [zeroValue,typeInfo,hi,hz,h1],h2,i,zz,hi,hz,h1⟩
  ·cases h
 ·cases h
theorem Gv (h:dQ P env (.alloc t) s= .ok v s'):fL P s s' env (.alloc t) v:=by
 simp only [dQ] at h
 split at h
 ·rename_i z hz
  rw [fu] at h
  cases h
  have cC:=(ej hz default (λ_=>⟨0,0⟩)).2.1
  refine gp _ (bC.refl s) _ _ (λD hD=>hD) (λD _ hi _=>eR (cC D)) (λφ w ρ r hr _ _ _ cF hρ=> ?_)
  obtain ⟨h1,h2,h3⟩:=kR (φ:=φ) (w:=w) (n:=s.next) (sy:=false) (t:=t) (eR (cC _))
  refine ⟨⟨w.heap.size,0⟩,_,?_,h1,Nat.le_refl _,h2,h3⟩
  have Lo:=(ej hz w φ).1
  obtain ⟨_,_,_,_,_,_⟩:=r
  cases hr
  simp [execOp,Instr.alloc,newVar,newRow,Lo,e9,Jb1,fA]
 ·cases h
theorem A3 (h:dQ P env (.makeMap t none) s= .ok v s'):fL P s s' env (.makeMap t none) v:=by
 simp only [dQ] at h
 rw [fu] at h
 cases h
 refine gp _ (bC.refl s) _ _ (λD hD=>hD) (λD _ hi _=>by intro x hx;cases hx) (λφ w ρ r hr _ _ _ cF hρ=> ?_)
 refine ⟨⟨w.heap.size,0⟩,w.alloc (.map #[] 0),?_,?_,Nat.le_refl _,λr hr=>heap_alloc_old w _ hr,by simp,rfl,rfl⟩
 ·obtain ⟨_,_,_,_,_,_⟩:=r
  cases hr
  simp [execOp,Instr.makeMap,Jb1,fA]
 ·unfold cf
  simp only [fA]
  exact ⟨#[],0,heap_alloc_new w _,rfl⟩
theorem Mv (h:dQ P env (.load t x) s= .ok v s'):fL P s s' env (.load t x) v:=by
 have mx:x∈(Op.load t x).operands.toList:=by simp [Op.operands]
 simp only [dQ] at h
 split at h
 ·rename_i b off hx
  unfold loadT at h
  split at h
  ·rename_i ha
   obtain ⟨sy,l,t',q,vs,s1,hg,hq,aQ,h⟩:=mh h
   cases h
   refine cU _ hq (λD hp _ hR=> ?_) (λφ w ρ r hr hp hf hρ=> ?_)
   ·obtain ⟨h1,h2⟩:=aQ hp
    unfold AV.aD
    exact g9 (hR b _ rfl hg) (λi hi=>h2 i (by omega))
   ·obtain ⟨h1,h2⟩:=aQ hp
    have jx:=hρ x mx _ hx
    have hl:=uM (P:=P) (hf.holds b _ rfl hg) (off:=off) (vs:=vs) (λi hi=>h2 i (by omega))
    obtain ⟨h3,h4⟩:=lq ha w
    rw [h1] at hl
    obtain ⟨_,_,_,_,_,_⟩:=r
    cases hr
    simp only [execOp,Instr.loadAt]
    rw [jx]
    simp [Jb1,Instr.sureAddr,loadVar,h3,h4,hl]
  ·rename_i ha
   obtain ⟨sy,l,t',q,vs,s1,hg,hq,aQ,h⟩:=mh h
   split at h
   ·rename_i u
    cases h
    refine cU _ hq (λD hp _ hR=> ?_) (λφ w ρ r hr hp hf hρ=> ?_)
    ·obtain ⟨h1,h2⟩:=aQ hp
     have:=h2 0 (by omega)
     simp at this
     exact jf (hR b _ rfl hg) this
    ·obtain ⟨h1,h2⟩:=aQ hp
     have jx:=hρ x mx _ hx
     have:=h2 0 (by omega)
     simp at this
     have hl:=(hf.holds b _ rfl hg).cell this
     obtain ⟨h3,h4⟩:=lq ha w
     obtain ⟨_,_,_,_,_,_⟩:=r
     cases hr
     simp only [execOp,Instr.loadAt]
     rw [jx]
     simp only [Jb1,Instr.sureAddr,loadVar]
     simp [h3,hl]
   ·cases h
  ·cases h
 ·cases h
theorem lr {s1:St} {b:Nat} {x old:ak} (R:Nat->Prop) (hq:bC s s1 R) (hb:R b) (hg:s.get b=some old) (v:AV) (hv: ∀ D,v.aD D)
  (hx: ∀ D:Nat->Prop,s1.pre->nU env o D->(∀ b y,R b->s.get b=some y->y.aD D)->x.aD D)
  (jJ: ∀ (φ:bo) (w:World) (ρ:Operand->Value) (r:Oper),r.op=o->s1.pre->Fits s R φ w->xB φ env ρ o->
   ∃ (w':World) (nx:Next),(execOp ρ r).run P w= .ok nx w'∧Gn nx=some (Jb1 φ v)∧cf φ b x w'∧
    (∀ r,r<w.heap.size->r≠(φ b).dp->w'.heap[r]?=w.heap[r]?)∧AZ w w'):fL P s (s1.wrote b x) env o v:=by
 refine ⟨_,_,hq.Gm hb hg (x:=x),?_,?_⟩
 ·intro D hp hD cF hR
  refine ⟨hv D,λc y hc gN=> ?_⟩
  subst hc
  rw [uJ gN]
  exact hx D hp cF hR
 ·intro φ w ρ r hr hp hf _ cF hρ
  obtain ⟨w',nx,h1,h2,h3,h4,h5⟩:=jJ φ w ρ r hr hp hf hρ
  exact ⟨φ,w',nx,h1,h2,hq.xQ hg h3 h4 h5⟩
theorem mT {l:List AV} (h:aR D l) (n:Nat):aR D (l.take n):=cS.2 λv hv=>cS.1 h v (List.mem_of_mem_take hv)
theorem mU {l:List AV} (h:aR D l) (n:Nat):aR D (l.drop n):=cS.2 λv hv=>cS.1 h v (List.mem_of_mem_drop hv)
theorem Gw {y:Operand} (h:dQ P env (.store t x y) s= .ok v s'):fL P s s' env (.store t x y) v:=by
 have mx:x∈(Op.store t x y).operands.toList:=by simp [Op.operands]
 have my:y∈(Op.store t x y).operands.toList:=by simp [Op.operands]
 simp only [dQ] at h
 split at h
 ·rename_i b off u hx hy
  split at h
  ·rename_i fy h1
   have qQ:=Nat.eq_of_beq_eq_true fy
   have xE:=Nat.le_of_ble_eq_true h1
   rw [jF] at qQ
   obtain ⟨sy,l,t',q,s1,hg,hq,vz,rz,dP,rfl,l',rfl,F1⟩:=uN h (by intro e;rw [e] at qQ;simp at qQ;omega)
   refine lr _ hq rfl hg _ (λD=>trivial) (λD hp cF hR=> ?_) (λφ w ρ r hr hp hf hρ=> ?_)
   ·rw [F1 hp]
    have ho:=hR b _ rfl hg
    exact cT.2 ⟨cT.2 ⟨mT ho _,eR (cF y my _ hy)⟩,mU ho _⟩
   ·rw [F1 hp]
    have jx:=hρ x mx _ hx
    have l0:=hρ y my _ hy
    obtain ⟨w',h2,h3,h4,h5⟩:=nT (P:=P) rz (hf.holds b _ rfl hg) vz (dP hp)
    refine ⟨w',.skip,?_,rfl,h3,h4,Nat.le_of_eq h5.1.symm,h5.2⟩
    have hs:=dF (P:=P) (t:=t) (by omega) w
    obtain ⟨_,_,_,_,_,_⟩:=r
    cases hr
    simp only [execOp,Instr.storeAt]
    rw [jx,l0]
    simp [Jb1,Instr.sureAddr,storeVar,hs,e9,bc,qQ,h2]
  ·cases h
 ·cases h
end
section
variable {P:Program} {s s':St} {env:Env} {o:Op} {v:AV}
theorem uQ: ∀ (vs:List Value) (off k:Nat) (cells:Array Value),off+k+vs.length<=cells.size->
  (vs.zipIdx k).foldl (λcs (p:Value×Nat)=>cs.setIfInBounds (off+p.2) p.1) cells=(cells.toList.take (off+k)++vs++cells.toList.drop (off+k+vs.length)).toArray
 | [],off,k,cells,_=>by simp
 | v::vs,off,k,cells,h=>by
  simp only [List.zipIdx_cons,List.foldl_cons]
  have dA:off+k<cells.size:=by simp at h;omega
  rw [uQ vs off (k+1) _ (by simp at h ⊢;omega)]
  apply Array.ext'
  simp only [Array.toList_setIfInBounds]
  rw [List.set_eq_take_append_cons_drop,if_pos (by simpa using dA)]
  have hl:(cells.toList.take (off+k)).length=off+k:=by simp;omega
  rw [List.take_append,hl]
  rw [List.drop_append,hl]
  simp [show off+(k+1)-(off+k)=1 by omega,show off+(k+1)+vs.length-(off+k)=vs.length+1 by omega]
  rw [List.take_take,Nat.min_eq_right (by omega),List.drop_eq_nil_of_le (by simp;omega)]
  simp
  omega
theorem oL (φ:bo) (place Co:Nat->Option (Nat×Nat)) (hp: ∀ i q,place i=some q->Co i=some q): ∀ (ps:List (Nat×AV)) (c c':List AV),nF place c ps=some c'->
  Instr.fill Co (az φ c).toArray (ps.map λp=>(p.1,Jb1 φ p.2))=some (az φ c').toArray
 | [],c,c',h=>by simp [nF] at h;subst h;simp [Instr.fill]
 | (i,u)::ps,c,c',h=>by
  simp only [nF] at h
  split at h
  ·cases h
  ·rename_i off size SZ
   split at h
   ·cases h
   ·cases h
   ·rename_i fy h1
    have qQ:=Nat.eq_of_beq_eq_true fy
    have xE:=Nat.le_of_ble_eq_true h1
    rw [jF] at qQ
    split at h
    ·cases h
    ·rename_i d hl
     have ih:=oL φ place Co hp ps d c' h
     simp only [List.map_cons,Instr.fill]
     rw [hp i _ SZ]
     have jd:(Jb1 φ u).cells=(az φ u.cells).toArray:=e9 φ u
     obtain ⟨h2,h3⟩:=oJ _ _ _ _ hl (by intro e;rw [e] at qQ;simp at qQ;omega)
     subst h3
     have hf:=uQ (az φ u.cells) off 0 (az φ c).toArray (by simp [bc];omega)
     have VH:((az φ u.cells).length≠size||decide (off+(az φ u.cells).length>(az φ c).length))=false:=by
      simp [bc,qQ];omega
     simp only [jd,List.size_toArray,VH]
     have hz:(az φ u.cells).toArray.zipIdx.foldl (λcs (x:Value×Nat)=>cs.setIfInBounds (off+x.2) x.1) (az φ c).toArray=
       ((az φ u.cells).zipIdx 0).foldl (λcs (p:Value×Nat)=>cs.setIfInBounds (off+p.2) p.1) (az φ c).toArray:=by
      rw [<- Array.foldl_toList];simp
     have e:(az φ (c.take off++u.cells++c.drop (off+u.cells.length))).toArray=((az φ c).toArray.toList.take (off+0)++az φ u.cells++(az φ c).toArray.toList.drop (off+0+(az φ u.cells).length)).toArray:=by
      simp [dq]
     rw [e] at ih
     rw [<- hf,<- hz] at ih
     exact ih
theorem mV {D:Nat->Prop} (place:Nat->Option (Nat×Nat)): ∀ (ps:List (Nat×AV)) (c c':List AV),nF place c ps=some c'->aR D c->(∀ p∈ps,p.2.aD D)->aR D c'
 | [],c,c',h,hc,_=>by simp [nF] at h;subst h;exact hc
 | (i,u)::ps,c,c',h,hc,vD=>by
  simp only [nF] at h
  split at h
  ·cases h
  ·rename_i off size SZ
   split at h
   ·cases h
   ·cases h
   ·rename_i fy h1
    have qQ:=Nat.eq_of_beq_eq_true fy
    have xE:=Nat.le_of_ble_eq_true h1
    rw [jF] at qQ
    split at h
    ·cases h
    ·rename_i d hl
     obtain ⟨h2,h3⟩:=oJ _ _ _ _ hl (by intro e;rw [e] at qQ;simp at qQ;omega)
     subst h3
     refine mV place ps _ c' h ?_ (λp hp=>vD p (by simp [hp]))
     exact cT.2 ⟨cT.2 ⟨mT hc _,eR (vD (i,u) (by simp))⟩,mU hc _⟩
theorem nV {φ:bo} {ρ:Operand->Value}: ∀ {l:List (Nat×Operand)} {r:List (Nat×AV)},jD env l=some r->(∀ p∈l,∀ a,dM env p.2=some a->ρ p.2=Jb1 φ a)->
  l.map (λp=>(p.1,ρ p.2))=r.map (λp=>(p.1,Jb1 φ p.2))
 | [],r,h,_=>by cases h;rfl
 | (i,x)::l,r,h,hρ=>by
  simp only [jD] at h
  cases hx:dM env x with
  | none=>rw [hx] at h;cases h
  | some a=>
   rw [hx] at h
   cases hl:jD env l with
   | none=>rw [hl] at h;cases h
   | some q=>
    rw [hl] at h
    cases h
    simp only [List.map_cons,hρ (i,x) (by simp) a hx,nV hl (λy hy=>hρ y (by simp [hy]))]
theorem kB {D:Nat->Prop}: ∀ {l:List (Nat×Operand)} {r:List (Nat×AV)},jD env l=some r->(∀ p∈l,∀ a,dM env p.2=some a->a.aD D)-> ∀ p∈r,p.2.aD D
 | [],r,h,_=>by cases h;intro p hp;cases hp
 | (i,x)::l,r,h,hρ=>by
  simp only [jD] at h
  cases hx:dM env x with
  | none=>rw [hx] at h;cases h
  | some a=>
   rw [hx] at h
   cases hl:jD env l with
   | none=>rw [hl] at h;cases h
   | some q=>
    rw [hl] at h
    cases h
    intro p hp
    rcases List.mem_cons.1 hp with rfl | hp
    ·exact hρ (i,x) (by simp) a hx
    ·exact kB hl (λy hy=>hρ y (by simp [hy])) p hp
theorem Gx {t:TypeId} {parts:Array (Nat×Operand)} (h:dQ P env (.build t parts) s= .ok v s'):fL P s s' env (.build t parts) v:=by
 have mp: ∀ p∈parts.toList,p.2∈(Op.build t parts).operands.toList:=by
  intro p hp;simp [Op.operands];exact ⟨p.1,by simpa using hp⟩
 simp only [dQ] at h
 split at h
 ·rename_i z ps hz vD
  have cC:=(ej hz default (λ_=>⟨0,0⟩)).2.1
  have run: ∀ (c:List AV) (φ:bo) (w:World) (ρ:Operand->Value) (r:Oper),r.op= .build t parts->xB φ env ρ (.build t parts)->P.built t (ps.map λp=>(p.1,Jb1 φ p.2))=some (az φ c).toArray->
    (execOp ρ r).run P w= .ok (.value (Jb1 φ (.agg c))) w:=by
   intro c φ w ρ r hr hρ hb
   have he:=nV vD (λp hp=>hρ p.2 (mp p hp))
   obtain ⟨_,_,_,_,_,_⟩:=r
   cases hr
   simp only [execOp]
   have jJ:=run_build (P:=P) w t (parts.map λ(i,x)=>(i,ρ x)) (az φ c).toArray (by
    rw [<- hb,<- he];simp)
   simp [jJ,Jb1]
  split at h
  ·rename_i fs hu
   split at h
   ·rename_i c hi hf
    cases h
    refine bD (λD cF=> ?_) (λφ w ρ r hr hρ=>run c φ w ρ r hr hρ ?_)
    ·unfold AV.aD
     exact mV _ _ _ _ hf (eR (cC D)) (kB vD λp hp=>cF p.2 (mp p hp))
    ·obtain ⟨_,_,i,zz,iS,qP,S0⟩:=ej hz w φ
     have hm:fs.toList.mapM (λf=>(P.info? f.type).map λi=>(f.offset,i.size))=some (fs.toList.map λf=>(f.offset,aK P f.type)):=by
      have: ∀ (l:List Field),l.all (λf=>(P.info? f.type).isSome)=true->l.mapM (λf=>(P.info? f.type).map λi=>(f.offset,i.size))=some (l.map λf=>(f.offset,aK P f.type)):=by
       intro l
       induction l with
       | nil=>intro _;simp
       | cons f l ih=>
        intro hl
        simp only [List.all_cons,Bool.and_eq_true] at hl
        obtain ⟨j,hj⟩:=Option.isSome_iff_exists.1 hl.1
        have:=ih hl.2
        simp [this,hj,aK]
      exact this _ hi
     simp only [Program.built,iS,hu,qP,hm]
     have:=oL φ _ ((fs.toList.map λf=>(f.offset,aK P f.type)).toArray[·]?) (λi q hq=>by
      split at hq
      ·rename_i f hfi
       cases hq
       simp [hfi]
      ·cases hq) ps z.cells c hf
     rw [<- S0,e9]
     exact this
   ·cases h
  ·rename_i n e hu
   split at h
   ·rename_i c hi hf
    cases h
    refine bD (λD cF=> ?_) (λφ w ρ r hr hρ=>run c φ w ρ r hr hρ ?_)
    ·unfold AV.aD
     exact mV _ _ _ _ hf (eR (cC D)) (kB vD λp hp=>cF p.2 (mp p hp))
    ·obtain ⟨_,_,i,zz,iS,qP,S0⟩:=ej hz w φ
     have h1:=Nat.le_of_ble_eq_true hi
     obtain ⟨ie,hie,hse⟩:=sv (P:=P) (t:=e) (by omega)
     simp only [Program.built,iS,hu,qP,hie]
     have:=oL φ _ (λi=>some (i*ie.size,ie.size)) (λi q hq=>by rw [hse];exact hq) ps z.cells c hf
     rw [<- S0,e9]
     exact this
   ·cases h
  ·cases h
 ·cases h
end
section
open Go.IntKind (i64 u64)
variable {P:Program} {s s':St} {env:Env} {o:Op} {v:AV}
variable {t e:TypeId} {x y i:Operand} {l h m:Option Nat} {lo hi mx:Option Value} {q:Prop} {D:Nat->Prop}
theorem xV (c:List AV): ∀ n,(nQ c n).length=n*c.length
 | 0=>by simp [nQ]
 | n+1=>by simp [nQ,xV c n,Nat.add_mul];omega
theorem xW (c:List AV): ∀ (n i:Nat),i<n*c.length->(nQ c n)[i]?=c[i%c.length]?
 | 0,i,h=>by omega
 | n+1,i,h=>by
  simp only [nQ]
  by_cases hi:i<c.length
  ·rw [List.getElem?_append_left hi,Nat.mod_eq_of_lt hi]
  ·have dA:i-c.length<n*c.length:=by
    have e:(n+1)*c.length=n*c.length+c.length:=Nat.succ_mul _ _
    omega
   rw [List.getElem?_append_right (by omega),xW c n (i-c.length) dA]
   rw [<- Nat.mod_eq_sub_mod (by omega)]
theorem oM {D:Nat->Prop} {c:List AV} (h:aR D c): ∀ n,aR D (nQ c n)
 | 0=>trivial
 | n+1=>cT.2 ⟨h,oM h n⟩
theorem uR (φ:bo) (c:List AV) (n:Nat) (hc:c≠[]):
  (Array.range (n*c.length)).map (λi=>(az φ c).toArray[i%(az φ c).toArray.size]!)=(az φ (nQ c n)).toArray:=by
 apply Array.ext'
 apply List.ext_getElem?
 intro i
 have fj:0<c.length:=List.length_pos_iff.2 hc
 by_cases hi:i<n*c.length
 ·rw [eQ,xW c n i hi]
  have hm:i%c.length<c.length:=Nat.mod_lt _ fj
  simp [hi,bc]
  have h1:c[i%c.length]?=some c[i%c.length]:=List.getElem?_eq_getElem hm
  have h2:(az φ c)[i%c.length]?=some (Jb1 φ c[i%c.length]):=by rw [eQ,h1];rfl
  rw [h2,h1]
  rfl
 ·rw [List.getElem?_eq_none (by simp;omega),List.getElem?_eq_none (by simp [bc,xV];omega)]
theorem um {len:Nat} {parts:Array (Nat×Operand)} (h:dQ P env (.buildSlice t len parts) s= .ok v s'):fL P s s' env (.buildSlice t len parts) v:=by
 have mp: ∀ p∈parts.toList,p.2∈(Op.buildSlice t len parts).operands.toList:=by
  intro p hp;simp [Op.operands];exact ⟨p.1,by simpa using hp⟩
 simp only [dQ] at h
 split at h
 ·rename_i e ps he vD
  split at h
  ·rename_i z hz
   have cC:=(ej hz default (λ_=>⟨0,0⟩)).2.1
   split at h
   ·rename_i h1 h2 h3
    have xE:=Nat.le_of_ble_eq_true h1
    have rO:=Nat.eq_of_beq_eq_true h2
    have La:=Nat.le_of_ble_eq_true h3
    rw [jF] at rO
    split at h
    ·rename_i c hf
     rw [fu] at h
     cases h
     have FP: ∀ D:Nat->Prop,nU env (.buildSlice t len parts) D->aR D c:=λD cF=>mV _ _ _ _ hf (oM (eR (cC D)) len) (kB vD λp hp=>cF p.2 (mp p hp))
     refine gp _ (bC.refl s) _ _ (λD hD=>hD) (λD _ cF _=>FP D cF) (λφ w ρ r hr _ _ _ cF hρ=> ?_)
     obtain ⟨g1,g2,g3⟩:=kR (φ:=φ) (w:=w) (n:=s.next) (sy:=false) (t:=e) (FP _ cF)
     refine ⟨⟨w.heap.size,0⟩,_,?_,g1,Nat.le_refl _,g2,g3⟩
     have ZN:=nV vD (λp hp=>hρ p.2 (mp p hp))
     have hs:=dF (P:=P) (t:=e) (by omega) w
     obtain ⟨Lo,_,_⟩:=ej hz w φ
     have hu:=jg he
     have fy: ¬ (2^24<len*aK P e)∨True:= .inr trivial
     have Qh:=oL φ _ (λi=>some (i*aK P e,aK P e)) (λi q hq=>hq) ps _ c hf
     have kM:=uR φ z.cells len (by intro e';rw [e'] at rO;simp at rO;omega)
     rw [rO] at kM
     obtain ⟨_,_,_,_,_,_⟩:=r
     cases hr
     simp only [execOp,Instr.buildSlice]
     have qR:Instr.fill (λi=>some (i*aK P e,aK P e)) ((Array.range (len*aK P e)).map (λi=>(if len*aK P e=0 then #[] else (az φ z.cells).toArray)[i%(if len*aK P e=0 then #[] else (az φ z.cells).toArray).size]!)) (parts.toList.map λp=>(p.1,ρ p.2))=some (az φ c).toArray:=by
      rw [ZN]
      by_cases hn:len*aK P e=0
      ·have TG:len=0:=by
        rcases Nat.mul_eq_zero.1 hn with h | h
        ·exact h
        ·omega
       subst TG
       have h0:Array.range 0= #[]:=by simp [Array.range]
       simpa [nQ,az,h0] using Qh
      ·simp only [hn,if_false]
       rw [kM]
       exact Qh
     have hb: ¬ (len*aK P e>2^24):=by have:(2:Nat)^24=16777216:=rfl;omega
     by_cases hn:len*aK P e=0
     ·simp only [hn,if_true] at qR
      simp at qR
      simp [run_underlying hu,hs,hn,qR,newRow,Jb1,fA]
     ·simp only [hn,if_false] at qR
      simp at qR
      simp [run_underlying hu,hs,hb,hn,Lo,e9,qR,newRow,Jb1,fA]
    ·cases h
   ·cases h
  ·cases h
 ·cases h
theorem xX (φ:bo) (z:AV) (n:Nat):(Array.range n).map (λi=>(#[Jb1 φ z]:Array Value)[i%1]!)=(az φ (nQ [z] n)).toArray:=by
 have:=uR φ [z] n (by simp)
 simpa [az] using this
theorem vN (h:dQ P env (.makeSlice t x y) s= .ok v s'):fL P s s' env (.makeSlice t x y) v:=by
 have mx:x∈(Op.makeSlice t x y).operands.toList:=by simp [Op.operands]
 have my:y∈(Op.makeSlice t x y).operands.toList:=by simp [Op.operands]
 simp only [dQ] at h
 split at h
 ·rename_i e k len k' cap he hx hy
  split at h
  ·rename_i z hz
   have cC:=(ej hz default (λ_=>⟨0,0⟩)).2.1
   split at h
   ·rename_i h1 h2 h3 h4 h5
    have xE:=Nat.le_of_ble_eq_true h1
    have rO:=Nat.eq_of_beq_eq_true h2
    have La:=Nat.eq_of_beq_eq_true h3
    have XC:=Nat.le_of_ble_eq_true h4
    have XE:=Nat.le_of_ble_eq_true h5
    rw [jF] at La
    rw [fu] at h
    cases h
    refine gp _ (bC.refl s) _ _ (λD hD=>hD) (λD _ cF _=>oM (eR (cC D)) cap) (λφ w ρ r hr _ _ _ cF hρ=> ?_)
    obtain ⟨g1,g2,g3⟩:=kR (φ:=φ) (w:=w) (n:=s.next) (sy:=false) (t:=e) (oM (eR (cC _)) cap)
    refine ⟨⟨w.heap.size,0⟩,_,?_,g1,Nat.le_refl _,g2,g3⟩
    have jx:=hρ x mx _ hx
    have l0:=hρ y my _ hy
    obtain ⟨Lo,_,i,zz,hi,qP,S0⟩:=ej hz w φ
    have hs:=dF (P:=P) (t:=e) (by omega) w
    have hu:=jg he
    obtain ⟨u,VB⟩: ∃ u,z.cells=[u]:=by
     match hc:z.cells,La with
     | [u],_=>exact ⟨u,rfl⟩
    have ni:(Jb1 φ z).cells= #[Jb1 φ u]:=by rw [e9,VB];rfl
    have DW:i.bytes=P.bytesOf e:=by simp [Program.bytesOf,hi]
    rw [VB]
    have kM:=xX φ u cap
    simp only [maxLen] at XE
    simp only [room] at XC
    have Ge:i64.wrap (len:Int)=len:=by
     unfold IntKind.wrap IntKind.signed IntKind.bits
     simp only [Bool.true_and,decide_eq_true_eq]
     have:(len:Int)%2^64=len:=Int.emod_eq_of_lt (by omega) (by omega)
     rw [this,if_neg (by omega)]
    have Jc1:i64.wrap (cap:Int)=cap:=by
     unfold IntKind.wrap IntKind.signed IntKind.bits
     simp only [Bool.true_and,decide_eq_true_eq]
     have:(cap:Int)%2^64=cap:=Int.emod_eq_of_lt (by omega) (by omega)
     rw [this,if_neg (by omega)]
    obtain ⟨_,_,_,_,_,_⟩:=r
    cases hr
    simp only [execOp,Instr.makeSlice]
    rw [jx,l0]
    have VF:(typeInfo e).run P w= .ok i w:=by simp [typeInfo,hi]
    have oF: ¬ ((P.bytesOf e:Int)*(cap:Int)>2^48):=by
     have:(P.bytesOf e:Int)*(cap:Int)=((cap*P.bytesOf e:Nat):Int):=by rw [Nat.mul_comm];simp
     rw [this];have:(2:Int)^48=281474976710656:=rfl;omega
    simp only [Jb1]
    have e1:(Int.ofNat len)=(len:Int):=rfl
    have e2:(Int.ofNat cap)=(cap:Int):=rfl
    simp only [e1,e2]
    by_cases hn:cap=0
    ·subst hn
     have:len=0:=by omega
     subst this
     have Yx:i64.wrap 0=0:=Ge
     simp [run_underlying hu,asInt,asIntOf,VF,hs,rO,Yx,newRow,fA,nQ,az]
     have h0:Array.range 0= #[]:=by simp [Array.range]
     simp [h0]
    ·simp [run_underlying hu,asInt,asIntOf,VF,DW,hs,rO,Ge,Jc1,Lo,ni,hn,newRow,fA]
     have c1: ¬ (281474976710656<(P.bytesOf e:Int)*(cap:Int)):=by have:(2:Int)^48=281474976710656:=rfl;omega
     have c2: ¬ (((cap:Int)<0∨281474976710656<(P.bytesOf e:Int)*(cap:Int))∨(len:Int)<0):=by omega
     have c3: ¬ (cap<len):=by omega
     rw [if_neg (by rintro (h | h);exact c2 h;exact c3 h)]
     have Ak:=kM
     simp at Ak
     simp [Ak]
   ·cases h
  ·cases h
 ·rename_i e k len k' cap he hx hy
  split at h
  ·rename_i z hz
   have cC:=(ej hz default (λ_=>⟨0,0⟩)).2.1
   split at h
   ·rename_i u h2 VB
    have rO:=Nat.eq_of_beq_eq_true h2
    rw [fu] at h
    cases h
    have hq:=bC.lp s (0<=len∧cap=len∧len.toNat*P.bytesOf e<=room∧len.toNat<=maxLen)
    rw [hq.next]
    have hua: ∀ D,aR D (List.replicate len.toNat u):=λD=>cS.2 λv hv=>by
     have:=(List.mem_replicate.1 hv).2
     subst this
     have:=eR (cC D)
     rw [VB] at this
     exact this.1
    refine gp _ hq _ _ (λD hD=>hD) (λD _ cF _=>hua D) (λφ w ρ r hr hp _ _ cF hρ=> ?_)
    rw [fK] at hp
    obtain ⟨_,h0,jV,XC,XE⟩:=hp
    subst jV
    obtain ⟨n,rfl⟩:=Int.eq_ofNat_of_zero_le h0
    simp only [Int.toNat_natCast] at XC XE ⊢
    obtain ⟨g1,g2,g3⟩:=kR (φ:=φ) (w:=w) (n:=s.next) (sy:=true) (t:=e) (hua (· < s.next))
    refine ⟨⟨w.heap.size,0⟩,_,?_,g1,Nat.le_refl _,g2,g3⟩
    have jx:=hρ x mx _ hx
    have l0:=hρ y my _ hy
    obtain ⟨Lo,_,i,zz,hi,qP,S0⟩:=ej hz w φ
    have hs:=dF (P:=P) (t:=e) (by omega) w
    have hu:=jg he
    have ni:(Jb1 φ z).cells= #[Jb1 φ u]:=by rw [e9,VB];rfl
    have DW:i.bytes=P.bytesOf e:=by simp [Program.bytesOf,hi]
    have kM:=xX φ u n
    have hre: ∀ m,nQ [u] m=List.replicate m u:=by
     intro m
     induction m with
     | zero=>rfl
     | succ m ih=>simp [nQ,ih,List.replicate_succ]
    rw [hre] at kM
    simp only [maxLen] at XE
    simp only [room] at XC
    have Jc1:i64.wrap (n:Int)=n:=by
     unfold IntKind.wrap IntKind.signed IntKind.bits
     simp only [Bool.true_and,decide_eq_true_eq]
     have:(n:Int)%2^64=n:=Int.emod_eq_of_lt (by omega) (by omega)
     rw [this,if_neg (by omega)]
    obtain ⟨_,_,_,_,_,_⟩:=r
    cases hr
    simp only [execOp,Instr.makeSlice]
    rw [jx,l0]
    have VF:(typeInfo e).run P w= .ok i w:=by simp [typeInfo,hi]
    have c1: ¬ (281474976710656<(P.bytesOf e:Int)*(n:Int)):=by
     have:(P.bytesOf e:Int)*(n:Int)=((n*P.bytesOf e:Nat):Int):=by rw [Nat.mul_comm];simp
     rw [this];omega
    simp only [Jb1]
    by_cases hn:n=0
    ·subst hn
     have Yx:i64.wrap 0=0:=Jc1
     simp [run_underlying hu,asInt,asIntOf,VF,hs,rO,Yx,newRow,fA,az]
     have h0:Array.range 0= #[]:=by simp [Array.range]
     simp [h0]
    ·simp [run_underlying hu,asInt,asIntOf,VF,DW,hs,rO,Jc1,Lo,ni,hn,newRow,fA]
     have c2: ¬ (((n:Int)<0∨281474976710656<(P.bytesOf e:Int)*(n:Int))∨(n:Int)<0):=by omega
     first
      | rw [if_neg (by rintro (h | h);exact c2 (.inl h);exact c2 (.inr h))]
      | rw [if_neg c1]
      | skip
     have Ak:=kM
     simp at Ak
     simp [Ak]
   ·cases h
  ·cases h
 ·cases h
theorem xY (φ:bo) (k:Int): ∀ (l:List (Int×AV)) (i:Nat),(lR k (l.map (cq φ)) i).map (·.2)=(cR k l).map (Jb1 φ)
 | [],_=>rfl
 | (j,u)::l,i=>by
  simp only [List.map_cons,lR,cR,cq]
  by_cases h:k=j
  ·simp [h]
  ·simp only [h,if_false,decide_false]
   exact xY φ k l (i+1)
theorem uS {k:Int}: ∀ {l:List (Int×AV)} {u:AV},cR k l=some u-> ∃ x∈l,x.2=u
 | [],_,h=>by cases h
 | (j,v)::l,u,h=>by
  simp only [cR] at h
  split at h
  ·cases h;exact ⟨(j,v),by simp,rfl⟩
  ·obtain ⟨x,hx,he⟩:=uS h;exact ⟨x,by simp [hx],he⟩
theorem rS (φ:bo) (k:Int) (v:AV): ∀ (l:List (Int×AV)),(eh k v l).map (cq φ)=vI k (Jb1 φ v) (l.map (cq φ))
 | []=>rfl
 | (j,u)::l=>by
  simp only [List.map_cons,vI,eh,cq]
  by_cases h:k=j
  ·simp [h,cq]
  ·simp [h,cq,rS φ k v l]
theorem sB {D:Nat->Prop} {k:Int} {v:AV} (hv:v.aD D): ∀ {l:List (Int×AV)},(∀ x∈l,x.2.aD D)-> ∀ x∈eh k v l,x.2.aD D
 | [],_,x,hx=>by simp [eh] at hx;subst hx;exact hv
 | (j,u)::l,h,x,hx=>by
  simp only [eh] at hx
  split at hx
  ·rcases List.mem_cons.1 hx with rfl | hx
   ·exact hv
   ·exact h x (by simp [hx])
  ·rcases List.mem_cons.1 hx with rfl | hx
   ·exact h (j,u) (by simp)
   ·exact sB hv (λy hy=>h y (by simp [hy])) x hx
theorem Jd0 {T E kt:TypeId} (hT:P.underlying T=some (.map kt E)) (hk:P.underlying kt=some (.int .i64)) (z:Value) (w:World) (hz:(zeroValue E).run P w= .ok z w) (b:Nat) (l:List (Int×Value)) (h:xP w b l) (k:Int) (ok:Bool):
  (Instr.lookup T (.map (some b)) (.int .i64 k) ok).run P w= .ok (if ok then .tuple #[((lR k l 0).map (·.2)).getD z,.bool (lR k l 0).isSome] else ((lR k l 0).map (·.2)).getD z) w:=by
 obtain ⟨es,clock,hb,he⟩:=h
 have hf:=l8 k es.toList l 0 he
 have h1:=MapKept.run_checkKey (P:=P) (w:=w) (kt:=kt) (k:= .int .i64 k) hk (by simp [MapKept.IsKey]) es.isEmpty 9999
 have h2:=MapKept.run_findKey (P:=P) (w:=w) hk hf
 cases hg:lR k l 0 with
 | none=>
  rw [hg] at h2
  cases ok<;>simp [Instr.lookup,run_underlying hT,MapKept.run_getObj_map hb,h1,h2,hz,Result.andThen]
 | some p=>
  rw [hg] at h2
  cases ok<;>simp [Instr.lookup,run_underlying hT,MapKept.run_getObj_map hb,h1,h2,Result.andThen]
def Mw (ok:Bool) (u:AV) (q:Bool):AV:=if ok then .eT [u,.bool q] else u
theorem Ek {ok:Bool} (h:dQ P env (.lookup t x i ok) s= .ok v s'):fL P s s' env (.lookup t x i ok) v:=by
 have mx:x∈(Op.lookup t x i ok).operands.toList:=by simp [Op.operands]
 have mi:i∈(Op.lookup t x i ok).operands.toList:=by simp [Op.operands]
 simp only [dQ] at h
 split at h
 ·rename_i kt e b kv hu hx hi
  split at h
  ·rename_i z sk k hk hz S9
   obtain ⟨y,hg,h3⟩:=je h
   clear h
   have run: ∀ (sy:Bool) (l:List (Int×AV)),s.get b=some (.map sy l)-> ∀ (φ:bo) (w:World) (ρ:Operand->Value) (r:Oper) (u:AV) (q:Bool),r.op= .lookup t x i ok->xB φ env ρ (.lookup t x i ok)->Fits s (λc=>c=b) φ w->
     ((cR k l=some u∧q=true)∨(cR k l=none∧u=z∧q=false))->(execOp ρ r).run P w= .ok (.value (Jb1 φ (Mw ok u q))) w:=by
    intro sy l hg φ w ρ r u q hr hρ hf hq
    have jx:=hρ x mx _ hx
    have iS:=(hρ i mi _ hi).trans (eI S9 φ)
    have hh:xP w (φ b).dp (l.map (cq φ)):=hf.holds b _ rfl hg
    have jJ:=Jd0 (P:=P) hu (mS hk) (Jb1 φ z) w (ej hz w φ).1 (φ b).dp _ hh k ok
    have AT:=xY φ k l 0
    have e1:((lR k (l.map (cq φ)) 0).map (·.2)).getD (Jb1 φ z)=Jb1 φ u:=by
     rw [AT]
     rcases hq with ⟨h1,_⟩ | ⟨h1,rfl,_⟩<;>rw [h1]<;>rfl
    have e2:(lR k (l.map (cq φ)) 0).isSome=q:=by
     have:=congrArg Option.isSome AT
     rw [Option.isSome_map,Option.isSome_map] at this
     rw [this]
     rcases hq with ⟨h1,rfl⟩ | ⟨h1,_,rfl⟩<;>rw [h1]<;>rfl
    rw [e1,e2] at jJ
    obtain ⟨_,_,_,_,_,_⟩:=r
    cases hr
    simp only [execOp]
    rw [jx,iS]
    simp only [Jb1]
    cases ok<;>simp [jJ,Jb1,az,Mw]
   have all: ∀ (sy:Bool) (l:List (Int×AV)),s.get b=some (.map sy l)-> ∀ (D:Nat->Prop) (u:AV) (q:Bool),(∀ c o,c=b->s.get c=some o->o.aD D)->((cR k l=some u∧q=true)∨(cR k l=none∧u=z∧q=false))->(Mw ok u q).aD D:=by
    intro sy l hg D u q hR hq
    have FJ:u.aD D:=by
     rcases hq with ⟨h1,_⟩ | ⟨_,rfl,_⟩
     ·obtain ⟨p,hp,he⟩:=uS h1
      exact he▸hR b _ rfl hg p hp
     ·exact (ej hz default (λ_=>⟨0,0⟩)).2.1 D
    cases ok
    ·exact FJ
    ·exact ⟨FJ,trivial,trivial⟩
   have fin: ∀ (sy:Bool) (l:List (Int×AV)),s.get b=some (.map sy l)-> ∀ (s1:St) (u:AV) (q:Bool),bC s s1 (λc=>c=b)->v=Mw ok u q->s'=s1->
     (s1.pre->(cR k l=some u∧q=true)∨(cR k l=none∧u=z∧q=false))->fL P s s' env (.lookup t x i ok) v:=by
    intro sy l hg s1 u q lX hv AR aQ
    subst hv AR
    exact cU _ lX (λD hp _ hR=>all sy l hg D u q hR (aQ hp)) (λφ w ρ r hr hp hf hρ=>run sy l hg φ w ρ r u q hr hρ hf (aQ hp))
   split at h3
   ·rename_i l
    split at h3
    ·cases h3
    ·split at h3
     ·rename_i u hfm
      injection h3 with h1 h2
      exact fin false l hg _ u true (bC.seen s b) (by rw [<- h1];cases ok<;>rfl) h2.symm (λ_=> .inl ⟨hfm,rfl⟩)
     ·rename_i hfm
      injection h3 with h1 h2
      exact fin false l hg _ z false (bC.seen s b) (by rw [<- h1];cases ok<;>rfl) h2.symm (λ_=> .inr ⟨hfm,rfl,rfl⟩)
   ·rename_i l
    obtain ⟨hp,n,rd,wr,p,oo⟩:=s
    simp only [St.seen] at h3
    split at h3
    ·rename_i u vA he
     injection he with e1 e2 e3 e4 e5 e6
     subst e1 e2 e3 e4 e5 e6
     injection h3 with h1 h2
     subst h2
     exact fin true l hg ⟨hp,n,mark rd b,wr,p∧cR k l=some u,vA⟩ u true ⟨rfl,rfl,λc hc=>(by subst hc;exact dO _ _),λc hc=>di _ _ _ hc,λ_ h=>h,λh=>h.1⟩ (by rw [<- h1];cases ok<;>rfl) rfl (λhp=> .inl ⟨hp.2,rfl⟩)
    ·rename_i vA he
     injection he with e1 e2 e3 e4 e5 e6
     subst e1 e2 e3 e4 e5 e6
     injection h3 with h1 h2
     subst h2
     exact fin true l hg ⟨hp,n,mark rd b,wr,p∧cR k l=none,vA⟩ z false ⟨rfl,rfl,λc hc=>(by subst hc;exact dO _ _),λc hc=>di _ _ _ hc,λ_ h=>h,λh=>h.1⟩ (by rw [<- h1];cases ok<;>rfl) rfl (λhp=> .inr ⟨hp.2,rfl,rfl⟩)
    ·cases h3
   ·cases h3
  ·cases h
 ·cases h
theorem vO (h:dQ P env (.mapUpdate t x i y) s= .ok v s'):fL P s s' env (.mapUpdate t x i y) v:=by
 have mx:x∈(Op.mapUpdate t x i y).operands.toList:=by simp [Op.operands]
 have mi:i∈(Op.mapUpdate t x i y).operands.toList:=by simp [Op.operands]
 have my:y∈(Op.mapUpdate t x i y).operands.toList:=by simp [Op.operands]
 simp only [dQ] at h
 split at h
 ·rename_i kt e b kv u hu hx hi hy
  split at h
  ·rename_i sk k hk S9
   obtain ⟨q,hg,h⟩:=je h
   split at h
   ·rename_i sy l
    rw [ma] at h
    cases h
    refine lr _ (bC.seen s b) rfl hg _ (λD=>trivial) (λD _ cF hR=> ?_) (λφ w ρ r hr _ hf hρ=> ?_)
    ·exact sB (cF y my _ hy) (hR b _ rfl hg)
    ·have jx:=hρ x mx _ hx
     have iS:=(hρ i mi _ hi).trans (eI S9 φ)
     have l0:=hρ y my _ hy
     have hh:xP w (φ b).dp (l.map (cq φ)):=hf.holds b _ rfl hg
     obtain ⟨w',h1,h2,h3⟩:=ss (P:=P) hu (mS hk) w (φ b).dp _ hh k (Jb1 φ u)
     refine ⟨w',.skip,?_,rfl,?_,λr hr bq=>h3.block r hr (by intro e;cases e;exact bq rfl),h3.size,h3.os,h3.output⟩
     ·obtain ⟨_,_,_,_,_,_⟩:=r
      cases hr
      simp only [execOp]
      rw [jx,iS,l0]
      simp [Jb1,h1]
     ·show xP w' (φ b).dp ((eh k u l).map (cq φ))
      rw [rS]
      exact h2
   ·cases h
  ·cases h
 ·cases h
theorem sC {l:List String} (h:l≠[]): ∃ m,Instr.least l=some m:=by
 cases l with
 | nil=>exact absurd rfl h
 | cons a l=>exact ⟨_,rfl⟩
theorem xZ (want:Array (String×TypeId)) (Ma:Array Method):(xN want Ma=false->Instr.missingMethod want Ma=none)∧(xN want Ma=true-> ∃ m,Instr.missingMethod want Ma=some m):=by
 have e:(want.toList.filter λ(x:String×TypeId)=>match x with | (name,sig)=> !Ma.any λm=>m.name==name&&m.sig==sig)=[]↔xN want Ma=false:=by
  unfold xN
  rw [List.filter_eq_nil_iff,List.any_eq_false]
 constructor
 ·intro h
  have h':=e.2 h
  simp only [Instr.missingMethod]
  rw [h']
  rfl
 ·intro h
  have h':(want.toList.filter λ(x:String×TypeId)=>match x with | (name,sig)=> !Ma.any λm=>m.name==name&&m.sig==sig)≠[]:=λh''=>by rw [e.1 h''] at h;cases h
  simp only [Instr.missingMethod]
  generalize hm:(want.toList.filter λ(x:String×TypeId)=>match x with | (name,sig)=> !Ma.any λm=>m.name==name&&m.sig==sig)=M at*
  have hM:M.map (·.1)≠[]:=by simpa using h'
  generalize M.map (·.1)=L at*
  rw [List.partition_eq_filter_filter]
  simp only
  by_cases h1:L.filter (not∘λx=>x.contains (Char.ofNat 46))=[]
  ·rw [h1]
   have h2:L.filter (λx=>x.contains (Char.ofNat 46))≠[]:=by
    intro h2
    obtain ⟨a,L',rfl⟩:=List.exists_cons_of_ne_nil hM
    have a1:=List.filter_eq_nil_iff.1 h1 a (by simp)
    have a2:=List.filter_eq_nil_iff.1 h2 a (by simp)
    simp at a1 a2
    exact a2 a1
   obtain ⟨m, hm⟩ := sC (l := (L.filter (λx => x.contains (Char.ofNat 46))).map λid => (id.splitOn ".").getLastD id) (by simpa using h2)
   exact ⟨m,by simp only [Instr.least];exact hm⟩
  ·obtain ⟨m,hm⟩:=sC h1
   exact ⟨m,by rw [hm];rfl⟩
theorem uo {xt:TypeId} (h:dQ P env (.typeAssert x xt t true) s= .ok v s'):fL P s s' env (.typeAssert x xt t true) v:=by
 have mx:x∈(Op.typeAssert x xt t true).operands.toList:=by simp [Op.operands]
 simp only [dQ] at h
 split at h
 ·rename_i d u want hx hu
  split at h
  ·rename_i i hi
   split at h
   ·rename_i hl
    cases h
    refine bD (λD cF=>⟨cF x mx _ hx,trivial,trivial⟩) (λφ w ρ r hr hρ=> ?_)
    have jx:=hρ x mx _ hx
    have hm:=(xZ want i.methods).1 hl
    obtain ⟨_,_,_,_,_,_⟩:=r
    cases hr
    simp only [execOp,Instr.typeAssert]
    rw [jx]
    simp [run_underlying hu,Jb1,az,typeInfo,hi,hm]
   ·rename_i hl
    split at h
    ·rename_i z hz
     cases h
     refine bD (λD cF=>⟨(ej hz default (λ_=>⟨0,0⟩)).2.1 D,trivial,trivial⟩) (λφ w ρ r hr hρ=> ?_)
     have jx:=hρ x mx _ hx
     have Lo:=(ej hz w φ).1
     obtain ⟨m,hm⟩:=(xZ want i.methods).2 hl
     obtain ⟨_,_,_,_,_,_⟩:=r
     cases hr
     simp only [execOp,Instr.typeAssert]
     rw [jx]
     simp [run_underlying hu,Jb1,az,typeInfo,hi,hm,Lo]
    ·cases h
  ·cases h
 ·cases h
def AI (v:Option Value) (n:Option Nat):Prop:=(v=none∧n=none)∨ ∃ (k:IntKind) (i:Nat),v=some (.int k (i:Int))∧n=some i
theorem kS (k:IntKind) (i y:Nat) (code:BoundsCode) (h:i<=y) (w:World):(Instr.sliceBound (.int k (i:Int)) y code).run P w= .ok i w:=by
 simp [Instr.sliceBound,asIntOf,h]
theorem A4 (hl:AI lo l) (hh:AI hi h) (hm:AI mx m) (len cap:Nat) (hhm:h=none->m=none) (h1:m.getD cap<=cap) (h2:h.getD len<=m.getD cap) (h3:l.getD 0<=h.getD len) (w:World):
  (Instr.sliceBounds true len cap lo hi mx).run P w= .ok (l.getD 0,h.getD len,m.getD cap) w:=by
 rcases hm with ⟨rfl,rfl⟩ | ⟨km,im,rfl,rfl⟩
 ·rcases hh with ⟨rfl,rfl⟩ | ⟨kh,ih,rfl,rfl⟩
  ·rcases hl with ⟨rfl,rfl⟩ | ⟨kl,il,rfl,rfl⟩
   ·simp [Instr.sliceBounds]
   ·simp at h3
    simp [Instr.sliceBounds,kS,h3]
  ·simp at h2
   rcases hl with ⟨rfl,rfl⟩ | ⟨kl,il,rfl,rfl⟩
   ·simp [Instr.sliceBounds,kS,h2]
   ·simp at h3
    simp [Instr.sliceBounds,kS,h2,h3]
 ·rcases hh with ⟨rfl,rfl⟩ | ⟨kh,ih,rfl,rfl⟩
  ·cases hhm rfl
  ·simp at h1 h2
   rcases hl with ⟨rfl,rfl⟩ | ⟨kl,il,rfl,rfl⟩
   ·simp [Instr.sliceBounds,kS,h1,h2]
   ·simp at h3
    simp [Instr.sliceBounds,kS,h1,h2,h3]
theorem jG (hu:P.underlying t=some (.slice e)) (hz:1<=aK P e) (hl:AI lo l) (hh:AI hi h) (hm:AI mx m) (w:World):
  ∀ (a:Option Addr) (len cap:Nat),(h=none->m=none)->m.getD cap<=cap->h.getD len<=m.getD cap->l.getD 0<=h.getD len->
   (Instr.sliceAt t (.slice a len cap) lo hi mx).run P w= .ok (.slice (if m.getD cap=l.getD 0 then a else a.map (·.add (l.getD 0*aK P e))) (h.getD len-l.getD 0) (m.getD cap-l.getD 0)) w:=by
 have fy:=dF (P:=P) (t:=e) (by omega) w
 intro a len cap c0 c1 c2 c3
 have hb:=A4 (P:=P) hl hh hm len cap c0 c1 c2 c3 w
 simp [Instr.sliceAt,Instr.slice,run_underlying hu,hb,fy]
theorem mj (hu:P.underlying t=some (.slice e)) (hz:1<=aK P e) (hl:AI lo l) (hh:AI hi none) (hm:AI mx none) (w:World) (φ:bo) (b k j len iM:Nat)
  (c2':k+len<=iM) (c3':1<=l.getD 0) (Ta:l.getD 0<=len):
  (Instr.sliceAt t (Jb1 φ (.aF b (aK P e) k j len iM)) lo hi mx).run P w= .ok (Jb1 φ (.aF b (aK P e) (k+l.getD 0) k (len-l.getD 0) iM)) w:=by
 simp only [Jb1]
 rw [jG hu hz hl hh hm w _ _ _ (λ_=>rfl) (Nat.le_refl _) (by simp;omega) (by simpa using Ta)]
 simp only [Option.getD_none,show ¬ (k=iM) by omega,and_false,if_false]
 generalize l.getD 0=L at*
 have Zn: ∀ n:Nat,(⟨(φ b).dp,k*aK P e,none⟩:Addr).add n=⟨(φ b).dp,k*aK P e+n,none⟩:=by
  intro n;unfold Addr.add;split<;>simp_all
 simp only [Option.map_some,Zn]
 have e1:iM-k+(φ b).fr-L=iM-(k+L)+(φ b).fr:=by omega
 rw [e1]
 by_cases hc:iM-k+(φ b).fr=L
 ·rw [if_pos hc,if_pos (by omega)]
 ·rw [if_neg hc,if_neg (by omega)]
  simp [Nat.add_mul]
theorem QK {x:AV} (hu:P.underlying t=some (.slice e)) (hz:1<=aK P e) (hs:TY (aK P e) x l h m=some v) (hl:AI lo l) (hh:AI hi h) (hm:AI mx m) (φ:bo) (w:World):
  (Instr.sliceAt t (Jb1 φ x) lo hi mx).run P w= .ok (Jb1 φ v) w:=by
 have fy:=dF (P:=P) (t:=e) (by omega) w
 have go:=jG hu hz hl hh hm w
 unfold TY at hs
 split at hs
 ·rename_i b off len cap
  split at hs
  ·cases hs
  ·rename_i bq
   split at hs
   ·rename_i c1 c2 c3
    cases hs
    have Mj:=Nat.le_of_ble_eq_true c1
    have c2':=Nat.le_of_ble_eq_true c2
    have c3':=Nat.le_of_ble_eq_true c3
    simp only [Jb1]
    rw [go _ _ _ (by
     intro hn;subst hn
     cases m with
     | none=>rfl
     | some m=>exact (bq m rfl rfl).elim) Mj c2' c3']
    cases hq:Nat.beq (m.getD cap) (l.getD 0) with
    | true=>simp [Nat.eq_of_beq_eq_true hq]
    | false=>
     have:=Nat.ne_of_beq_eq_false hq
     simp [this,Addr.add]
   ·cases hs
 ·rename_i b z k j len iM
  split at hs
  ·rename_i c1 c2
   have Mj:=Nat.eq_of_beq_eq_true c1
   have c2':=Nat.le_of_ble_eq_true c2
   subst Mj
   split at hs
   ·split at hs
    ·rename_i c3 c4
     cases hs
     have c3':=Nat.le_of_ble_eq_true c3
     have Ta:=Nat.le_of_ble_eq_true c4
     exact mj hu hz hl hh hm w φ b k j len iM c2' c3' Ta
    ·cases hs
   ·rename_i h'
    split at hs
    ·rename_i c3 c4 c5 c6
     cases hs
     have c3':=Nat.eq_of_beq_eq_true c3
     have Ta:=Nat.eq_of_beq_eq_true c4
     have Y6:=Nat.eq_of_beq_eq_true c5
     have c6':=Nat.le_of_ble_eq_true c6
     subst Ta Y6
     simp only [Jb1]
     rw [go _ _ _ (λh=>by cases h) (Nat.le_refl _) (by simp;omega) (by rw [c3'];exact Nat.zero_le _)]
     rw [c3']
     simp [Addr.add]
    ·cases hs
   ·rename_i h' m'
    split at hs
    ·rename_i c3 c4 c5 c6 c7
     cases hs
     have c3':=Nat.eq_of_beq_eq_true c3
     have Ta:=Nat.eq_of_beq_eq_true c4
     have Y6:=Nat.eq_of_beq_eq_true c5
     have c6':=Nat.le_of_ble_eq_true c6
     have c7':=Nat.le_of_ble_eq_true c7
     subst Ta Y6
     simp only [Jb1]
     rw [go _ _ _ (λh=>by cases h) (by simp;omega) (by simpa using c6') (by rw [c3'];exact Nat.zero_le _)]
     rw [c3']
     simp [Addr.add]
    ·cases hs
   ·cases hs
  ·cases hs
 ·split at hs
  ·cases hs
   simp only [Jb1]
   rw [go _ _ _ (λ_=>rfl) (Nat.le_refl _) (Nat.le_refl _) (Nat.le_refl _)]
   simp
  ·cases hs
 ·cases hs
theorem QL {x:AV} (hu:P.underlying t=some (.slice e)) (hz:1<=aK P e) (hs:TZ (aK P e) x l h m=some (v,q)) (hq:q) (hl:AI lo l) (hh:AI hi h) (hm:AI mx m) (φ:bo) (w:World):
  (Instr.sliceAt t (Jb1 φ x) lo hi mx).run P w= .ok (Jb1 φ v) w:=by
 unfold TZ at hs
 split at hs
 ·split at hs
  ·rename_i h0
   cases hs
   have Gb:=Nat.eq_of_beq_eq_true h0
   simp only [Jb1]
   rw [jG hu hz hl hh hm w _ _ _ (λh=>by cases h) (by simp) (by simp) (by rw [Gb];simp)]
   simp [Gb]
  ·cases hs
 ·split at hs
  ·split at hs
   ·rename_i h0 h1 h2
    cases hs
    have Gb:=Nat.eq_of_beq_eq_true h0
    have xE:=Nat.eq_of_beq_eq_true h1
    have rO:=Nat.eq_of_beq_eq_true h2
    subst xE rO
    simp only [Jb1]
    rw [jG hu hz hl hh hm w _ _ _ (λh=>by cases h) (by simp) (by simp) (by rw [Gb];simp)]
    simp [Gb]
   ·cases hs
  ·split at hs
   ·rename_i h0
    cases hs
    have Gb:=Nat.eq_of_beq_eq_true h0
    subst Gb
    exact mj hu hz hl hh hm w φ _ _ _ _ _ hq.2.2 hq.1 hq.2.1
   ·cases hs
  ·cases hs
 ·cases hs
theorem Mx {sz:Nat} {x:AV} (hs:TZ sz x l h m=some (v,q)) (hx:x.aD D):v.aD D:=by
 unfold TZ at hs
 repeat' split at hs
 all_goals first | (cases hs;exact hx) | cases hs
theorem My {sz:Nat} {x:AV} (hs:TY sz x l h m=some v) (hx:x.aD D):v.aD D:=by
 unfold TY at hs
 repeat' split at hs
 all_goals first | (cases hs;exact hx) | cases hs
theorem Gy {lo hi mx:Option Operand} (h:dQ P env (.slice t x lo hi mx) s= .ok v s'):fL P s s' env (.slice t x lo hi mx) v:=by
 have m0:x∈(Op.slice t x lo hi mx).operands.toList:=by simp [Op.operands]
 have m1: ∀ y,lo=some y->y∈(Op.slice t x lo hi mx).operands.toList:=by intro y hy;subst hy;simp [Op.operands]
 have m2: ∀ y,hi=some y->y∈(Op.slice t x lo hi mx).operands.toList:=by intro y hy;subst hy;simp [Op.operands]
 have m3: ∀ y,mx=some y->y∈(Op.slice t x lo hi mx).operands.toList:=by intro y hy;subst hy;simp [Op.operands]
 simp only [dQ] at h
 split at h
 ·rename_i u l hh m hx hl Ja9 hm
  unfold CN at h
  split at h
  ·rename_i e l' h' m' he hbl hbh hbm
   split at h
   ·rename_i c1
    have Mj:=Nat.le_of_ble_eq_true c1
    have key: ∀ (ρ:Operand->Value) (φ:bo),xB φ env ρ (.slice t x lo hi mx)-> ∀ (z:Option Operand) (q:Option AV) (n:Option Nat),(∀ y,z=some y->y∈(Op.slice t x lo hi mx).operands.toList)->
      (match z with | none=>some none | some y=>(match dM env y with | some v=>some (some v) | none=>none))=some q->TX q=some n->AI (z.map ρ) n:=by
     intro ρ φ hρ z q n hz hq hb
     cases z with
     | none=>simp at hq;subst hq;simp [TX] at hb;subst hb;exact .inl ⟨rfl,rfl⟩
     | some y=>
      simp only at hq
      cases hy:dM env y with
      | none=>rw [hy] at hq;cases hq
      | some a=>
       rw [hy] at hq;cases hq
       cases a with
       | int k i=>
        cases i with
        | ofNat i=>cases hb;exact .inr ⟨k,i,by simp [hρ y (hz y rfl) _ hy,Jb1],rfl⟩
        | negSucc i=>cases hb
       | _=>cases hb
    have fin: ∀ (φ:bo) (w:World) (ρ:Operand->Value) (r:Oper) (a:AV),r.op= .slice t x lo hi mx->xB φ env ρ (.slice t x lo hi mx)->(Instr.sliceAt t (Jb1 φ u) (lo.map ρ) (hi.map ρ) (mx.map ρ)).run P w= .ok (Jb1 φ a) w->(execOp ρ r).run P w= .ok (.value (Jb1 φ a)) w:=by
     intro φ w ρ r a hr hρ jJ
     have jx:=hρ x m0 _ hx
     obtain ⟨_,_,_,_,_,_⟩:=r
     cases hr
     simp only [execOp]
     rw [jx]
     simp [jJ]
    split at h
    ·rename_i a hs
     cases h
     exact bD (λD cF=>My hs (cF x m0 _ hx)) (λφ w ρ r hr hρ=>fin φ w ρ r _ hr hρ (QK (P:=P) (jg he) Mj hs (key ρ φ hρ lo l l' m1 hl hbl) (key ρ φ hρ hi hh h' m2 Ja9 hbh) (key ρ φ hρ mx m m' m3 hm hbm) φ w))
    ·split at h
     ·rename_i a q hs
      cases h
      refine cU _ (bC.lp s q) (λD _ cF _=>Mx hs (cF x m0 _ hx)) (λφ w ρ r hr hp _ hρ=> ?_)
      rw [fK] at hp
      exact fin φ w ρ r _ hr hρ (QL (P:=P) (jg he) Mj hs hp.2 (key ρ φ hρ lo l l' m1 hl hbl) (key ρ φ hρ hi hh h' m2 Ja9 hbh) (key ρ φ hρ mx m m' m3 hm hbm) φ w)
     ·cases h
   ·cases h
  ·cases h
 ·cases h
end
end Ev
end Go.Proofs.YtpkfimijnkkbjaaGreat
