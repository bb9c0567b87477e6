/- The queue's machine, as plain numbers: what each step of an operation does to the words. -/

set_option linter.unusedVariables false
namespace Go.Proofs.YtpkfimijnkkbjaaGreat
namespace Qk
structure Ds where
 bN:Bool
 take:Bool
 load:Nat
 ag:Nat
 deriving DecidableEq
structure cv where
 n:Nat
 k:Nat
 att:Nat
structure Mm where
 head:Nat
 tail:Nat
 ds:Nat->Ds
 nx:Nat->Nat×Nat
 tk:Nat->Nat×Nat
 vl:Nat->Nat×Nat
 mr:Nat->Nat
def aO (r:Nat):Nat:=r%1024
def bH (r:Nat):Nat:=r/1024
def kU (p v:Nat):Nat:=p+1024*v
def cv.okp (P:cv) (r:Nat):Prop:=1<=aO r∧aO r<=1+P.n*P.k
instance (P:cv) (r:Nat):Decidable (P.okp r):=by unfold cv.okp;infer_instance
def cv.own (P:cv) (r:Nat):Option Nat:=if 2<=aO r∧aO r<=1+P.n*P.k then some ((aO r-2)/P.k) else none
def Jb2 {α:Type} (f:Nat->α) (a:Nat) (v:α):Nat->α:=λi=>if i=a then v else f i
def Ds.fin (d:Ds) (l:Nat):Ds:={ d with bN:=false,load:=l }
def Ds.lB (d:Ds) (l:Nat):Ds:={ d with load:=l }
def Ds.waits (d:Ds) (ph:Nat) (take:Bool):Bool:=d.bN&&(d.take==take)&&d.ag==ph
inductive Tl where
 | e
 | n (last:Nat)
 | d (last x owner:Nat)
 | f (last x owner:Nat) (d:Ds)
 | s (last x:Nat)
def aU (P:cv) (M:Mm):Tl->Mm×Option Tl
 | .e=>(M,if P.okp M.tail then some (.n M.tail) else none)
 | .n last=>(M,if (M.nx (aO last)).1=bH last∧(M.nx (aO last)).2≠0 then match P.own (M.nx (aO last)).2 with
   | some u=>some (.d last (M.nx (aO last)).2 u)
   | none=>none
  else none)
 | .d last x u=>(M,some (if (M.ds u).bN=true∧(M.ds u).take=false∧(M.ds u).load=x then .f last x u (M.ds u) else .s last x))
 | .f last x u d=>(if M.ds u=d then { M with ds:=Jb2 M.ds u (d.fin x) } else M,some (.s last x))
 | .s last x=>(if M.tail=last then { M with tail:=x } else M,none)
inductive Hd where
 | e
 | n (first:Nat)
 | t (first x:Nat)
 | d (first x u:Nat)
 | v (first x u:Nat) (d:Ds)
 | f (first x u:Nat) (d:Ds) (y:Nat)
 | s (first x:Nat)
 | m (first:Nat)
def aS (P:cv) (M:Mm):Hd->Mm×Option Hd
 | .e=>(M,if P.okp M.head then some (.n M.head) else none)
 | .n first=>(M,if (M.nx (aO first)).1=bH first∧(M.nx (aO first)).2≠0∧P.okp (M.nx (aO first)).2 then some (.t first (M.nx (aO first)).2) else none)
 | .t first x=>(M,if (M.tk (aO first)).1=bH first∧(M.tk (aO first)).2≠0 then some (if (M.tk (aO first)).2<=P.n then .d first x ((M.tk (aO first)).2-1) else .s first x) else none)
 | .d first x u=>(M,some (if (M.ds u).bN=true∧(M.ds u).take=true∧(M.ds u).load=first then .v first x u (M.ds u) else .s first x))
 | .v first x u d=>(M,some (.f first x u d (M.vl (aO x)).2))
 | .f first x u d y=>(if M.ds u=d then { M with ds:=Jb2 M.ds u (d.fin (y%16777216+1)) } else M,some (.s first x))
 | .s first x=>if M.head=first then ({ M with head:=x },some (.m first)) else (M,none)
 | .m first=>(if M.mr (aO first)=2*bH first+1 then { M with mr:=Jb2 M.mr (aO first) (2*bH first) } else M,none)
inductive Fn where
 | tl (t:Tl)
 | hd (h:Hd)
def bu (P:cv) (M:Mm):Fn->Mm×Option Fn
 | .tl t=>((aU P M t).1,(aU P M t).2.map .tl)
 | .hd h=>((aS P M h).1,(aS P M h).2.map .hd)
inductive Hs where
 | look
 | iw
 | gG (last:Nat)
 | fv (last:Nat)
 | kL (last:Nat) (d:Ds)
 | iz (d:Ds)
 | ji (d:Ds) (first:Nat)
 | jj (d:Ds) (first last:Nat)
 | ey (d:Ds) (first last:Nat) (w:Nat×Nat)
 | ff (d:Ds)
 | hZ (d:Ds) (first:Nat)
 | eJ (first:Nat)
 | sub (f:Fn) (bM:Bool)
def ax (P:cv) (M:Mm) (take:Bool) (u ph:Nat):Hs->Mm×Option Hs
 | .look=>(M,if (M.ds u).waits ph take then some (if take then .iz (M.ds u) else .iw) else none)
 | .iw=>(M,some (.gG M.tail))
 | .gG last=>(M,some (if (M.nx (aO last)).1=bH last then (if (M.nx (aO last)).2≠0 then .sub (.tl .e) false else .fv last) else .look))
 | .fv last=>(M,if (M.ds u).waits ph false then some (.kL last (M.ds u)) else none)
 | .kL last d=>if M.nx (aO last)=(bH last,0) then ({ M with nx:=Jb2 M.nx (aO last) (bH last,d.load) },some (.sub (.tl .e) true)) else (M,some .look)
 | .iz d=>(M,some (.ji d M.head))
 | .ji d first=>(M,some (.jj d first M.tail))
 | .jj d first last=>(M,some (.ey d first last (M.nx (aO first))))
 | .ey d first last w=>(M,some (if M.head=first then (if w.2=0 then .ff d else if first=last then .sub (.tl .e) false else if d.load≠first then .hZ d first else .eJ first) else .look))
 | .ff d=>if M.ds u=d then ({ M with ds:=Jb2 M.ds u (d.fin 0) },none) else (M,some .look)
 | .hZ d first=>if M.ds u=d then ({ M with ds:=Jb2 M.ds u (d.lB first) },some (.eJ first)) else (M,some .look)
 | .eJ first=>(if M.tk (aO first)=(bH first,0) then { M with tk:=Jb2 M.tk (aO first) (bH first,u+1) } else M,some (.sub (.hd .e) false))
 | .sub f bM=>match bu P M f with
  | (M',some f')=>(M',some (.sub f' bM))
  | (M',none)=>(M',if bM then none else some .look)
inductive Sb where
 | fn (f:Fn)
 | hp (take:Bool) (u ph:Nat) (s:Hs)
def bF (P:cv) (M:Mm):Sb->Mm×Option Sb
 | .fn f=>((bu P M f).1,(bu P M f).2.map .fn)
 | .hp take u ph s=>((ax P M take u ph s).1,(ax P M take u ph s).2.map (.hp take u ph))
inductive Fo where
 | cM
 | aH
 | b8
 | fin
inductive Os where
 | check
 | mark
 | ia (mark:Nat)
 | value
 | next
 | ib
 | tail
 | behind (last:Nat)
 | put (last:Nat)
 | head
 | dX (first:Nat)
 | first (first last:Nat)
 | Jb6 (first last:Nat) (w:Nat×Nat)
 | read (first x:Nat)
 | take (first y:Nat)
 | ag
 | cO
 | b8
 | result
 | sub (s:Sb) (f:Fo)
structure Op where
 take:Bool
 v:Nat
 tries:Nat
 ref:Nat
 i:Nat
 ag:Nat
 err:Nat
 val:Nat
 st:Os
def Op.aH (P:cv) (o:Op):Op:=
 if P.att<o.tries+1 then { o with tries:=o.tries+1,i:=0,st:= .ag }
 else { o with tries:=o.tries+1,st:=if o.take then .head else .tail }
def Op.cM (P:cv) (o:Op):Op:=if o.take then o.aH P else { o with i:=0,st:= .mark }
def Op.cD (P:cv) (o:Op):Op×Bool:=
 if o.i+1<P.n then ({ o with i:=o.i+1,st:= .b8 },false)
 else if o.take then ({ o with i:=o.i+1,st:= .result },false)
 else ({ o with i:=o.i+1,st:= .b8 },true)
def Op.gv (P:cv) (o:Op):Fo->Op×Bool
 | .cM=>(o.cM P,false)
 | .aH=>(o.aH P,false)
 | .b8=>o.cD P
 | .fin=>(o,true)
def aj (P:cv) (M:Mm) (t:Nat) (o:Op):Mm×Op×Bool:=
 match o.st with
 | .check=>if (M.ds o.i).bN then (M,{ o with st:= .sub (.hp (M.ds o.i).take o.i (M.ds o.i).ag .look) .cM },false) else (M,o.cM P,false)
 | .mark=>
  if M.mr (2+t*P.k+o.i)%2=0 then (M,{ o with i:=o.i+1,ref:=kU (2+t*P.k+o.i) (M.mr (2+t*P.k+o.i)/2+1),st:= .ia (M.mr (2+t*P.k+o.i)) },false)
  else if o.i+1=P.k then (M,{ o with i:=o.i+1,err:=6 },true) else (M,{ o with i:=o.i+1 },false)
 | .ia mark=>({ M with mr:=Jb2 M.mr (aO o.ref) (mark+3) },{ o with st:= .value },false)
 | .value=>({ M with vl:=Jb2 M.vl (aO o.ref) (bH o.ref,o.v) },{ o with st:= .next },false)
 | .next=>({ M with nx:=Jb2 M.nx (aO o.ref) (bH o.ref,0) },{ o with st:= .ib },false)
 | .ib=>({ M with tk:=Jb2 M.tk (aO o.ref) (bH o.ref,0) },o.aH P,false)
 | .tail=>(M,{ o with st:= .behind M.tail },false)
 | .behind last=>(M,if (M.nx (aO last)).1=bH last then { o with st:=if (M.nx (aO last)).2≠0 then .sub (.fn (.tl .e)) .aH else .put last } else o.aH P,false)
 | .put last=>if M.nx (aO last)=(bH last,0) then ({ M with nx:=Jb2 M.nx (aO last) (bH last,o.ref) },{ o with st:= .sub (.fn (.tl .e)) .fin },false) else (M,{ o with st:= .sub (.fn (.tl .e)) .aH },false)
 | .head=>(M,{ o with st:= .dX M.head },false)
 | .dX first=>(M,{ o with st:= .first first M.tail },false)
 | .first first last=>(M,{ o with st:= .Jb6 first last (M.nx (aO first)) },false)
 | .Jb6 first last w=>
  if M.head=first then (if w.2=0 then (M,{ o with err:=7 },true) else (M,{ o with st:=if first=last then .sub (.fn (.tl .e)) .aH else .read first w.2 },false))
  else (M,o.aH P,false)
 | .read first x=>(M,{ o with st:= .take first (M.vl (aO x)).2 },false)
 | .take first y=>
  if M.tk (aO first)=(bH first,0) then ({ M with tk:=Jb2 M.tk (aO first) (bH first,t+33) },{ o with val:=y,st:= .sub (.fn (.hd .e)) .fin },false)
  else (M,{ o with st:= .sub (.fn (.hd .e)) .aH },false)
 | .ag=>(M,{ o with ag:=max o.ag (M.ds o.i).ag,i:=o.i+1,st:=if o.i+1=P.n then .cO else .ag },false)
 | .cO=>({ M with ds:=Jb2 M.ds t ⟨true,o.take,o.ref,o.ag+1⟩ },{ o with ag:=o.ag+1,i:=0,st:= .b8 },false)
 | .b8=>if (M.ds o.i).bN=true∧(M.ds o.i).ag<=o.ag then (M,{ o with st:= .sub (.hp (M.ds o.i).take o.i (M.ds o.i).ag .look) .b8 },false) else (M,o.cD P)
 | .result=>(M,{ o with err:=if 0<(M.ds t).load then 0 else 7,val:=(M.ds t).load-1,st:= .sub (.fn (.hd .e)) .fin },false)
 | .sub s f=>match bF P M s with
  | (M',some s')=>(M',{ o with st:= .sub s' f },false)
  | (M',none)=>(M',o.gv P f)
structure Ug where
 ph:Nat
 hs:Nat
 take:Bool
 ref:Nat
structure Gh where
 L:Nat->Nat
 m:Nat
 h:Nat
 t:Nat
 T:Nat->Nat
 O:Nat->Nat×Nat
 G:Nat->Nat×Nat
 A:Nat->Option Ug
section
variable (P:cv) (V:Nat->Nat->Nat) (pos:Nat->Nat) (g:Gh) (M:Mm)
def Gh.ef (i:Nat):Nat:=if i<g.m then g.L (i+1) else 0
def valOf (i:Nat):Nat:=V (g.G i).1 (g.G i).2
def Fin (r:Nat):Prop:= ∀ u,(M.ds u).bN=true->(M.ds u).take=false->(M.ds u).load≠r
structure uq (u r v:Nat):Prop where
 own:P.own r=some u
 out: ∀ i,i<=g.m->g.L i≠r
 mr:M.mr (aO r)=2*bH r+1
 vl:M.vl (aO r)=(bH r,v)
 nx:M.nx (aO r)=(bH r,0)
 tk:M.tk (aO r)=(bH r,0)
def fF (u p:Nat):Prop:= ∀ i,1<=i->i<=g.m->g.G i≠(u,p)
def ez (u p:Nat):Prop:= ∀ i,g.T i≠0->g.O i≠(u,p)
def Q2 (u p r:Nat):Prop:= ∃ i,1<=i∧i<=g.m∧g.L i=r∧g.G i=(u,p)
structure DI (u:Nat):Prop where
 quiet:g.A u=none->(M.ds u).bN=false
 ph: ∀ a,g.A u=some a->(M.ds u).ag=a.ph∧(M.ds u).take=a.take∧a.hs<=g.h
 putOwn: ∀ a,g.A u=some a->a.take=false->P.own a.ref=some u
 putWait: ∀ a,g.A u=some a->a.take=false->(M.ds u).bN=true->(M.ds u).load=a.ref∧(∀ i,i<=g.m->g.L i=a.ref->g.t<i)∧(Q2 g u (pos u) a.ref∨(uq P g M u a.ref (V u (pos u))∧fF g u (pos u)))
 putDone: ∀ a,g.A u=some a->a.take=false->(M.ds u).bN=false->Q2 g u (pos u) a.ref
 getWait: ∀ a,g.A u=some a->a.take=true->(M.ds u).bN=true->((M.ds u).load=0∨ ∃ i,g.L i=(M.ds u).load∧a.hs<=i∧i<=g.h∧i<g.t)∧ ∀ i,g.T i≠0->g.O i=(u,pos u)->g.T i=u+1∧i=g.h∧(M.ds u).load=g.L i
 getDone: ∀ a,g.A u=some a->a.take=true->(M.ds u).bN=false->((M.ds u).load=0∧ez g u (pos u))∨ ∃ i,g.T i≠0∧g.O i=(u,pos u)∧g.T i=u+1∧(M.ds u).load=valOf V g (i+1)+1
structure TI (i:Nat):Prop where
 lt:i<=g.h∧i<g.t
 yW:(g.O i).1<P.n∧(g.O i).2<=pos (g.O i).1
 word:g.T i=(g.O i).1+33∨g.T i=(g.O i).1+1
 slow:g.T i=(g.O i).1+1->(g.O i).2<pos (g.O i).1->(g.A (g.O i).1=none->i<g.h)∧ ∀ a,g.A (g.O i).1=some a->i<a.hs
 aA:g.T i=(g.O i).1+1->(g.O i).2=pos (g.O i).1-> ∃ a,g.A (g.O i).1=some a∧a.take=true
structure GI:Prop where
 nP:1<=P.n∧P.n<=16
 ht:g.h<=g.t
 tm:g.t<=g.m∧g.m<=g.t+1
 dup: ∀ i j,i<=g.m->j<=g.m->g.L i=g.L j->i=j
 hd:M.head=g.L g.h
 tl:M.tail=g.L g.t
 okp: ∀ i,i<=g.m->P.okp (g.L i)∧g.L i≠0
 own: ∀ i,1<=i->i<=g.m->P.own (g.L i)=some (g.G i).1
 old: ∀ i,i<=g.m->2*bH (g.L i)<=M.mr (aO (g.L i))
 mr: ∀ i,g.h<=i->i<=g.m->M.mr (aO (g.L i))=2*bH (g.L i)+1
 nx: ∀ i,i<=g.m->bH (g.L i)<=(M.nx (aO (g.L i))).1∧((M.nx (aO (g.L i))).1=bH (g.L i)->(M.nx (aO (g.L i))).2=g.ef i)
 nxh: ∀ i,g.h<=i->i<=g.m->(M.nx (aO (g.L i))).1=bH (g.L i)
 tk: ∀ i,i<=g.m->bH (g.L i)<=(M.tk (aO (g.L i))).1∧((M.tk (aO (g.L i))).1=bH (g.L i)->(M.tk (aO (g.L i))).2=g.T i)
 tkh: ∀ i,g.h<=i->i<=g.m->(M.tk (aO (g.L i))).1=bH (g.L i)
 vl: ∀ i,g.h<i->i<=g.m->M.vl (aO (g.L i))=(bH (g.L i),valOf V g i)
 T1: ∀ i,i<g.h->g.T i≠0
 T2: ∀ i,g.T i≠0->TI P pos g i
 Oinj: ∀ i j,g.T i≠0->g.T j≠0->g.O i=g.O j->i=j
 G1: ∀ i,1<=i->i<=g.m->(g.G i).1<P.n∧(g.G i).2<=pos (g.G i).1
 Ginj: ∀ i j,1<=i->i<=g.m->1<=j->j<=g.m->g.G i=g.G j->i=j
 ds: ∀ u,u<P.n->DI P V pos g M u
 dsOut: ∀ u,P.n<=u->(M.ds u).bN=false∧g.A u=none
def ur (i:Nat):Prop:= ∀ u,g.T i=u+1->g.h=i->(M.ds u).bN=true->(M.ds u).take=true->(M.ds u).load≠g.L i
def HH (p:Nat):Prop:= ∀ i,i<=g.m->aO (g.L i)=p->M.mr p≠2*bH (g.L i)+1
structure dy (me:Nat) (g:Gh) (M:Mm) (g':Gh) (M':Mm):Prop where
 L: ∀ i,i<=g.m->g'.L i=g.L i
 G: ∀ i,i<=g.m->g'.G i=g.G i
 m:g.m<=g'.m
 h:g.h<=g'.h
 t:g.t<=g'.t
 T: ∀ i,g.T i≠0->g'.T i=g.T i∧g'.O i=g.O i
 T': ∀ i,g.T i=0->g'.T i≠0->i=g.h∧(g'.O i).2=pos (g'.O i).1∧((g'.O i).1=me∨((M.ds (g'.O i).1).bN=true∧(M.ds (g'.O i).1).take=true))
 new: ∀ i,g.m<i->i<=g'.m->(∀ j,j<=g.m->g.L j≠g'.L i)∧(g'.G i).2=pos (g'.G i).1∧P.own (g'.L i)=some (g'.G i).1∧((g'.G i).1=me∨ ∃ a,g.A (g'.G i).1=some a∧a.take=false∧a.ref=g'.L i)
 ph: ∀ u,(M.ds u).ag<=(M'.ds u).ag∧((M'.ds u).ag=(M.ds u).ag->(M'.ds u).take=(M.ds u).take∧((M'.ds u).bN=true->(M.ds u).bN=true))
 Xe: ∀ u,u≠me->(M'.ds u).ag=(M.ds u).ag
 fin: ∀ i,i<=g.m->Fin M (g.L i)->Fin M' (g.L i)
 put: ∀ u d,d.bN=true->d.take=false->M.ds u=d->M'.ds u=d∨((∃ i,i<=g.m∧g.L i=d.load)∧Fin M' d.load)
 load: ∀ u,(M.ds u).bN=true->(M.ds u).take=false->(M'.ds u).ag=(M.ds u).ag->(M'.ds u).bN=true->M'.ds u=M.ds u
 XR: ∀ u d i,d.bN=true->d.take=true->i<=g.h->g.L i=d.load->M.ds u=d->g'.h=i->g'.T i=0->M'.ds u=d
 wa: ∀ i,i<=g.h->g.T i≠0->ur g M i->ur g' M' i
 get: ∀ u d i,d.bN=true->d.take=true->d.load=g.L i->i<=g.h->M.ds u=d->g.T i=u+1->M'.ds u=d∨ur g' M' i
 A: ∀ u,u≠me->g'.A u=g.A u
 A': ∀ u a,g'.A u=some a->g.A u=some a∨(M.ds u).ag<a.ph
 own: ∀ p,(∀ r,aO r=p->P.own r≠some me)->HH g M p->M'.mr p=M.mr p∧M'.vl p=M.vl p∧M'.nx p=M.nx p∧M'.tk p=M.tk p
end
section
variable (P:cv) (V:Nat->Nat->Nat) (pos:Nat->Nat) (g:Gh) (M:Mm)
def xC (j:Option Nat):Tl->Prop
 | .e=> ∀ k,j=some k->k<=g.m
 | .n last=> ∃ i,i<=g.t∧g.L i=last∧ ∀ k,j=some k->k<=i+1∧k<=g.m
 | .d last x u=> ∃ i,i<=g.t∧i<g.m∧g.L i=last∧g.L (i+1)=x∧P.own x=some u∧ ∀ k,j=some k->k<=i+1∧k<=g.m
 | .f last x u d=> ∃ i,i<=g.t∧i<g.m∧g.L i=last∧g.L (i+1)=x∧P.own x=some u∧(d.bN=true∧d.take=false∧d.load=x)∧(M.ds u=d∨Fin M x)∧ ∀ k,j=some k->k<=i+1∧k<=g.m
 | .s last x=> ∃ i,i<=g.t∧i<g.m∧g.L i=last∧g.L (i+1)=x∧Fin M x∧ ∀ k,j=some k->k<=i+1∧k<=g.m
def TlE (j:Option Nat):Prop:= ∀ k,j=some k->k<=g.m∧Fin M (g.L k)
def AJ (j:Option Nat):Hd->Prop
 | .e=> ∀ k,j=some k->g.T k≠0
 | .n first=> ∃ i,i<=g.h∧g.L i=first∧ ∀ k,j=some k->g.T k≠0∧k<=i
 | .t first x=> ∃ i,i<=g.h∧i<g.m∧g.L i=first∧g.L (i+1)=x∧ ∀ k,j=some k->g.T k≠0∧k<=i
 | .d first x u=> ∃ i,i<=g.h∧i<g.m∧g.L i=first∧g.L (i+1)=x∧g.T i=u+1∧u<P.n∧ ∀ k,j=some k->g.T k≠0∧k<=i
 | .v first x u d=> ∃ i,i<=g.h∧i<g.m∧g.L i=first∧g.L (i+1)=x∧g.T i=u+1∧u<P.n∧(d.bN=true∧d.take=true∧d.load=first)∧(M.ds u=d∨ur g M i)∧ ∀ k,j=some k->g.T k≠0∧k<=i
 | .f first x u d y=> ∃ i,i<=g.h∧i<g.m∧g.L i=first∧g.L (i+1)=x∧g.T i=u+1∧u<P.n∧(d.bN=true∧d.take=true∧d.load=first)∧(M.ds u=d∨ur g M i)∧(g.h=i->y=valOf V g (i+1))∧ ∀ k,j=some k->g.T k≠0∧k<=i
 | .s first x=> ∃ i,i<=g.h∧i<g.m∧g.L i=first∧g.L (i+1)=x∧g.T i≠0∧ur g M i∧ ∀ k,j=some k->g.T k≠0∧k<=i
 | .m first=> ∃ i,i<g.h∧g.L i=first∧ ∀ k,j=some k->k<g.h
def HdE (j:Option Nat):Prop:= ∀ k,j=some k->k<g.h
def Dt (u ph:Nat) (d:Ds) (b:Nat):Prop:=d.bN=true∧d.take=true∧d.ag=ph∧(d.load=0∨ ∃ i,i<=b∧i<g.t∧i<=g.h∧g.L i=d.load∧(g.h=i->g.T i=0->M.ds u=d))
def HI (u ph i:Nat):Prop:= ∀ a,g.A u=some a->a.ph=ph->a.hs<=i
def Xf (u ph:Nat):Hs->Prop
 | .look=>True
 | .iw=>True
 | .gG last=> ∃ i,i<=g.t∧g.L i=last
 | .fv last=> ∃ i,i<=g.t∧g.L i=last
 | .kL last d=> ∃ i,i<=g.t∧g.L i=last∧d.bN=true∧d.take=false∧d.ag=ph∧(∀ k,k<=g.m->g.L k=d.load->i<k)∧(M.ds u=d∨ ∃ k,k<=g.m∧g.L k=d.load)
 | .iz d=>Dt g M u ph d g.h∧HI g u ph g.h
 | .ji d first=> ∃ i,i<=g.h∧g.L i=first∧Dt g M u ph d i∧HI g u ph i
 | .jj d first last=> ∃ i k,i<=g.h∧g.L i=first∧Dt g M u ph d i∧HI g u ph i∧i<=k∧k<=g.t∧g.L k=last
 | .ey d first last w=> ∃ i k,i<=g.h∧g.L i=first∧Dt g M u ph d i∧HI g u ph i∧i<=k∧k<=g.t∧g.L k=last∧(g.h=i->(w.2=0∧d.load≠first)∨(i<g.m∧g.L (i+1)=w.2))
 | .ff d=> ∃ i,i<=g.h∧Dt g M u ph d i∧d.load≠g.L i
 | .hZ d first=> ∃ i,i<=g.h∧i<g.t∧g.L i=first∧Dt g M u ph d i∧d.load≠first∧HI g u ph i
 | .eJ first=> ∃ i,i<=g.h∧i<g.t∧g.L i=first∧HI g u ph i∧(g.h=i->g.T i=0->M.ds u=⟨true,true,first,ph⟩)
 | .sub (.tl t) true=> ∃ k,xC P g M (some k) t∧k<=g.m∧((M.ds u).ag=ph->(M.ds u).bN=true->(M.ds u).take=false∧(M.ds u).load=g.L k)
 | .sub (.tl t) false=>xC P g M none t
 | .sub (.hd t) true=>False
 | .sub (.hd t) false=>AJ P V g M none t
def yX (take:Bool) (u ph:Nat) (s:Hs):Prop:=u<P.n∧ph<=(M.ds u).ag∧((M.ds u).ag=ph->(M.ds u).take=take)∧Xf P V g M u ph s∧
 (match s with | .iw | .gG _ | .fv _ | .kL _ _=>take=false | .iz _ | .ji _ _ | .jj _ _ _ | .ey _ _ _ _ | .ff _ | .hZ _ _ | .eJ _=>take=true | .sub (.hd _) _=>take=true | .sub (.tl _) true=>take=false | _=>True)
def Uh (u ph:Nat):Prop:=(M.ds u).ag=ph->(M.ds u).bN=false
end
section
variable {P:cv} {V:Nat->Nat->Nat} {pos:Nat->Nat} {g g':Gh} {M M':Mm} {me:Nat}
theorem xC.mono (hg:dy P pos me g M g' M') (gi:GI P V pos g M) {j:Option Nat} {s:Tl} (h:xC P g M j s):xC P g' M' j s:=by
 have h1:=hg.L;have h2:=hg.m;have h4:=hg.t
 have g3:=gi.tm
 cases s with
 | e=>exact λk hk=>Nat.le_trans (h k hk) h2
 | n last=>
  obtain ⟨i,a,b,c⟩:=h
  exact ⟨i,by omega,by rw [h1 i (by omega)];exact b,λk hk=>by have:=c k hk;omega⟩
 | d last x u=>
  obtain ⟨i,a,b,c,d,e,f⟩:=h
  exact ⟨i,by omega,by omega,by rw [h1 i (by omega)];exact c,by rw [h1 _ (by omega)];exact d,e,λk hk=>by have:=f k hk;omega⟩
 | f last x u dd=>
  obtain ⟨i,a,b,c,d,e,⟨f1,f2,f3⟩,q,f⟩:=h
  refine ⟨i,by omega,by omega,by rw [h1 i (by omega)];exact c,by rw [h1 _ (by omega)];exact d,e,⟨f1,f2,f3⟩,?_,λk hk=>by have:=f k hk;omega⟩
  rcases q with q | q
  ·rcases hg.put u dd f1 f2 q with q | q
   ·exact .inl q
   ·exact .inr (f3▸q.2)
  ·exact .inr (d▸hg.fin (i+1) (by omega) (d▸q))
 | s last x=>
  obtain ⟨i,a,b,c,d,q,f⟩:=h
  exact ⟨i,by omega,by omega,by rw [h1 i (by omega)];exact c,by rw [h1 _ (by omega)];exact d,d▸hg.fin (i+1) (by omega) (d▸q),λk hk=>by have:=f k hk;omega⟩
theorem AJ.mono (hg:dy P pos me g M g' M') (gi:GI P V pos g M) {j:Option Nat} {s:Hd} (h:AJ P V g M j s):AJ P V g' M' j s:=by
 have h1:=hg.L;have h2:=hg.m;have h4:=hg.h;have h5:=hg.T;have h6:=hg.G
 have g1:=gi.ht;have g3:=gi.tm
 have val: ∀ i,i<=g.m->valOf V g' i=valOf V g i:=λi hi=>by unfold valOf;rw [h6 i hi]
 have cx: ∀ {i:Nat},(∀ k,j=some k->g.T k≠0∧k<=i)-> ∀ k,j=some k->g'.T k≠0∧k<=i:=λc k hk=>by have:=c k hk;rw [(h5 k this.1).1];exact this
 have rd: ∀ {i u:Nat} {d:Ds},i<=g.h->g.T i=u+1->(d.bN=true∧d.take=true∧d.load=g.L i)->(M.ds u=d∨ur g M i)->(M'.ds u=d∨ur g' M' i):=by
  intro i u d a hT hd h
  rcases h with h | h
  ·exact hg.get u d i hd.1 hd.2.1 hd.2.2 a h hT
  ·exact .inr (hg.wa i a (by omega) h)
 cases s with
 | e=>exact λk hk=>by rw [(h5 k (h k hk)).1];exact h k hk
 | n first=>
  obtain ⟨i,a,b,c⟩:=h
  exact ⟨i,by omega,by rw [h1 i (by omega)];exact b,cx c⟩
 | t first x=>
  obtain ⟨i,a,b,c,d,e⟩:=h
  exact ⟨i,by omega,by omega,by rw [h1 i (by omega)];exact c,by rw [h1 _ (by omega)];exact d,cx e⟩
 | d first x u=>
  obtain ⟨i,a,b,c,d,e,f,q⟩:=h
  exact ⟨i,by omega,by omega,by rw [h1 i (by omega)];exact c,by rw [h1 _ (by omega)];exact d,by rw [(h5 i (by omega)).1];exact e,f,cx q⟩
 | v first x u dd=>
  obtain ⟨i,a,b,c,d,e,f,r,r2,q⟩:=h
  exact ⟨i,by omega,by omega,by rw [h1 i (by omega)];exact c,by rw [h1 _ (by omega)];exact d,by rw [(h5 i (by omega)).1];exact e,f,r,rd a e (by rw [c];exact r) r2,cx q⟩
 | f first x u dd y=>
  obtain ⟨i,a,b,c,d,e,f,r,r2,r3,q⟩:=h
  exact ⟨i,by omega,by omega,by rw [h1 i (by omega)];exact c,by rw [h1 _ (by omega)];exact d,by rw [(h5 i (by omega)).1];exact e,f,r,rd a e (by rw [c];exact r) r2,λhh=>by rw [val _ (by omega)];exact r3 (by omega),cx q⟩
 | s first x=>
  obtain ⟨i,a,b,c,d,e,f,q⟩:=h
  exact ⟨i,by omega,by omega,by rw [h1 i (by omega)];exact c,by rw [h1 _ (by omega)];exact d,by rw [(h5 i e).1];exact e,hg.wa i a e f,cx q⟩
 | m first=>
  obtain ⟨i,a,b,c⟩:=h
  exact ⟨i,by omega,by rw [h1 i (by omega)];exact b,λk hk=>by have:=c k hk;omega⟩
theorem Dt.mono (hg:dy P pos me g M g' M') (gi:GI P V pos g M) {u ph b:Nat} {d:Ds} (h:Dt g M u ph d b):Dt g' M' u ph d b:=by
 obtain ⟨a1,a2,a3,a4⟩:=h
 refine ⟨a1,a2,a3,a4.imp id ?_⟩
 rintro ⟨i,b1,b2,b3,b4,b5⟩
 have g1:=gi.ht;have g3:=gi.tm
 refine ⟨i,b1,Nat.lt_of_lt_of_le b2 hg.t,Nat.le_trans b3 hg.h,by rw [hg.L i (by omega)];exact b4,λhh hT=> ?_⟩
 have hh0:g.h=i:=by have:=hg.h;omega
 have Vy:g.T i=0:=by
  by_cases hz:g.T i=0
  ·exact hz
  ·have:=(hg.T i hz).1;omega
 exact hg.XR u d i a1 a2 b3 b4 (b5 hh0 Vy) hh hT
theorem HI.mono (hg:dy P pos me g M g' M') {u ph i:Nat} (hp:ph<=(M.ds u).ag) (h:HI g u ph i):HI g' u ph i:=by
 intro a ha eY
 rcases hg.A' u a ha with h1 | h1
 ·exact h a h1 eY
 ·omega
theorem Dt.XS {u ph b c:Nat} {d:Ds} (h:Dt g M u ph d b) (hbc:b<=c):Dt g M u ph d c:=by
 obtain ⟨a1,a2,a3,a4⟩:=h
 refine ⟨a1,a2,a3,a4.imp id ?_⟩
 rintro ⟨i,b1,b2⟩
 exact ⟨i,by omega,b2⟩
theorem Xf.mono (hg:dy P pos me g M g' M') (gi:GI P V pos g M) {u ph:Nat} {s:Hs} (hp:ph<=(M.ds u).ag) (h:Xf P V g M u ph s):Xf P V g' M' u ph s:=by
 have h1:=hg.L;have h2:=hg.m;have h3:=hg.h;have h4:=hg.t
 have g1:=gi.ht;have g3:=gi.tm
 cases s with
 | look=>trivial
 | iw=>trivial
 | gG last=>
  obtain ⟨i,a,b⟩:=h
  exact ⟨i,by omega,by rw [h1 i (by omega)];exact b⟩
 | fv last=>
  obtain ⟨i,a,b⟩:=h
  exact ⟨i,by omega,by rw [h1 i (by omega)];exact b⟩
 | kL last d=>
  obtain ⟨i,a,b,c1,c2,c3,d1,d2⟩:=h
  refine ⟨i,by omega,by rw [h1 i (by omega)];exact b,c1,c2,c3,λk hk he=> ?_,?_⟩
  ·by_cases ry:k<=g.m
   ·exact d1 k ry (by rw [<- h1 k ry];exact he)
   ·omega
  ·rcases d2 with d2 | ⟨k,hk,he⟩
   ·rcases hg.put u d c1 c2 d2 with q | ⟨⟨k,hk,he⟩,_⟩
    ·exact .inl q
    ·exact .inr ⟨k,by omega,by rw [h1 k hk];exact he⟩
   ·exact .inr ⟨k,by omega,by rw [h1 k hk];exact he⟩
 | iz d=>exact ⟨(h.1.mono hg gi).XS h3,λa ha eY=>Nat.le_trans (h.2.mono hg hp a ha eY) h3⟩
 | ji d first=>
  obtain ⟨i,a,b,c,d⟩:=h
  exact ⟨i,by omega,by rw [h1 i (by omega)];exact b,c.mono hg gi,d.mono hg hp⟩
 | jj d first last=>
  obtain ⟨i,k,a,b,c,d,e,f,q⟩:=h
  exact ⟨i,k,by omega,by rw [h1 i (by omega)];exact b,c.mono hg gi,d.mono hg hp,e,by omega,by rw [h1 k (by omega)];exact q⟩
 | ey d first last w=>
  obtain ⟨i,k,a,b,c,d,e,f,q,r⟩:=h
  refine ⟨i,k,by omega,by rw [h1 i (by omega)];exact b,c.mono hg gi,d.mono hg hp,e,by omega,by rw [h1 k (by omega)];exact q,λhh=> ?_⟩
  rcases r (by omega) with r | ⟨r1,r2⟩
  ·exact .inl r
  ·exact .inr ⟨by omega,by rw [h1 _ (by omega)];exact r2⟩
 | ff d=>
  obtain ⟨i,a,b,c⟩:=h
  exact ⟨i,by omega,b.mono hg gi,by rw [h1 i (by omega)];exact c⟩
 | hZ d first=>
  obtain ⟨i,a,b,c,d,e,f⟩:=h
  exact ⟨i,by omega,by omega,by rw [h1 i (by omega)];exact c,d.mono hg gi,e,f.mono hg hp⟩
 | eJ first=>
  obtain ⟨i,a,b,c,d,e⟩:=h
  refine ⟨i,by omega,by omega,by rw [h1 i (by omega)];exact c,d.mono hg hp,λhh hT=> ?_⟩
  have Vy:g.T i=0:=by
   by_cases hz:g.T i=0
   ·exact hz
   ·have:=(hg.T i hz).1;omega
  exact hg.XR u _ i rfl rfl a c (e (by omega) Vy) hh hT
 | sub f bM=>
  cases f with
  | tl t=>
   cases bM with
   | false=>exact xC.mono hg gi h
   | true=>
    obtain ⟨k,a,b,c⟩:=h
    refine ⟨k,xC.mono hg gi a,by omega,λeY oD=> ?_⟩
    rw [h1 k b]
    have hh:=hg.ph u
    have he:(M'.ds u).ag=(M.ds u).ag:=by omega
    have Vr:=(hh.2 he).2 oD
    have hc:=c (by omega) Vr
    rw [hg.load u Vr hc.1 he oD];exact hc
  | hd t=>
   cases bM with
   | false=>exact AJ.mono hg gi h
   | true=>exact h.elim
theorem yX.mono (hg:dy P pos me g M g' M') (gi:GI P V pos g M) {take:Bool} {u ph:Nat} {s:Hs} (h:yX P V g M take u ph s):yX P V g' M' take u ph s:=by
 obtain ⟨a,b,c,d,e⟩:=h
 have h1:=hg.ph u
 refine ⟨a,by omega,λhp=> ?_,d.mono hg gi b,e⟩
 have:(M'.ds u).ag=(M.ds u).ag:=by omega
 rw [(h1.2 this).1];exact c (by omega)
end
section
variable {P:cv} {V:Nat->Nat->Nat} {pos:Nat->Nat} {g g':Gh} {M M':Mm} {me:Nat}
theorem kF {r r':Nat} (h:aO r=aO r') (h':bH r=bH r'):r=r':=by unfold aO bH at *;omega
theorem wb {α:Type} {f:Nat->α} {a i:Nat} {v:α}:Jb2 f a v i=if i=a then v else f i:=rfl
theorem aM {α:Type} {f:Nat->α} {a:Nat} {v:α}:Jb2 f a v a=v:=if_pos rfl
theorem aJ {α:Type} {f:Nat->α} {a i:Nat} {v:α} (h:i≠a):Jb2 f a v i=f i:=if_neg h
theorem wc {r r' u:Nat} (h:aO r=aO r') (h':P.own r=some u):P.own r'=some u:=by unfold cv.own at *;rw [<- h];exact h'
theorem CZ {r u:Nat} (h:P.own r=some u):P.okp r∧r≠0:=by
 unfold cv.own at h
 split at h
 ·rename_i hh
  refine ⟨⟨by omega,hh.2⟩,λh0=> ?_⟩
  subst h0
  have:aO 0=0:=rfl
  omega
 ·cases h
theorem dy.of (hL:g'.L=g.L) (hG:g'.G=g.G) (hm:g'.m=g.m) (hh:g.h<=g'.h) (ht:g.t<=g'.t) (hT:g'.T=g.T) (hO:g'.O=g.O) (hA: ∀ u,u≠me->g'.A u=g.A u) (hA': ∀ u a,g'.A u=some a->g.A u=some a)
  (Cp:M'.ds=M.ds) (lM: ∀ p,(∀ r,aO r=p->P.own r≠some me)->HH g M p->M'.mr p=M.mr p∧M'.vl p=M.vl p∧M'.nx p=M.nx p∧M'.tk p=M.tk p):dy P pos me g M g' M' where
 L:=λi _=>by rw [hL]
 G:=λi _=>by rw [hG]
 m:=by omega
 h:=hh
 t:=ht
 T:=λi _=>by rw [hT,hO];exact ⟨rfl,rfl⟩
 T':=λi h0 h1=>by rw [hT] at h1;exact absurd h0 h1
 new:=λi h1 h2=>by omega
 ph:=λu=>by rw [Cp];exact ⟨Nat.le_refl _,λ_=>⟨rfl,λh=>h⟩⟩
 Xe:=λu _=>by rw [Cp]
 fin:=λi _ h=>by unfold Fin;rw [Cp];exact h
 put:=λu d _ _ h=> .inl (by rw [Cp];exact h)
 load:=λu _ _ _ _=>by rw [Cp]
 XR:=λu d i _ _ _ _ h _ _=>by rw [Cp];exact h
 wa:=λi hi XH h=>by
  unfold ur;rw [Cp,hT,hL]
  intro u hu he
  exact h u hu (by omega)
 get:=λu d i _ _ _ _ h _=> .inl (by rw [Cp];exact h)
 A:=hA
 A':=λu a h=> .inl (hA' u a h)
 own:=lM
theorem dy.refl:dy P pos me g M g M:=dy.of rfl rfl rfl (Nat.le_refl _) (Nat.le_refl _) rfl rfl (λ_ _=>rfl) (λ_ _ h=>h) rfl λ_ _ _=>⟨rfl,rfl,rfl,rfl⟩
theorem nY (gi:GI P V pos g M) {i x:Nat} (hi:i<g.m) (S7:i<=g.t) (hx:g.L (i+1)=x) (hf:Fin M x) (hc:M.tail=g.L i):
  i=g.t∧GI P V pos { g with t:=i+1 } { M with tail:=x }∧dy P pos me g M { g with t:=i+1 } { M with tail:=x }:=by
 have g1:=gi.ht;have g3:=gi.tm
 have S7:i=g.t:=gi.dup i g.t (by omega) (by omega) (by rw [<- hc,gi.tl])
 refine ⟨S7,{ gi with ht:= ?_,tm:= ?_,tl:=hx.symm,T2:= ?_,ds:= ?_ },?_⟩
 ·show g.h<=i+1;omega
 ·show i+1<=g.m∧g.m<=i+1+1;omega
 ·intro k hk
  have:=gi.T2 k hk
  exact { this with lt:=⟨this.lt.1,by have:=this.lt.2;show k<i+1;omega⟩ }
 ·intro u hu
  have d:=gi.ds u hu
  refine { quiet:=d.quiet,ph:=d.ph,putOwn:=d.putOwn,putWait:=λa ha ht hp=> ?_,putDone:=d.putDone,getWait:=λa ha ht hp=> ?_,getDone:=d.getDone }
  ·obtain ⟨e1,e2,e3⟩:=d.putWait a ha ht hp
   refine ⟨e1,λk hk he=> ?_,e3.imp id λe=>⟨⟨e.1.own,e.1.out,e.1.mr,e.1.vl,e.1.nx,e.1.tk⟩,e.2⟩⟩
   have h1:=e2 k hk he
   by_cases WR:k=i+1
   ·subst WR
    exact absurd (by rw [e1,<- he,hx]) (hf u hp (by rw [(d.ph a ha).2.1];exact ht))
   ·show i+1<k;omega
  ·obtain ⟨e1,e2⟩:=d.getWait a ha ht hp
   refine ⟨e1.imp id ?_,e2⟩
   rintro ⟨k,q1,q2,q3,q4⟩
   exact ⟨k,q1,q2,q3,by show k<i+1;omega⟩
 ·exact dy.of rfl rfl rfl (Nat.le_refl _) (by show g.t<=i+1;omega) rfl rfl (λ_ _=>rfl) (λ_ _ h=>h) rfl λ_ _ _=>⟨rfl,rfl,rfl,rfl⟩
theorem nZ (gi:GI P V pos g M) {i x:Nat} (hi:i<g.m) (xv:i<=g.h) (hx:g.L (i+1)=x) (hT:g.T i≠0) (hf:ur g M i) (hc:M.head=g.L i):
  i=g.h∧GI P V pos { g with h:=i+1 } { M with head:=x }∧dy P pos me g M { g with h:=i+1 } { M with head:=x }:=by
 have g1:=gi.ht;have g3:=gi.tm
 have xv:i=g.h:=gi.dup i g.h (by omega) (by omega) (by rw [<- hc,gi.hd])
 have dA:=(gi.T2 i hT).lt.2
 refine ⟨xv,{ gi with ht:=dA,hd:=hx.symm,mr:=λk hk=>gi.mr k (by have:i+1<=k:=hk;omega),nxh:=λk hk=>gi.nxh k (by have:i+1<=k:=hk;omega),tkh:=λk hk=>gi.tkh k (by have:i+1<=k:=hk;omega),vl:=λk hk=>gi.vl k (by have:i+1<k:=hk;omega),T1:=λk hk=> ?_,T2:=λk hk=> ?_,ds:=λu hu=> ?_ },?_⟩
 ·by_cases h:k=i
  ·subst h;exact hT
  ·exact gi.T1 k (by have:k<i+1:=hk;omega)
 ·have:=gi.T2 k hk
  exact { this with lt:=⟨by have:=this.lt.1;show k<=i+1;omega,this.lt.2⟩,slow:=λh1 h2=>⟨λh3=>by have:=(this.slow h1 h2).1 h3;show k<i+1;omega,(this.slow h1 h2).2⟩ }
 ·have d:=gi.ds u hu
  refine { quiet:=d.quiet,ph:=λa ha=>⟨(d.ph a ha).1,(d.ph a ha).2.1,by have:=(d.ph a ha).2.2;show a.hs<=i+1;omega⟩,putOwn:=d.putOwn,putWait:=λa ha ht hp=> ?_,putDone:=d.putDone,getWait:=λa ha ht hp=> ?_,getDone:=d.getDone }
  ·obtain ⟨e1,e2,e3⟩:=d.putWait a ha ht hp
   exact ⟨e1,e2,e3.imp id λe=>⟨⟨e.1.own,e.1.out,e.1.mr,e.1.vl,e.1.nx,e.1.tk⟩,e.2⟩⟩
  ·obtain ⟨e1,e2⟩:=d.getWait a ha ht hp
   refine ⟨e1.imp id ?_,λk hk hO=> ?_⟩
   ·rintro ⟨k,q1,q2,q3,q4⟩
    exact ⟨k,q1,q2,by show k<=i+1;omega,q4⟩
   ·obtain ⟨f1,f2,f3⟩:=e2 k hk hO
    have WR:k=i:=by omega
    subst WR
    exact absurd f3 (hf u f1 xv.symm hp (by rw [(d.ph a ha).2.1];exact ht))
 ·exact dy.of rfl rfl rfl (by show g.h<=i+1;omega) (Nat.le_refl _) rfl rfl (λ_ _=>rfl) (λ_ _ h=>h) rfl λ_ _ _=>⟨rfl,rfl,rfl,rfl⟩
theorem DI.same {u:Nat} (d:DI P V pos g M u) (h:M'.ds u=M.ds u) (h1:M'.mr=M.mr) (h2:M'.vl=M.vl) (h3:M'.nx=M.nx) (h4:M'.tk=M.tk):DI P V pos g M' u where
 quiet:=by rw [h];exact d.quiet
 ph:=by rw [h];exact d.ph
 putOwn:=d.putOwn
 putWait:=by
  rw [h]
  intro a ha ht hp
  obtain ⟨e1,e2,e3⟩:=d.putWait a ha ht hp
  exact ⟨e1,e2,e3.imp id λe=>⟨⟨e.1.own,e.1.out,by rw [h1];exact e.1.mr,by rw [h2];exact e.1.vl,by rw [h3];exact e.1.nx,by rw [h4];exact e.1.tk⟩,e.2⟩⟩
 putDone:=by rw [h];exact d.putDone
 getWait:=by rw [h];exact d.getWait
 getDone:=by rw [h];exact d.getDone
theorem we (gi:GI P V pos g M) {u:Nat} {d':Ds} (hu:u<P.n) (hd:DI P V pos g { M with ds:=Jb2 M.ds u d' } u):GI P V pos g { M with ds:=Jb2 M.ds u d' } where
 nP:=gi.nP
 ht:=gi.ht
 tm:=gi.tm
 dup:=gi.dup
 hd:=gi.hd
 tl:=gi.tl
 okp:=gi.okp
 own:=gi.own
 old:=gi.old
 mr:=gi.mr
 nx:=gi.nx
 nxh:=gi.nxh
 tk:=gi.tk
 tkh:=gi.tkh
 vl:=gi.vl
 T1:=gi.T1
 T2:=λi hi=>by have:=gi.T2 i hi;exact ⟨this.lt,this.yW,this.word,this.slow,this.aA⟩
 Oinj:=gi.Oinj
 G1:=gi.G1
 Ginj:=gi.Ginj
 ds:=λv hv=>by
  by_cases h:v=u
  ·subst h;exact hd
  ·exact (gi.ds v hv).same (aJ h) rfl rfl rfl rfl
 dsOut:=λv hv=>by
  show (Jb2 M.ds u d' v).bN=false∧_
  rw [aJ (by omega)];exact gi.dsOut v hv
theorem C0 (gi:GI P V pos g M) {u i:Nat} (hi:i<=g.m) (hp:(M.ds u).bN=true) (ht:(M.ds u).take=false) (hl:(M.ds u).load=g.L i):
  GI P V pos g { M with ds:=Jb2 M.ds u ((M.ds u).fin (g.L i)) }∧dy P pos me g M g { M with ds:=Jb2 M.ds u ((M.ds u).fin (g.L i)) }∧Fin { M with ds:=Jb2 M.ds u ((M.ds u).fin (g.L i)) } (g.L i):=by
 have hu:u<P.n:=by
  by_cases h:u<P.n
  ·exact h
  ·have:=(gi.dsOut u (by omega)).1;rw [hp] at this;cases this
 have d:=gi.ds u hu
 obtain ⟨a,ha⟩: ∃ a,g.A u=some a:=by
  cases h:g.A u with
  | none=>have:=d.quiet h;rw [hp] at this;cases this
  | some a=>exact ⟨a,rfl⟩
 have eY:=d.ph a ha
 have bf:a.take=false:=by rw [<- eY.2.1];exact ht
 obtain ⟨e1,e2,e3⟩:=d.putWait a ha bf hp
 have cY:Q2 g u (pos u) a.ref:=by
  rcases e3 with e3 | e3
  ·exact e3
  ·exact absurd (by rw [<- hl];exact e1) (e3.1.out i hi)
 have oA:(Jb2 M.ds u ((M.ds u).fin (g.L i))) u=(M.ds u).fin (g.L i):=aM
 have bq: ∀ v,v≠u->(Jb2 M.ds u ((M.ds u).fin (g.L i))) v=M.ds v:=λv hv=>aJ hv
 have lM:=d.putOwn a ha bf
 have wa:Fin { M with ds:=Jb2 M.ds u ((M.ds u).fin (g.L i)) } (g.L i):=by
  intro v TO hvt Ga
  by_cases hv:v=u
  ·subst hv
   rw [show ({ M with ds:=Jb2 M.ds v ((M.ds v).fin (g.L i)) }:Mm).ds v=_ from oA] at TO
   cases TO
  ·simp only [bq v hv] at TO hvt Ga
   have hvn:v<P.n:=by
    by_cases h:v<P.n
    ·exact h
    ·have:=(gi.dsOut v (by omega)).1;rw [TO] at this;cases this
   have dv:=gi.ds v hvn
   cases hb:g.A v with
   | none=>have:=dv.quiet hb;rw [TO] at this;cases this
   | some b=>
    have rv:b.take=false:=by rw [<- (dv.ph b hb).2.1];exact hvt
    have q:=dv.putOwn b hb rv
    rw [<- (dv.putWait b hb rv TO).1,Ga,<- hl,e1,lM] at q
    exact hv (Option.some.inj q).symm
 refine ⟨we gi hu ⟨(λh=>by rw [ha] at h;cases h),?_,d.putOwn,?_,?_,?_,?_⟩,?_,wa⟩
 ·intro b hb
  show ((Jb2 _ _ _ _:Ds).ag=_)∧((Jb2 _ _ _ _:Ds).take=_)∧_
  rw [oA];exact d.ph b hb
 ·intro b hb _ xi
  replace xi:((Jb2 M.ds u ((M.ds u).fin (g.L i))) u).bN=true:=xi
  rw [oA] at xi;cases xi
 ·intro b hb _ _
  rw [ha] at hb;cases hb;exact cY
 ·intro b hb rv _
  rw [ha] at hb;cases hb;rw [bf] at rv;cases rv
 ·intro b hb rv _
  rw [ha] at hb;cases hb;rw [bf] at rv;cases rv
 ·have lU: ∀ v,({ M with ds:=Jb2 M.ds u ((M.ds u).fin (g.L i)) }:Mm).ds v=if v=u then (M.ds u).fin (g.L i) else M.ds v:=λv=>rfl
  refine ⟨λ_ _=>rfl,λ_ _=>rfl,Nat.le_refl _,Nat.le_refl _,Nat.le_refl _,λ_ _=>⟨rfl,rfl⟩,λ_ h h'=>absurd h h',λ_ _ _=>by omega,λv=> ?_,λv _=> ?_,λk hk h=> ?_,λv dd h1 h2 h3=> ?_,λv h1 h2 h3 h4=> ?_,λv dd k h1 h2 h3 h4 h5 h6 h7=> ?_,λk h1 h2 h3=> ?_,λv dd k h1 h2 h3 h4 h5 h6=> ?_,λ_ _=>rfl,λ_ _ h=> .inl h,λ_ _ _=>⟨rfl,rfl,rfl,rfl⟩⟩
  ·rw [lU];split
   ·rename_i e;subst e;exact ⟨Nat.le_refl _,λ_=>⟨rfl,λh=>by cases h⟩⟩
   ·exact ⟨Nat.le_refl _,λ_=>⟨rfl,id⟩⟩
  ·rw [lU];split
   ·rename_i e;subst e;rfl
   ·rfl
  ·intro v q1 q2
   rw [lU] at q1 q2 ⊢
   split at q1
   ·cases q1
   ·rename_i e;rw [if_neg e] at q2 ⊢;exact h v q1 q2
  ·by_cases e:v=u
   ·subst e;subst h3
    exact .inr ⟨⟨i,hi,hl.symm⟩,by rw [hl];exact wa⟩
   ·rw [lU,if_neg e];exact .inl h3
  ·rw [lU] at h4 ⊢
   split at h4
   ·cases h4
   ·rename_i e;rw [if_neg e]
  ·rw [lU]
   by_cases e:v=u
   ·subst e;subst h5;rw [ht] at h2;cases h2
   ·rw [if_neg e];exact h5
  ·intro v q1 q2 q3 q4
   rw [lU] at q3 q4 ⊢
   split at q3
   ·cases q3
   ·rename_i e;rw [if_neg e] at q4 ⊢;exact h3 v q1 q2 q3 q4
  ·rw [lU]
   by_cases e:v=u
   ·subst e;subst h5;rw [ht] at h2;cases h2
   ·rw [if_neg e];exact .inl h5
theorem dy.Bp {u:Nat} {d':Ds} (ht:(M.ds u).take=true) (eY:d'.ag=(M.ds u).ag) (fx:d'.take=true) (oD:d'.bN=true->(M.ds u).bN=true)
  (YP: ∀ i,i<=g.h->g.L i=(M.ds u).load->g.h=i->g.T i=0->(M.ds u).bN=true->False)
  (hhf: ∀ i,i<=g.h->g.T i=u+1->g.h=i->d'.bN=true->d'.load=g.L i->False):dy P pos me g M g { M with ds:=Jb2 M.ds u d' }:=by
 have lU: ∀ v,({ M with ds:=Jb2 M.ds u d' }:Mm).ds v=if v=u then d' else M.ds v:=λv=>rfl
 refine ⟨λ_ _=>rfl,λ_ _=>rfl,Nat.le_refl _,Nat.le_refl _,Nat.le_refl _,λ_ _=>⟨rfl,rfl⟩,λ_ h h'=>absurd h h',λ_ _ _=>by omega,λv=> ?_,λv _=> ?_,λk hk h=> ?_,λv dd h1 h2 h3=> ?_,λv h1 h2 h3 h4=> ?_,λv dd k h1 h2 h3 h4 h5 h6 h7=> ?_,λk h1 h2 h3=> ?_,λv dd k h1 h2 h3 h4 h5 h6=> ?_,λ_ _=>rfl,λ_ _ h=> .inl h,λ_ _ _=>⟨rfl,rfl,rfl,rfl⟩⟩
 ·rw [lU];split
  ·rename_i e;subst e;exact ⟨by omega,λ_=>⟨by rw [fx,ht],oD⟩⟩
  ·exact ⟨Nat.le_refl _,λ_=>⟨rfl,id⟩⟩
 ·rw [lU];split
  ·rename_i e;subst e;exact eY
  ·rfl
 ·intro v q1 q2
  rw [lU] at q1 q2 ⊢
  split at q1
  ·rename_i e;rw [if_pos e,fx] at q2;cases q2
  ·rename_i e;rw [if_neg e] at q2 ⊢;exact h v q1 q2
 ·by_cases e:v=u
  ·subst e;subst h3;rw [ht] at h2;cases h2
  ·rw [lU,if_neg e];exact .inl h3
 ·by_cases e:v=u
  ·subst e;rw [ht] at h2;cases h2
  ·rw [lU,if_neg e]
 ·rw [lU]
  by_cases e:v=u
  ·subst e;subst h5;exact (YP k h3 h4 h6 h7 h1).elim
  ·rw [if_neg e];exact h5
 ·intro v q1 q2 q3 q4
  rw [lU] at q3 q4 ⊢
  by_cases e:v=u
  ·subst e
   rw [if_pos rfl] at q3 ⊢
   exact λhl=>hhf k h1 q1 q2 q3 hl
  ·rw [if_neg e] at q3 q4 ⊢;exact h3 v q1 q2 q3 q4
 ·by_cases e:v=u
  ·subst e
   refine .inr λw q1 q2 q3 q4=> ?_
   have hw:w=v:=by rw [h6] at q1;omega
   subst hw
   rw [lU,if_pos rfl] at q3 ⊢
   exact λhl=>hhf k h4 q1 q2 q3 hl
  ·rw [lU,if_neg e];exact .inl h5
theorem ql (gi:GI P V pos g M) {i u:Nat} (hu:u<P.n) (hT:g.T i=u+1):(g.O i).1=u∧((g.O i).2=pos u∨((g.O i).2<pos u∧(g.A u=none->i<g.h)∧ ∀ a,g.A u=some a->i<a.hs)):=by
 have t:=gi.T2 i (by omega)
 have h1:=gi.nP
 have h2:=t.yW
 have h3:(g.O i).1=u:=by rcases t.word with h | h<;>omega
 refine ⟨h3,?_⟩
 subst h3
 by_cases h:(g.O i).2=pos (g.O i).1
 ·exact .inl h
 ·exact .inr ⟨by omega,t.slow hT (by omega)⟩
theorem fG (gi:GI P V pos g M) {u:Nat} (hp:(M.ds u).bN=true):u<P.n∧ ∃ a,g.A u=some a:=by
 have hu:u<P.n:=by
  by_cases h:u<P.n
  ·exact h
  ·have:=(gi.dsOut u (by omega)).1;rw [hp] at this;cases this
 refine ⟨hu,?_⟩
 cases h:g.A u with
 | none=>have:=(gi.ds u hu).quiet h;rw [hp] at this;cases this
 | some a=>exact ⟨a,rfl⟩
theorem yY (gi:GI P V pos g M) (hV: ∀ u p,V u p<16777216) {u i y:Nat} (hi:i<=g.h) (hp:(M.ds u).bN=true) (ht:(M.ds u).take=true) (hl:(M.ds u).load=g.L i) (hT:g.T i=u+1) (hy:g.h=i->y=valOf V g (i+1)):
  GI P V pos g { M with ds:=Jb2 M.ds u ((M.ds u).fin (y%16777216+1)) }∧dy P pos me g M g { M with ds:=Jb2 M.ds u ((M.ds u).fin (y%16777216+1)) }:=by
 obtain ⟨hu,a,ha⟩:=fG gi hp
 have g1:=gi.ht;have g3:=gi.tm
 have d:=gi.ds u hu
 have bf:a.take=true:=by rw [<- (d.ph a ha).2.1];exact ht
 obtain ⟨e1,e2⟩:=d.getWait a ha bf hp
 have hk:=ql gi hu hT
 have fj:(g.O i).2=pos u:=by
  rcases hk.2 with h | ⟨_,_,h⟩
  ·exact h
  ·exfalso
   have h:=h a ha
   rcases e1 with e1 | ⟨k,q1,q2,q3,q4⟩
   ·exact (gi.okp i (by omega)).2 (by rw [<- hl,e1])
   ·have:=gi.dup k i (by omega) (by omega) (by rw [q1,hl]);omega
 have hO:g.O i=(u,pos u):=Prod.ext hk.1 fj
 obtain ⟨_,xv,_⟩:=e2 i (by omega) hO
 have hy:=hy xv.symm
 have hyl:y%16777216=y:=Nat.mod_eq_of_lt (by rw [hy];exact hV _ _)
 rw [hyl]
 have oA:(Jb2 M.ds u ((M.ds u).fin (y+1))) u=(M.ds u).fin (y+1):=aM
 refine ⟨we gi hu ⟨(λh=>by rw [ha] at h;cases h),?_,d.putOwn,?_,?_,?_,?_⟩,dy.Bp ht rfl ht (λh=>by cases h) (λk h1 h2 h3 h4 _=> ?_) (λk h1 h2 h3 h4 _=>by cases h4)⟩
 ·intro b hb
  show ((Jb2 _ _ _ _:Ds).ag=_)∧((Jb2 _ _ _ _:Ds).take=_)∧_
  rw [oA];exact d.ph b hb
 ·intro b hb rv _
  rw [ha] at hb;cases hb;rw [bf] at rv;cases rv
 ·intro b hb rv _
  rw [ha] at hb;cases hb;rw [bf] at rv;cases rv
 ·intro b hb _ xi
  replace xi:((Jb2 M.ds u ((M.ds u).fin (y+1))) u).bN=true:=xi
  rw [oA] at xi;cases xi
 ·intro b hb _ _
  refine .inr ⟨i,by omega,hO,hT,?_⟩
  show (Jb2 M.ds u ((M.ds u).fin (y+1)) u).load=_
  rw [oA,<- hy];rfl
 ·have:=gi.dup k i (by omega) (by omega) (by rw [h2,hl])
  subst this;omega
theorem ER (gi:GI P V pos g M) {u ph i:Nat} (hi:i<=g.h) (hd:Dt g M u ph (M.ds u) i) (bq:(M.ds u).load≠g.L i):
  GI P V pos g { M with ds:=Jb2 M.ds u ((M.ds u).fin 0) }∧dy P pos me g M g { M with ds:=Jb2 M.ds u ((M.ds u).fin 0) }:=by
 obtain ⟨hp,ht,_,hl⟩:=hd
 obtain ⟨hu,a,ha⟩:=fG gi hp
 have g1:=gi.ht;have g3:=gi.tm
 have d:=gi.ds u hu
 have bf:a.take=true:=by rw [<- (d.ph a ha).2.1];exact ht
 obtain ⟨e1,e2⟩:=d.getWait a ha bf hp
 have VY:(M.ds u).load≠g.L g.h:=by
  intro h
  rcases hl with hl | ⟨k,q1,q2,q3,q4,_⟩
  ·exact (gi.okp g.h (by omega)).2 (by rw [<- h,hl])
  ·have:=gi.dup k g.h (by omega) (by omega) (by rw [q4,h])
   have:i=g.h:=by omega
   subst this;exact bq h
 have oA:(Jb2 M.ds u ((M.ds u).fin 0)) u=(M.ds u).fin 0:=aM
 refine ⟨we gi hu ⟨(λh=>by rw [ha] at h;cases h),?_,d.putOwn,?_,?_,?_,?_⟩,dy.Bp ht rfl ht (λh=>by cases h) (λk h1 h2 h3 h4 _=> ?_) (λk h1 h2 h3 h4 _=>by cases h4)⟩
 ·intro b hb
  show ((Jb2 _ _ _ _:Ds).ag=_)∧((Jb2 _ _ _ _:Ds).take=_)∧_
  rw [oA];exact d.ph b hb
 ·intro b hb rv _
  rw [ha] at hb;cases hb;rw [bf] at rv;cases rv
 ·intro b hb rv _
  rw [ha] at hb;cases hb;rw [bf] at rv;cases rv
 ·intro b hb _ xi
  replace xi:((Jb2 M.ds u ((M.ds u).fin 0)) u).bN=true:=xi
  rw [oA] at xi;cases xi
 ·intro b hb _ _
  refine .inl ⟨?_,λk hk hO=> ?_⟩
  ·show (Jb2 M.ds u ((M.ds u).fin 0) u).load=_
   rw [oA];rfl
  ·obtain ⟨_,f2,f3⟩:=e2 k hk hO
   subst f2;exact VY f3
 ·subst h3;exact VY h2.symm
theorem lB (gi:GI P V pos g M) {u ph i:Nat} (hi:i<=g.h) (S7:i<g.t) (hd:Dt g M u ph (M.ds u) i) (bq:(M.ds u).load≠g.L i) (hhs:HI g u ph i):
  GI P V pos g { M with ds:=Jb2 M.ds u ((M.ds u).lB (g.L i)) }∧dy P pos me g M g { M with ds:=Jb2 M.ds u ((M.ds u).lB (g.L i)) }:=by
 obtain ⟨hp,ht,eY,hl⟩:=hd
 obtain ⟨hu,a,ha⟩:=fG gi hp
 have g1:=gi.ht;have g3:=gi.tm
 have d:=gi.ds u hu
 have bf:a.take=true:=by rw [<- (d.ph a ha).2.1];exact ht
 obtain ⟨e1,e2⟩:=d.getWait a ha bf hp
 have VY:(M.ds u).load≠g.L g.h:=by
  intro h
  rcases hl with hl | ⟨k,q1,q2,q3,q4,_⟩
  ·exact (gi.okp g.h (by omega)).2 (by rw [<- h,hl])
  ·have:=gi.dup k g.h (by omega) (by omega) (by rw [q4,h])
   have:i=g.h:=by omega
   subst this;exact bq h
 have D0: ∀ k,g.T k≠0->g.O k≠(u,pos u):=λk hk hO=>by
  obtain ⟨_,f2,f3⟩:=e2 k hk hO
  subst f2;exact VY f3
 have Tw:a.hs<=i:=hhs a ha (by rw [<- (d.ph a ha).1];exact eY)
 have oA:(Jb2 M.ds u ((M.ds u).lB (g.L i))) u=(M.ds u).lB (g.L i):=aM
 refine ⟨we gi hu ⟨(λh=>by rw [ha] at h;cases h),?_,d.putOwn,?_,?_,?_,?_⟩,dy.Bp ht rfl ht (λ_=>hp) (λk h1 h2 h3 h4 _=> ?_) (λk h1 h2 h3 h4 h5=> ?_)⟩
 ·intro b hb
  show ((Jb2 _ _ _ _:Ds).ag=_)∧((Jb2 _ _ _ _:Ds).take=_)∧_
  rw [oA];exact d.ph b hb
 ·intro b hb rv _
  rw [ha] at hb;cases hb;rw [bf] at rv;cases rv
 ·intro b hb rv _
  rw [ha] at hb;cases hb;rw [bf] at rv;cases rv
 ·intro b hb _ _
  rw [ha] at hb;cases hb
  refine ⟨.inr ⟨i,?_,Tw,hi,S7⟩,λk hk hO=>absurd hO (D0 k hk)⟩
  show _=(Jb2 M.ds u ((M.ds u).lB (g.L i)) u).load
  rw [oA];rfl
 ·intro b hb _ xi
  replace xi:((Jb2 M.ds u ((M.ds u).lB (g.L i))) u).bN=false:=xi
  rw [oA] at xi
  exact absurd (hp.symm.trans xi) (by simp)
 ·subst h3;exact VY h2.symm
 ·have hk:=ql gi hu h2
  rcases hk.2 with h | ⟨_,_,h⟩
  ·exact D0 k (by omega) (Prod.ext hk.1 h)
  ·have:=h a ha
   have:=gi.dup i k (by omega) (by omega) h5
   omega
end
section
variable {P:cv} {V:Nat->Nat->Nat} {pos:Nat->Nat} {g g':Gh} {M M':Mm} {me:Nat}
theorem DI.bB {u:Nat} (d:DI P V pos g M u) (h:M'.ds u=M.ds u) (hL:g'.L=g.L) (hm:g'.m=g.m) (hh:g'.h=g.h) (ht:g'.t=g.t) (hG:g'.G=g.G) (hA:g'.A u=g.A u) (hT: ∀ i,g.T i≠0->g'.T i=g.T i∧g'.O i=g.O i)
  (XH: ∀ i,g'.T i≠0->g'.O i=(u,pos u)->g.T i≠0) (hp: ∀ r v,uq P g M u r v->M'.mr (aO r)=M.mr (aO r)∧M'.vl (aO r)=M.vl (aO r)∧M'.nx (aO r)=M.nx (aO r)∧M'.tk (aO r)=M.tk (aO r)):DI P V pos g' M' u where
 quiet:=by rw [h,hA];exact d.quiet
 ph:=by rw [h,hA,hh];exact d.ph
 putOwn:=by rw [hA];exact d.putOwn
 putWait:=by
  rw [h,hA,hm,hL,ht]
  intro a ha bf oD
  obtain ⟨e1,e2,e3⟩:=d.putWait a ha bf oD
  refine ⟨e1,e2,e3.imp ?_ ?_⟩
  ·unfold Q2;rw [hm,hL,hG];exact id
  ·rintro ⟨e,e'⟩
   obtain ⟨q1,q2,q3,q4⟩:=hp _ _ e
   exact ⟨⟨e.own,by rw [hm,hL];exact e.out,q1.trans e.mr,q2.trans e.vl,q3.trans e.nx,q4.trans e.tk⟩,by unfold fF;rw [hm,hG];exact e'⟩
 putDone:=by
  rw [h,hA]
  intro a ha bf oD
  have:=d.putDone a ha bf oD
  unfold Q2 at this ⊢;rw [hm,hL,hG];exact this
 getWait:=by
  rw [h,hA,hL,hh,ht]
  intro a ha bf oD
  obtain ⟨e1,e2⟩:=d.getWait a ha bf oD
  refine ⟨e1,λi hi hO=> ?_⟩
  have hi0:=XH i hi hO
  obtain ⟨q1,q2⟩:=hT i hi0
  rw [q1];exact e2 i hi0 (q2▸hO)
 getDone:=by
  rw [h,hA]
  intro a ha bf oD
  rcases d.getDone a ha bf oD with ⟨e1,e2⟩ | ⟨i,e1,e2,e3,e4⟩
  ·exact .inl ⟨e1,λi hi hO=>e2 i (XH i hi hO) (by rw [<- (hT i (XH i hi hO)).2];exact hO)⟩
  ·obtain ⟨q1,q2⟩:=hT i e1
   exact .inr ⟨i,by rw [q1];exact e1,by rw [q2];exact e2,by rw [q1];exact e3,by unfold valOf;rw [hG];exact e4⟩
theorem qs (gi:GI P V pos g M) {u r v i:Nat} (h:uq P g M u r v) (hi:g.h<=i) (Ef:i<=g.m):aO r≠aO (g.L i):=λhe=>by
 have h1:=h.mr
 have h2:=gi.mr i hi Ef
 rw [he] at h1
 exact h.out i Ef (kF he.symm (by omega))
theorem qt (gi:GI P V pos g M) {u i z:Nat} (hu:u<P.n) (hi:i<=g.h) (S7:i<g.t) (hc:M.tk (aO (g.L i))=(bH (g.L i),0))
  (hz:(z=u+33∧g.A u=none∧ez g u (pos u)∧u=me)∨(z=u+1∧(g.h=i->g.T i=0->(M.ds u).bN=true∧(M.ds u).take=true∧(M.ds u).load=g.L i))):
  i=g.h∧g.T i=0∧GI P V pos { g with T:=Jb2 g.T i z,O:=Jb2 g.O i (u,pos u) } { M with tk:=Jb2 M.tk (aO (g.L i)) (bH (g.L i),z) }∧
  dy P pos me g M { g with T:=Jb2 g.T i z,O:=Jb2 g.O i (u,pos u) } { M with tk:=Jb2 M.tk (aO (g.L i)) (bH (g.L i),z) }:=by
 have g1:=gi.ht;have g3:=gi.tm
 have hT:g.T i=0:=by
  have:=(gi.tk i (by omega)).2 (by rw [hc])
  rw [hc] at this;exact this.symm
 have xv:i=g.h:=by
  by_cases h:i<g.h
  ·exact absurd hT (gi.T1 i h)
  ·omega
 have Ea:z≠0:=by rcases hz with h | h<;>omega
 have no:ez g u (pos u):=by
  rcases hz with h | ⟨_,h⟩
  ·exact h.2.2.1
  ·obtain ⟨hp,ht,hl⟩:=h xv.symm hT
   obtain ⟨_,a,ha⟩:=fG gi hp
   have d:=gi.ds u hu
   have:=(d.getWait a ha (by rw [<- (d.ph a ha).2.1];exact ht) hp).2
   intro k hk hO
   obtain ⟨_,q,_⟩:=this k hk hO
   rw [q,<- xv] at hk;exact hk hT
 have TP: ∀ k,Jb2 g.T i z k≠0->k=i∨(k≠i∧g.T k≠0):=λk hk=>by
  by_cases h:k=i
  ·exact .inl h
  ·rw [aJ h] at hk;exact .inr ⟨h,hk⟩
 have V2: ∀ k,g.T k≠0->Jb2 g.T i z k=g.T k∧Jb2 g.O i (u,pos u) k=g.O k:=λk hk=>by
  have:k≠i:=λe=>hk (by rw [e];exact hT)
  rw [aJ this,aJ this];exact ⟨rfl,rfl⟩
 refine ⟨xv,hT,{ gi with T1:= ?_,T2:= ?_,Oinj:= ?_,tk:= ?_,tkh:= ?_,ds:= ?_ },?_⟩
 ·intro k hk
  replace hk:k<=g.m:=hk
  by_cases h:aO (g.L k)=aO (g.L i)
  ·show bH (g.L k)<=(Jb2 M.tk _ _ _).1∧((Jb2 M.tk _ _ _).1=_->(Jb2 M.tk _ _ _).2=Jb2 g.T i z k)
   rw [h,aM]
   have q:=(gi.tk k (by omega)).1
   rw [h,hc] at q
   refine ⟨q,λe=> ?_⟩
   have:=gi.dup k i (by omega) (by omega) (kF h e.symm)
   subst this;rw [aM]
  ·show bH (g.L k)<=(Jb2 M.tk _ _ _).1∧((Jb2 M.tk _ _ _).1=_->(Jb2 M.tk _ _ _).2=Jb2 g.T i z k)
   rw [aJ h,aJ (λe=>h (by rw [e]))]
   exact gi.tk k (by omega)
 ·intro k hk ry
  show (Jb2 M.tk _ _ _).1=_
  replace hk:g.h<=k:=hk
  replace ry:k<=g.m:=ry
  by_cases h:aO (g.L k)=aO (g.L i)
  ·rw [h,aM]
   have q1:=gi.mr k hk ry
   have q2:=gi.mr i (by omega) (by omega)
   rw [h] at q1
   show bH (g.L i)=bH (g.L k)
   omega
  ·rw [aJ h];exact gi.tkh k hk ry
 ·intro k hk
  replace hk:k<g.h:=hk
  show Jb2 g.T i z k≠0
  rw [aJ (by omega)];exact gi.T1 k hk
 ·intro k hk
  rcases TP k hk with h | ⟨h,h0⟩
  ·subst h
   have hO:Jb2 g.O k (u,pos u) k=(u,pos u):=aM
   have hTT:Jb2 g.T k z k=z:=aM
   refine ⟨⟨by show k<=g.h;omega,S7⟩,?_,?_,?_,?_⟩
   ·show (Jb2 g.O k (u,pos u) k).1<_∧(Jb2 g.O k (u,pos u) k).2<=pos (Jb2 g.O k (u,pos u) k).1
    rw [hO];exact ⟨hu,Nat.le_refl _⟩
   ·show Jb2 g.T k z k=(Jb2 g.O k (u,pos u) k).1+33∨Jb2 g.T k z k=(Jb2 g.O k (u,pos u) k).1+1
    rw [hO,hTT];exact hz.imp (·.1) (·.1)
   ·show Jb2 g.T k z k=(Jb2 g.O k (u,pos u) k).1+1->(Jb2 g.O k (u,pos u) k).2<pos (Jb2 g.O k (u,pos u) k).1->_
    rw [hO];intro _ h;exact absurd h (Nat.lt_irrefl _)
   ·show Jb2 g.T k z k=(Jb2 g.O k (u,pos u) k).1+1->(Jb2 g.O k (u,pos u) k).2=pos (Jb2 g.O k (u,pos u) k).1-> ∃ a,g.A (Jb2 g.O k (u,pos u) k).1=some a∧_
    rw [hO,hTT]
    intro h1 _
    rcases hz with h | ⟨_,h⟩
    ·have:z=u+1:=h1
     omega
    ·obtain ⟨hp,ht,_⟩:=h xv.symm hT
     obtain ⟨_,a,ha⟩:=fG gi hp
     exact ⟨a,ha,by rw [<- ((gi.ds u hu).ph a ha).2.1];exact ht⟩
  ·have:=gi.T2 k h0
   obtain ⟨q1,q2⟩:=V2 k h0
   exact ⟨this.lt,by show (Jb2 g.O i (u,pos u) k).1<_∧(Jb2 g.O i (u,pos u) k).2<=pos (Jb2 g.O i (u,pos u) k).1;rw [q2];exact this.yW,
    by show Jb2 g.T i z k=(Jb2 g.O i (u,pos u) k).1+33∨Jb2 g.T i z k=(Jb2 g.O i (u,pos u) k).1+1;rw [q1,q2];exact this.word,
    by show Jb2 g.T i z k=(Jb2 g.O i (u,pos u) k).1+1->(Jb2 g.O i (u,pos u) k).2<pos (Jb2 g.O i (u,pos u) k).1->(g.A (Jb2 g.O i (u,pos u) k).1=none->_)∧ ∀ a,g.A (Jb2 g.O i (u,pos u) k).1=some a->_;rw [q1,q2];exact this.slow,
    by show Jb2 g.T i z k=(Jb2 g.O i (u,pos u) k).1+1->(Jb2 g.O i (u,pos u) k).2=pos (Jb2 g.O i (u,pos u) k).1-> ∃ a,g.A (Jb2 g.O i (u,pos u) k).1=some a∧_;rw [q1,q2];exact this.aA⟩
 ·intro k l hk hl hO
  replace hO:Jb2 g.O i (u,pos u) k=Jb2 g.O i (u,pos u) l:=hO
  rcases TP k hk with h | ⟨h,h0⟩<;>rcases TP l hl with h' | ⟨h',Gb⟩
  ·omega
  ·subst h;rw [aM,aJ h'] at hO;exact absurd hO.symm (no l Gb)
  ·subst h';rw [aM,aJ h] at hO;exact absurd hO (no k h0)
  ·rw [aJ h,aJ h'] at hO;exact gi.Oinj k l h0 Gb hO
 ·intro v hv
  have d:=gi.ds v hv
  have V0: ∀ r w,uq P g M v r w->(Jb2 M.tk (aO (g.L i)) (bH (g.L i),z)) (aO r)=M.tk (aO r):=λr w hp=>aJ (qs gi hp (by omega) (by omega))
  by_cases hvu:v=u
  ·subst hvu
   rcases hz with ⟨_,hA,_⟩ | ⟨Qm,hd⟩
   ·have ha: ∀ {a:Ug} {q:Prop},({ g with T:=Jb2 g.T i z,O:=Jb2 g.O i (v,pos v) }:Gh).A v=some a->q:=λh=>by rw [show ({ g with T:=Jb2 g.T i z,O:=Jb2 g.O i (v,pos v) }:Gh).A v=none from hA] at h;cases h
    exact ⟨d.quiet,λa h=>ha h,λa h=>ha h,λa h=>ha h,λa h=>ha h,λa h=>ha h,λa h=>ha h⟩
   ·obtain ⟨hp,ht,hl⟩:=hd xv.symm hT
    refine ⟨d.quiet,d.ph,d.putOwn,λa ha bf _=> ?_,λa ha bf Gd=> ?_,λa ha bf _=>⟨(d.getWait a ha bf hp).1,λk hk hO=> ?_⟩,λa ha bf Gd=> ?_⟩
    ·have:=(d.ph a ha).2.1;rw [bf,ht] at this;cases this
    ·exact absurd (hp.symm.trans Gd) (by simp)
    ·have:k=i:=by
      rcases TP k hk with h | ⟨h,h0⟩
      ·exact h
      ·exact absurd (by rw [<- (V2 k h0).2];exact hO) (no k h0)
     subst this
     refine ⟨?_,xv,hl⟩
     show Jb2 g.T k z k=_
     rw [aM];exact Qm
    ·exact absurd (hp.symm.trans Gd) (by simp)
  ·refine d.bB (g':={ g with T:=Jb2 g.T i z,O:=Jb2 g.O i (u,pos u) }) rfl rfl rfl rfl rfl rfl rfl V2 (λk hk hO=> ?_) (λr w hp=>⟨rfl,rfl,rfl,V0 r w hp⟩)
   rcases TP k hk with h | ⟨h,h0⟩
   ·subst h
    replace hO:Jb2 g.O k (u,pos u) k=(v,pos v):=hO
    rw [aM] at hO
    exact absurd (congrArg Prod.fst hO).symm hvu
   ·exact h0
 ·refine ⟨λ_ _=>rfl,λ_ _=>rfl,Nat.le_refl _,Nat.le_refl _,Nat.le_refl _,V2,λk h0 h1=> ?_,λ_ h1 h2=>by have:_<=g.m:=h2;omega,λ_=>⟨Nat.le_refl _,λ_=>⟨rfl,id⟩⟩,λ_ _=>rfl,λ_ _ h=>h,λ_ _ _ _ h=> .inl h,λ_ _ _ _ _=>rfl,λ_ _ _ _ _ _ _ h _ _=>h,λk h1 h2 h3=> ?_,λ_ _ _ _ _ _ _ h _=> .inl h,λ_ _=>rfl,λ_ _ h=> .inl h,λp _ ha=>⟨rfl,rfl,rfl,aJ λe=> ?_⟩⟩
  ·rcases TP k h1 with h | ⟨_,h⟩
   ·subst h
    refine ⟨xv,?_⟩
    show (Jb2 g.O k (u,pos u) k).2=pos (Jb2 g.O k (u,pos u) k).1∧((Jb2 g.O k (u,pos u) k).1=me∨((M.ds (Jb2 g.O k (u,pos u) k).1).bN=true∧(M.ds (Jb2 g.O k (u,pos u) k).1).take=true))
    rw [aM]
    refine ⟨rfl,?_⟩
    rcases hz with h | ⟨_,h⟩
    ·exact .inl h.2.2.2
    ·obtain ⟨hp,ht,_⟩:=h xv.symm hT
     exact .inr ⟨hp,ht⟩
   ·exact absurd h0 h
  ·intro v q1
   replace q1:Jb2 g.T i z k=v+1:=q1
   rw [(V2 k h2).1] at q1
   exact h3 v q1
  ·exact ha i (by omega) e.symm (by rw [e];exact gi.mr i (by omega) (by omega))
theorem free (gi:GI P V pos g M) {i:Nat} (hi:i<g.h) (hc:M.mr (aO (g.L i))=2*bH (g.L i)+1):
  GI P V pos g { M with mr:=Jb2 M.mr (aO (g.L i)) (2*bH (g.L i)) }∧dy P pos me g M g { M with mr:=Jb2 M.mr (aO (g.L i)) (2*bH (g.L i)) }:=by
 have g1:=gi.ht;have g3:=gi.tm
 have key: ∀ r,aO r=aO (g.L i)->M.mr (aO r)=2*bH r+1->r=g.L i:=λr h1 h2=>kF h1 (by rw [h1] at h2;omega)
 refine ⟨{ gi with old:=λk hk=> ?_,mr:=λk hk ry=> ?_,ds:=λu hu=> ?_ },?_⟩
 ·show _<=Jb2 M.mr _ _ _
  have:=gi.old k hk
  by_cases h:aO (g.L k)=aO (g.L i)
  ·rw [h,aM];rw [h,hc] at this;omega
  ·rw [aJ h];exact this
 ·show Jb2 M.mr _ _ _=_
  by_cases h:aO (g.L k)=aO (g.L i)
  ·have:=key _ h (gi.mr k hk ry)
   have:=gi.dup k i ry (by omega) this
   omega
  ·rw [aJ h];exact gi.mr k hk ry
 ·refine (gi.ds u hu).bB (g':=g) rfl rfl rfl rfl rfl rfl rfl (λ_ _=>⟨rfl,rfl⟩) (λ_ h _=>h) λr v hp=>⟨aJ λh=> ?_,rfl,rfl,rfl⟩
  exact hp.out i (by omega) (key r h hp.mr).symm
 ·refine dy.of rfl rfl rfl (Nat.le_refl _) (Nat.le_refl _) rfl rfl (λ_ _=>rfl) (λ_ _ h=>h) rfl λp _ ha=>⟨aJ λh=> ?_,rfl,rfl,rfl⟩
  exact ha i (by omega) h.symm (by rw [h];exact hc)
theorem mW (gi:GI P V pos g M) {r:Nat} (VZ:me<P.n) (hA:g.A me=none) (hr:P.own r=some me) (hout: ∀ i,g.h<=i->i<=g.m->aO (g.L i)≠aO r)
  (SW: ∀ p,p≠aO r->M'.mr p=M.mr p) (Ga: ∀ p,p≠aO r->M'.vl p=M.vl p) (eP: ∀ p,p≠aO r->M'.nx p=M.nx p) (fx: ∀ p,p≠aO r->M'.tk p=M.tk p) (hh:M'.head=M.head) (ht:M'.tail=M.tail) (Cp:M'.ds=M.ds)
  (h1:M.mr (aO r)<=M'.mr (aO r)) (h2: ∀ i,i<=g.m->aO (g.L i)=aO r->bH (g.L i)<=(M'.nx (aO r)).1∧((M'.nx (aO r)).1=bH (g.L i)->(M'.nx (aO r)).2=g.ef i)) (h3: ∀ i,i<=g.m->aO (g.L i)=aO r->bH (g.L i)<=(M'.tk (aO r)).1∧((M'.tk (aO r)).1=bH (g.L i)->(M'.tk (aO r)).2=g.T i)):
  GI P V pos g M'∧dy P pos me g M g M':=by
 have g1:=gi.ht;have g3:=gi.tm
 refine ⟨{ gi with hd:=by rw [hh];exact gi.hd,tl:=by rw [ht];exact gi.tl,old:=λk hk=> ?_,mr:=λk hk ry=> ?_,nx:=λk hk=> ?_,nxh:=λk hk ry=> ?_,tk:=λk hk=> ?_,tkh:=λk hk ry=> ?_,vl:=λk hk ry=> ?_,ds:=λu hu=> ?_,dsOut:=by rw [Cp];exact gi.dsOut },?_⟩
 ·have:=gi.old k hk
  by_cases h:aO (g.L k)=aO r
  ·rw [h] at this ⊢;omega
  ·rw [SW _ h];exact this
 ·rw [SW _ (hout k hk ry)];exact gi.mr k hk ry
 ·by_cases h:aO (g.L k)=aO r
  ·rw [h];exact h2 k hk h
  ·rw [eP _ h];exact gi.nx k hk
 ·rw [eP _ (hout k hk ry)];exact gi.nxh k hk ry
 ·by_cases h:aO (g.L k)=aO r
  ·rw [h];exact h3 k hk h
  ·rw [fx _ h];exact gi.tk k hk
 ·rw [fx _ (hout k hk ry)];exact gi.tkh k hk ry
 ·rw [Ga _ (hout k (by omega) ry)];exact gi.vl k hk ry
 ·by_cases hv:u=me
  ·subst hv
   have d:=gi.ds u hu
   have ha: ∀ {a:Ug} {q:Prop},g.A u=some a->q:=λh=>by rw [hA] at h;cases h
   exact ⟨by rw [Cp];exact d.quiet,λa h=>ha h,λa h=>ha h,λa h=>ha h,λa h=>ha h,λa h=>ha h,λa h=>ha h⟩
  ·refine (gi.ds u hu).bB (g':=g) (by rw [Cp]) rfl rfl rfl rfl rfl rfl (λ_ _=>⟨rfl,rfl⟩) (λ_ h _=>h) λq v hp=> ?_
   have:aO q≠aO r:=λe=>hv (Option.some.inj (hp.own.symm.trans (wc e.symm hr)))
   exact ⟨SW _ this,Ga _ this,eP _ this,fx _ this⟩
 ·refine dy.of rfl rfl rfl (Nat.le_refl _) (Nat.le_refl _) rfl rfl (λ_ _=>rfl) (λ_ _ h=>h) Cp λp hp _=> ?_
  have:p≠aO r:=λe=>hp r e.symm hr
  exact ⟨SW _ this,Ga _ this,eP _ this,fx _ this⟩
theorem cO (gi:GI P V pos g M) {ph r:Nat} {take:Bool} (VZ:me<P.n) (hA:g.A me=none) (eY:(M.ds me).ag<ph) (D0:ez g me (pos me))
  (cY:take=false->uq P g M me r (V me (pos me))∧fF g me (pos me)) (oy:take=true->r=0):
  GI P V pos { g with A:=Jb2 g.A me (some ⟨ph,g.h,take,r⟩) } { M with ds:=Jb2 M.ds me ⟨true,take,r,ph⟩ }∧dy P pos me g M { g with A:=Jb2 g.A me (some ⟨ph,g.h,take,r⟩) } { M with ds:=Jb2 M.ds me ⟨true,take,r,ph⟩ }:=by
 have g1:=gi.ht;have g3:=gi.tm
 have d:=gi.ds me VZ
 have hq:=d.quiet hA
 have xy:(Jb2 g.A me (some ⟨ph,g.h,take,r⟩)) me=some ⟨ph,g.h,take,r⟩:=aM
 have AD:(Jb2 M.ds me ⟨true,take,r,ph⟩) me=⟨true,take,r,ph⟩:=aM
 have F0: ∀ u,u≠me->(Jb2 g.A me (some ⟨ph,g.h,take,r⟩)) u=g.A u:=λu h=>aJ h
 have Ly: ∀ u,u≠me->(Jb2 M.ds me ⟨true,take,r,ph⟩) u=M.ds u:=λu h=>aJ h
 have SV:take=false-> ∀ i,i<=g.m->g.L i≠r:=λh=>(cY h).1.out
 have V5:take=true-> ∀ i,i<=g.m->g.L i≠r:=λh i hi=>by rw [oy h];exact (gi.okp i hi).2
 have hr: ∀ i,i<=g.m->g.L i≠r:=by cases take with
  | true=>exact V5 rfl
  | false=>exact SV rfl
 refine ⟨{ gi with T2:=λi hi=> ?_,ds:=λu hu=> ?_,dsOut:=λu hu=> ?_ },?_⟩
 ·have t:=gi.T2 i hi
  have iS:=hi
  refine ⟨t.lt,t.yW,t.word,λh1 h2=> ?_,λh1 h2=> ?_⟩
  ·by_cases h:(g.O i).1=me
   ·refine ⟨λh3=> ?_,λa ha=> ?_⟩
    ·exact (t.slow h1 h2).1 (by rw [h];exact hA)
    ·replace ha:Jb2 g.A me (some ⟨ph,g.h,take,r⟩) (g.O i).1=some a:=ha
     rw [h,xy] at ha
     cases ha
     exact (t.slow h1 h2).1 (by rw [h];exact hA)
   ·show (Jb2 g.A me _ (g.O i).1=none->_)∧ ∀ a,Jb2 g.A me _ (g.O i).1=some a->_
    rw [F0 _ h];exact t.slow h1 h2
  ·by_cases h:(g.O i).1=me
   ·replace h2:(g.O i).2=pos (g.O i).1:=h2
    rw [h] at h2
    exact absurd (Prod.ext h h2) (D0 i hi)
   ·show ∃ a,Jb2 g.A me _ (g.O i).1=some a∧_
    rw [F0 _ h];exact t.aA h1 h2
 ·by_cases h:u=me
  ·subst h
   refine ⟨λh=> ?_,λa ha=> ?_,λa ha ht=> ?_,λa ha ht hp=> ?_,λa ha ht hp=> ?_,λa ha ht hp=> ?_,λa ha ht hp=> ?_⟩
   all_goals try (replace ha:Jb2 g.A u (some ⟨ph,g.h,take,r⟩) u=some a:=ha;rw [xy] at ha;cases ha)
   ·replace h:Jb2 g.A u (some ⟨ph,g.h,take,r⟩) u=none:=h
    rw [xy] at h;cases h
   ·show (Jb2 M.ds u _ u).ag=_∧(Jb2 M.ds u _ u).take=_∧_
    rw [AD];exact ⟨rfl,rfl,Nat.le_refl _⟩
   ·exact (cY ht).1.own
   ·show (Jb2 M.ds u _ u).load=_∧_
    rw [AD]
    refine ⟨rfl,λi hi he=>absurd he (hr i hi),.inr ⟨?_,(cY ht).2⟩⟩
    have:=(cY ht).1
    exact ⟨this.own,this.out,this.mr,this.vl,this.nx,this.tk⟩
   ·replace hp:(Jb2 M.ds u ⟨true,take,r,ph⟩ u).bN=false:=hp
    rw [AD] at hp;cases hp
   ·show ((Jb2 M.ds u _ u).load=0∨_)∧_
    rw [AD]
    exact ⟨.inl (oy ht),λi hi hO=>absurd hO (D0 i hi)⟩
   ·replace hp:(Jb2 M.ds u ⟨true,take,r,ph⟩ u).bN=false:=hp
    rw [AD] at hp;cases hp
  ·exact (gi.ds u hu).bB (g':={ g with A:=Jb2 g.A me (some ⟨ph,g.h,take,r⟩) }) (Ly u h) rfl rfl rfl rfl rfl (F0 u h) (λ_ _=>⟨rfl,rfl⟩) (λ_ h _=>h) λ_ _ _=>⟨rfl,rfl,rfl,rfl⟩
 ·show (Jb2 M.ds me _ u).bN=false∧Jb2 g.A me _ u=none
  rw [F0 u (by omega),Ly u (by omega)];exact gi.dsOut u hu
 ·refine ⟨λ_ _=>rfl,λ_ _=>rfl,Nat.le_refl _,Nat.le_refl _,Nat.le_refl _,λ_ _=>⟨rfl,rfl⟩,λ_ h h'=>absurd h h',λ_ h1 h2=>by have:_<=g.m:=h2;omega,λv=> ?_,λv hv=>by show (Jb2 M.ds me _ v).ag=_;rw [Ly v hv],λk hk h=> ?_,λv dd h1 h2 h3=> ?_,λv h1 h2 h3 h4=> ?_,λv dd k h1 h2 h3 h4 h5 h6 h7=> ?_,λk h1 h2 h3=> ?_,λv dd k h1 h2 h3 h4 h5 h6=> ?_,F0,λv a h=> ?_,λ_ _ _=>⟨rfl,rfl,rfl,rfl⟩⟩
  ·show _<=(Jb2 M.ds me _ v).ag∧((Jb2 M.ds me _ v).ag=_->_)
   by_cases e:v=me
   ·subst e;rw [AD];exact ⟨Nat.le_of_lt eY,λh=>by have:ph=_:=h;omega⟩
   ·rw [Ly v e]
    refine ⟨Nat.le_refl _,λ_=> ?_⟩
    show (Jb2 M.ds me _ v).take=_∧((Jb2 M.ds me _ v).bN=true->_)
    rw [Ly v e];exact ⟨rfl,id⟩
  ·intro v q1 q2
   show (Jb2 M.ds me _ v).load≠_
   replace q1:(Jb2 M.ds me ⟨true,take,r,ph⟩ v).bN=true:=q1
   replace q2:(Jb2 M.ds me ⟨true,take,r,ph⟩ v).take=false:=q2
   by_cases e:v=me
   ·subst e;rw [AD];exact (hr k hk).symm
   ·rw [Ly v e] at q1 q2 ⊢;exact h v q1 q2
  ·have e:v≠me:=λe=>by subst e;subst h3;rw [hq] at h1;cases h1
   exact .inl ((Ly v e).trans h3)
  ·have e:v≠me:=λe=>by subst e;rw [hq] at h1;cases h1
   exact Ly v e
  ·have e:v≠me:=λe=>by subst e;subst h5;rw [hq] at h1;cases h1
   exact (Ly v e).trans h5
  ·intro v q1 q2 q3 q4
   show (Jb2 M.ds me _ v).load≠_
   replace q3:(Jb2 M.ds me ⟨true,take,r,ph⟩ v).bN=true:=q3
   replace q4:(Jb2 M.ds me ⟨true,take,r,ph⟩ v).take=true:=q4
   by_cases e:v=me
   ·subst e;rw [AD];exact (hr k (by omega)).symm
   ·rw [Ly v e] at q3 q4 ⊢;exact h3 v q1 q2 q3 q4
  ·have e:v≠me:=λe=>by subst e;subst h5;rw [hq] at h1;cases h1
   exact .inl ((Ly v e).trans h5)
  ·replace h:Jb2 g.A me (some ⟨ph,g.h,take,r⟩) v=some a:=h
   by_cases e:v=me
   ·subst e;rw [xy] at h;cases h;exact .inr eY
   ·rw [F0 v e] at h;exact .inl h
end
end Qk
end Go.Proofs.YtpkfimijnkkbjaaGreat
