/- Lists, no program in sight: the element at a place, as one word. -/
import Derived.WalkKit
import Derived.WalkSpells
import Derived.WalkLawsBesides
import Derived.BigQuiet
import Derived.Deep.QuietTactic
import Derived.Lib.Hide
import Derived.OpenShut
import GoSem.Claim
import GoSem.Dispatch
import Derived.Laws.AppendOwn
import Derived.Maps.OwnOps
set_option linter.unusedVariables false
namespace Go.Proofs.YtpkfimijnkkbjaaGreat
def nth (l:List Int) (i:Nat):Int:=l.getD i 0
theorem qV (l:List Int) (i:Nat) (h:i<l.length):l[i]=nth l i:=by simp [nth,List.getElem?_eq_getElem h]
theorem getElem?_nth (l:List Int) (i:Nat) (h:i<l.length):l[i]?=some (nth l i):=by rw [List.getElem?_eq_getElem h,qV l i h]
theorem CK (l:List Int) (i:Nat) (h:i<l.length):nth l i∈l:=by rw [<- qV l i h];exact List.getElem_mem h
section
variable {α:Type} (d:α)
end
open Go.RowKit
def AF (w w':World):Prop:=Below w.heap.size w w'
theorem AF.refl (w:World):AF w w:=Below.refl _ _
theorem AF.trans {a b c:World} (h:AF a b) (k:AF b c):AF a c:=Below.trans h (Below.mono k h.size)
theorem AF.drew {a w:World} (h:AF a w):AF a w.drew:=Below.drew h
theorem AF.alloc {a w:World} (h:AF a w) (o:Obj):AF a (w.alloc o):=Below.alloc h h.size o
theorem AF.cell {w w':World} (h:AF w w') {a:Addr} {v:Value} (hc:w.cell? a=some v):w'.cell? a=some v:=
 (Below.cell h (World.block_lt_of_cell? w a hc)).trans hc
theorem sf (g o j:Nat):(⟨g,o,none⟩:Addr).add j=⟨g,o+j,none⟩:=by unfold Addr.add;split<;>simp_all
def Jb9 (k:IntKind) (w:World) (a:Option Addr) (zs:List Int):Prop:=
 zs=[]∨ ∃ b off,a=some ⟨b,off,none⟩∧ ∀ i,i<zs.length->w.cell? ⟨b,off+i,none⟩=some (.int k (nth zs i))
theorem Jb9.ext {k:IntKind} {w w':World} {a:Option Addr} {zs:List Int} (h:Jb9 k w a zs) (he:AF w w'):Jb9 k w' a zs:=by
 rcases h with h | ⟨b,off,ha,hc⟩
 ·exact .inl h
 ·exact .inr ⟨b,off,ha,λi hi=>he.cell (hc i hi)⟩
theorem uj {n:Int} (h:(Lit.int .i64 n).wf=true): -9223372036854775808<=n∧n<=9223372036854775807:=by
 exact bounds_i64 h
theorem Gj {w:World} {a:Option Addr} {len cap:Nat} {zs:List Int}
  (h:(a=none∧len=0∧cap=0∧zs=[])∨
   ∃ x,a=some x∧len<=cap∧cap<=maxLen∧zs.length=cap∧(∀ i,i<zs.length->w.cell? (x.add i)=some (.int .i64 (zs.getD i 0)))∧ ∀ n∈zs,(Lit.int .i64 n).wf=true):
  ∃ l:List Int,l.length=len∧Jb9 .i64 w a l∧ ∀ i,i<l.length-> -9223372036854775808<=nth l i∧nth l i<=9223372036854775807:=by
 rcases h with ⟨rfl,rfl,rfl,rfl⟩ | ⟨⟨b,off,spot⟩,rfl,hl,hm,hz,hc,hw⟩
 ·exact ⟨[],rfl,.inl rfl,λi hi=>by simp at hi⟩
 ·refine ⟨zs.take len,by rw [List.length_take];omega,?_,?_⟩
  ·by_cases h0:len=0
   ·subst h0;exact .inl (by simp)
   ·have c0:=hc 0 (by omega)
    have V6:spot=none:=by simpa [Addr.add] using World.cell?_spot c0
    subst V6
    refine .inr ⟨b,off,rfl,λi hi=> ?_⟩
    rw [List.length_take] at hi
    have:=hc i (by omega)
    rw [sf] at this
    rw [this]
    simp only [nth]
    rw [List.getD_eq_getElem?_getD,List.getD_eq_getElem?_getD,List.getElem?_take_of_lt (by omega)]
  ·intro i hi
   have F8:=hi
   rw [List.length_take] at F8
   apply uj
   apply hw
   exact List.mem_of_mem_take (CK _ i hi)
end Go.Proofs.YtpkfimijnkkbjaaGreat
namespace Go.Proofs.YtpkfimijnkkbjaaGreat
namespace Ev
inductive AV where
 | int (k:IntKind) (n:Int)
 | aa (k:IntKind) (n:Int)
 | bool (b:Bool)
 | eS (b:Bool)
 | ptr (b off:Nat)
 | oG
 | slice (b off len cap:Nat)
 | aF (b sz k j len iM:Nat)
 | aL (b off len cap:Nat)
 | ae (b sz k j len iM:Nat)
 | au
 | ed (b:Nat)
 | uk
 | func (f:FuncId) (first captured:List AV)
 | kx
 | iface (t:TypeId) (v:AV)
 | aX
 | agg (l:List AV)
 | eT (l:List AV)
 | cQ (v:Value)
 deriving Inhabited
inductive ak where
 | row (yA:Bool) (l:List AV) (t:TypeId) (opn:Option Nat)
 | map (yA:Bool) (l:List (Int×AV))
 deriving Inhabited
inductive Tr where
 | nil
 | node (o:Option ak) (l r:Tr)
 deriving Inhabited
def Tr.look:Nat->Tr->Nat->Option ak
 | 0,_,_=>none
 | _+1,.nil,_=>none
 | f+1,.node o l r,b=>
  match Nat.beq b 0 with
  | true=>o
  | false=>
   match Nat.beq (Nat.mod b 2) 1 with
   | true=>Tr.look f l (Nat.div b 2)
   | false=>Tr.look f r (Nat.div (Nat.sub b 1) 2)
def Tr.put:Nat->Tr->Nat->Option ak->Tr
 | 0,t,_,_=>t
 | f+1,.nil,b,x=>
  match Nat.beq b 0 with
  | true=> .node x .nil .nil
  | false=>
   match Nat.beq (Nat.mod b 2) 1 with
   | true=> .node none (Tr.put f .nil (Nat.div b 2) x) .nil
   | false=> .node none .nil (Tr.put f .nil (Nat.div (Nat.sub b 1) 2) x)
 | f+1,.node o l r,b,x=>
  match Nat.beq b 0 with
  | true=> .node x l r
  | false=>
   match Nat.beq (Nat.mod b 2) 1 with
   | true=> .node o (Tr.put f l (Nat.div b 2) x) r
   | false=> .node o l (Tr.put f r (Nat.div (Nat.sub b 1) 2) x)
inductive CL where
 | br (b:Bool)
 | val (l:List AV)
 deriving Inhabited
structure St where
 heap:Tr
 next:Nat
 rd:Nat
 wr:Nat
 pre:Prop
 AG:List CL
inductive eO (α:Type) where
 | fail (why:List Nat)
 | ok (a:α) (s:St)
def ee {α:Type} (n:Nat) (k:Nat->α):α:=
 match n with
 | 0=>k 0
 | m+1=>k (m+1)
def deep:Nat:=40
def St.get (s:St) (b:Nat):Option ak:=Tr.look deep s.heap b
def mark (r b:Nat):Nat:=Nat.lor r (Nat.shiftLeft 1 b)
def nE {α:Type} (s:St) (b:Nat) (k:ak->St->eO α):eO α:=
 match s with
 | ⟨h,n,r,w,p,o⟩=>
  match Tr.look deep h b with
  | none=> .fail []
  | some x=>ee (mark r b) λr=>k x ⟨h,n,r,w,p,o⟩
def sg {α:Type} (s:St) (b:Nat) (x:ak) (a:α):eO α:=
 match s with
 | ⟨h,n,r,w,p,o⟩=>ee (mark r b) λr=>ee (mark w b) λw=> .ok a ⟨Tr.put deep h b (some x),n,r,w,p,o⟩
def iu {α:Type} (s:St) (x:ak) (k:Nat->α):eO α:=
 match s with
 | ⟨h,n,r,w,p,o⟩=>ee n λn=>ee (mark r n) λr=>ee (mark w n) λw=>ee (n+1) λn'=> .ok (k n) ⟨Tr.put deep h n (some x),n',r,w,p,o⟩
def ask (s:St) (q:Prop):St:=
 match s with
 | ⟨h,n,r,w,p,o⟩=>⟨h,n,r,w,p∧q,o⟩
abbrev Env:=List (Nat×AV)
def Env.look:Env->Nat->Option AV
 | [],_=>none
 | (u,v)::e,t=>match Nat.beq u t with
  | true=>some v
  | false=>Env.look e t
def sh:Value->Option AV
 | .int k n=>some (.int k n)
 | .bool b=>some (.bool b)
 | .pointer none=>some .oG
 | .slice none 0 0=>some .au
 | .map none=>some .uk
 | .nilFunc=>some .kx
 | .nilIface=>some .aX
 | _=>none
def pP:List Value->Option (List AV)
 | []=>some []
 | v::l=>match sh v with
  | none=>none
  | some a=>match pP l with
   | none=>none
   | some r=>some (a::r)
def vE:Value->Option AV
 | .agg cs=>match pP cs.toList with
  | none=>none
  | some l=>some (.agg l)
 | v=>sh v
def dM (env:Env):Operand->Option AV
 | .tmp t=>env.look t
 | .const v=>vE v
 | .global _=>none
 | .func f=>some (.func f [] [])
def nm (env:Env):List Operand->Option (List AV)
 | []=>some []
 | x::l=>match dM env x with
  | none=>none
  | some a=>match nm env l with
   | none=>none
   | some r=>some (a::r)
section types
variable (P:Program)
def aK (t:TypeId):Nat:=match P.info? t with
 | some i=>i.size
 | none=>0
def si (t:TypeId):Option Bool:=match P.underlying t with
 | some (.struct _)=>some true
 | some (.array _ _)=>some true
 | some _=>some false
 | none=>none
def l6 (t:TypeId):Option AV:=match P.info? t with
 | some i=>match i.zero with
  | some z=>vE z
  | none=>none
 | none=>none
def vF (t:TypeId) (f:Nat):Option Field:=match P.underlying t with
 | some (.struct fs)=>fs[f]?
 | _=>none
def qW (t:TypeId):Option TypeId:=match P.underlying t with
 | some (.slice e)=>some e
 | _=>none
def Eg (t:TypeId):Option IntKind:=match P.underlying t with
 | some (.int k)=>some k
 | _=>none
def Gk (t:TypeId) (name:String):Option FuncId:=match P.info? t with
 | none=>none
 | some i=>match i.methods.find? (·.name==name) with
  | none=>none
  | some m=>match m.path.toList,m.func with
   | [],some (f,pr)=>
    match P.underlying t,pr with
    | some (.pointer _),true=>some f
    | some (.pointer _),false=>none
    | some (.interface _),_=>none
    | some _,false=>some f
    | _,_=>none
   | _,_=>none
end types
def AV.cells:AV->List AV
 | .agg l=>l
 | v=>[v]
def vG:List AV->Nat->Option AV
 | [],_=>none
 | a::_,0=>some a
 | _::l,n+1=>vG l n
def pQ:List AV->Nat->Nat->Option (List AV)
 | _,_,0=>some []
 | [],_,_+1=>none
 | a::l,0,n+1=>match pQ l 0 n with
  | none=>none
  | some r=>some (a::r)
 | _::l,o+1,n+1=>pQ l o (n+1)
def sj:List AV->Nat->List AV->Option (List AV)
 | l,_,[]=>some l
 | [],_,_::_=>none
 | _::l,0,v::vs=>match sj l 0 vs with
  | none=>none
  | some r=>some (v::r)
 | a::l,o+1,v::vs=>match sj l o (v::vs) with
  | none=>none
  | some r=>some (a::r)
def Jc9:List AV->Nat
 | []=>0
 | _::l=>Jc9 l+1
def AV.flat:AV->Bool
 | .agg _=>false
 | .eT _=>false
 | _=>true
def iP:List AV->Bool
 | []=>true
 | v::l=>match v.flat with
  | true=>iP l
  | false=>false
def TJ:Option Nat->Bool
 | some 0=>false
 | _=>true
def xJ {α:Type} (s:St) (b off n:Nat) (k:List AV->St->eO α):eO α:=
 nE s b λx s=>match x with
  | .row false l _ _=>match pQ l off n with
   | some vs=>k vs s
   | none=> .fail []
  | .row true l _ _=>match s with
   | ⟨h,nx,r,w,p,.val vs::o⟩=>k vs ⟨h,nx,r,w,p∧vs.length=n∧ ∀ i,i<n->l[off+i]?=vs[i]?,o⟩
   | _=> .fail []
  | .map _ _=> .fail []
def loadT {α:Type} (P:Program) (t:TypeId) (s:St) (b off:Nat) (k:AV->St->eO α):eO α:=
 match si P t with
 | some true=>xJ s b off (aK P t) λvs s=>k (.agg vs) s
 | some false=>xJ s b off 1 λvs s=>match vs with
  | [v]=>k v s
  | _=> .fail []
 | none=> .fail []
def vH {α:Type} (s:St) (b off:Nat) (vs:List AV) (a:α):eO α:=
 nE s b λx s=>match x with
  | .row false l t q=>match TJ q with
   | true=>match iP vs,sj l off vs with
    | true,some l'=>sg s b (.row false l' t q) a
    | _,_=> .fail []
   | false=> .fail []
  | .row true l t q=>match TJ q with
   | true=>match iP vs,vs with
    | true,[v]=>sg (ask s (off<l.length)) b (.row true (l.set off v) t q) a
    | true,_=>sg (ask s (off+vs.length<=l.length)) b (.row true (l.take off++vs++l.drop (off+vs.length)) t q) a
    | _,_=> .fail []
   | false=> .fail []
  | .map _ _=> .fail []
def AV.num:AV->Option (Bool×IntKind×Int)
 | .int k n=>some (false,k,n)
 | .aa k n=>some (true,k,n)
 | _=>none
def mkI (yA:Bool) (k:IntKind) (n:Int):AV:=match yA with
 | true=> .aa k n
 | false=> .int k n
def xK:BinOp->Bool
 | .eql | .neq | .lss | .leq | .gtr | .geq=>true
 | _=>false
def aq (op:BinOp) (x y:Int):Bool:=
 match op with
 | .eql=>x==y
 | .neq=>x != y
 | .lss=>decide (x<y)
 | .leq=>decide (x<=y)
 | .gtr=>decide (x>y)
 | _=>decide (x>=y)
def QI (op:BinOp) (k:IntKind) (x y:Int):Option (Int×Bool):=
 match op with
 | .add=>some (k.wrap (x+y),true)
 | .sub=>some (k.wrap (x-y),true)
 | .mul=>some (k.wrap (x*y),true)
 | .quo=>some (k.wrap (x.tdiv y),y != 0)
 | .rem=>some (x.tmod y,y != 0)
 | .and=>some (k.wrap (BitVec.ofInt k.bits x &&& BitVec.ofInt k.bits y).toNat,true)
 | .or=>some (k.wrap (BitVec.ofInt k.bits x ||| BitVec.ofInt k.bits y).toNat,true)
 | .xor=>some (k.wrap (BitVec.ofInt k.bits x ^^^ BitVec.ofInt k.bits y).toNat,true)
 | .andNot=>some (k.wrap (BitVec.ofInt k.bits x &&& ~~~ BitVec.ofInt k.bits y).toNat,true)
 | .shl=>some (k.wrap (x*2^(min y.toNat k.bits)),decide (0<=y))
 | .shr=>some (x.fdiv (2^(min y.toNat k.bits)),decide (0<=y))
 | _=>none
def xL (op:BinOp) (k k':IntKind):Bool:=
 match op with
 | .shl | .shr=>true
 | _=>decide (k=k')
def AV.LS:AV->Option (Bool×Bool)
 | .bool b=>some (false,b)
 | .eS b=>some (true,b)
 | _=>none
def Pk (d:Option TypeDesc) (a b:AV):Option (Bool×Bool):=
 match d with
 | some (.int _)=>match a.num,b.num with
  | some (sx,k,x),some (sy,k',y)=>match decide (k=k') with
   | true=>some (sx||sy,x==y)
   | false=>none
  | _,_=>none
 | some .bool=>match a.LS,b.LS with
  | some (sx,x),some (sy,y)=>some (sx||sy,x==y)
  | _,_=>none
 | _=>none
def Eh (P:Program):List Field->Nat->List AV->List AV->Option (Bool×Bool)
 | [],_,[],[]=>some (false,true)
 | f :: fs, i, a :: l, b :: m => match Nat.beq f.offset i, f.name != "_", Pk (P.underlying f.type) a b with
  | true,true,some (sx,x)=>match Eh P fs (i+1) l m with
   | some (sy,y)=>some (sx||sy,x&&y)
   | none=>none
  | _,_,_=>none
 | _,_,_,_=>none
def W7 (P:Program) (t:TypeId) (lit:Bool) (x y:AV):Option (Bool×Bool):=
 match P.underlying t with
 | none=>none
 | some d=>match d,x,y with
  | .pointer _,.oG,.oG=>some (false,true)
  | .pointer _,.ptr _ _,.oG=>some (false,false)
  | .pointer _,.oG,.ptr _ _=>some (false,false)
  | .slice _,.au,.au=>some (false,true)
  | .slice _,.slice _ _ _ _,.au=>some (false,false)
  | .slice _,.aF _ _ _ _ _ _,.au=>some (false,false)
  | .slice _,.aL _ _ _ _,.au=>some (false,false)
  | .slice _,.ae _ _ _ _ _ _,.au=>some (false,false)
  | .func _ _ _,.kx,.kx=>some (false,true)
  | .func _ _ _,.func _ _ _,.kx=>some (false,false)
  | .interface _,.iface _ _,.aX=>some (false,false)
  | .interface _,.aX,.aX=>match lit with
   | true=>some (false,true)
   | false=>none
  | .struct fs,.agg l,.agg m=>match P.stoodInHeld t with
   | true=>none
   | false=>Eh P fs.toList 0 l m
  | .bool,a,b=>Pk (some .bool) a b
  | _,_,_=>none
def xM:Operand->Bool
 | .const _=>true
 | _=>false
def Gl (yA b:Bool) (s:St):eO AV:=match yA with
 | false=> .ok (.bool b) s
 | true=>match s with
  | ⟨h,n,r,w,p,.br c::o⟩=> .ok (.bool c) ⟨h,n,r,w,p∧b=c,o⟩
  | _=> .fail []
def Pl (P:Program) (op:BinOp) (t:TypeId) (cx cy:Bool) (x y:AV) (s:St):eO AV:=
 match x.num,y.num with
 | some (sx,k,a),some (sy,k',b)=>
  match xL op k k' with
  | false=> .fail []
  | true=>
   match xK op with
   | true=>Gl (sx||sy) (aq op a b) s
   | false=>match QI op k a b with
    | none=> .fail []
    | some (v,g)=>match (sx||sy) with
     | true=> .ok (.aa k v) (ask s (g=true))
     | false=>match g with
      | true=> .ok (.int k v) s
      | false=> .fail []
 | _,_=>
  match op with
  | .eql=>match W7 P t (cx||cy) x y with
   | some (sy,b)=>Gl sy b s
   | none=> .fail []
  | .neq=>match W7 P t (cx||cy) x y with
   | some (sy,b)=>Gl sy (!b) s
   | none=> .fail []
  | _=> .fail []
def nF (place:Nat->Option (Nat×Nat)):List AV->List (Nat×AV)->Option (List AV)
 | cells,[]=>some cells
 | cells,(i,v)::rest=>
  match place i with
  | none=>none
  | some (off,size)=>match Nat.beq (Jc9 v.cells) size,Nat.ble 1 size with
   | false,_ | _,false=>none
   | true,true=>match sj cells off v.cells with
    | none=>none
    | some c=>nF place c rest
def jD (env:Env):List (Nat×Operand)->Option (List (Nat×AV))
 | []=>some []
 | (i,x)::l=>match dM env x with
  | none=>none
  | some a=>match jD env l with
   | none=>none
   | some r=>some ((i,a)::r)
def nQ (c:List AV):Nat->List AV
 | 0=>[]
 | n+1=>c++nQ c n
def cR (k:Int):List (Int×AV)->Option AV
 | []=>none
 | (j,v)::l=>match decide (k=j) with
  | true=>some v
  | false=>cR k l
def eh (k:Int) (v:AV):List (Int×AV)->List (Int×AV)
 | []=>[(k,v)]
 | (j,u)::l=>match decide (k=j) with
  | true=>(k,v)::l
  | false=>(j,u)::eh k v l
def room:Nat:=140737488355328
def AV.sl (sz:Nat):AV->Option (Option (Nat×Nat)×Nat)
 | .au=>some (none,0)
 | .slice b off len _=>some (some (b,off),len)
 | .aF b z k _ len iM=>match Nat.beq z sz,Nat.ble (k+len) iM with
  | true,true=>some (some (b,k*z),len)
  | _,_=>none
 | _=>none
def l7 {α:Type} (s:St) (sz:Nat) (v:AV) (n:Nat) (k:List AV->St->eO α):eO α:=
 match n with
 | 0=>k [] s
 | n'+1=>match v.sl sz with
  | some (some (b,off),len)=>match Nat.ble (n'+1) len with
   | true=>xJ s b off ((n'+1)*sz) k
   | false=> .fail []
  | _=> .fail []
def roomy (P:Program) (e:TypeId) (n:Nat):Bool:=Nat.ble (n*P.bytesOf e) room&&Nat.ble n maxLen
def AW (P:Program) (e:TypeId):Bool:=match l6 P e with
 | some z=>Nat.beq (Jc9 z.cells) (aK P e)
 | none=>false
def AV.len:AV->Option Nat
 | .au=>some 0
 | .slice _ _ n _=>some n
 | .aF _ _ _ _ n _=>some n
 | _=>none
def AV.sy (sz:Nat):AV->Option (Nat×Nat×Nat×Prop)
 | .aL b off len _=>some (b,off,len,True)
 | .ae b z k _ len iM=>match Nat.beq z sz with
  | true=>some (b,k*z,len,k+len<=iM)
  | false=>none
 | _=>none
def CM {α:Type} (s:St) (b off n:Nat) (k:List AV->St->eO α):eO α:=
 nE s b λx s=>match x with
  | .row _ l _ _=>k ((l.drop off).take n) (ask s (off+n<=l.length))
  | .map _ _=> .fail []
def sn (P:Program) (at1 TN:TypeId) (x y:AV) (s:St):eO AV:=
 match qW P at1 with
 | none=> .fail []
 | some e=>
  match Nat.beq at1 TN,Nat.ble 1 (aK P e),AW P e,y.len with
  | true,true,true,some 0=>
   match x with
   | .au=> .ok .au s
   | .slice b off len cap=>match Nat.ble len cap with
    | true=> .ok (.slice b off len cap) s
    | false=> .fail []
   | .aF b z k j len iM=>match Nat.ble (k+len) iM with
    | true=> .ok (.aF b z k j len iM) s
    | false=> .fail []
   | _=> .fail []
  | true,true,true,some (m+1)=>
   match x with
   | .au=>l7 s (aK P e) y (m+1) λaN s=>match roomy P e (m+1),iP aN with
    | true,true=>iu s (.row false aN e (some (aK P e))) λb=> .aF b (aK P e) 0 0 (m+1) (m+1)
    | _,_=> .fail []
   | .slice b off len cap=>match Nat.ble (len+(m+1)) cap with
    | true=> .fail []
    | false=>l7 s (aK P e) (.slice b off len cap) len λold s=>l7 s (aK P e) y (m+1) λaN s=>match roomy P e (len+(m+1)),iP aN with
     | true,true=>iu s (.row false (old++aN) e (some (aK P e))) λb=> .aF b (aK P e) 0 0 (len+(m+1)) (len+(m+1))
     | _,_=> .fail []
   | .aF b z 0 0 len iM=>match Nat.beq z (aK P e),Nat.beq len iM with
    | true,true=>l7 s (aK P e) y (m+1) λaN s=>nE s b λo s=>match o with
     | .row false old t (some z')=>match Nat.beq t e,Nat.beq z' (aK P e),Nat.beq (Jc9 old) (len*aK P e),roomy P e (len+(m+1)),iP aN with
      | true,true,true,true,true=>match s with
       | ⟨h,n,r,w,p,oo⟩=>ee (mark w b) λw=>
        iu ⟨Tr.put deep h b none,n,r,w,p,oo⟩ (.row false (old++aN) e (some (aK P e))) λb'=> .aF b' (aK P e) 0 0 (len+(m+1)) (len+(m+1))
      | _,_,_,_,_=> .fail []
     | _=> .fail []
    | _,_=> .fail []
   | .ae b z 0 0 len iM=>match Nat.beq z (aK P e) with
    | true=>l7 s (aK P e) y (m+1) λaN s=>nE s b λo s=>match o with
     | .row _ old t (some z')=>match Nat.beq t e,Nat.beq z' (aK P e),iP aN with
      | true,true,true=>match ask s (len=iM∧old.length=len*aK P e∧(len+(m+1))*P.bytesOf e<=room∧len+(m+1)<=maxLen) with
       | ⟨h,n,r,w,p,oo⟩=>ee (mark w b) λw=>
        iu ⟨Tr.put deep h b none,n,r,w,p,oo⟩ (.row true (old++aN) e (some (aK P e))) λb'=> .ae b' (aK P e) 0 0 (len+(m+1)) (len+(m+1))
      | _,_,_=> .fail []
     | _=> .fail []
    | false=> .fail []
   | _=> .fail []
  | true,true,true,none=>match x,y.sy (aK P e) with
   | .slice b off 0 0,some (b',lb,len,q)=>match ask s q with
    | ⟨h,n,r,w,p,.br true::oo⟩=> .ok (.slice b off 0 0) ⟨h,n,r,w,p∧len=0,oo⟩
    | ⟨h,n,r,w,p,.br false::oo⟩=>CM ⟨h,n,r,w,p∧0<len∧len*P.bytesOf e<=room∧len<=maxLen,oo⟩ b' lb (len*aK P e) λaN s=>
     iu s (.row true aN e (some (aK P e))) λb=> .ae b (aK P e) 0 0 len len
    | _=> .fail []
   | _,_=> .fail []
  | _,_,_,_=> .fail []
def qX:Bool->IntKind->Int->List AV->Option AV
 | yA,k,a,[]=>some (mkI yA k a)
 | yA,k,a,y::l=>match y.num with
  | some (sy,_,b)=>qX (yA||sy) k (if b>a then b else a) l
  | none=>none
def pR (P:Program) (b:Builtin) (argTypes:List TypeId) (args:List AV) (s:St):eO AV:=
 match b,argTypes,args with
 | .len,[t],[x]=>match P.underlying t,x with
  | some (.array n _),_=> .ok (.int .i64 n) s
  | some (.slice _),.au=> .ok (.int .i64 0) s
  | some (.slice _),.slice _ _ n _=> .ok (.int .i64 n) s
  | some (.slice _),.aF _ _ _ _ n _=> .ok (.int .i64 n) s
  | some (.slice _),.aL _ _ n _=> .ok (.aa .i64 n) s
  | some (.slice _),.ae _ _ _ _ n _=> .ok (.aa .i64 n) s
  | _,_=> .fail []
 | .append,[t,u],[x,y]=>sn P t u x y s
 | .max,_,x::l=>match x.num with
  | some (sy,k,a)=>match qX sy k a l with
   | some v=> .ok v s
   | none=> .fail []
  | none=> .fail []
 | .copy,[t,u],[.slice b off len cap,y]=>match qW P t,Nat.beq t u,y.len with
  | some e,true,some m=>match Nat.beq (aK P e) 1 with
   | true=>match Nat.min m len with
    | 0=> .ok (.int .i64 0) s
    | n+1=>l7 s (aK P e) y (n+1) λvs s=>match vs with
     | []=> .fail []
     | v::vs=>vH s b off (v::vs) (.int .i64 (n+1:Nat))
   | false=> .fail []
  | _,_,_=> .fail []
 | .copy,[t,u],[.aL b off len cap,y]=>match qW P t,Nat.beq t u with
  | some e,true=>match Nat.beq (aK P e) 1,y with
   | true,.au=> .ok (.int .i64 0) s
   | true,y=>match y.sy 1 with
    | some (b',lb,m,q)=>CM (ask s (q∧m<=len)) b' lb m λvs s=>nE s b λo s=>match o with
     | .row _ l t qq=>match TJ qq with
      | true=>sg (ask s (off+vs.length<=l.length∧ ∀ v∈vs,v.flat=true)) b (.row true (l.take off++vs++l.drop (off+vs.length)) t qq) (.aa .i64 (m:Nat))
      | false=> .fail []
     | .map _ _=> .fail []
    | none=> .fail []
   | _,_=> .fail []
  | _,_=> .fail []
 | _,_,_=> .fail []
def TX:Option AV->Option (Option Nat)
 | none=>some none
 | some (.int _ (.ofNat n))=>some (some n)
 | _=>none
def TY (sz:Nat) (x:AV) (l h m:Option Nat):Option AV:=
 match x with
 | .slice b off len cap=>match h,m with
  | none,some _=>none
  | _,_=>match Nat.ble (m.getD cap) cap,Nat.ble (h.getD len) (m.getD cap),Nat.ble (l.getD 0) (h.getD len) with
   | true,true,true=>some (.slice b (match Nat.beq (m.getD cap) (l.getD 0) with | true=>off | false=>off+l.getD 0*sz) (h.getD len-l.getD 0) (m.getD cap-l.getD 0))
   | _,_,_=>none
 | .aF b z k j len iM=>match Nat.beq z sz,Nat.ble (k+len) iM with
  | true,true=>match h,m with
   | none,none=>match Nat.ble 1 (l.getD 0),Nat.ble (l.getD 0) len with
    | true,true=>some (.aF b z (k+l.getD 0) k (len-l.getD 0) iM)
    | _,_=>none
   | some h,none=>match Nat.beq (l.getD 0) 0,Nat.beq k 0,Nat.beq j 0,Nat.ble h len with
    | true,true,true,true=>some (.aF b z 0 0 h iM)
    | _,_,_,_=>none
   | some h,some m=>match Nat.beq (l.getD 0) 0,Nat.beq k 0,Nat.beq j 0,Nat.ble h m,Nat.ble m len with
    | true,true,true,true,true=>some (.slice b 0 h m)
    | _,_,_,_,_=>none
   | _,_=>none
  | _,_=>none
 | .au=>match l,h,m with
  | none,none,none=>some .au
  | _,_,_=>none
 | _=>none
def TZ (sz:Nat) (x:AV) (l h m:Option Nat):Option (AV×Prop):=
 match x with
 | .aL b off _ _=>match Nat.beq (l.getD 0) 0,h,m with
  | true,some 0,some 0=>some (.slice b off 0 0,True)
  | _,_,_=>none
 | .ae b z k j len iM=>match h,m with
  | some 0,some 0=>match Nat.beq (l.getD 0) 0,Nat.beq k 0,Nat.beq j 0 with
   | true,true,true=>some (.slice b 0 0 0,True)
   | _,_,_=>none
  | none,none=>match Nat.beq z sz with
   | true=>some (.ae b z (k+l.getD 0) k (len-l.getD 0) iM,1<=l.getD 0∧l.getD 0<=len∧k+len<=iM)
   | false=>none
  | _,_=>none
 | _=>none
def CN (P:Program) (t:TypeId) (x:AV) (lo hi mx:Option AV) (s:St):eO AV:=
 match qW P t,TX lo,TX hi,TX mx with
 | some e,some l,some h,some m=>match Nat.ble 1 (aK P e) with
  | true=>match TY (aK P e) x l h m with
   | some v=> .ok v s
   | none=>match TZ (aK P e) x l h m with
    | some (v,q)=> .ok v (ask s q)
    | none=> .fail []
  | false=> .fail []
 | _,_,_,_=> .fail []
def idx (yA:Bool) (i:Int) (len:Nat) (s:St) (k:Nat->St->eO AV):eO AV:=
 match yA with
 | true=>k i.toNat (ask s (0<=i∧i<len))
 | false=>match i with
  | .ofNat n=>match Nat.ble (n+1) len with
   | true=>k n s
   | false=> .fail []
  | _=> .fail []
def xN (want:Array (String×TypeId)) (Ma:Array Method):Bool:=want.toList.any λ(name,sig)=> !Ma.any λm=>m.name==name&&m.sig==sig
def dQ (P:Program) (env:Env) (o:Op) (s:St):eO AV:=
 match o with
 | .move x | .assign x=>match dM env x with
  | some v=> .ok v s
  | none=> .fail []
 | .pick c a b=>match dM env c with
  | some (.bool true)=>(match dM env a with | some v=> .ok v s | none=> .fail [])
  | some (.bool false)=>(match dM env b with | some v=> .ok v s | none=> .fail [])
  | some (.eS q)=>match s with
   | ⟨h,n,r,w,p,.br true::o⟩=>(match dM env a with | some v=> .ok v ⟨h,n,r,w,p∧q=true,o⟩ | none=> .fail [])
   | ⟨h,n,r,w,p,.br false::o⟩=>(match dM env b with | some v=> .ok v ⟨h,n,r,w,p∧q=false,o⟩ | none=> .fail [])
   | _=> .fail []
  | _=> .fail []
 | .alloc e=>match l6 P e with
  | some z=>iu s (.row false z.cells e none) λb=> .ptr b 0
  | none=> .fail []
 | .box e x=>match dM env x with
  | some v=>iu s (.row false v.cells e none) λb=> .ptr b 0
  | none=> .fail []
 | .build t parts=>match l6 P t,jD env parts.toList with
  | some z,some ps=>match P.underlying t with
   | some (.struct fs)=>match fs.toList.all (λf=>(P.info? f.type).isSome),nF (λi=>match fs[i]? with | some f=>some (f.offset,aK P f.type) | none=>none) z.cells ps with
    | true,some c=> .ok (.agg c) s
    | _,_=> .fail []
   | some (.array _ e)=>match Nat.ble 1 (aK P e),nF (λi=>some (i*aK P e,aK P e)) z.cells ps with
    | true,some c=> .ok (.agg c) s
    | _,_=> .fail []
   | _=> .fail []
  | _,_=> .fail []
 | .buildSlice t len parts=>match qW P t,jD env parts.toList with
  | some e,some ps=>match l6 P e with
   | some z=>match Nat.ble 1 (aK P e),Nat.beq (Jc9 z.cells) (aK P e),Nat.ble (len*aK P e) 16777216 with
    | true,true,true=>match nF (λi=>some (i*aK P e,aK P e)) (nQ z.cells len) ps with
     | some c=>iu s (.row false c e none) λb=> .slice b 0 len len
     | none=> .fail []
    | _,_,_=> .fail []
   | none=> .fail []
  | _,_=> .fail []
 | .load t x=>match dM env x with
  | some (.ptr b off)=>loadT P t s b off λv s=> .ok v s
  | _=> .fail []
 | .store t x y=>match dM env x,dM env y with
  | some (.ptr b off),some v=>match Nat.beq (Jc9 v.cells) (aK P t),Nat.ble 1 (aK P t) with
   | true,true=>vH s b off v.cells (.eT [])
   | _,_=> .fail []
  | _,_=> .fail []
 | .nilCheck x=>match dM env x with
  | some (.ptr b o)=> .ok (.ptr b o) s
  | some (.iface t v)=> .ok (.iface t v) s
  | some (.func f a b)=> .ok (.func f a b) s
  | _=> .fail []
 | .binOp op t x y _=>match dM env x,dM env y with
  | some a,some b=>Pl P op t (xM x) (xM y) a b s
  | _,_=> .fail []
 | .unOp op _ x=>match op,dM env x with
  | .not,some (.bool b)=> .ok (.bool !b) s
  | .not,some (.eS b)=> .ok (.eS !b) s
  | _,_=> .fail []
 | .convert src dst x=>match Eg P src,Eg P dst,dM env x with
  | some _,some k,some (.int _ n)=> .ok (.int k (k.wrap n)) s
  | some _,some k,some (.aa _ n)=> .ok (.aa k (k.wrap n)) s
  | _,_,_=> .fail []
 | .makeInterface t x=>match P.underlying t,dM env x with
  | some (.interface _),_=> .fail []
  | some _,some v=> .ok (.iface t v) s
  | _,_=> .fail []
 | .makeFunc fn first captured=>match fn,nm env first.toList,nm env captured.toList with
  | .func f,some a,some b=> .ok (.func f a b) s
  | _,_,_=> .fail []
 | .makeMap _ none=>iu s (.map false []) λb=> .ed b
 | .makeSlice t l c=>match qW P t,dM env l,dM env c with
  | some e,some (.int _ (.ofNat len)),some (.int _ (.ofNat cap))=>match l6 P e with
   | some z=>match Nat.ble len cap,Nat.beq (aK P e) 1,Nat.beq (Jc9 z.cells) 1,Nat.ble (cap*P.bytesOf e) room,Nat.ble cap maxLen with
    | true,true,true,true,true=>iu s (.row false (nQ z.cells cap) e none) λb=> .slice b 0 len cap
    | _,_,_,_,_=> .fail []
   | none=> .fail []
  | some e,some (.aa k len),some (.aa _ cap)=>match l6 P e with
   | some z=>match Nat.beq (aK P e) 1,z.cells with
    | true,[u]=>iu (ask s (0<=len∧cap=len∧len.toNat*P.bytesOf e<=room∧len.toNat<=maxLen)) (.row true (List.replicate len.toNat u) e none) λb=> .aL b 0 len.toNat len.toNat
    | _,_=> .fail []
   | none=> .fail []
  | _,_,_=> .fail []
 | .slice t x lo hi mx=>
  match dM env x,
   (match lo with | none=>some none | some y=>(match dM env y with | some v=>some (some v) | none=>none)),
   (match hi with | none=>some none | some y=>(match dM env y with | some v=>some (some v) | none=>none)),
   (match mx with | none=>some none | some y=>(match dM env y with | some v=>some (some v) | none=>none)) with
  | some v,some l,some h,some m=>CN P t v l h m s
  | _,_,_,_=> .fail []
 | .fieldAddr t x f=>match dM env x,vF P t f with
  | some (.ptr b off),some fd=>match Nat.beq (aK P fd.type) 0 with
   | false=>ee fd.offset λo=> .ok (.ptr b (off+o)) s
   | true=> .fail []
  | _,_=> .fail []
 | .field t x f=>match dM env x,vF P t f with
  | some (.agg cs),some fd=>match si P fd.type with
   | none=> .fail []
   | some true=>(match pQ cs fd.offset (aK P fd.type) with | some l=> .ok (.agg l) s | none=> .fail [])
   | some false=>(match vG cs fd.offset with | some v=> .ok v s | none=> .fail [])
  | _,_=> .fail []
 | .indexAddr t x i=>match dM env x,dM env i with
  | some v,some j=>match j.num with
   | some (sy,_,n)=>match P.underlying t,v with
    | some (.array len e),.ptr b off=>match Nat.ble 1 (aK P e) with
     | true=>ee (aK P e) λz=>idx sy n len s λn s=> .ok (.ptr b (off+n*z)) s
     | false=> .fail []
    | some (.slice e),.slice b off len _=>match Nat.ble 1 (aK P e) with
     | true=>ee (aK P e) λz=>idx sy n len s λn s=> .ok (.ptr b (off+n*z)) s
     | false=> .fail []
    | some (.slice e),.aF b z k _ len iM=>match Nat.ble 1 (aK P e),Nat.beq z (aK P e),Nat.ble (k+len) iM with
     | true,true,true=>idx sy n len s λn s=> .ok (.ptr b ((k+n)*z)) s
     | _,_,_=> .fail []
    | some (.slice e),.aL b off len _=>match Nat.ble 1 (aK P e) with
     | true=>ee (aK P e) λz=>idx true n len s λn s=> .ok (.ptr b (off+n*z)) s
     | false=> .fail []
    | some (.slice e),.ae b z k _ len iM=>match Nat.ble 1 (aK P e),Nat.beq z (aK P e) with
     | true,true=>idx true n len (ask s (k+len<=iM)) λn s=> .ok (.ptr b ((k+n)*z)) s
     | _,_=> .fail []
    | _,_=> .fail []
   | none=> .fail []
  | _,_=> .fail []
 | .index t x i=>match dM env x,dM env i,P.underlying t with
  | some (.agg cs),some (.int _ (.ofNat n)),some (.array len e)=>match Nat.ble (n+1) len with
   | true=>match si P e with
    | none=> .fail []
    | some true=>(match pQ cs (n*aK P e) (aK P e) with | some l=> .ok (.agg l) s | none=> .fail [])
    | some false=>(match vG cs (n*aK P e) with | some v=> .ok v s | none=> .fail [])
   | false=> .fail []
  | _,_,_=> .fail []
 | .lookup t x i ok=>match P.underlying t,dM env x,dM env i with
  | some (.map kt e),some (.ed b),some kv=>match Eg P kt,l6 P e,kv.num with
   | some .i64,some z,some (sk,.i64,k)=>nE s b λo s=>match o with
    | .map false l=>match sk with
     | true=> .fail []
     | false=>match cR k l with
      | some v=> .ok (match ok with | true=> .eT [v,.bool true] | false=>v) s
      | none=> .ok (match ok with | true=> .eT [z,.bool false] | false=>z) s
    | .map true l=>match s with
     | ⟨h,n,r,w,p,.val [v]::o⟩=> .ok (match ok with | true=> .eT [v,.bool true] | false=>v) ⟨h,n,r,w,p∧cR k l=some v,o⟩
     | ⟨h,n,r,w,p,.val []::o⟩=> .ok (match ok with | true=> .eT [z,.bool false] | false=>z) ⟨h,n,r,w,p∧cR k l=none,o⟩
     | _=> .fail []
    | _=> .fail []
   | _,_,_=> .fail []
  | _,_,_=> .fail []
 | .mapUpdate t x i y=>match P.underlying t,dM env x,dM env i,dM env y with
  | some (.map kt _),some (.ed b),some kv,some v=>match Eg P kt,kv.num with
   | some .i64,some (sk,.i64,k)=>nE s b λo s=>match o with
    | .map sy l=>sg s b (.map (sy||sk) (eh k v l)) (.eT [])
    | _=> .fail []
   | _,_=> .fail []
  | _,_,_,_=> .fail []
 | .typeAssert x _ t true=>match dM env x,P.underlying t with
  | some (.iface d v),some (.interface want)=>match P.info? d with
   | some i=>match xN want i.methods with
    | false=> .ok (.eT [.iface d v,.bool true]) s
    | true=>match l6 P t with
     | some z=> .ok (.eT [z,.bool false]) s
     | none=> .fail []
   | none=> .fail []
  | _,_=> .fail []
 | .extract x i=>match dM env x with
  | some (.eT l)=>(match vG l i with | some v=> .ok v s | none=> .fail [])
  | _=> .fail []
 | _=> .fail []
def sq (P:Program) (call:FuncId->List AV->St->eO AV) (env:Env) (c:Call) (s:St):eO AV:=
 match nm env c.args.toList with
 | none=> .fail []
 | some args=>
  match c.callee with
  | .builtin b=>pR P b c.argTypes.toList args s
  | .value f=>match dM env f with
   | some (.func g first captured)=>call g (first++(args++captured)) s
   | _=> .fail []
  | .invoke r name=>match dM env r with
   | some (.iface t v)=>match Gk P t name with
    | some g=>call g (v::args) s
    | none=> .fail []
   | _=> .fail []
def uG (P:Program) (call:FuncId->List AV->St->eO AV) (env:Env) (o:Op) (s:St):eO AV:=
 match o with
 | .call c=>sq P call env c s
 | o=>dQ P env o s
def jE (nt:Nat) (dst:Option Tmp) (v:AV) (env:Env):Option Env:=
 match dst with
 | none=>some env
 | some d=>match Nat.blt d nt with
  | true=>some ((d,v)::env)
  | false=>none
def nR (P:Program) (call:FuncId->List AV->St->eO AV) (ops:Array Oper) (o:Oper) (env:Env) (s:St):eO AV:=
 match o.guard with
 | none=>uG P call env o.op s
 | some (g,want)=>
  match (match ops[g]? with | some og=>og.dst | none=>none) with
  | none=> .fail []
  | some t=>match env.look t with
   | some (.eS q)=>match s with
    | ⟨h,n,r,w,p,.br b::oo⟩=>match (b==want) with
     | true=>uG P call env o.op ⟨h,n,r,w,p∧q=b,oo⟩
     | false=> .ok (.eT []) ⟨h,n,r,w,p∧q=b,oo⟩
    | _=> .fail []
   | some (.bool b)=>match (b==want) with
    | true=>uG P call env o.op s
    | false=> .ok (.eT []) s
   | some (.eT [])=> .ok (.eT []) s
   | _=> .fail []
def dI (P:Program) (call:FuncId->List AV->St->eO AV) (nt:Nat) (ops:Array Oper):List Oper->Env->St->eO Env
 | [],env,s=> .ok env s
 | o::l,env,s=>match nR P call ops o env s with
  | .ok v s=>match jE nt o.dst v env with
   | some env=>dI P call nt ops l env s
   | none=> .fail []
  | .fail y=> .fail (l.length::y)
def gO (WQ:List Edge) (tab:List Nat):Nat:=
 match WQ with
 | []=>0
 | e::l=>match Region.binds .any e with
  | true=>Nat.lor (mark ((tab[e.on]?).getD 0) e.on) (gO l tab)
  | false=>gO l tab
def fq:List Oper->List Nat->List Nat
 | [],tab=>tab
 | o::l,tab=>fq l (tab++[gO o.after.toList tab])
def ay (ops : Array Oper) (o : Oper) : List Tmp :=
  (o.op.operands.toList.filterMap fun | .tmp t => some t | _ => none) ++
  (match o.guard with
   | some (g, _) => (match ops[g]? with | some og => (match og.dst with | some t => [t] | none => []) | none => [])
   | none => [])
def AX (ops : Array Oper) (ti tj i j : Nat) (oi oj : Oper) : Bool :=
  Nat.testBit tj i ||
  ((match oi.dst with
    | some d => !(ay ops oj).contains d && oj.dst != some d
    | none => true) &&
   (match oj.dst with
    | some d => !(ay ops oi).contains d
    | none => true))
def xO (ops:Array Oper) (tab:List Nat) (j:Nat) (oj:Oper):List Oper->Nat->Bool
 | [],_=>true
 | oi::l,i=>match Nat.blt i j with
  | true=>AX ops 0 ((tab[j]?).getD 0) i j oi oj&&xO ops tab j oj l (i+1)
  | false=>true
def rQ (ops:Array Oper) (tab:List Nat):List Oper->Nat->Bool
 | [],_=>true
 | o::l,j=>o.after.toList.all (λe=> !Region.binds .any e||Nat.blt e.on j)&&xO ops tab j o ops.toList 0&&rQ ops tab l (j+1)
def AY (ops:Array Oper):Bool:=rQ ops (fq ops.toList []) ops.toList 0
def clear (tj rd wr:Nat):List (Nat×Nat×Nat)->Bool
 | []=>true
 | (i,r,w)::l=>
  match Nat.testBit tj i with
  | true=>clear tj rd wr l
  | false=>match Nat.beq (Nat.land w rd) 0,Nat.beq (Nat.land r wr) 0 with
   | true,true=>clear tj rd wr l
   | _,_=>false
def sr (P:Program) (call:FuncId->List AV->St->eO AV) (nt:Nat) (ops:Array Oper) (tab:List Nat):List Oper->Nat->Env->List (Nat×Nat×Nat)->Nat->Nat->St->eO Env
 | [],_,env,_,ar,aw,s=>match s with
  | ⟨h,n,_,_,p,oo⟩=> .ok env ⟨h,n,ar,aw,p,oo⟩
 | o::l,j,env,rJ,ar,aw,s=>
  match s with
  | ⟨h,n,_,_,p,oo⟩=>
   match nR P call ops o env ⟨h,n,0,0,p,oo⟩ with
   | .fail y=> .fail (l.length::y)
   | .ok v ⟨h,n,r,w,p,oo⟩=>
    match (match Nat.beq (Nat.land w ar) 0,Nat.beq (Nat.land r aw) 0 with
     | true,true=>true
     | _,_=>clear ((tab[j]?).getD 0) r w rJ) with
    | false=> .fail (1000::l.length::[])
    | true=>match jE nt o.dst v env with
     | none=> .fail []
     | some env=>ee (Nat.lor ar r) λar=>ee (Nat.lor aw w) λaw=>sr P call nt ops tab l (j+1) env ((j,r,w)::rJ) ar aw ⟨h,n,r,w,p,oo⟩
def oH (P:Program) (call:FuncId->List AV->St->eO AV) (nt:Nat) (ops:Array Oper) (draw:Bool) (env:Env) (s:St):eO Env:=
 match draw with
 | false=>dI P call nt ops ops.toList env s
 | true=>match AY ops with
  | false=> .fail []
  | true=>match s with
   | ⟨h,n,r,w,p,oo⟩=>
    match sr P call nt ops (fq ops.toList []) ops.toList 0 env [] 0 0 ⟨h,n,0,0,p,oo⟩ with
    | .fail y=> .fail y
    | .ok env ⟨h,n,r',w',p,oo⟩=>ee (Nat.lor r r') λr=>ee (Nat.lor w w') λw=> .ok env ⟨h,n,r,w,p,oo⟩
inductive Ex where
 | normal
 | ret
 | exit (id:Nat)
def aP (P:Program) (call:FuncId->List AV->St->eO AV) (nt:Nat):Nat->Code->Env->St->eO (Ex×Env)
 | 0,_,_,_=> .fail []
 | f+1,c,env,s=>
  match c with
  | .skip=> .ok (.normal,env) s
  | .region id ops draw=>match oH P call nt ops draw env s with
   | .ok env s=> .ok (.normal,env) s
   | .fail y=> .fail (id::y)
  | .seq a b=>match aP P call nt f a env s with
   | .ok (.normal,env) s=>aP P call nt f b env s
   | r=>r
  | .cond x a b=>match dM env x with
   | some (.bool true)=>aP P call nt f a env s
   | some (.bool false)=>aP P call nt f b env s
   | some (.eS q)=>match s with
    | ⟨h,n,r,w,p,.br true::o⟩=>aP P call nt f a env ⟨h,n,r,w,p∧q=true,o⟩
    | ⟨h,n,r,w,p,.br false::o⟩=>aP P call nt f b env ⟨h,n,r,w,p∧q=false,o⟩
    | _=> .fail []
   | _=> .fail []
  | .block id a=>match aP P call nt f a env s with
   | .ok (.exit i,env) s=>match Nat.beq i id with
    | true=> .ok (.normal,env) s
    | false=> .ok (.exit i,env) s
   | r=>r
  | .loop a=>match aP P call nt f a env s with
   | .ok (.normal,env) s=>aP P call nt f (.loop a) env s
   | r=>r
  | .exit id=> .ok (.exit id,env) s
  | .ret=> .ok (.ret,env) s
  | _=> .fail []
def dW (P:Program) (env:Env):List ResultVar->St->eO (List AV)
 | [],s=> .ok [] s
 | .tmp t::l,s=>match env.look t with
  | none=> .fail []
  | some v=>match dW P env l s with
   | .ok r s=> .ok (v::r) s
   | .fail y=> .fail y
 | .cell a t::l,s=>match env.look a with
  | some (.ptr b off)=>loadT P t s b off λv s=>match dW P env l s with
   | .ok r s=> .ok (v::r) s
   | .fail y=> .fail y
  | _=> .fail []
def eG:List AV->Nat->Env
 | [],_=>[]
 | v::l,i=>(i,v)::eG l (i+1)
abbrev kP:=FuncId->Option (List AV->St->eO AV)
def aW (P:Program) (sm:kP):Nat->FuncId->List AV->St->eO AV
 | 0,_,_,_=> .fail []
 | d+1,f,args,s=>
  match sm f with
  | some g=>g args s
  | none=>match P.funcs[f]? with
   | none=> .fail []
   | some fn=>match fn.body with
    | none=> .fail []
    | some c=>match Nat.ble (Jc9 args) fn.ntmps with
     | false=> .fail []
     | true=>match aP P (aW P sm d) fn.ntmps 100000 c (eG args 0) s with
      | .fail y=> .fail (f::y)
      | .ok (x,env) s=>match x with
       | .exit _=> .fail []
       | _=>match dW P env fn.results.toList s with
        | .fail y=> .fail y
        | .ok [v] s=> .ok v s
        | .ok vs s=> .ok (.eT vs) s
def bT:kP:=λ_=>none
def W8:St:=⟨.nil,0,0,0,True,[]⟩
end Ev
end Go.Proofs.YtpkfimijnkkbjaaGreat
namespace Go.Proofs.YtpkfimijnkkbjaaGreat
open Go
def xP (w:World) (b:Nat) (l:List (Int×Value)):Prop:=
 ∃ (es:Array MapEntry) (clock:Nat),w.heap[b]?=some (.map es clock)∧es.toList.map (λe=>(e.key,e.val))=l.map λp=>(Value.int .i64 p.1,p.2)
def lR (k:Int):List (Int×Value)->Nat->Option (Nat×Value)
 | [],_=>none
 | p::l,i=>if k=p.1 then some (i,p.2) else lR k l (i+1)
theorem l8 (k:Int): ∀ (es:List MapEntry) (l:List (Int×Value)) (i:Nat),es.map (λe=>(e.key,e.val))=l.map (λp=>(Value.int .i64 p.1,p.2))->Instr.findNow (.int .i64) (.int .i64 k) es i=some (lR k l i)
 | [],[],i,_=>rfl
 | [],_::_,_,h=>by cases h
 | _::_,[],_,h=>by cases h
 | e::es,p::l,i,h=>by
  simp only [List.map_cons,List.cons.injEq,Prod.mk.injEq] at h
  obtain ⟨⟨h1,h2⟩,h3⟩:=h
  have ih:=l8 k es l (i+1) h3
  unfold Instr.findNow lR
  rw [h1]
  simp only [Instr.sameNow,if_true]
  by_cases hk:k=p.1
  ·subst hk;simp [h2]
  ·have:(k==p.1)=false:=beq_eq_false_iff_ne.2 hk
   rw [this,if_neg hk];exact ih
def vI (k:Int) (v:Value):List (Int×Value)->List (Int×Value)
 | []=>[(k,v)]
 | p::l=>if k=p.1 then (k,v)::l else p::vI k v l
theorem uH (k:Int) (v:Value): ∀ (l:List (Int×Value)) (i:Nat),lR k l i=none->vI k v l=l++[(k,v)]
 | [],_,_=>rfl
 | p::l,i,h=>by
  unfold lR at h
  by_cases hk:k=p.1
  ·rw [if_pos hk] at h;cases h
  ·rw [if_neg hk] at h
   unfold vI
   rw [if_neg hk,uH k v l (i+1) h];rfl
theorem uI (k:Int) (v:Value): ∀ (l:List (Int×Value)) (i j:Nat) (u:Value),lR k l i=some (j,u)->i<=j∧vI k v l=l.set (j-i) (k,v)
 | [],_,_,_,h=>by cases h
 | p::l,i,j,u,h=>by
  unfold lR at h
  by_cases hk:k=p.1
  ·rw [if_pos hk] at h
   simp only [Option.some.injEq,Prod.mk.injEq] at h
   obtain ⟨rfl,-⟩:=h
   unfold vI
   rw [if_pos hk];simp
  ·rw [if_neg hk] at h
   obtain ⟨h1,h2⟩:=uI k v l (i+1) j u h
   refine ⟨by omega,?_⟩
   unfold vI
   rw [if_neg hk,h2,show j-i=(j-(i+1))+1 by omega];rfl
theorem CO (k:Int): ∀ (l:List (Int×Value)) (i j:Nat) (u:Value),lR k l i=some (j,u)->i<=j∧l[j-i]?=some (k,u)
 | [],_,_,_,h=>by cases h
 | p::l,i,j,u,h=>by
  unfold lR at h
  by_cases hk:k=p.1
  ·rw [if_pos hk] at h
   simp only [Option.some.injEq,Prod.mk.injEq] at h
   obtain ⟨rfl,h2⟩:=h
   exact ⟨Nat.le_refl _,by rw [Nat.sub_self,hk,<- h2];rfl⟩
  ·rw [if_neg hk] at h
   obtain ⟨h1,h2⟩:=CO k l (i+1) j u h
   exact ⟨by omega,by rw [show j-i=(j-(i+1))+1 by omega];exact h2⟩
theorem Ei {P:Program} (a b:Int) (h:a=b) (w:World):(Instr.keyThatStays (.int .i64 a) (.int .i64 b)).run P w= .ok (.int .i64 b) w:=by
 subst h
 unfold Instr.keyThatStays
 simp [Instr.sameBits]
theorem ss {P:Program} {T E kt:TypeId} (hT:P.underlying T=some (.map kt E)) (hk:P.underlying kt=some (.int .i64)) (w:World) (b:Nat) (l:List (Int×Value)) (h:xP w b l) (k:Int) (v:Value):
  ∃ w',(Instr.mapUpdate T (.map (some b)) (.int .i64 k) v).run P w= .ok () w'∧xP w' b (vI k v l)∧w.grownBy w' (some b):=by
 obtain ⟨es,clock,hb,he⟩:=h
 have hf:=l8 k es.toList l 0 he
 have h1:=MapKept.run_checkKey (P:=P) (w:=w) (kt:=kt) (k:= .int .i64 k) hk (by simp [MapKept.IsKey]) false 9999
 have h2:=MapKept.run_findKey (P:=P) (w:=w) hk hf
 have P0: ∀ o:Obj,w.grownBy { w with heap:=w.heap.setIfInBounds b o } (some b):=λo=>
  ⟨rfl,rfl,rfl,by simp,λi _ hi=>(MapKept.heap_set (o':=o) hb).2 i (λe=>hi (by rw [e]))⟩
 cases hg:lR k l 0 with
 | none=>
  rw [hg] at h2
  refine ⟨_,by simp [Instr.mapUpdate,run_underlying hT,MapKept.run_getObj_map hb,h1,h2,MapKept.run_setObj_map _ hb,Result.andThen];rfl,?_,P0 _⟩
  refine ⟨_,_,(MapKept.heap_set hb).1,?_⟩
  rw [uH k v l 0 hg]
  simp [he]
 | some p=>
  obtain ⟨j,u⟩:=p
  rw [hg] at h2
  obtain ⟨-,hp⟩:=uI k v l 0 j u hg
  have bf:=(CO k l 0 j u hg).2
  rw [Nat.sub_zero] at bf hp
  have h3:=congrArg (λx=>x[j]?) he
  simp only [List.getElem?_map,bf,Option.map_some] at h3
  obtain ⟨e0,he0,hkv⟩:=Option.map_eq_some_iff.1 h3
  simp only [Prod.mk.injEq] at hkv
  have Wy:es[j]?=some e0:=by simpa using he0
  have eF:=Ei (P:=P) k k rfl w
  refine ⟨_,by simp [Instr.mapUpdate,run_underlying hT,MapKept.run_getObj_map hb,h1,h2,Wy,hkv.1,eF,MapKept.run_setObj_map _ hb,Result.andThen];rfl,?_,P0 _⟩
  refine ⟨_,_,(MapKept.heap_set hb).1,?_⟩
  rw [hp]
  apply List.ext_getElem?
  intro i
  have h4:=congrArg (λx=>x[i]?) he
  simp only [List.getElem?_map] at h4
  rw [Array.toList_modify,List.getElem?_map,List.getElem?_modify,List.getElem?_map,List.getElem?_set]
  by_cases S6:j=i
  ·subst S6
   have dA:j<l.length:=(List.getElem?_eq_some_iff.1 bf).1
   simp [he0,dA]
  ·rw [if_neg S6]
   simp only [S6,if_false]
   simpa using h4
end Go.Proofs.YtpkfimijnkkbjaaGreat
