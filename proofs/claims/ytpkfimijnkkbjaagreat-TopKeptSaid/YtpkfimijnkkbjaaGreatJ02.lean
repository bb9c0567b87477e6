/- What the reckoner's heap says of a memory, and how that goes on step by step. -/
import Derived.Test.YtpkfimijnkkbjaaGreatJ01
import Derived.Laws.CopyRow
import Derived.Laws.Tables
import Derived.Laws.Cells
import Derived.Laws.Entries
import Derived.Laws.IdiomElems
set_option linter.unusedVariables false
namespace Go.Proofs.YtpkfimijnkkbjaaGreat
namespace Ev
structure np where
 dp:Nat
 fr:Nat
abbrev bo:=Nat->np
mutual
def Jb1 (φ:bo):AV->Value
 | .int k n=> .int k n
 | .aa k n=> .int k n
 | .bool b=> .bool b
 | .eS b=> .bool b
 | .ptr b off=> .pointer (some ⟨(φ b).dp,off,none⟩)
 | .oG=> .pointer none
 | .slice b off len cap=> .slice (some ⟨(φ b).dp,off,none⟩) len cap
 | .aF b sz k j len iM=> .slice (some ⟨(φ b).dp,if (φ b).fr=0∧k=iM then j*sz else k*sz,none⟩) len (iM-k+(φ b).fr)
 | .aL b off len cap=> .slice (some ⟨(φ b).dp,off,none⟩) len cap
 | .ae b sz k j len iM=> .slice (some ⟨(φ b).dp,if (φ b).fr=0∧k=iM then j*sz else k*sz,none⟩) len (iM-k+(φ b).fr)
 | .au=> .slice none 0 0
 | .ed b=> .map (some (φ b).dp)
 | .uk=> .map none
 | .func f a b=> .func (.func f) (az φ a).toArray (az φ b).toArray
 | .kx=> .nilFunc
 | .iface t v=> .iface t (Jb1 φ v)
 | .aX=> .nilIface
 | .agg l=> .agg (az φ l).toArray
 | .eT l=> .tuple (az φ l).toArray
 | .cQ v=>if v.oneCell' then v else .bool false
def az (φ:bo):List AV->List Value
 | []=>[]
 | v::l=>Jb1 φ v::az φ l
end
mutual
def AV.aD (D:Nat->Prop):AV->Prop
 | .ptr b _=>D b
 | .slice b _ _ _=>D b
 | .aF b _ _ _ _ _=>D b
 | .aL b _ _ _=>D b
 | .ae b _ _ _ _ _=>D b
 | .ed b=>D b
 | .func _ a b=>aR D a∧aR D b
 | .iface _ v=>v.aD D
 | .agg l=>aR D l
 | .eT l=>aR D l
 | _=>True
def aR (D:Nat->Prop):List AV->Prop
 | []=>True
 | v::l=>v.aD D∧aR D l
end
theorem dq (φ:bo): ∀ l,az φ l=l.map (Jb1 φ)
 | []=>rfl
 | v::l=>by simp [az,dq φ l]
theorem cS {D:Nat->Prop}: ∀ {l:List AV},aR D l↔ ∀ v∈l,v.aD D
 | []=>by simp [aR]
 | v::l=>by simp [aR,cS (l:=l)]
mutual
theorem AV.aD.mono {D D':Nat->Prop} (h: ∀ i,D i->D' i): ∀ {v:AV},v.aD D->v.aD D'
 | .ptr b _,hv=>h b hv
 | .slice b _ _ _,hv=>h b hv
 | .aF b _ _ _ _ _,hv=>h b hv
 | .aL b _ _ _,hv=>h b hv
 | .ae b _ _ _ _ _,hv=>h b hv
 | .ed b,hv=>h b hv
 | .func _ _ _,hv=>⟨aR.mono h hv.1,aR.mono h hv.2⟩
 | .iface _ v,hv=>by unfold AV.aD at hv ⊢;exact AV.aD.mono h hv
 | .agg l,hv=>by unfold AV.aD at hv ⊢;exact aR.mono h hv
 | .eT l,hv=>by unfold AV.aD at hv ⊢;exact aR.mono h hv
 | .int _ _,_=>trivial
 | .aa _ _,_=>trivial
 | .bool _,_=>trivial
 | .eS _,_=>trivial
 | .oG,_=>trivial
 | .au,_=>trivial
 | .uk,_=>trivial
 | .kx,_=>trivial
 | .aX,_=>trivial
 | .cQ _,_=>trivial
theorem aR.mono {D D':Nat->Prop} (h: ∀ i,D i->D' i): ∀ {l:List AV},aR D l->aR D' l
 | [],_=>trivial
 | _::_,hl=>⟨AV.aD.mono h hl.1,aR.mono h hl.2⟩
end
mutual
theorem dD {D:Nat->Prop} {φ φ':bo} (h: ∀ i,D i->φ' i=φ i): ∀ {v:AV},v.aD D->Jb1 φ' v=Jb1 φ v
 | .ptr b _,hv=>by unfold Jb1;rw [h b hv]
 | .slice b _ _ _,hv=>by unfold Jb1;rw [h b hv]
 | .aF b _ _ _ _ _,hv=>by unfold Jb1;rw [h b hv]
 | .aL b _ _ _,hv=>by unfold Jb1;rw [h b hv]
 | .ae b _ _ _ _ _,hv=>by unfold Jb1;rw [h b hv]
 | .ed b,hv=>by unfold Jb1;rw [h b hv]
 | .func _ _ _,hv=>by unfold Jb1;rw [cJ h hv.1,cJ h hv.2]
 | .iface _ v,hv=>by unfold AV.aD at hv;unfold Jb1;rw [dD h hv]
 | .agg l,hv=>by unfold AV.aD at hv;unfold Jb1;rw [cJ h hv]
 | .eT l,hv=>by unfold AV.aD at hv;unfold Jb1;rw [cJ h hv]
 | .int _ _,_=>rfl
 | .aa _ _,_=>rfl
 | .bool _,_=>rfl
 | .eS _,_=>rfl
 | .oG,_=>rfl
 | .au,_=>rfl
 | .uk,_=>rfl
 | .kx,_=>rfl
 | .aX,_=>rfl
 | .cQ _,_=>rfl
theorem cJ {D:Nat->Prop} {φ φ':bo} (h: ∀ i,D i->φ' i=φ i): ∀ {l:List AV},aR D l->az φ' l=az φ l
 | [],_=>rfl
 | _::_,hl=>by unfold az;rw [dD h hl.1,cJ h hl.2]
end
theorem bZ (φ:bo) (l m:List AV):az φ (l++m)=az φ l++az φ m:=by simp [dq]
theorem bc (φ:bo) (l:List AV):(az φ l).length=l.length:=by simp [dq]
theorem eQ (φ:bo) (l:List AV) (i:Nat):(az φ l)[i]?=(l[i]?).map (Jb1 φ):=by simp [dq]
theorem cT {D:Nat->Prop} {l m:List AV}:aR D (l++m)↔aR D l∧aR D m:=by
 simp only [cS,List.mem_append]
 exact ⟨λh=>⟨λv hv=>h v (.inl hv),λv hv=>h v (.inr hv)⟩,λh v hv=>hv.elim (h.1 v) (h.2 v)⟩
def ak.aD (D:Nat->Prop):ak->Prop
 | .row _ l _ _=>aR D l
 | .map _ l=> ∀ x∈l,x.2.aD D
theorem ak.aD.mono {D D':Nat->Prop} (h: ∀ i,D i->D' i) {o:ak} (ho:o.aD D):o.aD D':=by
 cases o with
 | row _ l _ _=>exact aR.mono h ho
 | map _ l=>exact λx hx=>(ho x hx).mono h
def cq (φ:bo) (x:Int×AV):Int×Value:=(x.1,Jb1 φ x.2)
def cf (φ:bo) (b:Nat) (o:ak) (w:World):Prop:=
 match o with
 | .row _ l t none=>w.heap[(φ b).dp]?=some (.cells (az φ l).toArray t (0,0))
 | .row _ l t (some 0)=> ∃ fz:Nat×Nat,w.heap[(φ b).dp]?=some (.cells (az φ l).toArray t fz)
 | .row _ l t (some (sz+1))=> ∃ (rest:Array Value) (n:Nat),w.heap[(φ b).dp]?=some (.cells ((az φ l).toArray++rest) t (0,0))∧
   rest.size=(φ b).fr*(sz+1)∧l.length=n*(sz+1)∧n+(φ b).fr<=maxLen
 | .map _ l=>xP w (φ b).dp (l.map (cq φ))
theorem nS {φ : bo} {b : Nat} {sy : Bool} {l : List AV} {t : TypeId} {sz : Nat} {w : World} (hz : 1 <= sz) : cf φ b (.row sy l t (some sz)) w = ∃ (rest : Array Value) (n : Nat), w.heap[(φ b).dp]? = some (.cells ((az φ l).toArray ++ rest) t (0, 0)) ∧
      rest.size = (φ b).fr * sz ∧ l.length = n * sz ∧ n + (φ b).fr <= maxLen := by
  cases sz with
  | zero => omega
  | succ sz => rfl
theorem cf.lt {φ:bo} {b:Nat} {o:ak} {w:World} (h:cf φ b o w):(φ b).dp<w.heap.size:=by
 rcases o with ⟨_,l,t,_ | _ | sz⟩ | ⟨_,l⟩
 ·exact (Array.getElem?_eq_some_iff.1 h).1
 ·obtain ⟨_,h⟩:=h;exact (Array.getElem?_eq_some_iff.1 h).1
 ·obtain ⟨_,_,h,_⟩:=h;exact (Array.getElem?_eq_some_iff.1 h).1
 ·obtain ⟨_,_,h,_⟩:=h;exact (Array.getElem?_eq_some_iff.1 h).1
theorem cf.bB {D:Nat->Prop} {φ φ':bo} {b:Nat} {o:ak} {w w':World} (h:cf φ b o w) (hD: ∀ i,D i->φ' i=φ i) (ho:o.aD D) (hb:φ' b=φ b)
  (hw:w'.heap[(φ b).dp]?=w.heap[(φ b).dp]?):cf φ' b o w':=by
 rcases o with ⟨_,l,t,_ | _ | sz⟩ | ⟨_,l⟩
 ·unfold cf at h ⊢;simp only at h ⊢;rw [hb,hw,h,cJ hD ho]
 ·obtain ⟨fz,h1⟩:=h
  exact ⟨fz,by rw [hb,hw,h1,cJ hD ho]⟩
 ·unfold cf at h ⊢
  obtain ⟨rest,n,h1,h2⟩:=h
  exact ⟨rest,n,by rw [hb,hw,h1,cJ hD ho],by rw [hb];exact h2⟩
 ·unfold cf at h ⊢
  obtain ⟨es,clock,h1,h2⟩:=h
  refine ⟨es,clock,by rw [hb,hw];exact h1,h2.trans ?_⟩
  have:l.map (cq φ')=l.map (cq φ):=List.map_congr_left λx hx=>by
   unfold cq;rw [dD hD (ho x hx)]
  rw [this]
structure Sp (s s':St) (R W:Nat->Prop):Prop where
 next:s.next<=s'.next
 same: ∀ b,¬ W b->s'.get b=s.get b
 sub: ∀ b,W b->R b
 rd: ∀ b,R b->s'.rd.testBit b=true
 wr: ∀ b,W b->s'.wr.testBit b=true
 rdm: ∀ b,s.rd.testBit b=true->s'.rd.testBit b=true
 wrm: ∀ b,s.wr.testBit b=true->s'.wr.testBit b=true
 lt: ∀ b,W b->s.get b=none->b<s'.next
 made: ∀ b,s.next<=b->b<s'.next->W b
 born: ∀ b,s.get b=none->s'.get b≠none->s.next<=b
 pre:s'.pre->s.pre
def nG (s s':St) (R W:Nat->Prop) (ins out:(Nat->Prop)->Prop):Prop:=
 ∀ D:Nat->Prop,s'.pre->(∀ i,s.next<=i->i<s'.next->D i)->ins D->(∀ b o,R b->s.get b=some o->o.aD D)->
  out D∧ ∀ b o,W b->s'.get b=some o->o.aD D
structure Fits (s:St) (R:Nat->Prop) (φ:bo) (w:World):Prop where
 holds: ∀ b o,R b->s.get b=some o->cf φ b o w
 inj: ∀ b c,R b->R c->s.get b≠none->s.get c≠none->(φ b).dp=(φ c).dp->b=c
def l9 (s:St) (R:Nat->Prop):Prop:= ∀ b o,R b->s.get b=some o->b<s.next∧o.aD (· < s.next)
def AZ (w w':World):Prop:=w.heap.size<=w'.heap.size∧w'.os=w.os∧w'.output=w.output
structure dG (s s':St) (W:Nat->Prop) (φ φ':bo) (w w':World):Prop where
 eH: ∀ i,¬ (s.next<=i∧i<s'.next)->φ' i=φ i
 holds: ∀ b o,W b->s'.get b=some o->cf φ' b o w'
 inj: ∀ b c,W b->W c->s'.get b≠none->s'.get c≠none->(φ' b).dp=(φ' c).dp->b=c
 source: ∀ b,W b->s'.get b≠none->w.heap.size<=(φ' b).dp∨ ∃ c,W c∧s.get c≠none∧(φ' b).dp=(φ c).dp
 frame: ∀ r,r<w.heap.size->(∀ c,W c->s.get c≠none->(φ c).dp≠r)->w'.heap[r]?=w.heap[r]?
 size:w.heap.size<=w'.heap.size
 kept:w'.os=w.os∧w'.output=w.output
section
variable {s s1 s2:St} {R R1 R2 W W1 W2:Nat->Prop} {φ φ1 φ2:bo} {w w1 w2:World}
theorem Fits.mono {R':Nat->Prop} (h:Fits s R φ w) (hr: ∀ b,R' b->R b):Fits s R' φ w:=
 ⟨λb o hb=>h.holds b o (hr b hb),λb c hb hc=>h.inj b c (hr b hb) (hr c hc)⟩
theorem l9.mono {R':Nat->Prop} (h:l9 s R) (hr: ∀ b,R' b->R b):l9 s R':=λb o hb=>h b o (hr b hb)
theorem aZ {α:Type} {x:Option α} (h:x≠none): ∃ y,x=some y:=by cases x with | none=>exact absurd rfl h | some y=>exact ⟨y,rfl⟩
theorem Fits.kept (hs:Sp s s1 R1 W1) (hm:dG s s1 W1 φ φ1 w w1) (hf:Fits s R φ w) (ho:l9 s R) (hr: ∀ b,R1 b->R b) {b:Nat} {o:ak} (hb:R b) (hw: ¬ W1 b) (hg:s.get b=some o):
  cf φ1 b o w1∧φ1 b=φ b:=by
 have dA:=ho b o hb hg
 have hφ:φ1 b=φ b:=hm.eH b (by omega)
 refine ⟨(hf.holds b o hb hg).bB (D:=(· < s.next)) (λi hi=>hm.eH i (by omega)) dA.2 hφ ?_,hφ⟩
 refine hm.frame _ (hf.holds b o hb hg).lt λc hc jV he=> ?_
 have:=hf.inj c b (hr c (hs.sub c hc)) hb jV (by rw [hg];simp) he
 subst this
 exact hw hc
theorem Fits.step (hs:Sp s s1 R1 W1) (hm:dG s s1 W1 φ φ1 w w1) (hf:Fits s R φ w) (ho:l9 s R) (hr: ∀ b,R1 b->R b):Fits s1 R φ1 w1:=by
 constructor
 ·intro b o hb hg
  by_cases hw:W1 b
  ·exact hm.holds b o hw hg
  ·rw [hs.same b hw] at hg
   exact (hf.kept hs hm ho hr hb hw hg).1
 ·intro b c hb hc ki gN he
  by_cases hwb:W1 b<;>by_cases Jc1:W1 c
  ·exact hm.inj b c hwb Jc1 ki gN he
  ·rw [hs.same c Jc1] at gN
   obtain ⟨o,FU⟩:=aZ gN
   have hk:=hf.kept hs hm ho hr hc Jc1 FU
   rw [hk.2] at he
   rcases hm.source b hwb ki with h | ⟨d,hd,FR,h⟩
   ·have:=(hf.holds c o hc FU).lt;omega
   ·have:=hf.inj d c (hr d (hs.sub d hd)) hc FR gN (by rw [<- h,he])
    subst this;exact absurd hd Jc1
  ·rw [hs.same b hwb] at ki
   obtain ⟨o,FU⟩:=aZ ki
   have hk:=hf.kept hs hm ho hr hb hwb FU
   rw [hk.2] at he
   rcases hm.source c Jc1 gN with h | ⟨d,hd,FR,h⟩
   ·have:=(hf.holds b o hb FU).lt;omega
   ·have:=hf.inj d b (hr d (hs.sub d hd)) hb FR ki (by rw [<- h,<- he])
    subst this;exact absurd hd hwb
  ·rw [hs.same b hwb] at ki
   rw [hs.same c Jc1] at gN
   obtain ⟨o,FU⟩:=aZ ki
   obtain ⟨o',YA⟩:=aZ gN
   rw [(hf.kept hs hm ho hr hb hwb FU).2,(hf.kept hs hm ho hr hc Jc1 YA).2] at he
   exact hf.inj b c hb hc ki gN he
theorem l9.step {ins out:(Nat->Prop)->Prop} (hs:Sp s s1 R1 W1) (hi:nG s s1 R1 W1 ins out) (hp:s1.pre) (kq:ins (· < s1.next)) (ho:l9 s R) (hr: ∀ b,R1 b->R b):l9 s1 R:=by
 intro b o hb hg
 have h1:=hi (· < s1.next) hp (λi _ h=>h) kq (λb o hb hg=>(ho b o (hr b hb) hg).2.mono λi hi=>Nat.lt_of_lt_of_le hi hs.next)
 by_cases hw:W1 b
 ·refine ⟨?_,h1.2 b o hw hg⟩
  cases pN:s.get b with
  | none=>exact hs.lt b hw pN
  | some o'=>exact Nat.lt_of_lt_of_le (ho b o' hb pN).1 hs.next
 ·rw [hs.same b hw] at hg
  have:=ho b o hb hg
  exact ⟨Nat.lt_of_lt_of_le this.1 hs.next,this.2.mono λi hi=>Nat.lt_of_lt_of_le hi hs.next⟩
theorem Sp.trans (h1:Sp s s1 R1 W1) (h2:Sp s1 s2 R2 W2):Sp s s2 (λb=>R1 b∨R2 b) (λb=>W1 b∨W2 b) where
 next:=Nat.le_trans h1.next h2.next
 same b hb:=by rw [h2.same b λh=>hb (.inr h),h1.same b λh=>hb (.inl h)]
 sub b hb:=hb.imp (h1.sub b) (h2.sub b)
 rd b hb:=hb.elim (λh=>h2.rdm b (h1.rd b h)) (h2.rd b)
 wr b hb:=hb.elim (λh=>h2.wrm b (h1.wr b h)) (h2.wr b)
 rdm b hb:=h2.rdm b (h1.rdm b hb)
 wrm b hb:=h2.wrm b (h1.wrm b hb)
 lt b hb hn:=by
  by_cases hw:W1 b
  ·exact Nat.lt_of_lt_of_le (h1.lt b hw hn) h2.next
  ·exact h2.lt b (hb.resolve_left hw) (by rw [h1.same b hw];exact hn)
 made b hb oE:=by
  by_cases h:b<s1.next
  ·exact .inl (h1.made b hb h)
  ·exact .inr (h2.made b (by omega) oE)
 born b hb oE:=by
  by_cases h:s1.get b=none
  ·exact Nat.le_trans h1.next (h2.born b h oE)
  ·exact h1.born b hb h
 pre h:=h1.pre (h2.pre h)
theorem nG.trans {ins mid out:(Nat->Prop)->Prop} (nB:Sp s s1 R1 W1) (nK:Sp s1 s2 R2 W2) (h1:nG s s1 R1 W1 ins mid) (h2:nG s1 s2 R2 W2 mid out):
  nG s s2 (λb=>R1 b∨R2 b) (λb=>W1 b∨W2 b) ins out:=by
 intro D hp hD cF hR
 obtain ⟨hm,D2⟩:=h1 D (nK.pre hp) (λi h h'=>hD i h (Nat.lt_of_lt_of_le h' nK.next)) cF (λb o hb hg=>hR b o (.inl hb) hg)
 obtain ⟨hout,O1⟩:=h2 D hp (λi h h'=>hD i (Nat.le_trans nB.next h) h') hm (λb o hb hg=>by
  by_cases hw:W1 b
  ·exact D2 b o hw hg
  ·rw [nB.same b hw] at hg;exact hR b o (.inr hb) hg)
 refine ⟨hout,λb o hb hg=> ?_⟩
 by_cases hw:W2 b
 ·exact O1 b o hw hg
 ·rw [nK.same b hw] at hg
  exact D2 b o (hb.resolve_right hw) hg
theorem dG.trans (nB:Sp s s1 R1 W1) (nK:Sp s1 s2 R2 W2) (se:dG s s1 W1 φ φ1 w w1) (Ay:dG s1 s2 W2 φ1 φ2 w1 w2)
  (hf:Fits s R φ w) (ho:l9 s R) (FW:Fits s1 R φ1 w1) (DZ:l9 s1 R) (kO: ∀ b,R1 b->R b) (kz: ∀ b,R2 b->R b):dG s s2 (λb=>W1 b∨W2 b) φ φ2 w w2 where
 eH i hi:=by
  have a1:=nB.next
  have a2:=nK.next
  rw [Ay.eH i (by omega),se.eH i (by omega)]
 holds b o hb hg:=by
  by_cases hw:W2 b
  ·exact Ay.holds b o hw hg
  ·rw [nK.same b hw] at hg
   exact (FW.kept nK Ay DZ kz (kO b (nB.sub b (hb.resolve_right hw))) hw hg).1
 inj b c hb hc ki gN he:=by
  have hf2:=FW.step nK Ay DZ kz
  have hR: ∀ b,W1 b∨W2 b->R b:=λb hb=>hb.elim (λh=>kO b (nB.sub b h)) (λh=>kz b (nK.sub b h))
  exact hf2.inj b c (hR b hb) (hR c hc) ki gN he
 source b hb ki:=by
  by_cases hw:W2 b
  ·rcases Ay.source b hw ki with h | ⟨c,hc,jV,h⟩
   ·exact .inl (Nat.le_trans se.size h)
   ·by_cases D2:W1 c
    ·rcases se.source c D2 jV with h' | ⟨d,hd,FR,h'⟩
     ·exact .inl (by omega)
     ·exact .inr ⟨d,.inl hd,FR,by rw [h,h']⟩
    ·rw [nB.same c D2] at jV
     obtain ⟨o,FU⟩:=aZ jV
     exact .inr ⟨c,.inr hc,jV,by rw [h,(hf.kept nB se ho kO (kz c (nK.sub c hc)) D2 FU).2]⟩
  ·rw [nK.same b hw] at ki
   have WJ:=hb.resolve_right hw
   obtain ⟨o,FU⟩:=aZ ki
   rw [(FW.kept nK Ay DZ kz (kO b (nB.sub b WJ)) hw FU).2]
   rcases se.source b WJ ki with h | ⟨d,hd,FR,h⟩
   ·exact .inl h
   ·exact .inr ⟨d,.inl hd,FR,h⟩
 frame r hr hc:=by
  have h1:=se.frame r hr λc XF jV=>hc c (.inl XF) jV
  rw [Ay.frame r (Nat.lt_of_lt_of_le hr se.size) ?_,h1]
  intro c XF jV
  by_cases D2:W1 c
  ·rcases se.source c D2 jV with h' | ⟨d,hd,FR,h'⟩
   ·omega
   ·rw [h'];exact hc d (.inl hd) FR
  ·rw [nB.same c D2] at jV
   obtain ⟨o,FU⟩:=aZ jV
   rw [(hf.kept nB se ho kO (kz c (nK.sub c XF)) D2 FU).2]
   exact hc c (.inr XF) jV
 size:=Nat.le_trans se.size Ay.size
 kept:=⟨Ay.kept.1.trans se.kept.1,Ay.kept.2.trans se.kept.2⟩
end
theorem fY: ∀ (f:Nat) (t:Tr) (b c:Nat) (x:Option ak),b≠c->Tr.look f (Tr.put f t b x) c=Tr.look f t c:=by
 intro f
 induction f with
 | zero=>intro t b c x h;rfl
 | succ f ih=>
  intro t b c x h
  have key: ∀ (b c:Nat),b≠c->Nat.beq b 0=false->Nat.beq c 0=false->Nat.beq (Nat.mod b 2) 1=Nat.beq (Nat.mod c 2) 1->
    (Nat.beq (Nat.mod b 2) 1=true->Nat.div b 2≠Nat.div c 2)∧(Nat.beq (Nat.mod b 2) 1=false->Nat.div (Nat.sub b 1) 2≠Nat.div (Nat.sub c 1) 2):=by
   intro b c h hb hc he
   have oE:b≠0:=λe=>by subst e;simp at hb
   have ud:c≠0:=λe=>by subst e;simp at hc
   constructor
   ·intro h1
    rw [h1] at he
    have e1:=Nat.eq_of_beq_eq_true h1
    have e2:=Nat.eq_of_beq_eq_true he.symm
    change b%2=1 at e1
    change c%2=1 at e2
    change b/2≠c/2
    omega
   ·intro h1
    rw [h1] at he
    have e1:=Nat.ne_of_beq_eq_false h1
    have e2:=Nat.ne_of_beq_eq_false he.symm
    change b%2≠1 at e1
    change c%2≠1 at e2
    change (b-1)/2≠(c-1)/2
    omega
  have nil: ∀ (f c:Nat),Tr.look f .nil c=none:=by intro f c;cases f<;>rfl
  cases t with
  | nil=>
   unfold Tr.put
   cases hb:Nat.beq b 0 with
   | true=>
    have:Nat.beq c 0=false:=by
     have:=Nat.eq_of_beq_eq_true hb
     cases hc:Nat.beq c 0 with
     | false=>rfl
     | true=>exact absurd (this.trans (Nat.eq_of_beq_eq_true hc).symm) h
    simp only [Tr.look,this]
    split<;>exact nil f _
   | false=>
    simp only
    cases hp:Nat.beq (Nat.mod b 2) 1 with
    | true=>
     simp only [Tr.look]
     cases hc:Nat.beq c 0 with
     | true=>rfl
     | false=>
      simp only
      cases hq:Nat.beq (Nat.mod c 2) 1 with
      | true=>
       simp only
       rw [ih .nil _ _ x ((key b c h hb hc (hp.trans hq.symm)).1 hp)];exact nil f _
      | false=>simp only;exact nil f _
    | false=>
     simp only [Tr.look]
     cases hc:Nat.beq c 0 with
     | true=>rfl
     | false=>
      simp only
      cases hq:Nat.beq (Nat.mod c 2) 1 with
      | true=>simp only;exact nil f _
      | false=>
       simp only
       rw [ih .nil _ _ x ((key b c h hb hc (hp.trans hq.symm)).2 hp)];exact nil f _
  | node o l r=>
   unfold Tr.put
   cases hb:Nat.beq b 0 with
   | true=>
    have:Nat.beq c 0=false:=by
     have:=Nat.eq_of_beq_eq_true hb
     cases hc:Nat.beq c 0 with
     | false=>rfl
     | true=>exact absurd (this.trans (Nat.eq_of_beq_eq_true hc).symm) h
    simp only [Tr.look,this]
   | false=>
    simp only
    cases hp:Nat.beq (Nat.mod b 2) 1 with
    | true=>
     simp only [Tr.look]
     cases hc:Nat.beq c 0 with
     | true=>rfl
     | false=>
      simp only
      cases hq:Nat.beq (Nat.mod c 2) 1 with
      | true=>
       simp only
       exact ih _ _ _ x ((key b c h hb hc (hp.trans hq.symm)).1 hp)
      | false=>rfl
    | false=>
     simp only [Tr.look]
     cases hc:Nat.beq c 0 with
     | true=>rfl
     | false=>
      simp only
      cases hq:Nat.beq (Nat.mod c 2) 1 with
      | true=>rfl
      | false=>
       simp only
       exact ih _ _ _ x ((key b c h hb hc (hp.trans hq.symm)).2 hp)
theorem fZ: ∀ (f:Nat) (t:Tr) (b:Nat) (x:Option ak) (y:ak),Tr.look f (Tr.put f t b x) b=some y->x=some y:=by
 intro f
 induction f with
 | zero=>intro t b x y h;cases h
 | succ f ih=>
  intro t b x y h
  cases t with
  | nil=>
   unfold Tr.put at h
   cases hb:Nat.beq b 0 with
   | true=>simp only [hb,Tr.look] at h;exact h
   | false=>
    simp only [hb] at h
    cases hp:Nat.beq (Nat.mod b 2) 1 with
    | true=>simp only [hp,Tr.look,hb] at h;exact ih _ _ _ _ h
    | false=>simp only [hp,Tr.look,hb] at h;exact ih _ _ _ _ h
  | node o l r=>
   unfold Tr.put at h
   cases hb:Nat.beq b 0 with
   | true=>simp only [hb,Tr.look] at h;exact h
   | false=>
    simp only [hb] at h
    cases hp:Nat.beq (Nat.mod b 2) 1 with
    | true=>simp only [hp,Tr.look,hb] at h;exact ih _ _ _ _ h
    | false=>simp only [hp,Tr.look,hb] at h;exact ih _ _ _ _ h
theorem dN {α:Type} (n:Nat) (k:Nat->α):ee n k=k n:=by cases n<;>rfl
theorem dO (r b:Nat):(mark r b).testBit b=true:=by
 unfold mark;change (r ||| 1 <<< b).testBit b=true
 simp [Nat.testBit_or,Nat.testBit_shiftLeft]
theorem di (r b c:Nat) (h:r.testBit c=true):(mark r b).testBit c=true:=by
 unfold mark;change (r ||| 1 <<< b).testBit c=true
 simp [Nat.testBit_or,h]
def St.seen (s:St) (b:Nat):St:=⟨s.heap,s.next,mark s.rd b,s.wr,s.pre,s.AG⟩
def St.wrote (s:St) (b:Nat) (x:ak):St:=⟨Tr.put deep s.heap b (some x),s.next,mark s.rd b,mark s.wr b,s.pre,s.AG⟩
def St.made (s:St) (x:ak):St:=⟨Tr.put deep s.heap s.next (some x),s.next+1,mark s.rd s.next,mark s.wr s.next,s.pre,s.AG⟩
def St.ft (s:St) (b:Nat):St:=⟨Tr.put deep s.heap b none,s.next,s.rd,mark s.wr b,s.pre,s.AG⟩
theorem je {α:Type} {s s':St} {b:Nat} {k:ak->St->eO α} {a:α} (h:nE s b k= .ok a s'): ∃ x,s.get b=some x∧k x (s.seen b)= .ok a s':=by
 unfold nE at h
 obtain ⟨hp,n,r,w,p,o⟩:=s
 simp only [dN] at h
 cases hl:Tr.look deep hp b with
 | none=>rw [hl] at h;cases h
 | some x=>rw [hl] at h;exact ⟨x,hl,h⟩
theorem ma {α:Type} (s:St) (b:Nat) (x:ak) (a:α):sg s b x a= .ok a (s.wrote b x):=by
 unfold sg;obtain ⟨hp,n,r,w,p,o⟩:=s;simp only [dN];rfl
theorem fu {α:Type} (s:St) (x:ak) (k:Nat->α):iu s x k= .ok (k s.next) (s.made x):=by
 unfold iu;obtain ⟨hp,n,r,w,p,o⟩:=s;simp only [dN];rfl
theorem fK (s:St) (q:Prop):ask s q=⟨s.heap,s.next,s.rd,s.wr,s.pre∧q,s.AG⟩:=by obtain ⟨hp,n,r,w,p,o⟩:=s;rfl
structure bC (s s':St) (R:Nat->Prop):Prop where
 heap:s'.heap=s.heap
 next:s'.next=s.next
 rd: ∀ b,R b->s'.rd.testBit b=true
 rdm: ∀ b,s.rd.testBit b=true->s'.rd.testBit b=true
 wrm: ∀ b,s.wr.testBit b=true->s'.wr.testBit b=true
 pre:s'.pre->s.pre
theorem bC.get {s s':St} {R:Nat->Prop} (h:bC s s' R) (b:Nat):s'.get b=s.get b:=by unfold St.get;rw [h.heap]
theorem bC.refl (s:St):bC s s (λ_=>False):=⟨rfl,rfl,λ_ h=>h.elim,λ_ h=>h,λ_ h=>h,λh=>h⟩
theorem bC.lp (s:St) (q:Prop):bC s (ask s q) (λ_=>False):=by
 rw [fK];exact ⟨rfl,rfl,λ_ h=>h.elim,λ_ h=>h,λ_ h=>h,λh=>h.1⟩
theorem bC.seen (s:St) (b:Nat):bC s (s.seen b) (λc=>c=b):=
 ⟨rfl,rfl,λc h=>by subst h;exact dO _ _,λc h=>di _ _ _ h,λ_ h=>h,λh=>h⟩
theorem bC.trans {s s1 s2:St} {R1 R2:Nat->Prop} (h1:bC s s1 R1) (h2:bC s1 s2 R2):bC s s2 (λb=>R1 b∨R2 b):=
 ⟨h2.heap.trans h1.heap,h2.next.trans h1.next,λb h=>h.elim (λh=>h2.rdm b (h1.rd b h)) (h2.rd b),λb h=>h2.rdm b (h1.rdm b h),λb h=>h2.wrm b (h1.wrm b h),λh=>h1.pre (h2.pre h)⟩
theorem bC.sp {s s':St} {R:Nat->Prop} (h:bC s s' R):Sp s s' R (λ_=>False) where
 next:=by rw [h.next];exact Nat.le_refl _
 same b _:=h.get b
 sub _ h:=h.elim
 rd:=h.rd
 wr _ h:=h.elim
 rdm:=h.rdm
 wrm:=h.wrm
 lt _ h:=h.elim
 made b h1 h2:=by rw [h.next] at h2;omega
 born b h1 h2:=by rw [h.get] at h2;exact absurd h1 h2
 pre:=h.pre
theorem bC.ids {s s':St} {R:Nat->Prop} (_:bC s s' R) {ins out:(Nat->Prop)->Prop} (ho: ∀ D:Nat->Prop,s'.pre->ins D->(∀ b o,R b->s.get b=some o->o.aD D)->out D):nG s s' R (λ_=>False) ins out:=
 λD hp _ cF hR=>⟨ho D hp cF hR,λ_ _ h=>h.elim⟩
theorem dG.refl (s s':St) (φ:bo) (w:World):dG s s' (λ_=>False) φ φ w w:=
 ⟨λ_ _=>rfl,λ_ _ h=>h.elim,λ_ _ h=>h.elim,λ_ h=>h.elim,λ_ _ _=>rfl,Nat.le_refl _,rfl,rfl⟩
theorem oI {s:St} {b c:Nat} {x:ak} (h:c≠b):(s.wrote b x).get c=s.get c:=fY _ _ _ _ _ (λe=>h e.symm)
theorem uJ {s:St} {b:Nat} {x y:ak} (h:(s.wrote b x).get b=some y):y=x:=by
 have:=fZ _ _ _ _ _ h
 cases this;rfl
theorem ga {s:St} {c:Nat} {x:ak} (h:c≠s.next):(s.made x).get c=s.get c:=fY _ _ _ _ _ (λe=>h e.symm)
theorem mg {s:St} {x y:ak} (h:(s.made x).get s.next=some y):y=x:=by
 have:=fZ _ _ _ _ _ h
 cases this;rfl
theorem bC.Gm {s s1:St} {R:Nat->Prop} (h:bC s s1 R) {b:Nat} {x old:ak} (hb:R b) (hg:s.get b=some old):Sp s (s1.wrote b x) R (λc=>c=b) where
 next:=by show s.next<=s1.next;rw [h.next];exact Nat.le_refl _
 same c hc:=by rw [oI hc,h.get]
 sub c hc:=by subst hc;exact hb
 rd c hc:=di _ _ _ (h.rd c hc)
 wr c hc:=by subst hc;exact dO _ _
 rdm c hc:=di _ _ _ (h.rdm c hc)
 wrm c hc:=di _ _ _ (h.wrm c hc)
 lt c hc hn:=by subst hc;rw [hg] at hn;cases hn
 made c h1 h2:=by change c<s1.next at h2;rw [h.next] at h2;omega
 born c h1 h2:=by
  by_cases hc:c=b
  ·subst hc;rw [hg] at h1;cases h1
  ·rw [oI hc,h.get] at h2;exact absurd h1 h2
 pre:=h.pre
theorem bC.xQ {s s1:St} {R:Nat->Prop} (_:bC s s1 R) {b:Nat} {x old:ak} (hg:s.get b=some old) {φ:bo} {w w':World} (hh:cf φ b x w')
  (Tm: ∀ r,r<w.heap.size->r≠(φ b).dp->w'.heap[r]?=w.heap[r]?) (fy:AZ w w'):dG s (s1.wrote b x) (λc=>c=b) φ φ w w' where
 eH _ _:=rfl
 holds c o hc ho:=by subst hc;rw [uJ ho];exact hh
 inj c d hc hd _ _ _:=by rw [hc,hd]
 source c hc _:=by subst hc;exact .inr ⟨c,rfl,by rw [hg];simp,rfl⟩
 frame r hr hc:=Tm r hr λe=>hc b rfl (by rw [hg];simp) e.symm
 size:=fy.1
 kept:=fy.2
theorem bC.Mp {s s1:St} {R:Nat->Prop} (h:bC s s1 R) {x:ak}:Sp s (s1.made x) (λc=>R c∨c=s.next) (λc=>c=s.next) where
 next:=by show s.next<=s1.next+1;rw [h.next];omega
 same c hc:=by rw [ga (by rw [h.next];exact hc),h.get]
 sub c hc:= .inr hc
 rd c hc:=hc.elim (λhc=>di _ _ _ (h.rd c hc)) (λhc=>by subst hc;rw [<- h.next];exact dO _ _)
 wr c hc:=by subst hc;rw [<- h.next];exact dO _ _
 rdm c hc:=di _ _ _ (h.rdm c hc)
 wrm c hc:=di _ _ _ (h.wrm c hc)
 lt c hc _:=by subst hc;show s.next<s1.next+1;rw [h.next];omega
 made c h1 h2:=by change c<s1.next+1 at h2;rw [h.next] at h2;omega
 born c h1 h2:=by
  by_cases hc:c=s.next
  ·omega
  ·rw [ga (by rw [h.next];exact hc),h.get] at h2;exact absurd h1 h2
 pre:=h.pre
def AH (φ:bo) (n:Nat) (x:np):bo:=λi=>if i=n then x else φ i
theorem fA (φ:bo) (n:Nat) (x:np):AH φ n x n=x:=by simp [AH]
theorem su (φ:bo) {n i:Nat} (x:np) (h:i≠n):AH φ n x i=φ i:=by simp [AH,h]
theorem bC.A0 {s s1:St} {R:Nat->Prop} (h:bC s s1 R) {x:ak} {φ:bo} {w w':World} {y:np} (hh:cf (AH φ s.next y) s.next x w')
  (hy:w.heap.size<=y.dp) (Tm: ∀ r,r<w.heap.size->w'.heap[r]?=w.heap[r]?) (fy:AZ w w'):dG s (s1.made x) (λc=>c=s.next) φ (AH φ s.next y) w w' where
 eH i hi:=by
  change ¬ (s.next<=i∧i<s1.next+1) at hi
  rw [h.next] at hi
  exact su _ _ (by omega)
 holds c o hc ho:=by subst hc;rw [<- h.next] at ho;rw [mg ho];exact hh
 inj c d hc hd _ _ _:=by rw [hc,hd]
 source c hc _:=by subst hc;left;rw [fA];exact hy
 frame r hr _:=Tm r hr
 size:=fy.1
 kept:=fy.2
theorem vJ: ∀ (l:List AV) (n:Nat),vG l n=l[n]?
 | [],_=>by simp [vG]
 | _::_,0=>by simp [vG]
 | _::l,n+1=>by simp [vG,vJ l n]
theorem jF: ∀ l:List AV,Jc9 l=l.length
 | []=>rfl
 | _::l=>by simp [Jc9,jF l]
theorem rR: ∀ (l:List AV) (o n:Nat) (vs:List AV),pQ l o n=some vs->vs.length=n∧ ∀ i,i<n->l[o+i]?=vs[i]?
 | l,o,0,vs,h=>by
  have:vs=[]:=by cases l<;>cases o<;>simp [pQ] at h<;>first | exact h | exact h.symm
  subst this;exact ⟨rfl,λi hi=>absurd hi (by omega)⟩
 | [],o,n+1,vs,h=>by cases o<;>simp [pQ] at h
 | a::l,0,n+1,vs,h=>by
  simp only [pQ] at h
  cases hc:pQ l 0 n with
  | none=>rw [hc] at h;cases h
  | some r=>
   rw [hc] at h
   cases h
   obtain ⟨h1,h2⟩:=rR l 0 n r hc
   refine ⟨by simp [h1],λi hi=> ?_⟩
   cases i with
   | zero=>simp
   | succ i=>have:=h2 i (by omega);simp at this ⊢;exact this
 | _::l,o+1,n+1,vs,h=>by
  simp only [pQ] at h
  obtain ⟨h1,h2⟩:=rR l o (n+1) vs h
  refine ⟨h1,λi hi=> ?_⟩
  have:=h2 i hi
  rw [show o+1+i=(o+i)+1 by omega]
  simpa using this
theorem oJ: ∀ (l:List AV) (o:Nat) (vs l':List AV),sj l o vs=some l'->vs≠[]->o+vs.length<=l.length∧l'=l.take o++vs++l.drop (o+vs.length)
 | l,o,[],l',_,h0=>absurd rfl h0
 | [],o,v::vs,l',h,_=>by cases o<;>simp [sj] at h
 | a::l,0,v::vs,l',h,_=>by
  simp only [sj] at h
  cases hc:sj l 0 vs with
  | none=>rw [hc] at h;cases h
  | some r=>
   rw [hc] at h
   cases h
   by_cases hv:vs=[]
   ·subst hv
    have:r=l:=by cases l<;>simp [sj] at hc<;>simp [hc]
    subst this;simp
   ·obtain ⟨h1,h2⟩:=oJ l 0 vs r hc hv
    subst h2
    simp at h1 ⊢;omega
 | a::l,o+1,v::vs,l',h,_=>by
  simp only [sj] at h
  cases hc:sj l o (v::vs) with
  | none=>rw [hc] at h;cases h
  | some r=>
   rw [hc] at h
   cases h
   obtain ⟨h1,h2⟩:=oJ l o (v::vs) r hc (by simp)
   subst h2
   refine ⟨by simp at h1 ⊢;omega,?_⟩
   rw [show o+1+(v::vs).length=(o+(v::vs).length)+1 by omega]
   simp
theorem jf {D:Nat->Prop} {l:List AV} (h:aR D l) {i:Nat} {v:AV} (hv:l[i]?=some v):v.aD D:=cS.1 h v (List.mem_of_getElem? hv)
theorem g9 {D:Nat->Prop} {l vs:List AV} {o:Nat} (h:aR D l) (hv: ∀ i,i<vs.length->l[o+i]?=vs[i]?):aR D vs:=by
 refine cS.2 λv hm=> ?_
 obtain ⟨i,hi⟩:=List.mem_iff_getElem?.1 hm
 have dA:=(List.getElem?_eq_some_iff.1 hi).1
 exact jf h ((hv i dA).trans hi)
theorem xR: ∀ {l:List AV},iP l=true-> ∀ v∈l,v.flat=true
 | [],_,_,h=>by cases h
 | v::l,h,u,hu=>by
  simp only [iP] at h
  cases hv:v.flat with
  | false=>rw [hv] at h;cases h
  | true=>
   rw [hv] at h
   rcases List.mem_cons.1 hu with rfl | hu
   ·exact hv
   ·exact xR h u hu
theorem xS {φ:bo} {v:AV} (h:v.flat=true):(Jb1 φ v).oneCell'=true:=by
 cases v with
 | cQ u=>unfold Jb1;split<;>first | assumption | rfl
 | _=>first | rfl | cases h
theorem pS {φ:bo} {l:List AV} (h:iP l=true): ∀ u∈az φ l,u.oneCell'=true:=by
 intro u hu
 rw [dq] at hu
 obtain ⟨v,hv,rfl⟩:=List.mem_map.1 hu
 exact xS (xR h v hv)
theorem e9 (φ:bo) (v:AV):(Jb1 φ v).cells=(az φ v.cells).toArray:=by
 cases v with
 | cQ u=>
  have:(Jb1 φ (.cQ u)).oneCell'=true:=xS rfl
  simp only [AV.cells,az]
  generalize Jb1 φ (.cQ u)=x at*
  cases x<;>first | rfl | cases this
 | _=>simp [Jb1,AV.cells,Value.cells,az]
theorem eR {D:Nat->Prop} {v:AV} (h:v.aD D):aR D v.cells:=by
 cases v<;>first | exact h | exact ⟨h,trivial⟩
theorem uK {v:Value} {a:AV} (h:sh v=some a) (φ:bo):Jb1 φ a=v∧ ∀ D,a.aD D:=by
 unfold sh at h
 split at h<;>first | (cases h;exact ⟨rfl,λD=>trivial⟩) | cases h
theorem uL: ∀ {l:List Value} {r:List AV},pP l=some r-> ∀ φ,az φ r=l∧ ∀ D,aR D r
 | [],r,h,φ=>by cases h;exact ⟨rfl,λD=>trivial⟩
 | v::l,r,h,φ=>by
  simp only [pP] at h
  cases hv:sh v with
  | none=>rw [hv] at h;cases h
  | some a=>
   rw [hv] at h
   cases hl:pP l with
   | none=>rw [hl] at h;cases h
   | some q=>
    rw [hl] at h
    cases h
    have h1:=uK hv φ
    have h2:=uL hl φ
    exact ⟨by unfold az;rw [h1.1,h2.1],λD=>⟨h1.2 D,h2.2 D⟩⟩
theorem pT {v:Value} {a:AV} (h:vE v=some a) (φ:bo):Jb1 φ a=v∧ ∀ D,a.aD D:=by
 unfold vE at h
 split at h
 ·rename_i cs
  cases hl:pP cs.toList with
  | none=>rw [hl] at h;cases h
  | some l=>
   rw [hl] at h
   cases h
   have:=uL hl φ
   exact ⟨by unfold Jb1;rw [this.1],λD=>this.2 D⟩
 ·exact uK h φ
section
variable {φ:bo} {w:World} {b:Nat} {sy:Bool} {l:List AV} {t:TypeId} {q:Option Nat}
theorem cf.row (h:cf φ b (.row sy l t q) w): ∃ (rest:Array Value) (fz:Nat×Nat),w.heap[(φ b).dp]?=some (.cells ((az φ l).toArray++rest) t fz)∧(q=none->rest= #[])∧(TJ q=true->fz=(0,0)):=by
 rcases q with _ | _ | sz
 ·exact ⟨#[],(0,0),by simpa [cf] using h,λ_=>rfl,λ_=>rfl⟩
 ·obtain ⟨fz,h1⟩:=h
  exact ⟨#[],fz,by simpa using h1,(λe=>by cases e),(λe=>by cases e)⟩
 ·obtain ⟨rest,n,h1,_⟩:=h;exact ⟨rest,(0,0),h1,(λe=>by cases e),λ_=>rfl⟩
theorem cf.cell (h:cf φ b (.row sy l t q) w) {i:Nat} {v:AV} (hv:l[i]?=some v):w.cell? ⟨(φ b).dp,i,none⟩=some (Jb1 φ v):=by
 obtain ⟨rest,fz,hr,_⟩:=h.row
 have dA:=(List.getElem?_eq_some_iff.1 hv).1
 have h2:((az φ l).toArray++rest)[i]?=some (Jb1 φ v):=by
  rw [Array.getElem?_append_left (by simpa [bc] using dA)]
  simp [eQ,hv]
 simp only [World.cell?,hr]
 simpa using h2
theorem cf.cells (h:cf φ b (.row sy l t q) w) {off:Nat} {vs:List AV} (hv: ∀ i,i<vs.length->l[off+i]?=vs[i]?):
  ∀ j u,(az φ vs)[j]?=some u->w.cell? ((⟨(φ b).dp,off,none⟩:Addr).add j)=some u:=by
 intro j u hu
 rw [eQ] at hu
 cases hj:vs[j]? with
 | none=>rw [hj] at hu;cases hu
 | some v=>
  rw [hj] at hu
  cases hu
  have dA:=(List.getElem?_eq_some_iff.1 hj).1
  have:=h.cell ((hv j dA).trans hj)
  rw [show (⟨(φ b).dp,off,none⟩:Addr).add j=⟨(φ b).dp,off+j,none⟩ by unfold Addr.add;split<;>simp_all]
  exact this
theorem uM {P:Program} (h:cf φ b (.row sy l t q) w) {off:Nat} {vs:List AV} (hv: ∀ i,i<vs.length->l[off+i]?=vs[i]?):
  (loadCells ⟨(φ b).dp,off,none⟩ vs.length).run P w= .ok (az φ vs).toArray w:=by
 have:=run_loadCells_list (P:=P) w ⟨(φ b).dp,off,none⟩ (az φ vs) (h.cells hv)
 rwa [bc] at this
theorem nT {P:Program} (rz:TJ q=true) (h:cf φ b (.row sy l t q) w) {off:Nat} {vs:List AV} (hf:iP vs=true) (dP:off+vs.length<=l.length):
  ∃ w',(storeCells ⟨(φ b).dp,off,none⟩ (az φ vs)).run P w= .ok () w'∧cf φ b (.row sy (l.take off++vs++l.drop (off+vs.length)) t q) w'∧
   (∀ r,r<w.heap.size->r≠(φ b).dp->w'.heap[r]?=w.heap[r]?)∧(w'.heap.size=w.heap.size∧w'.os=w.os∧w'.output=w.output):=by
 obtain ⟨rest,fz,hr,hq,hz⟩:=h.row
 obtain rfl:=hz rz
 have h1:=run_storeCells_at P (φ b).dp off t (az φ vs) 0 ((az φ l).toArray++rest) w hr (by simp [bc];omega) (pS hf)
 simp only [Nat.add_zero] at h1
 have e:((((az φ l).toArray++rest).toList.take off++az φ vs++((az φ l).toArray++rest).toList.drop (off+(az φ vs).length)).toArray)=
   (az φ (l.take off++vs++l.drop (off+vs.length))).toArray++rest:=by
  apply Array.ext'
  simp only [Array.toList_append,bZ,bc]
  rw [List.take_append_of_le_length (by simp [bc];omega),List.drop_append_of_le_length (by simp [bc];omega)]
  simp [dq]
 rw [e] at h1
 refine ⟨_,h1,?_,?_,?_⟩
 ·have hs:=setRow_heap w (φ b).dp _ ((az φ (l.take off++vs++l.drop (off+vs.length))).toArray++rest) t (0,0) hr
  rcases q with _ | _ | sz
  ·have:=hq rfl
   subst this
   unfold cf
   simpa using hs
  ·cases rz
  ·obtain ⟨Qj,n,qN,h2,h3,h4⟩:=h
   rw [hr] at qN
   have he:(az φ l).toArray++rest=(az φ l).toArray++Qj:=by injection qN with e;injection e
   have ZI:rest=Qj:=by
    have:=congrArg (λa:Array Value=>a.toList.drop (az φ l).length) he
    simp at this
    exact this
   subst ZI
   refine ⟨rest,n,hs,h2,?_,h4⟩
   rw [<- h3]
   simp
   omega
 ·intro r _ bq
  unfold World.setRow
  simp [Array.getElem?_modify,Ne.symm bq]
 ·unfold World.setRow;simp
end
theorem mh {α:Type} {s s':St} {b off n:Nat} {k:List AV->St->eO α} {a:α} (h:xJ s b off n k= .ok a s'):
  ∃ sy l t q vs s1,s.get b=some (.row sy l t q)∧bC s s1 (λc=>c=b)∧(s1.pre->vs.length=n∧ ∀ i,i<n->l[off+i]?=vs[i]?)∧k vs s1= .ok a s':=by
 unfold xJ at h
 obtain ⟨hp,nx,r,w,p,o⟩:=s
 obtain ⟨x,hg,h2⟩:=je h
 clear h
 rcases x with ⟨_ | _,l,t,q⟩ | ⟨_,l⟩
 ·simp only at h2
  cases hc:pQ l off n with
  | none=>rw [hc] at h2;cases h2
  | some vs=>
   rw [hc] at h2
   exact ⟨_,_,_,_,vs,_,hg,bC.seen _ b,λ_=>rR l off n vs hc,h2⟩
 ·simp only [St.seen] at h2
  split at h2
  ·rename_i hp nx r w p vs o he
   injection he with e1 e2 e3 e4 e5 e6
   subst e1 e2 e3 e4 e5 e6
   refine ⟨_,_,_,_,vs,_,hg,?_,?_,h2⟩
   ·exact ⟨rfl,rfl,λc hc=>by subst hc;exact dO _ _,λc hc=>di _ _ _ hc,λ_ hc=>hc,λhc=>hc.1⟩
   ·exact λhc=>hc.2
  ·cases h2
 ·cases h2
theorem uN {α:Type} {s s':St} {b off:Nat} {vs:List AV} {a a':α} (h:vH s b off vs a= .ok a' s') (h0:vs≠[]):
  ∃ sy l t q s1,s.get b=some (.row sy l t q)∧bC s s1 (λc=>c=b)∧iP vs=true∧TJ q=true∧(s1.pre->off+vs.length<=l.length)∧a'=a∧
   ∃ l',s'=s1.wrote b (.row sy l' t q)∧(s1.pre->l'=l.take off++vs++l.drop (off+vs.length)):=by
 unfold vH at h
 obtain ⟨x,hg,h⟩:=je h
 rcases x with ⟨_ | _,l,t,q⟩ | ⟨_,l⟩
 ·simp only at h
  split at h
  ·rename_i rz
   split at h
   ·rename_i l' hf hl
    rw [ma] at h
    cases h
    obtain ⟨h1,h2⟩:=oJ l off vs l' hl h0
    subst h2
    exact ⟨_,_,_,_,s.seen b,hg,bC.seen s b,hf,rz,λ_=>h1,rfl,_,rfl,λ_=>rfl⟩
   ·cases h
  ·cases h
 ·simp only at h
  split at h
  case h_2=>cases h
  rename_i rz
  split at h
  ·rename_i v hf
   rw [ma] at h
   cases h
   refine ⟨_,_,_,_,ask (s.seen b) (off<l.length),hg,?_,hf,rz,?_,rfl,_,rfl,?_⟩
   ·rw [fK];exact ⟨rfl,rfl,λc hc=>by subst hc;exact dO _ _,λc hc=>di _ _ _ hc,λ_ hc=>hc,λhc=>hc.1⟩
   ·rw [fK];intro hc;have:=hc.2;simp;omega
   ·rw [fK];intro hc
    have hl:off<l.length:=hc.2
    rw [List.set_eq_take_append_cons_drop,if_pos hl]
    simp
  ·rw [ma] at h
   cases h
   refine ⟨_,_,_,_,_,hg,?_,(by assumption),rz,?_,rfl,_,rfl,?_⟩
   ·rw [fK];exact ⟨rfl,rfl,λc hc=>by subst hc;exact dO _ _,λc hc=>di _ _ _ hc,λ_ hc=>hc,λhc=>hc.1⟩
   ·rw [fK];intro hc;exact hc.2
   ·intro _;rfl
  ·cases h
 ·cases h
section
variable {x:Operand} {t:TypeId}
def nU (env:Env) (o:Op) (D:Nat->Prop):Prop:= ∀ x∈o.operands.toList,∀ a,dM env x=some a->a.aD D
def xB (φ:bo) (env:Env) (ρ:Operand->Value) (o:Op):Prop:= ∀ x∈o.operands.toList,∀ a,dM env x=some a->ρ x=Jb1 φ a
def Gn:Next->Option Value
 | .value v=>some v
 | .skip=>some undef
 | _=>none
def fL (P:Program) (s s':St) (env:Env) (o:Op) (v:AV):Prop:=
 ∃ R W:Nat->Prop,Sp s s' R W∧nG s s' R W (nU env o) (λD=>v.aD D)∧
  ∀ (φ:bo) (w:World) (ρ:Operand->Value) (r:Oper),r.op=o->s'.pre->Fits s R φ w->l9 s R->nU env o (· < s.next)->xB φ env ρ o->
   ∃ φ' w' nx,(execOp ρ r).run P w= .ok nx w'∧Gn nx=some (Jb1 φ' v)∧dG s s' W φ φ' w w'
variable {P:Program} {s s':St} {env:Env} {o:Op} {v:AV}
theorem cU (R:Nat->Prop) (hq:bC s s' R) (hid: ∀ D:Nat->Prop,s'.pre->nU env o D->(∀ b x,R b->s.get b=some x->x.aD D)->v.aD D)
  (jJ: ∀ (φ:bo) (w:World) (ρ:Operand->Value) (r:Oper),r.op=o->s'.pre->Fits s R φ w->xB φ env ρ o->(execOp ρ r).run P w= .ok (.value (Jb1 φ v)) w):fL P s s' env o v:=
 ⟨R,_,hq.sp,hq.ids hid,λφ w ρ r hr hp hf _ _ hρ=>⟨φ,w,_,jJ φ w ρ r hr hp hf hρ,rfl,dG.refl _ _ _ _⟩⟩
theorem bD (hid: ∀ D:Nat->Prop,nU env o D->v.aD D)
  (jJ: ∀ (φ:bo) (w:World) (ρ:Operand->Value) (r:Oper),r.op=o->xB φ env ρ o->(execOp ρ r).run P w= .ok (.value (Jb1 φ v)) w):fL P s s env o v:=
 cU _ (bC.refl s) (λD _ hi _=>hid D hi) (λφ w ρ r hr _ _ hρ=>jJ φ w ρ r hr hρ)
theorem Mq (h:dQ P env (.move x) s= .ok v s'):fL P s s' env (.move x) v:=by
 simp only [dQ] at h
 cases hx:dM env x with
 | none=>rw [hx] at h;cases h
 | some a=>
  rw [hx] at h
  cases h
  refine bD (λD hi=>hi x (by simp [Op.operands]) _ hx) (λφ w ρ r hr hρ=> ?_)
  have:=hρ x (by simp [Op.operands]) _ hx
  obtain ⟨_,_,_,_,_,_⟩:=r
  cases hr
  simp [execOp,this]
theorem Ej (h:dQ P env (.assign x) s= .ok v s'):fL P s s' env (.assign x) v:=by
 simp only [dQ] at h
 cases hx:dM env x with
 | none=>rw [hx] at h;cases h
 | some a=>
  rw [hx] at h
  cases h
  refine bD (λD hi=>hi x (by simp [Op.operands]) _ hx) (λφ w ρ r hr hρ=> ?_)
  have:=hρ x (by simp [Op.operands]) _ hx
  obtain ⟨_,_,_,_,_,_⟩:=r
  cases hr
  simp [execOp,this]
theorem Mr {c y:Operand} (h:dQ P env (.pick c x y) s= .ok v s'):fL P s s' env (.pick c x y) v:=by
 have mc:c∈(Op.pick c x y).operands.toList:=by simp [Op.operands]
 have mx:x∈(Op.pick c x y).operands.toList:=by simp [Op.operands]
 have my:y∈(Op.pick c x y).operands.toList:=by simp [Op.operands]
 have run: ∀ (ρ:Operand->Value) (r:Oper) (b:Bool) (w:World),r.op= .pick c x y->ρ c= .bool b->(execOp ρ r).run P w= .ok (.value (if b then ρ x else ρ y)) w:=by
  intro ρ r b w hr hc
  obtain ⟨_,_,_,_,_,_⟩:=r
  cases hr
  cases b<;>simp [execOp,hc,asBool]
 simp only [dQ] at h
 split at h
 ·rename_i hc
  split at h
  ·rename_i a ha
   cases h
   refine bD (λD hi=>hi x mx _ ha) (λφ w ρ r hr hρ=>(run ρ r true w hr (hρ c mc _ hc)).trans ?_)
   simp [hρ x mx _ ha]
  ·cases h
 ·rename_i hc
  split at h
  ·rename_i a ha
   cases h
   refine bD (λD hi=>hi y my _ ha) (λφ w ρ r hr hρ=>(run ρ r false w hr (hρ c mc _ hc)).trans ?_)
   simp [hρ y my _ ha]
  ·cases h
 ·rename_i q hc
  obtain ⟨hp,n,rd,wr,p,oo⟩:=s
  rcases oo with _ | ⟨_ | _,oo⟩
  ·cases h
  ·rename_i b
   cases b
   ·simp only at h
    split at h
    ·rename_i a ha
     cases h
     refine cU (λ_=>False) ⟨rfl,rfl,λ_ h=>h.elim,λ_ h=>h,λ_ h=>h,λh=>h.1⟩ (λD _ hi _=>hi y my _ ha) (λφ w ρ r hr aQ _ hρ=>(run ρ r q w hr (hρ c mc _ hc)).trans ?_)
     have:q=false:=aQ.2
     subst this
     simp [hρ y my _ ha]
    ·cases h
   ·simp only at h
    split at h
    ·rename_i a ha
     cases h
     refine cU (λ_=>False) ⟨rfl,rfl,λ_ h=>h.elim,λ_ h=>h,λ_ h=>h,λh=>h.1⟩ (λD _ hi _=>hi x mx _ ha) (λφ w ρ r hr aQ _ hρ=>(run ρ r q w hr (hρ c mc _ hc)).trans ?_)
     have:q=true:=aQ.2
     subst this
     simp [hρ x mx _ ha]
    ·cases h
  ·cases h
 ·cases h
theorem xT (h:dQ P env (.nilCheck x) s= .ok v s'):fL P s s' env (.nilCheck x) v:=by
 have mx:x∈(Op.nilCheck x).operands.toList:=by simp [Op.operands]
 simp only [dQ] at h
 split at h
 ·rename_i b off hx
  cases h
  refine bD (λD hi=>hi x mx _ hx) (λφ w ρ r hr hρ=> ?_)
  have:=hρ x mx _ hx
  obtain ⟨_,_,_,_,_,_⟩:=r
  cases hr
  simp [execOp,this,Jb1]
 ·rename_i b off hx
  cases h
  refine bD (λD hi=>hi x mx _ hx) (λφ w ρ r hr hρ=> ?_)
  have:=hρ x mx _ hx
  obtain ⟨_,_,_,_,_,_⟩:=r
  cases hr
  simp [execOp,this,Jb1]
 ·rename_i b off c hx
  cases h
  refine bD (λD hi=>hi x mx _ hx) (λφ w ρ r hr hρ=> ?_)
  have:=hρ x mx _ hx
  obtain ⟨_,_,_,_,_,_⟩:=r
  cases hr
  simp [execOp,this,Jb1]
 ·cases h
theorem Ms {op:UnOp} (h:dQ P env (.unOp op t x) s= .ok v s'):fL P s s' env (.unOp op t x) v:=by
 have mx:x∈(Op.unOp op t x).operands.toList:=by simp [Op.operands]
 simp only [dQ] at h
 split at h
 ·rename_i b hx
  cases h
  refine bD (λD hi=>trivial) (λφ w ρ r hr hρ=> ?_)
  have:=hρ x mx _ hx
  obtain ⟨_,_,_,_,_,_⟩:=r
  cases hr
  simp [execOp,this,Jb1,Op.unary]
 ·rename_i b hx
  cases h
  refine bD (λD hi=>trivial) (λφ w ρ r hr hρ=> ?_)
  have:=hρ x mx _ hx
  obtain ⟨_,_,_,_,_,_⟩:=r
  cases hr
  simp [execOp,this,Jb1,Op.unary]
 ·cases h
theorem mS {k:IntKind} (h:Eg P t=some k):P.underlying t=some (.int k):=by
 unfold Eg at h;split at h
 ·cases h;assumption
 ·cases h
theorem A1 {src dst:TypeId} (h:dQ P env (.convert src dst x) s= .ok v s'):fL P s s' env (.convert src dst x) v:=by
 have mx:x∈(Op.convert src dst x).operands.toList:=by simp [Op.operands]
 have run: ∀ (ρ:Operand->Value) (r:Oper) (k j k':IntKind) (n:Int) (w:World),r.op= .convert src dst x->P.underlying src=some (.int j)->P.underlying dst=some (.int k)->ρ x= .int k' n->(execOp ρ r).run P w= .ok (.value (.int k (k.wrap n))) w:=by
  intro ρ r k j k' n w hr hs hd hx
  obtain ⟨_,_,_,_,_,_⟩:=r
  cases hr
  simp [execOp,hx,convert,run_underlying hs,run_underlying hd,Conv.intToInt]
 simp only [dQ] at h
 split at h
 ·rename_i j k k' n hs hd hx
  cases h
  exact bD (λD hi=>trivial) (λφ w ρ r hr hρ=>run ρ r k j _ _ w hr (mS hs) (mS hd) (hρ x mx _ hx))
 ·rename_i j k k' n hs hd hx
  cases h
  exact bD (λD hi=>trivial) (λφ w ρ r hr hρ=>run ρ r k j _ _ w hr (mS hs) (mS hd) (hρ x mx _ hx))
 ·cases h
theorem pU (h:dQ P env (.makeInterface t x) s= .ok v s'):fL P s s' env (.makeInterface t x) v:=by
 have mx:x∈(Op.makeInterface t x).operands.toList:=by simp [Op.operands]
 simp only [dQ] at h
 split at h
 ·cases h
 ·rename_i d a bq ht hx
  cases h
  refine bD (λD hi=>by unfold AV.aD;exact hi x mx _ hx) (λφ w ρ r hr hρ=> ?_)
  have:=hρ x mx _ hx
  obtain ⟨_,_,_,_,_,_⟩:=r
  cases hr
  simp only [execOp]
  unfold Instr.makeInterface
  cases d<;>first | (simp [run_underlying ht,this,Jb1];done) | exact absurd rfl (bq _)
 ·cases h
theorem kA {φ:bo} {ρ:Operand->Value}: ∀ {l:List Operand} {r:List AV},nm env l=some r->(∀ x∈l,∀ a,dM env x=some a->ρ x=Jb1 φ a)->l.map ρ=az φ r
 | [],r,h,_=>by cases h;rfl
 | x::l,r,h,hρ=>by
  simp only [nm] at h
  cases hx:dM env x with
  | none=>rw [hx] at h;cases h
  | some a=>
   rw [hx] at h
   cases hl:nm env l with
   | none=>rw [hl] at h;cases h
   | some q=>
    rw [hl] at h
    cases h
    simp only [List.map_cons,az,hρ x (by simp) a hx,kA hl (λy hy=>hρ y (by simp [hy]))]
theorem oK {D:Nat->Prop}: ∀ {l:List Operand} {r:List AV},nm env l=some r->(∀ x∈l,∀ a,dM env x=some a->a.aD D)->aR D r
 | [],r,h,_=>by cases h;trivial
 | x::l,r,h,hρ=>by
  simp only [nm] at h
  cases hx:dM env x with
  | none=>rw [hx] at h;cases h
  | some a=>
   rw [hx] at h
   cases hl:nm env l with
   | none=>rw [hl] at h;cases h
   | some q=>
    rw [hl] at h
    cases h
    exact ⟨hρ x (by simp) a hx,oK hl (λy hy=>hρ y (by simp [hy]))⟩
theorem xU {fn:Fn} {first captured:Array Operand} (h:dQ P env (.makeFunc fn first captured) s= .ok v s'):fL P s s' env (.makeFunc fn first captured) v:=by
 simp only [dQ] at h
 split at h
 ·rename_i f a b ha hb
  cases h
  refine bD (λD hi=> ?_) (λφ w ρ r hr hρ=> ?_)
  ·exact ⟨oK ha λx hx=>hi x (by simp [Op.operands];exact .inl (by simpa using hx)),oK hb λx hx=>hi x (by simp [Op.operands];exact .inr (by simpa using hx))⟩
  ·have h1:=kA ha (λx hx=>hρ x (by simp [Op.operands];exact .inl (by simpa using hx)))
   have h2:=kA hb (λx hx=>hρ x (by simp [Op.operands];exact .inr (by simpa using hx)))
   obtain ⟨_,_,_,_,_,_⟩:=r
   cases hr
   simp only [execOp,Instr.makeFunc,Jb1]
   rw [<- h1,<- h2]
   simp only [<- Array.toList_map,Array.toArray_toList]
   rfl
 ·cases h
theorem A2 {i:Nat} (h:dQ P env (.extract x i) s= .ok v s'):fL P s s' env (.extract x i) v:=by
 have mx:x∈(Op.extract x i).operands.toList:=by simp [Op.operands]
 simp only [dQ] at h
 split at h
 ·rename_i l hx
  rw [vJ] at h
  split at h
  ·rename_i a ha
   cases h
   refine bD (λD hi=>jf (hi x mx _ hx) ha) (λφ w ρ r hr hρ=> ?_)
   have:=hρ x mx _ hx
   obtain ⟨_,_,_,_,_,_⟩:=r
   cases hr
   have hg:(az φ l)[i]?=some (Jb1 φ v):=by rw [eQ,ha];rfl
   simp [execOp,Instr.extract,this,Jb1,hg]
  ·cases h
 ·cases h
end
section
variable {P:Program} {s s':St} {env:Env} {o:Op} {v:AV}
variable {t:TypeId} {d:TypeDesc} {f:Nat} {x i:Operand} {sy:Bool}
theorem sv (h:aK P t≠0): ∃ i,P.info? t=some i∧i.size=aK P t:=by
 unfold aK at h ⊢
 cases hi:P.info? t with
 | none=>rw [hi] at h;exact absurd rfl h
 | some i=>exact ⟨i,rfl,rfl⟩
theorem dF (h:aK P t≠0) (w:World):(sizeOf t).run P w= .ok (aK P t) w:=by
 obtain ⟨i,h1,h2⟩:=sv h
 simp [sizeOf,typeInfo,h1,h2]
theorem Mt (h:P.underlying t=some d): ∃ i,P.info? t=some i:=by
 unfold Program.underlying at h
 cases hi:P.info? t with
 | none=>rw [hi] at h;cases h
 | some i=>exact ⟨i,rfl⟩
theorem pV (h:P.underlying t=some d) (w:World):(sizeOf t).run P w= .ok (aK P t) w:=by
 obtain ⟨i,hi⟩:=Mt h
 simp [sizeOf,typeInfo,hi,aK]
theorem lq {b:Bool} (h:si P t=some b) (w:World):(isAgg t).run P w= .ok b w∧(sizeOf t).run P w= .ok (aK P t) w:=by
 unfold si at h
 split at h
 ·rename_i fs hu
  cases h
  exact ⟨by simp [isAgg,run_underlying hu],pV hu w⟩
 ·rename_i n e hu
  cases h
  exact ⟨by simp [isAgg,run_underlying hu],pV hu w⟩
 ·rename_i d n1 n2 hu
  cases h
  refine ⟨?_,pV hu w⟩
  cases d<;>first | exact absurd rfl (n1 _) | exact absurd rfl (n2 _ _) | simp [isAgg,run_underlying hu]
 ·cases h
theorem uO {fd:Field} (h:vF P t f=some fd): ∃ fs,P.underlying t=some (.struct fs)∧fs[f]?=some fd:=by
 unfold vF at h
 split at h
 ·rename_i fs hu;exact ⟨fs,hu,h⟩
 ·cases h
theorem jg {e:TypeId} (h:qW P t=some e):P.underlying t=some (.slice e):=by
 unfold qW at h
 split at h
 ·cases h;assumption
 ·cases h
theorem vK (h:dQ P env (.fieldAddr t x f) s= .ok v s'):fL P s s' env (.fieldAddr t x f) v:=by
 have mx:x∈(Op.fieldAddr t x f).operands.toList:=by simp [Op.operands]
 simp only [dQ] at h
 split at h
 ·rename_i b off fd hx hf
  split at h
  ·rename_i hz
   rw [dN] at h
   cases h
   obtain ⟨fs,hu,Yu⟩:=uO hf
   have bq:aK P fd.type≠0:=Nat.ne_of_beq_eq_false hz
   refine bD (λD hi=>by have:=hi x mx _ hx;exact this) (λφ w ρ r hr hρ=> ?_)
   have:=hρ x mx _ hx
   obtain ⟨_,_,_,_,_,_⟩:=r
   cases hr
   simp only [execOp,Instr.fieldAt]
   rw [this]
   have hs:=dF bq w
   simp [run_underlying hu,Yu,Jb1,Instr.sureAddr,fieldPlace,hs,bq,Addr.add]
  ·cases h
 ·cases h
theorem kQ {φ:bo} {cs:List AV} {off:Nat} {w:World} {a:AV}
  (h:(match si P t with
   | none=>(.fail []:eO AV)
   | some true=>(match pQ cs off (aK P t) with | some l=> .ok (.agg l) s | none=> .fail [])
   | some false=>(match vG cs off with | some v=> .ok v s | none=> .fail []))= .ok a s'):
  s'=s∧(part t (az φ cs).toArray off).run P w= .ok (Jb1 φ a) w∧ ∀ D,aR D cs->a.aD D:=by
 cases ha:si P t with
 | none=>rw [ha] at h;cases h
 | some b=>
  rw [ha] at h
  obtain ⟨h1,h2⟩:=lq ha w
  cases b
  ·simp only at h
   rw [vJ] at h
   split at h
   ·rename_i u hu
    cases h
    refine ⟨rfl,?_,λD hD=>jf hD hu⟩
    have hg:(az φ cs)[off]?=some (Jb1 φ a):=by rw [eQ,hu];rfl
    simp [part,h1,hg]
   ·cases h
  ·simp only at h
   split at h
   ·rename_i l hl
    cases h
    obtain ⟨h3,h4⟩:=rR _ _ _ _ hl
    refine ⟨rfl,?_,λD hD=> ?_⟩
    ·simp only [part]
     simp [h1,h2,Jb1]
     apply List.ext_getElem?
     intro i
     rw [eQ]
     by_cases hi:i<aK P t
     ·rw [List.getElem?_take_of_lt (by omega),List.getElem?_drop,eQ,h4 i hi]
     ·rw [List.getElem?_eq_none (by simp;omega),List.getElem?_eq_none (by omega)];rfl
    ·unfold AV.aD
     exact g9 hD (λi hi=>h4 i (by omega))
   ·cases h
theorem Gp (h:dQ P env (.field t x f) s= .ok v s'):fL P s s' env (.field t x f) v:=by
 have mx:x∈(Op.field t x f).operands.toList:=by simp [Op.operands]
 simp only [dQ] at h
 split at h
 ·rename_i cs fd hx hf
  obtain ⟨fs,hu,Yu⟩:=uO hf
  have hs:=(kQ (φ:=λ_=>⟨0,0⟩) (w:=default) h).1
  subst hs
  refine bD (λD hi=>(kQ (φ:=λ_=>⟨0,0⟩) (w:=default) h).2.2 D (hi x mx _ hx)) (λφ w ρ r hr hρ=> ?_)
  have:=hρ x mx _ hx
  obtain ⟨_,_,_,_,_,_⟩:=r
  cases hr
  simp only [execOp,Instr.field]
  rw [this]
  simp [run_underlying hu,Yu,Jb1,asAgg,(kQ (φ:=φ) (w:=w) h).2.1]
 ·cases h
theorem sA {i:Int} {len:Nat} {k:Nat->St->eO AV} {a:AV} (h:idx sy i len s k= .ok a s'):
  ∃ s1,bC s s1 (λ_=>False)∧(s1.pre->0<=i∧i<(len:Int))∧k i.toNat s1= .ok a s':=by
 unfold idx at h
 cases sy
 ·simp only at h
  cases i with
  | ofNat n=>
   simp only at h
   split at h
   ·rename_i hb
    have oE:=Nat.le_of_ble_eq_true hb
    refine ⟨s,bC.refl s,λ_=>⟨by simp,?_⟩,h⟩
    show Int.ofNat n<_
    simp;omega
   ·cases h
  | negSucc n=>cases h
 ·simp only at h
  exact ⟨_,bC.lp s _,λhp=>by rw [fK] at hp;exact hp.2,h⟩
theorem eI {v:AV} {k:IntKind} {n:Int} (h:v.num=some (sy,k,n)) (φ:bo):Jb1 φ v= .int k n:=by
 unfold AV.num at h
 split at h<;>first | (cases h;rfl) | cases h
theorem Gq (h:dQ P env (.index t x i) s= .ok v s'):fL P s s' env (.index t x i) v:=by
 have mx:x∈(Op.index t x i).operands.toList:=by simp [Op.operands]
 have mi:i∈(Op.index t x i).operands.toList:=by simp [Op.operands]
 simp only [dQ] at h
 split at h
 ·rename_i cs k n len e hx hi hu
  split at h
  ·rename_i hb
   have oE:=Nat.le_of_ble_eq_true hb
   have hs:=(kQ (φ:=λ_=>⟨0,0⟩) (w:=default) h).1
   subst hs
   refine bD (λD hi=>(kQ (φ:=λ_=>⟨0,0⟩) (w:=default) h).2.2 D (hi x mx _ hx)) (λφ w ρ r hr hρ=> ?_)
   have jx:=hρ x mx _ hx
   have iS:=hρ i mi _ hi
   obtain ⟨_,_,_,_,_,_⟩:=r
   cases hr
   simp only [execOp,Instr.index]
   rw [jx,iS]
   have fy:(sizeOf e).run P w= .ok (aK P e) w:=by
    cases ha:si P e with
    | none=>rw [ha] at h;cases h
    | some b=>exact (lq ha w).2
   have hp:=(kQ (φ:=φ) (w:=w) h).2.1
   have dA:(0:Int)<=Int.ofNat n∧Int.ofNat n<(len:Int):=⟨by simp,by simp;omega⟩
   simp [run_underlying hu,Jb1,asIntOf,fy,hp]
   intro hc;omega
  ·cases h
 ·cases h
theorem vL (h:dQ P env (.indexAddr t x i) s= .ok v s'):fL P s s' env (.indexAddr t x i) v:=by
 have mx:x∈(Op.indexAddr t x i).operands.toList:=by simp [Op.operands]
 have mi:i∈(Op.indexAddr t x i).operands.toList:=by simp [Op.operands]
 simp only [dQ] at h
 split at h
 ·rename_i a j hx hi
  split at h
  ·rename_i sy k n hn
   split at h
   ·rename_i len e b off hu
    split at h
    ·rename_i hz
     have Qx:=Nat.le_of_ble_eq_true hz
     rw [dN] at h
     obtain ⟨s1,hq,aQ,h⟩:=sA h
     cases h
     refine cU _ hq (λD _ hi _=>by have:=hi x mx _ hx;exact this) (λφ w ρ r hr hp _ hρ=> ?_)
     have jx:=hρ x mx _ hx
     have iS:=(hρ i mi _ hi).trans (eI hn φ)
     obtain ⟨h0,h1⟩:=aQ hp
     obtain ⟨_,_,_,_,_,_⟩:=r
     cases hr
     simp only [execOp,Instr.indexAt]
     rw [jx,iS]
     have fy:=dF (P:=P) (t:=e) (by omega) w
     simp [run_underlying hu,Jb1,asIntOf,Instr.sureAddr,fy,h0,h1,Addr.add]
    ·cases h
   ·rename_i e b off len cap hu
    split at h
    ·rename_i hz
     have Qx:=Nat.le_of_ble_eq_true hz
     rw [dN] at h
     obtain ⟨s1,hq,aQ,h⟩:=sA h
     cases h
     refine cU _ hq (λD _ hi _=>by have:=hi x mx _ hx;exact this) (λφ w ρ r hr hp _ hρ=> ?_)
     have jx:=hρ x mx _ hx
     have iS:=(hρ i mi _ hi).trans (eI hn φ)
     obtain ⟨h0,h1⟩:=aQ hp
     obtain ⟨_,_,_,_,_,_⟩:=r
     cases hr
     simp only [execOp,Instr.indexAt]
     rw [jx,iS]
     have fy:=dF (P:=P) (t:=e) (by omega) w
     simp [run_underlying hu,Jb1,asIntOf,fy,h0,h1,Addr.add]
    ·cases h
   ·rename_i e b z k j len iM hu
    split at h
    ·rename_i hz qP hkt
     have Qx:=Nat.le_of_ble_eq_true hz
     have Tx:=Nat.eq_of_beq_eq_true qP
     have Jas:=Nat.le_of_ble_eq_true hkt
     subst Tx
     obtain ⟨s1,hq,aQ,h⟩:=sA h
     cases h
     refine cU _ hq (λD _ hi _=>by have:=hi x mx _ hx;exact this) (λφ w ρ r hr hp _ hρ=> ?_)
     have jx:=hρ x mx _ hx
     have iS:=(hρ i mi _ hi).trans (eI hn φ)
     obtain ⟨h0,h1⟩:=aQ hp
     have hk: ¬ k=iM:=by omega
     obtain ⟨_,_,_,_,_,_⟩:=r
     cases hr
     simp only [execOp,Instr.indexAt]
     rw [jx,iS]
     have fy:=dF (P:=P) (t:=e) (by omega) w
     simp [run_underlying hu,Jb1,asIntOf,fy,h0,h1,Addr.add,hk,Nat.add_mul]
    ·cases h
   ·rename_i e b off len cap hu
    split at h
    ·rename_i hz
     have Qx:=Nat.le_of_ble_eq_true hz
     rw [dN] at h
     obtain ⟨s1,hq,aQ,h⟩:=sA h
     cases h
     refine cU _ hq (λD _ hi _=>by have:=hi x mx _ hx;exact this) (λφ w ρ r hr hp _ hρ=> ?_)
     have jx:=hρ x mx _ hx
     have iS:=(hρ i mi _ hi).trans (eI hn φ)
     obtain ⟨h0,h1⟩:=aQ hp
     obtain ⟨_,_,_,_,_,_⟩:=r
     cases hr
     simp only [execOp,Instr.indexAt]
     rw [jx,iS]
     have fy:=dF (P:=P) (t:=e) (by omega) w
     simp [run_underlying hu,Jb1,asIntOf,fy,h0,h1,Addr.add]
    ·cases h
   ·rename_i e b z k j len iM hu
    split at h
    ·rename_i hz qP
     have Qx:=Nat.le_of_ble_eq_true hz
     have Tx:=Nat.eq_of_beq_eq_true qP
     subst Tx
     obtain ⟨s1,lX,aQ,h⟩:=sA h
     cases h
     have hq:=(bC.lp s (k+len<=iM)).trans lX
     refine cU _ hq (λD _ hi _=>by have:=hi x mx _ hx;exact this) (λφ w ρ r hr hp _ hρ=> ?_)
     have jx:=hρ x mx _ hx
     have iS:=(hρ i mi _ hi).trans (eI hn φ)
     obtain ⟨h0,h1⟩:=aQ hp
     have hkt:k+len<=iM:=by have:=lX.pre hp;rw [fK] at this;exact this.2
     have hk: ¬ k=iM:=by omega
     obtain ⟨_,_,_,_,_,_⟩:=r
     cases hr
     simp only [execOp,Instr.indexAt]
     rw [jx,iS]
     have fy:=dF (P:=P) (t:=e) (by omega) w
     simp [run_underlying hu,Jb1,asIntOf,fy,h0,h1,Addr.add,hk,Nat.add_mul]
    ·cases h
   ·cases h
  ·cases h
 ·cases h
end
end Ev
end Go.Proofs.YtpkfimijnkkbjaaGreat
