/- The given statement on TopKept is proved: whatever the arguments, the call returns true and leaves what was there as it was. Conditions: none but the row's own. (The frame was laid by the kit's proof- -/
import Derived.Test.YtpkfimijnkkbjaaGreatRows
import Derived.ProofKit
import Derived.ShutString
import Derived.ChangeOld
import Derived.Below
import Derived.Test.YtpkfimijnkkbjaaGreatJ28
set_option linter.unusedVariables false
namespace Go.Proofs.YtpkfimijnkkbjaaGreat.topKept
open Go.ChangeShapes Go.WideShapes Go.ChangeAt Go.RowKit
open Go.ChangeMaps (open_string shut_string)
open Go.Proofs.Tryz (prog)
section
variable {W W' w:World} {H:Type} {P:Program} {t:TypeId} {ps:List MemPlace} {base len cap:Nat} {a:Option Addr}
set_option linter.unusedVariables false
theorem own:ownKnob prog.godebug=none:=by kernel_rfl
theorem laidOut:laidOutB prog=true:=by kernel_rfl
def vx (k:IntKind) (w:World) (a:Option Addr) (len cap:Nat) (zs:List Int):Prop:=
 (a=none∧len=0∧cap=0∧zs=[])∨
 ∃ x,a=some x∧len<=cap∧cap<=maxLen∧zs.length=cap∧(∀ i,i<zs.length->w.cell? (x.add i)=some (.int k (zs.getD i 0)))∧ ∀ n∈zs,(Lit.int k n).wf=true
def bW (w w':World):Prop:=(∀ k,k<w.heap.size->w'.heap[k]?=w.heap[k]?)∧w.heap.size<=w'.heap.size∧w'.os=w.os∧w'.output=w.output
theorem bW.frame (h:bW W W') (may:MemPlace->Prop):W.keptBut W' may:=by
 refine ⟨h.2.2.1,h.2.2.2,λi hi=> ?_⟩
 rw [h.1 i hi]
 split<;>simp_all
theorem bW.at (h:bW W W') {p:MemPlace} (hp:p.block<W.heap.size):W.sameAt W' p:=by
 cases p with
 | cell b o=>exact World.cell?_of_block (w:=W) (h.1 b hp)
 | map b=>exact h.1 b hp
theorem bW.trod {enc:TypeId×Value->H} (hl:laidOutB P=true) (hr:P.readableRec t=true) (fI:t<P.types.size) {v:Value} {d:DataW H} 
  (h:DataW.Trod enc P W 0 (λ_=>true) true t v d ps) (hb:bW W W') (dA: ∀ x∈ps,x.block<W.heap.size):
  DataW.Trod enc P W' 0 (λb=>decide (b<W.heap.size)) true t v d ps:=
 WideElems.Trod_stays hl hr fI h (λx hx=>hb.at (dA x hx)) (λx hx=>by simpa using dA x hx)
theorem vy {e:TypeId} (ht:P.underlying t=some (.slice e)) (h:Value.okWide P W .any base t (.slice a len cap)): ∀ x,a=some x->x.spot=none:=by
 rintro x rfl
 simp only [Value.okWide,ht,Cell.okWide,Cell.ok] at h
 exact h.2.2.2.1
theorem OT {zs:List Int} (h:vx .u8 w a len cap zs):
  ∃ l:List Int,l.length=len∧Jb9 .u8 w a l∧ ∀ i,i<l.length->0<=nth l i∧nth l i<=255:=by
 rcases h with ⟨rfl,rfl,rfl,rfl⟩ | ⟨⟨b,off,spot⟩,rfl,hl,hm,hz,hc,hw⟩
 ·exact ⟨[],rfl,.inl rfl,λi hi=>by simp at hi⟩
 ·refine ⟨zs.take len,by rw [List.length_take];omega,?_,?_⟩
  ·by_cases h0:len=0
   ·subst h0;exact .inl (by simp)
   ·have c0:=hc 0 (by omega)
    have V6:spot=none:=by simpa [Addr.add] using World.cell?_spot c0
    subst V6
    refine .inr ⟨b,off,rfl,λi hi=> ?_⟩
    rw [List.length_take] at hi
    have:=hc i (by omega)
    rw [sf] at this
    rw [this]
    simp only [nth]
    rw [List.getD_eq_getElem?_getD,List.getD_eq_getElem?_getD,List.getElem?_take_of_lt (by omega)]
  ·intro i hi
   have F8:=hi
   rw [List.length_take] at F8
   have hm:nth (zs.take len) i∈zs:=List.mem_of_mem_take (CK _ i hi)
   have:=hw _ hm
   simp [Lit.wf,IntKind.min,IntKind.max,IntKind.signed,IntKind.bits] at this
   omega
theorem DV {k:IntKind} {zs l:List Int} (h:vx k w a len cap zs) (hl:l.length=len):a=none->l=[]∧cap=0:=λh0=>by
 rcases h with ⟨_,h1,h2,_⟩ | ⟨x,h1,_⟩
 ·exact ⟨List.length_eq_zero_iff.1 (hl.trans h1),h2⟩
 ·rw [h0] at h1;cases h1
theorem walk (q0 q1 q2:Int) (a1:Option Addr) (FT CF:Nat) (z1:List Int) (a2:Option Addr) (FX FI:Nat) (z2:List Int) (w:World) (w1:vx .u8 w a1 FT CF z1) (w2:vx .i64 w a2 FX FI z2) (nB: ∀ x,a1=some x->x.spot=none) (nK: ∀ x,a2=some x->x.spot=none):
  Calls prog 5 #[.agg #[.int .i64 q0,.int .i64 q1,.int .i64 q2],.slice a1 FT CF,.slice a2 FX FI] w λe w'=>e= .returned (.bool true)∧bW w w':=by
 obtain ⟨zs,CG,hi1,TW⟩:=OT w1
 obtain ⟨pk,Tz,F8,_⟩: ∃ zs:List Int,zs.length=FX∧Jb9 .i64 w a2 zs∧ ∀ i,i<zs.length-> -9223372036854775808<=nth zs i∧nth zs i<=9223372036854775807:=Gj w2
 have n1:=DV w1 CG
 have n2:=DV w2 Tz
 subst CG
 subst Tz
 refine (Qk.FG q0 q1 q2 a1 a2 CF FI zs pk w hi1 F8 n1 n2 nB nK TW).mono ?_
 rintro e w' ⟨h1,h2⟩
 exact ⟨h1,h2⟩
theorem K3 {α:Type} {l:List α} (h:l.length=3): ∃ x y z,l=[x,y,z]:=by
 cases l with
 | nil=>simp at h
 | cons x l=>
  cases l with
  | nil=>simp at h
  | cons y l=>
   cases l with
   | nil=>simp at h
   | cons z l=>
    cases l with
    | nil=>exact ⟨x,y,z,rfl⟩
    | cons u l=>simp at h
set_option maxRecDepth 100000 in
theorem three {enc:TypeId×Value->H} {v:Value} {d:DataW H} (ho:Value.okWide prog W .any base 52 v) (h:DataW.Trod enc prog W 0 (λ_=>true) true 52 v d ps): ∃ a b c:Int,v= .agg #[.int .i64 a,.int .i64 b,.int .i64 c]:=by
 simp only [Value.okWide,Tryz.underlying52] at ho
 obtain ⟨cs,rfl,_,_⟩:=ho
 obtain ⟨rM,hf⟩:=h
 cases rM with
 | zero=>simp [DataW.trod] at hf
 | succ m=>
  have c52:prog.cellsOf 52=3:=by kernel_rfl
  have c3:prog.cellsOf 3=1:=by kernel_rfl
  rw [DataW.trod_step] at hf
  unfold DataW.trodStep at hf
  simp only [Tryz.underlying52,Value.cells] at hf
  split at hf
  ·rename_i hn
   rw [c52] at hn
   obtain ⟨l⟩:=cs
   obtain ⟨x,y,z,rfl⟩:=K3 hn
   ·rw [c3] at hf
    simp only [Option.map_eq_some_iff] at hf
    obtain ⟨ys,hy,_⟩:=hf
    rw [show List.range 3=[0,1,2] from rfl] at hy
    simp only [List.mapM_cons,List.mapM_nil,bind,Option.bind_eq_some_iff,pure,Option.some.injEq] at hy
    obtain ⟨y0,h0,_,⟨y1,h1,_,⟨y2,h2,_⟩,_⟩,_⟩:=hy
    obtain ⟨a,ea,_⟩:=DataW.trod_int Tryz.underlying3 h0
    obtain ⟨b,eb,_⟩:=DataW.trod_int Tryz.underlying3 h1
    obtain ⟨c,ec,_⟩:=DataW.trod_int Tryz.underlying3 h2
    simp at ea eb ec
    exact ⟨a,b,c,by rw [ea,eb,ec]⟩
  ·cases hf
set_option maxRecDepth 100000 in
theorem lifted (os:Os) (started:os.Started) (H:Type) (enc:TypeId×Value->H):
  ReturnsInHanded {} Tryz.checked os 5 .any (Rows.topKeptSpec.pre6 enc prog Tryz.f5 Rows.topKeptRow.domain false) (Rows.topKeptSpec.post enc prog Tryz.f5 false true false false):=by
 refine returnsInHanded_of_change (C:=Tryz.checked) own started (by kernel_rfl) Tryz.func5
  (ChangeSpec.witness6 (enc:=enc) (C:=Tryz.checked) false ⟨#[],#[.agg #[.int .i64 0,.int .i64 0,.int .i64 0],.slice none 0 0,.slice none 0 0],[]⟩ 8 (by kernel_rfl) (by kernel_rfl) (by kernel_rfl) (by kernel_rfl)) ?_
 intro W base args ds gs before Qp hW Jak _
 have eX: ∀ (j:Nat) t v,Tryz.f5.params[j]?=some t->args[j]?=some v->Value.okWide prog W .any base t v:=Qp
 have hW':=hW
 obtain ⟨p,q,hA0,hV,rfl,hfz,hnd⟩:=hW
 have hA:DataW.TrodAll enc prog W 0 (λ_=>true) true Tryz.f5.params.toList args.toList ds p:=hA0
 rw [Tryz.params5] at hA eX
 obtain ⟨v0,Zv,d0,ds0,p0,q0,et,rfl,rfl,h0,r0⟩:=trodAll_cons hA
 obtain ⟨v1,vs1,d1,ds1,p1,q1,rfl,rfl,rfl,h1,r1⟩:=trodAll_cons r0
 obtain ⟨v2,vs2,d2,ds2,p2,q2,rfl,rfl,rfl,h2,r2⟩:=trodAll_cons r1
 obtain ⟨rfl,rfl,rfl⟩:=trodAll_nil r2
 obtain rfl:args= #[v0,v1,v2]:=by cases args;simp_all
 obtain ⟨rfl,rfl⟩:=trodVars_none hV
 have k0:=h0
 have k1:=h1
 have k2:=h2
 have lt0: ∀ x∈p0,x.block<W.heap.size:=by obtain ⟨m,hm⟩:=k0;exact DataW.trod_lt m _ _ _ hm
 have lt1: ∀ x∈p1,x.block<W.heap.size:=by obtain ⟨m,hm⟩:=k1;exact DataW.trod_lt m _ _ _ hm
 have lt2: ∀ x∈p2,x.block<W.heap.size:=by obtain ⟨m,hm⟩:=k2;exact DataW.trod_lt m _ _ _ hm
 obtain ⟨q0,q1,q2,rfl⟩:=three (eX 0 52 v0 rfl rfl) h0
 obtain ⟨a1,FT,CF,rfl⟩:=okWide_slice Tryz.underlying53 (eX 1 53 v1 rfl rfl)
 obtain ⟨a2,FX,FI,rfl⟩:=okWide_slice Tryz.underlying24 (eX 2 24 v2 rfl rfl)
 have xw:=vy Tryz.underlying53 (eX 1 53 _ rfl rfl)
 have Pa:=vy Tryz.underlying24 (eX 2 24 _ rfl rfl)
 obtain ⟨z1,w1⟩: ∃ zs,vx .u8 W a1 FT CF zs:=by
  obtain ⟨rM,hf⟩:=h1
  rcases open_ints Tryz.underlying53 Tryz.underlying5 (by kernel_rfl) hf with ⟨jd,_⟩ | ⟨x,l,c,zs,jd,_,hl,hm,hz,_,gm,ZZ⟩
  ·simp [Value.cells] at jd
   obtain ⟨rfl,rfl,rfl⟩:=jd
   exact ⟨[],.inl ⟨rfl,rfl,rfl,rfl⟩⟩
  ·simp [Value.cells] at jd
   obtain ⟨rfl,rfl,rfl⟩:=jd
   exact ⟨zs,.inr ⟨_,rfl,hl,hm,by simpa using hz,gm,ZZ⟩⟩
 obtain ⟨z2,w2⟩: ∃ zs,vx .i64 W a2 FX FI zs:=by
  obtain ⟨rM,hf⟩:=h2
  rcases open_ints Tryz.underlying24 Tryz.underlying3 (by kernel_rfl) hf with ⟨jd,_⟩ | ⟨x,l,c,zs,jd,_,hl,hm,hz,_,gm,ZZ⟩
  ·simp [Value.cells] at jd
   obtain ⟨rfl,rfl,rfl⟩:=jd
   exact ⟨[],.inl ⟨rfl,rfl,rfl,rfl⟩⟩
  ·simp [Value.cells] at jd
   obtain ⟨rfl,rfl,rfl⟩:=jd
   exact ⟨zs,.inr ⟨_,rfl,hl,hm,by simpa using hz,gm,ZZ⟩⟩
 clear hA0 Qp
 refine (walk q0 q1 q2 a1 FT CF z1 a2 FX FI z2 W w1 w2 xw Pa).mono λe W' ⟨he,Xu⟩=> ?_
 subst he
 exact ⟨_,rfl,_,_,_,[],_,[],hW',trodAll_mk1 (shut_bool Tryz.underlying4 _),(trodAll_cons_mk (bW.trod laidOut (by kernel_rfl) (of_decide_eq_true (by kernel_rfl)) k0 Xu lt0) (trodAll_cons_mk (bW.trod laidOut (by kernel_rfl) (of_decide_eq_true (by kernel_rfl)) k1 Xu lt1) (trodAll_cons_mk (bW.trod laidOut (by kernel_rfl) (of_decide_eq_true (by kernel_rfl)) k2 Xu lt2) trodAll_mk0))),rfl,Xu.frame _,λh=>by cases h⟩
theorem bM:Rows.topKeptRow.holds Tryz.pinned (OpenSpec.ofChange Rows.topKeptSpec):=
 OpenClaim.holds_of_wide 5 Tryz.f5 rfl rfl rfl rfl rfl rfl rfl ⟨rfl,rfl,rfl,rfl,rfl⟩ rfl rfl rfl rfl rfl (by kernel_rfl) Tryz.func5 (by kernel_rfl)
  (of_decide_eq_true (by kernel_rfl)) (by unfold Func.isWrapper;first | (rw [if_pos (by decide +kernel)];kernel_rfl) | (rw [if_neg (by decide +kernel)];exact ⟨rfl,rfl⟩))
  (λos started H enc _=>lifted os started H enc)
theorem proved:Rows.TopKeptSaid:=bM
end
end Go.Proofs.YtpkfimijnkkbjaaGreat.topKept
