/- op.Step as a known call: its shape, and blocks told otherwise. -/
import Derived.Test.YtpkfimijnkkbjaaGreatJ13
set_option linter.unusedVariables false
namespace Go.Proofs.YtpkfimijnkkbjaaGreat
namespace Qk
open Ev Ct
def jA (r r':ak):Prop:=(∀ φ:bo,bW φ φ r r')∧ ∀ D:Nat->Prop,r.aD D->r'.aD D
theorem jA.refl (r:ak):jA r r:=⟨λφ=>bW.refl φ r,λ_ h=>h⟩
inductive eK:List (Nat×ak)->List (Nat×ak)->Prop
 | nil:eK [] []
 | cons {a:Nat} {r r':ak} {l l':List (Nat×ak)}:jA r r'->eK l l'->eK ((a,r)::l) ((a,r')::l')
theorem eK.refl: ∀ l:List (Nat×ak),eK l l
 | []=> .nil
 | (_,r)::l=> .cons (jA.refl r) (eK.refl l)
theorem eK.right {l l':List (Nat×ak)} (h:eK l l'): ∀ y∈l',∃ x∈l,x.1=y.1∧jA x.2 y.2:=by
 induction h with
 | nil=>intro y hy;cases hy
 | @cons a r r' l l' hr _ ih=>
  intro y hy
  rcases List.mem_cons.1 hy with rfl | hy
  ·exact ⟨(a,r),List.mem_cons_self ..,rfl,hr⟩
  ·obtain ⟨x,hx,h⟩:=ih y hy
   exact ⟨x,List.mem_cons_of_mem _ hx,h⟩
theorem eK.left {l l':List (Nat×ak)} (h:eK l l'): ∀ x∈l,∃ y∈l',y.1=x.1:=by
 induction h with
 | nil=>intro y hy;cases hy
 | @cons a r r' l l' hr _ ih=>
  intro y hy
  rcases List.mem_cons.1 hy with rfl | hy
  ·exact ⟨(a,r'),List.mem_cons_self ..,rfl⟩
  ·obtain ⟨x,hx,h⟩:=ih y hy
   exact ⟨x,List.mem_cons_of_mem _ hx,h⟩
theorem EY {P:Program} {f:FuncId} {p:Part} {outs':List (Nat×ak)} (hp:bP P f p) (h:eK p.outs outs'):bP P f { p with outs:=outs' }:=
 u9 hp (λy hy=>by
  obtain ⟨x,hx,h1,h2,h3⟩:=h.right y hy
  exact ⟨x,hx,h1,h2,h3⟩) h.left
def jP (P:cv) (row row':ak) (subs subs':List (Nat×ak)) (ay:Nat->AV) (aA:Int) (inv af marks':Nat->AV) (c c':Nat->Int) (M M':Mm) (v:Bool) (k:Nat) (aN:List (Nat×ak)):Part:=
 { args:=[.ptr 32 0,.ptr 1 0],ins:=(32,row)::(subs++[(12,iq P ay),(1,wW aA inv af),(2,mR P c),(3,Jb5 (aG P M))]),v:= .bool v,outs:=(32,row')::(subs'++([(12,iq P ay),(1,wW aA inv marks'),(2,mR P c'),(3,Jb5 (aG P M'))]++aN)),nx:=96,k:=k }
theorem mz {P:cv} {row row':ak} {subs subs':List (Nat×ak)} {ay:Nat->AV} {aA:Int} {inv af marks':Nat->AV} {c c':Nat->Int} {M M':Mm} {v:Bool} {k:Nat} {aN:List (Nat×ak)}
  (hr: ∀ D:Nat->Prop,row.aD D->(∀ i,96<=i->i<96+k->D i)->row'.aD D) (hs: ∀ D:Nat->Prop,(∀ x∈subs,x.2.aD D)->(∀ i,96<=i->i<96+k->D i)-> ∀ x∈subs',x.2.aD D) (hm:marks'=af∨ ∃ u,3<=k∧marks'=Jb2 af u eV) (hn: ∀ D:Nat->Prop,∀ x∈aN,x.2.aD D):
  ∀ D:Nat->Prop,aR D (jP P row row' subs subs' ay aA inv af marks' c c' M M' v k aN).args->(∀ x∈(jP P row row' subs subs' ay aA inv af marks' c c' M M' v k aN).ins,x.2.aD D)->(∀ i,(jP P row row' subs subs' ay aA inv af marks' c c' M M' v k aN).nx<=i->i<(jP P row row' subs subs' ay aA inv af marks' c c' M M' v k aN).nx+(jP P row row' subs subs' ay aA inv af marks' c c' M M' v k aN).k->D i)->
   (jP P row row' subs subs' ay aA inv af marks' c c' M M' v k aN).v.aD D∧ ∀ x∈(jP P row row' subs subs' ay aA inv af marks' c c' M M' v k aN).outs,x.2.aD D:=by
 intro D _ hi hk
 have h0:=hi (32,row) (by simp [jP])
 have h1:=hi (1,wW aA inv af) (by simp [jP])
 have h2:=hi (2,mR P c) (by simp [jP])
 have js:=hi (12,iq P ay) (by simp [jP])
 simp only [mR,bQ,ak.aD,aR,AV.aD] at h2
 refine ⟨trivial,λx hx=> ?_⟩
 have hx:x∈(32,row')::(subs'++([(12,iq P ay),(1,wW aA inv marks'),(2,mR P c'),(3,Jb5 (aG P M'))]++aN)):=hx
 rcases List.mem_cons.1 hx with rfl | hx
 ·exact hr D h0 hk
 rcases List.mem_append.1 hx with hx | hx
 ·exact hs D (λy hy=>hi y (List.mem_cons_of_mem _ (List.mem_append.2 (.inl hy)))) hk x hx
 rcases List.mem_append.1 hx with hx | hx
 ·simp only [List.mem_cons,List.not_mem_nil,or_false] at hx
  rcases hx with rfl | rfl | rfl | rfl
  ·exact js
  ·rcases hm with rfl | ⟨u,hu,rfl⟩
   ·exact h1
   ·exact Bv h1 (hk 98 (by show 96<=98;omega) (by show 98<96+k;omega))
  ·exact dK h2.1
  ·exact gT
 ·exact hn D x hx
open Go.Proofs.Tryz (prog)
theorem NW {P:cv} {b:Nat} {M:Mm} (hP:PB P) (hb:b<524288) (bi:BI P b M) {t:Nat} {o:Op} (hc:m6 P b t o) (eF:o.st= .tail) (tb:pL P M t o) (j:Nat->Int) (ay:Nat->AV) (aA:Int) (inv af:Nat->AV) (c:Nat->Int):
  ∃ c' row',bP prog 231 (jP P (bp t 64 48 j o) row' [] [] ay aA inv af af c c' M (aj P M t o).1 (aj P M t o).2.2 0 [])∧ ∃ j',row'=bp t 64 48 j' (aj P M t o).2.1:=by
 obtain ⟨n1,n2⟩:=hP.n
 obtain ⟨k1,k2⟩:=hP.k
 have lW: ∃ fn,prog.funcs[231]?=some fn∧fn.body.isSome=true:=⟨_,Tryz.func231,by kernel_rfl⟩
 have nB:1<sz P:=by unfold sz;omega
 obtain ⟨take,v,tries,ref,i,ag,err,val,os⟩:=o
 cases eF
 have ht:take=false:=tb
 subst ht
 have hw:(aG P M)[(0+1:Int).toNat]?=some (.aa .u64 (M.tail:Int)):=by
  have:=cr (P:=P) (M:=M) (a:=1) nB
  rw [mZ] at this;exact this
 have e:aj P M t ⟨false,v,tries,ref,i,ag,err,val,.tail⟩=(M,⟨false,v,tries,ref,i,ag,err,val,.behind M.tail⟩,false):=rfl
 rw [e]
 refine ⟨bw c 0,bp t 64 48 j ⟨false,v,tries,ref,i,ag,err,val,.behind M.tail⟩,cK named mixed dx lW (λ_=>bs (wA Ns P c M aA inv af ay 0 P.n P.k P.att t (j 6) v i tries (j 0) ref (j 1) (j 2) (j 3) (j 4) ag (j 5) err val .au M.tail) ?_ rfl rfl [32,12,1,2,3] rfl rfl rfl) (λ_=>mz (λD h _=> ?_) (λD h _=>h) (.inl rfl) (λD x hx=>by cases hx)),j,rfl⟩
 ·(repeat' apply And.intro);all_goals first | exact True.intro | omega | assumption | rfl
 ·simp only [bp,gR,ak.aD,aR,AV.aD,and_true] at h ⊢
  exact h
section
variable {P:cv} {b t:Nat} {M:Mm} {o:Op}
theorem NX (hP:PB P) (hb:b<524288) (bi:BI P b M) (hc:m6 P b t o) (eF:o.st= .head) (tb:pL P M t o) (j:Nat->Int) (ay:Nat->AV) (aA:Int) (inv af:Nat->AV) (c:Nat->Int):
  ∃ c' row',bP prog 231 (jP P (bp t 64 48 j o) row' [] [] ay aA inv af af c c' M (aj P M t o).1 (aj P M t o).2.2 1 [])∧ ∃ j',row'=bp t 64 48 j' (aj P M t o).2.1:=by
 obtain ⟨n1,n2⟩:=hP.n
 obtain ⟨k1,k2⟩:=hP.k
 have lW: ∃ fn,prog.funcs[231]?=some fn∧fn.body.isSome=true:=⟨_,Tryz.func231,by kernel_rfl⟩
 have nB:1<sz P:=by unfold sz;omega
 obtain ⟨take,v,tries,ref,i,ag,err,val,os⟩:=o
 cases eF
 have ht:take=true:=tb
 subst ht
 have hw:(aG P M)[(0:Int).toNat]?=some (.aa .u64 (M.head:Int)):=by
  have:=cr (P:=P) (M:=M) (a:=0) (by omega)
  rw [rX] at this;exact this
 have e:aj P M t ⟨true,v,tries,ref,i,ag,err,val,.head⟩=(M,⟨true,v,tries,ref,i,ag,err,val,.dX M.head⟩,false):=rfl
 rw [e]
 refine ⟨bw c 0,bp t 64 48 j ⟨true,v,tries,ref,i,ag,err,val,.dX M.head⟩,cK named mixed dx lW (λ_=>bs (wA Ny P c M aA inv af ay 0 P.n P.k P.att t (j 6) v i tries (j 0) ref (j 1) (j 2) (j 3) (j 4) ag (j 5) err val .au M.head) ?_ rfl rfl [32,12,1,2,3] rfl rfl rfl) (λ_=>mz (λD h _=> ?_) (λD h _=>h) (.inl rfl) (λD x hx=>by cases hx)),j,rfl⟩
 ·(repeat' apply And.intro);all_goals first | exact True.intro | omega | assumption | rfl
 ·simp only [bp,gR,ak.aD,aR,AV.aD,and_true] at h ⊢
  exact h
theorem Bx (hP:PB P) (hb:b<524288) (bi:BI P b M) {first:Nat} (hc:m6 P b t o) (eF:o.st= .dX first) (tb:pL P M t o) (j:Nat->Int) (ay:Nat->AV) (aA:Int) (inv af:Nat->AV) (c:Nat->Int):
  ∃ c' row',bP prog 231 (jP P (bp t 64 48 j o) row' [] [] ay aA inv af af c c' M (aj P M t o).1 (aj P M t o).2.2 0 [])∧ ∃ j',row'=bp t 64 48 j' (aj P M t o).2.1:=by
 obtain ⟨n1,n2⟩:=hP.n
 obtain ⟨k1,k2⟩:=hP.k
 have lW: ∃ fn,prog.funcs[231]?=some fn∧fn.body.isSome=true:=⟨_,Tryz.func231,by kernel_rfl⟩
 have nB:1<sz P:=by unfold sz;omega
 obtain ⟨take,v,tries,ref,i,ag,err,val,os⟩:=o
 cases eF
 have ht:take=true:=tb.1
 subst ht
 have hw:(aG P M)[(0+1:Int).toNat]?=some (.aa .u64 (M.tail:Int)):=by
  have:=cr (P:=P) (M:=M) (a:=1) nB
  rw [mZ] at this;exact this
 have e:aj P M t ⟨true,v,tries,ref,i,ag,err,val,.dX first⟩=(M,⟨true,v,tries,ref,i,ag,err,val,.first first M.tail⟩,false):=rfl
 rw [e]
 refine ⟨bw c 0,bp t 64 48 j ⟨true,v,tries,ref,i,ag,err,val,.first first M.tail⟩,cK named mixed dx lW (λ_=>bs (wA Nz P c M aA inv af ay 0 P.n P.k P.att t (j 6) v i tries (j 0) ref first (j 2) (j 3) (j 4) ag (j 5) err val .au M.tail) ?_ rfl rfl [32,12,1,2,3] rfl rfl rfl) (λ_=>mz (λD h _=> ?_) (λD h _=>h) (.inl rfl) (λD x hx=>by cases hx)),j,rfl⟩
 ·(repeat' apply And.intro);all_goals first | exact True.intro | omega | assumption | rfl
 ·simp only [bp,gR,ak.aD,aR,AV.aD,and_true] at h ⊢
  exact h
end
theorem Jc {P:cv} {b:Nat} {M:Mm} (hP:PB P) (hb:b<524288) (bi:BI P b M) {t:Nat} {o:Op} {first last:Nat} (hc:m6 P b t o) (eF:o.st= .first first last) (tb:pL P M t o) (j:Nat->Int) (ay:Nat->AV) (aA:Int) (inv af:Nat->AV) (c:Nat->Int):
  ∃ c' row',bP prog 231 (jP P (bp t 64 48 j o) row' [] [] ay aA inv af af c c' M (aj P M t o).1 (aj P M t o).2.2 0 [])∧ ∃ j',row'=bp t 64 48 j' (aj P M t o).2.1:=by
 obtain ⟨n1,n2⟩:=hP.n
 obtain ⟨k1,k2⟩:=hP.k
 have lW: ∃ fn,prog.funcs[231]?=some fn∧fn.body.isSome=true:=⟨_,Tryz.func231,by kernel_rfl⟩
 obtain ⟨take,v,tries,ref,i,ag,err,val,os⟩:=o
 cases eF
 obtain ⟨ht,ho,hl,Tz⟩:=tb
 have ht:take=true:=ht
 subst ht
 obtain ⟨i1,i2⟩:=gH ho
 have hf:=lT (f:=0) ho (by omega)
 simp only [Int.natCast_zero] at hf
 obtain ⟨g1,g2,g3⟩:=hf
 have hw:(aG P M)[(0+(2+(P.n:Int)+4*((first:Int)%1024-1)+0)).toNat]?=some (.aa .u64 ((st (M.nx (aO first)):Nat):Int)):=by
  rw [g3,cr (fH ho.1 ho.2 (by omega)),ek ho.1 (by omega),if_pos rfl]
 have e:aj P M t ⟨true,v,tries,ref,i,ag,err,val,.first first last⟩=(M,⟨true,v,tries,ref,i,ag,err,val,.Jb6 first last (M.nx (aO first))⟩,false):=rfl
 rw [e]
 refine ⟨bw c 0,bp t 64 48 (λi=>if i=5 then aA else j i) ⟨true,v,tries,ref,i,ag,err,val,.Jb6 first last (M.nx (aO first))⟩,cK named mixed dx lW (λ_=>bs (wA NA P c M aA inv af ay 0 P.n P.k P.att t (j 6) v i tries (j 0) ref first last (j 3) (j 4) ag (j 5) err val .au (st (M.nx (aO first)):Nat)) ?_ rfl rfl [32,12,1,2,3] rfl rfl rfl) (λ_=>mz (λD h _=> ?_) (λD h _=>h) (.inl rfl) (λD x hx=>by cases hx)),_,rfl⟩
 ·(repeat' apply And.intro);all_goals first | exact True.intro | omega | assumption | rfl
 ·simp only [bp,gR,ak.aD,aR,AV.aD,and_true] at h ⊢
  exact h
theorem NY {P:cv} {b:Nat} {M:Mm} (hP:PB P) (hb:b<524288) (bi:BI P b M) {t:Nat} {o:Op} (hc:m6 P b t o) (eF:o.st= .next) (tb:pL P M t o) (j:Nat->Int) (ay:Nat->AV) (aA:Int) (inv af:Nat->AV) (c:Nat->Int):
  ∃ c' row',bP prog 231 (jP P (bp t 64 48 j o) row' [] [] ay aA inv af af c c' M (aj P M t o).1 (aj P M t o).2.2 0 [])∧ ∃ j',row'=bp t 64 48 j' (aj P M t o).2.1:=by
 obtain ⟨n1,n2⟩:=hP.n
 obtain ⟨k1,k2⟩:=hP.k
 have lW: ∃ fn,prog.funcs[231]?=some fn∧fn.body.isSome=true:=⟨_,Tryz.func231,by kernel_rfl⟩
 obtain ⟨take,v,tries,ref,i,ag,err,val,os⟩:=o
 cases eF
 obtain ⟨ht,ho⟩:=tb
 have ht:take=false:=ht
 have hl:ref<1073741824:=hc.ref
 have ho:P.okp ref:=ho
 subst ht
 obtain ⟨i1,i2⟩:=gH ho
 have hf:=lT (f:=0) ho (by omega)
 simp only [Int.natCast_zero] at hf
 obtain ⟨g1,g2,g3⟩:=hf
 have hw:(aG P M)[(0+(2+(P.n:Int)+4*((ref:Int)%1024-1)+0)).toNat]?=some (.aa .u64 ((st (M.nx (aO ref)):Nat):Int)):=by
  rw [g3,cr (fH ho.1 ho.2 (by omega)),ek ho.1 (by omega),if_pos rfl]
 have e:aj P M t ⟨false,v,tries,ref,i,ag,err,val,.next⟩=({ M with nx:=Jb2 M.nx (aO ref) (bH ref,0) },⟨false,v,tries,ref,i,ag,err,val,.ib⟩,false):=rfl
 rw [e]
 have dV:(aG P M).set (0+(2+(P.n:Int)+4*((ref:Int)%1024-1)+0)).toNat (.aa .u64 ((0:Int)+(ref:Int)/1024*1073741824))=aG P { M with nx:=Jb2 M.nx (aO ref) (bH ref,0) }:=by
  rw [g3];exact Br ho.1 ho.2 (by rw [jy];unfold st;omega)
 refine ⟨bw c 1,bp t 64 48 j ⟨false,v,tries,ref,i,ag,err,val,.ib⟩,cK named mixed dx lW (λ_=>bs (wA Np P c M aA inv af ay 0 P.n P.k P.att t (j 6) v i tries (j 0) ref (j 1) (j 2) (j 3) (j 4) ag (j 5) err val .au 0) ?_ rfl (by rw [dV];rfl) [32,12,1,2,3] rfl rfl rfl) (λ_=>mz (λD h _=> ?_) (λD h _=>h) (.inl rfl) (λD x hx=>by cases hx)),_,rfl⟩
 ·(repeat' apply And.intro);all_goals first | exact True.intro | omega | assumption | rfl | exact ⟨_,hw⟩
 ·simp only [bp,gR,ak.aD,aR,AV.aD,and_true] at h ⊢
  exact h
open Go.IntKind (i64 u64)
theorem Jd {P:cv} {b:Nat} {M:Mm} (hP:PB P) (hb:b<524288) (bi:BI P b M) {t:Nat} {o:Op} {mark:Nat} (hc:m6 P b t o) (eF:o.st= .ia mark) (tb:pL P M t o) (j:Nat->Int) (ay:Nat->AV) (aA:Int) (inv af:Nat->AV) (c:Nat->Int):
  ∃ c' row',bP prog 231 (jP P (bp t 64 48 j o) row' [] [] ay aA inv af af c c' M (aj P M t o).1 (aj P M t o).2.2 0 [])∧ ∃ j',row'=bp t 64 48 j' (aj P M t o).2.1:=by
 obtain ⟨n1,n2⟩:=hP.n
 obtain ⟨k1,k2⟩:=hP.k
 have lW: ∃ fn,prog.funcs[231]?=some fn∧fn.body.isSome=true:=⟨_,Tryz.func231,by kernel_rfl⟩
 obtain ⟨take,v,tries,ref,i,ag,err,val,os⟩:=o
 cases eF
 obtain ⟨ht,ho,se,Ay⟩:=tb
 have ht:take=false:=ht
 have hl:ref<1073741824:=hc.ref
 have ho:P.okp ref:=ho
 have se:mark%2=0:=se
 have Ay:bH ref=mark/2+1:=Ay
 have hmb:mark<2097152:=by unfold bH at Ay;omega
 subst ht
 obtain ⟨i1,i2⟩:=gH ho
 have hf:=lT (f:=3) ho (by omega)
 simp only [show ((3:Nat):Int)=3 from rfl] at hf
 obtain ⟨g1,g2,g3⟩:=hf
 have hw:(aG P M)[(0+(2+(P.n:Int)+4*((ref:Int)%1024-1)+3)).toNat]?=some (.aa .u64 ((M.mr (aO ref):Nat):Int)):=by
  rw [g3,cr (fH ho.1 ho.2 (by omega)),ek ho.1 (by omega),if_neg (by omega),if_neg (by omega),if_neg (by omega)]
 have e:aj P M t ⟨false,v,tries,ref,i,ag,err,val,.ia mark⟩=({ M with mr:=Jb2 M.mr (aO ref) (mark+3) },⟨false,v,tries,ref,i,ag,err,val,.value⟩,false):=rfl
 rw [e]
 have AU:(mark:Int)=((2*(bH ref-1):Nat):Int):=by omega
 have dV:(aG P M).set (0+(2+(P.n:Int)+4*((ref:Int)%1024-1)+3)).toNat (.aa .u64 (u64.wrap ((mark:Int)+3)))=aG P { M with mr:=Jb2 M.mr (aO ref) (mark+3) }:=by
  rw [g3];exact HR ho.1 ho.2 (by rw [fm (by omega) (by omega)];omega)
 refine ⟨bw c 1,bp t 64 48 j ⟨false,v,tries,ref,i,ag,err,val,.value⟩,cK named mixed dx lW (λ_=>bs (wA Nn P c M aA inv af ay 0 P.n P.k P.att t (j 6) v i tries (mark:Int) ref (j 1) (j 2) (j 3) (j 4) ag (j 5) err val .au 0) ?_ rfl (by rw [dV,AU];rfl) [32,12,1,2,3] rfl rfl rfl) (λ_=>mz (λD h _=> ?_) (λD h _=>h) (.inl rfl) (λD x hx=>by cases hx)),_,rfl⟩
 ·(repeat' apply And.intro);all_goals first | exact True.intro | omega | assumption | rfl | exact ⟨_,hw⟩
 ·simp only [bp,gR,ak.aD,aR,AV.aD,and_true] at h ⊢
  exact h
theorem Je {P:cv} {b:Nat} {M:Mm} (hP:PB P) (hb:b<524288) (bi:BI P b M) {t:Nat} {o:Op} (hc:m6 P b t o) (eF:o.st= .value) (tb:pL P M t o) (j:Nat->Int) (ay:Nat->AV) (aA:Int) (inv af:Nat->AV) (c:Nat->Int):
  ∃ c' row',bP prog 231 (jP P (bp t 64 48 j o) row' [] [] ay aA inv af af c c' M (aj P M t o).1 (aj P M t o).2.2 0 [])∧ ∃ j',row'=bp t 64 48 j' (aj P M t o).2.1:=by
 obtain ⟨n1,n2⟩:=hP.n
 obtain ⟨k1,k2⟩:=hP.k
 have lW: ∃ fn,prog.funcs[231]?=some fn∧fn.body.isSome=true:=⟨_,Tryz.func231,by kernel_rfl⟩
 obtain ⟨take,v,tries,ref,i,ag,err,val,os⟩:=o
 cases eF
 obtain ⟨ht,ho,TW⟩:=tb
 have ht:take=false:=ht
 have hl:ref<1073741824:=hc.ref
 have ho:P.okp ref:=ho
 have TW:1<=bH ref:=TW
 have hv2:bH ref<1048576:=by unfold bH;omega
 have hvv:v<16777216:=hc.v
 subst ht
 obtain ⟨i1,i2⟩:=gH ho
 have hf:=lT (f:=2) ho (by omega)
 simp only [show ((2:Nat):Int)=2 from rfl] at hf
 obtain ⟨g1,g2,g3⟩:=hf
 have hw:(aG P M)[(0+(2+(P.n:Int)+4*((ref:Int)%1024-1)+2)).toNat]?=some (.aa .u64 ((vt (M.vl (aO ref)):Nat):Int)):=by
  rw [g3,cr (fH ho.1 ho.2 (by omega)),ek ho.1 (by omega),if_neg (by omega),if_neg (by omega),if_pos rfl]
 have e:aj P M t ⟨false,v,tries,ref,i,ag,err,val,.value⟩=({ M with vl:=Jb2 M.vl (aO ref) (bH ref,v) },⟨false,v,tries,ref,i,ag,err,val,.next⟩,false):=rfl
 rw [e]
 have q:u64.wrap (u64.wrap (((2*(bH ref-1):Nat):Int).tdiv 2)+1)=((bH ref:Nat):Int):=by
  rw [Int.tdiv_eq_ediv_of_nonneg (by omega),fm (x:=((2*(bH ref-1):Nat):Int)/2) (by omega) (by omega),fm (by omega) (by omega)];omega
 have q1:(0:Int)<=u64.wrap (u64.wrap (((2*(bH ref-1):Nat):Int).tdiv 2)+1):=by rw [q];omega
 have q2:u64.wrap (u64.wrap (((2*(bH ref-1):Nat):Int).tdiv 2)+1)<1048576:=by rw [q];omega
 have dV:(aG P M).set (0+(2+(P.n:Int)+4*((ref:Int)%1024-1)+2)).toNat (.aa .u64 ((v:Int)+u64.wrap (u64.wrap (((2*(bH ref-1):Nat):Int).tdiv 2)+1)*4294967296))=aG P { M with vl:=Jb2 M.vl (aO ref) (bH ref,v) }:=by
  rw [g3];exact Q7 ho.1 ho.2 (by rw [q];unfold vt;omega)
 refine ⟨bw c 1,bp t 64 48 (λi=>if i=0 then ((2*(bH ref-1):Nat):Int) else j i) ⟨false,v,tries,ref,i,ag,err,val,.next⟩,cK named mixed dx lW (λ_=>bs (wA No P c M aA inv af ay 0 P.n P.k P.att t (j 6) v i tries ((2*(bH ref-1):Nat):Int) ref (j 1) (j 2) (j 3) (j 4) ag (j 5) err val .au 0) ?_ rfl (by rw [dV];rfl) [32,12,1,2,3] rfl rfl rfl) (λ_=>mz (λD h _=> ?_) (λD h _=>h) (.inl rfl) (λD x hx=>by cases hx)),_,rfl⟩
 ·(repeat' apply And.intro);all_goals first | exact True.intro | omega | assumption | rfl | exact ⟨_,hw⟩
 ·simp only [bp,gR,ak.aD,aR,AV.aD,and_true] at h ⊢
  exact h
section
variable {l l' subs' aN:List (Nat×ak)} {P:cv} {M:Mm} {t k a d nx x b:Nat} {row rL x1:ak} {o o':Op} {aA:Int} {inv:Nat->AV} {c c':Nat->Int} {sm:kP} {D:Nat->Prop} {oo:List CL} {pre:Prop} {wr nn:List Nat} {nr:List (Option ak)}
def Rj (P:cv) (a a2:Nat) (outs:List (Nat×ak)):Sb->Prop
 | .fn f=> ∃ j,(a,bk P j f)∈outs
 | .hp take u ph s=>(∃ j,(a,aY P a2 j take u ph s)∈outs)∧ ∀ f bM,s= .sub f bM-> ∃ j,(a2,bk P j f)∈outs
def Sb.single:Sb->Bool
 | .hp _ _ _ (.sub _ _)=>false
 | _=>true
inductive NZ (P:cv) (k:Nat) (s:Sb) (subs' aN:List (Nat×ak)):Nat->Nat->Prop
 | old:Rj P 64 80 subs' s->NZ P k s subs' aN 64 80
 | inner {a2:Nat} {take:Bool} {u ph:Nat} {f:Fn} {bM:Bool} {j j2:Nat->Int}:96<=a2->a2<96+k->s= .hp take u ph (.sub f bM)->subs'=[(64,aY P a2 j take u ph (.sub f bM))]->(a2,bk P j2 f)∈aN->NZ P k s subs' aN 64 a2
 | new {a:Nat}:96<=a->a<96+k->s.single=true->Rj P a 80 aN s->NZ P k s subs' aN a 80
structure vf (P:cv) (t:Nat) (af:Nat->AV) (o:Op) (done:Bool) (row':ak) (marks':Nat->AV) (k:Nat) (subs' aN:List (Nat×ak)):Prop where
 mark:marks'=af∨ ∃ u,u<P.n∧marks'=Jb2 af u eV∧3<=k∧ ∀ x∈aN,(x.1=98∧ ∃ z,x.2=bU z)∨x.1=100
 go:done=false-> ∃ a a2 b j,row'=bp t a b j o∧(o.st= .mark->o.i≠0->b=48∨(b=96∧1<=k))∧((∀ s f,o.st≠ .sub s f)∨ ∃ s f,o.st= .sub s f∧NZ P k s subs' aN a a2)
 fin:done=true-> ∃ pc fo m f l w y wh key,row'=gR t o pc fo m f l w y wh .aX key∧(key= .au∨ ∃ b,key= .slice b 0 1 1)
def eA (P:cv) (t:Nat) (row:ak) (o:Op) (subs:List (Nat×ak)) (M:Mm) (ay:Nat->AV) (aA:Int) (inv af:Nat->AV) (c:Nat->Int):Prop:=
 ∃ c' row' subs' marks' k aN,bP prog 231 (jP P row row' subs subs' ay aA inv af marks' c c' M (aj P M t o).1 (aj P M t o).2.2 k aN)∧
  vf P t af (aj P M t o).2.1 (aj P M t o).2.2 row' marks' k subs' aN∧subs'.map (·.1)=subs.map (·.1)∧k<=6∧ ∀ x∈aN,96<=x.1
theorem eK.append {m m':List (Nat×ak)} (h:eK l l') (h':eK m m'):eK (l++m) (l'++m'):=by
 induction h with
 | nil=>exact h'
 | cons hr _ ih=>exact .cons hr ih
theorem eK.names (h:eK l l') (hl:(l.map (·.1)).all (λn=>Nat.ble 96 n)=true): ∀ x∈l',96<=x.1:=by
 intro y hy
 obtain ⟨x,hx,he,_⟩:=h.right y hy
 rw [<- he]
 exact Nat.le_of_ble_eq_true (List.all_eq_true.1 hl x.1 (List.mem_map.2 ⟨x,hx,rfl⟩))
theorem wo {subs:List (Nat×ak)} {ay:Nat->AV} {af:Nat->AV} (ij:eu prog sm)
  {M':Mm} {done:Bool} {row':ak} {subs1:List (Nat×ak)} {marks':Nat->AV} {news1:List (Nat×ak)} (e:aj P M t o=(M',o',done))
  (hw:rh prog sm 231 (jP P row rL subs subs1 ay aA inv af marks' c c' M M' done k news1))
  (hr: ∀ D:Nat->Prop,row.aD D->(∀ i,96<=i->i<96+k->D i)->rL.aD D) (hs: ∀ D:Nat->Prop,(∀ x∈subs,x.2.aD D)->(∀ i,96<=i->i<96+k->D i)-> ∀ x∈subs1,x.2.aD D) (hm:marks'=af∨ ∃ u,3<=k∧marks'=Jb2 af u eV) (hn: ∀ D:Nat->Prop,∀ x∈news1,x.2.aD D)
  (s1:jA rL row') (s2:eK subs1 subs') (s3:eK news1 aN) (ho:vf P t af o' done row' marks' k subs' aN) (qJ:subs'.map (·.1)=subs.map (·.1)) (hk:k<=6) (xH: ∀ x∈aN,96<=x.1):eA P t row o subs M ay aA inv af c:=by
 have lW: ∃ fn,prog.funcs[231]?=some fn∧fn.body.isSome=true:=⟨_,Tryz.func231,by kernel_rfl⟩
 refine ⟨c',row',subs',marks',k,aN,?_,?_⟩
 ·rw [e]
  exact EY (cK named mixed ij lW (λ_=>hw) (λ_=>mz hr hs hm hn)) (.cons s1 (s2.append ((eK.refl _).append s3)))
 ·rw [e];exact ⟨ho,qJ,hk,xH⟩
theorem By {af:Nat->AV} {j:Nat->Int} (h: ∀ s f,o.st≠ .sub s f) (h':o.st= .mark->o.i=0):vf P t af o false (bp t 64 48 j o) af k subs' aN:=
 ⟨.inl rfl,λ_=>⟨64,80,48,j,rfl,λe n=>absurd (h' e) n,.inl h⟩,λh=>by cases h⟩
theorem Py {P:cv} {r r':ak} (h:jA r r'):eK [(a,r)] [(a,r')]:= .cons h .nil
theorem Df:jA (fT P) (bk P (λ_=>0) (.tl .e)):=⟨λφ=>⟨rfl,rfl,rfl⟩,λD _=>dY⟩
theorem Dg:jA (gf P) (bk P (λ_=>0) (.hd .e)):=⟨λφ=>⟨rfl,rfl,rfl⟩,λD _=>dY⟩
theorem qy:(fT P).aD D:=by simp [fT,fg,ak.aD,aR,AV.aD]
theorem qz:(gf P).aD D:=by simp [gf,fg,ak.aD,aR,AV.aD]
theorem qA {z:Int}:(bU z).aD D:=by simp [bU,ak.aD,aR,AV.aD]
theorem Jb3 {ay:Nat->AV} {af:Nat->AV} 
  (M':Mm:=M) (done:Bool:=false) (ra:Nat:=64) (rb:Nat:=48) (rj:Nat->Int) (row':ak:=bp t ra rb rj o') (marks':Nat->AV:=af) (k:Nat:=0) (news1:List (Nat×ak):=[]) (aN:List (Nat×ak):=[]) (e:aj P M t o=(M',o',done))
  (hv:view (32::12::1::2::3::nn) (aW prog bz d 231 [.ptr 32 0,.ptr 1 0] ⟨mk [(32,row),(12,iq P ay),(1,wW aA inv af),(2,mR P c),(3,Jb5 (aG P M))],96,0,0,True,oo⟩)=some (.bool done,pre,nx,wr,some rL::some (iq P ay)::some (wW aA inv marks')::some (mR P c')::some (Jb5 (aG P M'))::nr))
  (aQ:pre:=by (repeat' apply And.intro);all_goals first | exact True.intro | omega | rfl | assumption | exact ⟨_,hw⟩) (TH:news1.map (·.1)=nn:=by exact rfl) (SV:news1.map (λx=>some x.2)=nr:=by exact rfl) (hc:[32,12,1,2,3].all (λn=>(!wr.contains n||(32::12::1::2::3::nn).contains n)&&Nat.blt n 128)=true:=by exact rfl) (ho:(32::12::1::2::3::nn).all (λn=>[32,12,1,2,3].contains n||(Nat.ble 96 n&&Nat.blt n (96+k)))=true:=by exact rfl)
  (hr: ∀ D:Nat->Prop,row.aD D->(∀ i,96<=i->i<96+k->D i)->rL.aD D:=by intro D h hk;(try simp only [bp,gR,ak.aD,aR,AV.aD,and_true,true_and] at h ⊢);first | exact h | exact h.1 | exact ⟨h.1,h.2⟩ | exact ⟨h,hk 100 (by omega) (by omega)⟩ | exact ⟨h,hk 97 (by omega) (by omega)⟩ | exact ⟨h,hk 99 (by omega) (by omega)⟩ | exact ⟨h,hk 96 (by omega) (by omega)⟩ | exact ⟨h,hk 98 (by omega) (by omega)⟩) (hm:marks'=af∨ ∃ u,3<=k∧marks'=Jb2 af u eV:=by first | exact .inl rfl | exact .inr ⟨_,by omega,rfl⟩) (hn: ∀ D:Nat->Prop,∀ x∈news1,x.2.aD D:=by intro D x hx;first | (cases hx;done) | (simp only [List.mem_cons,List.not_mem_nil,or_false] at hx;(first | subst hx | rcases hx with rfl | rfl)<;>(first | exact qA | exact qy | exact qz | exact dY | simp [ak.aD,aR,AV.aD])))
  (s1:jA rL row':=by first | exact ⟨λφ=>⟨rfl,rfl,rfl⟩,λD h=>h⟩ | exact jA.refl _) (s3:eK news1 aN:=by first | exact .nil | exact eK.refl _ | exact Py (P:=P) (by first | exact Df | exact Dg | exact ⟨λφ=>⟨rfl,rfl,rfl⟩,λD _=>dh (by intro h;cases h)⟩) | exact .cons (jA.refl _) (Py (P:=P) (by first | exact Df | exact Dg | exact ⟨λφ=>⟨rfl,rfl,rfl⟩,λD _=>dh (by intro h;cases h)⟩))) (hout:vf P t af o' done row' marks' k [] aN:=by first | (refine By ?_ ?_;(focus (intro s f h;cases h;done));(focus (intro h;first | rfl | (cases h;done)))) | (refine ⟨?_,?_,?_⟩;(first | exact .inl rfl | (refine .inr ⟨_,?_,rfl,?_,?_⟩;omega;omega;intro x hx;simp only [List.mem_cons,List.not_mem_nil,or_false] at hx;(first | subst hx | rcases hx with rfl | rfl)<;>first | exact .inl ⟨rfl,_,rfl⟩ | exact .inr rfl));(first | (focus (intro h;cases h;done)) | (focus (intro _;apply Exists.intro;apply Exists.intro;apply Exists.intro;apply Exists.intro;refine ⟨rfl,?_,?_⟩;(intro e n;first | exact absurd rfl n | cases e);(first | (refine .inl ?_;focus (intro s f h;cases h;done)) | (refine .inr ⟨_,_,rfl,.new ?_ ?_ rfl ?_⟩;omega;omega;first | exact ⟨_,List.mem_singleton.2 rfl⟩ | exact ⟨_,List.mem_cons_of_mem _ (List.mem_singleton.2 rfl)⟩ | (refine ⟨⟨_,List.mem_singleton.2 rfl⟩,?_⟩;focus (intro f o h;cases h;done)) | (refine ⟨⟨_,List.mem_cons_of_mem _ (List.mem_singleton.2 rfl)⟩,?_⟩;focus (intro f o h;cases h;done))) | (refine .inr ⟨_,_,rfl,.inner ?_ ?_ rfl rfl (List.mem_cons_self ..)⟩;omega;omega) | (refine .inr ⟨_,_,rfl,.inner ?_ ?_ rfl rfl (List.mem_cons_of_mem _ (List.mem_cons_self ..))⟩;omega;omega) | exact .inr ⟨_,_,rfl,.old ⟨_,List.mem_cons_self ..⟩⟩ | (refine .inr ⟨_,_,rfl,.old ⟨⟨_,List.mem_cons_self ..⟩,?_⟩⟩;intro f o h;first | (focus (cases h;done)) | (focus (subst h;cases nK;done)) | (cases h;exact ⟨_,List.mem_cons_of_mem _ (List.mem_cons_self ..)⟩)));all_goals exact 80)));(first | (focus (intro h;cases h;done)) | (intro _;refine ⟨_,_,_,_,_,_,_,_,_,rfl,?_⟩;first | exact .inl rfl | exact .inr ⟨_,rfl⟩)))) (hk:Nat.ble k 6=true:=by exact rfl) (xH:nn.all (λn=>Nat.ble 96 n)=true:=by exact rfl):eA P t row o [] M ay aA inv af c:=by
 subst TH SV
 exact wo dx (c':=c') (subs1:=[]) (subs':=[]) (news1:=news1) e (bs hv aQ (by simp [jP]) (by simp [jP]) [32,12,1,2,3] rfl hc ho) hr (λD h _=>h) hm hn s1 .nil s3 hout rfl (Nat.le_of_ble_eq_true hk) (s3.names xH)
theorem bI {x:ak} {ay:Nat->AV} {af:Nat->AV} (ij:eu prog sm:=by exact ij)
  (M':Mm:=M) (done:Bool:=false) (ra:Nat:=64) (rb:Nat:=48) (rj:Nat->Int) (row':ak:=bp t ra rb rj o') (marks':Nat->AV:=af) (k:Nat:=0) (aN:List (Nat×ak):=[]) (e:aj P M t o=(M',o',done))
  (hv:view (32::64::12::1::2::3::nn) (aW prog sm d 231 [.ptr 32 0,.ptr 1 0] ⟨mk [(32,row),(64,x),(12,iq P ay),(1,wW aA inv af),(2,mR P c),(3,Jb5 (aG P M))],96,0,0,True,oo⟩)=some (.bool done,pre,nx,wr,some rL::some x1::some (iq P ay)::some (wW aA inv marks')::some (mR P c')::some (Jb5 (aG P M'))::nr))
  (aQ:pre:=by (repeat' apply And.intro);all_goals first | exact True.intro | omega | rfl | assumption | exact ⟨_,hw⟩) (TH:aN.map (·.1)=nn:=by exact rfl) (SV:aN.map (λx=>some x.2)=nr:=by exact rfl) (hc:[32,64,12,1,2,3].all (λn=>(!wr.contains n||(32::64::12::1::2::3::nn).contains n)&&Nat.blt n 128)=true:=by exact rfl) (ho:(32::64::12::1::2::3::nn).all (λn=>[32,64,12,1,2,3].contains n||(Nat.ble 96 n&&Nat.blt n (96+k)))=true:=by exact rfl)
  (hr: ∀ D:Nat->Prop,row.aD D->(∀ i,96<=i->i<96+k->D i)->rL.aD D:=by intro D h hk;(try simp only [bp,gR,ak.aD,aR,AV.aD,and_true,true_and] at h ⊢);first | exact h | exact h.1 | exact ⟨h.1,h.2⟩ | exact ⟨h,hk 100 (by omega) (by omega)⟩ | exact ⟨h,hk 97 (by omega) (by omega)⟩ | exact ⟨h,hk 99 (by omega) (by omega)⟩ | exact ⟨h,hk 96 (by omega) (by omega)⟩ | exact ⟨h,hk 98 (by omega) (by omega)⟩) (hx: ∀ D:Nat->Prop,x.aD D->(∀ i,96<=i->i<96+k->D i)->x1.aD D:=by first | exact λD _ hk=>hid.1 D hk | exact λD _ _=>ha D | exact λD _ _=>dY) (hm:marks'=af∨ ∃ u,3<=k∧marks'=Jb2 af u eV:=by first | exact .inl rfl | exact .inr ⟨_,by omega,rfl⟩) (hn: ∀ D:Nat->Prop,∀ x∈aN,x.2.aD D:=by intro D x hx;first | (cases hx;done) | (simp only [List.mem_cons,List.not_mem_nil,or_false] at hx;(first | subst hx | rcases hx with rfl | rfl)<;>(first | exact qA | exact qy | exact qz | exact dY | simp [ak.aD,aR,AV.aD])))
  (s1:jA rL row':=by first | exact ⟨λφ=>⟨rfl,rfl,rfl⟩,λD h=>h⟩ | exact jA.refl _) (hout:vf P t af o' done row' marks' k [(64,x1)] aN:=by first | (refine By ?_ ?_;(focus (intro s f h;cases h;done));(focus (intro h;first | rfl | (cases h;done)))) | (refine ⟨?_,?_,?_⟩;(first | exact .inl rfl | (refine .inr ⟨_,?_,rfl,?_,?_⟩;omega;omega;intro x hx;simp only [List.mem_cons,List.not_mem_nil,or_false] at hx;(first | subst hx | rcases hx with rfl | rfl)<;>first | exact .inl ⟨rfl,_,rfl⟩ | exact .inr rfl));(first | (focus (intro h;cases h;done)) | (focus (intro _;apply Exists.intro;apply Exists.intro;apply Exists.intro;apply Exists.intro;refine ⟨rfl,?_,?_⟩;(intro e n;first | exact absurd rfl n | cases e);(first | (refine .inl ?_;focus (intro s f h;cases h;done)) | (refine .inr ⟨_,_,rfl,.new ?_ ?_ rfl ?_⟩;omega;omega;first | exact ⟨_,List.mem_singleton.2 rfl⟩ | exact ⟨_,List.mem_cons_of_mem _ (List.mem_singleton.2 rfl)⟩ | (refine ⟨⟨_,List.mem_singleton.2 rfl⟩,?_⟩;focus (intro f o h;cases h;done)) | (refine ⟨⟨_,List.mem_cons_of_mem _ (List.mem_singleton.2 rfl)⟩,?_⟩;focus (intro f o h;cases h;done))) | (refine .inr ⟨_,_,rfl,.inner ?_ ?_ rfl rfl (List.mem_cons_self ..)⟩;omega;omega) | (refine .inr ⟨_,_,rfl,.inner ?_ ?_ rfl rfl (List.mem_cons_of_mem _ (List.mem_cons_self ..))⟩;omega;omega) | exact .inr ⟨_,_,rfl,.old ⟨_,List.mem_cons_self ..⟩⟩ | (refine .inr ⟨_,_,rfl,.old ⟨⟨_,List.mem_cons_self ..⟩,?_⟩⟩;intro f o h;first | (focus (cases h;done)) | (focus (subst h;cases nK;done)) | (cases h;exact ⟨_,List.mem_cons_of_mem _ (List.mem_cons_self ..)⟩)));all_goals exact 80)));(first | (focus (intro h;cases h;done)) | (intro _;refine ⟨_,_,_,_,_,_,_,_,_,rfl,?_⟩;first | exact .inl rfl | exact .inr ⟨_,rfl⟩)))) (hk:Nat.ble k 6=true:=by exact rfl) (xH:nn.all (λn=>Nat.ble 96 n)=true:=by exact rfl):eA P t row o [(64,x)] M ay aA inv af c:=by
 subst TH SV
 exact wo ij (c':=c') (subs:=[(64,x)]) (subs1:=[(64,x1)]) (subs':=[(64,x1)]) (news1:=aN) (aN:=aN) e (bs hv aQ (by simp [jP]) (by simp [jP]) [32,64,12,1,2,3] rfl hc ho) hr (λD h hk y hy=>by
  simp only [List.mem_cons,List.not_mem_nil,or_false] at hy
  subst hy;exact hx D (h _ (List.mem_cons_self ..)) hk) hm hn s1 (eK.refl _) (eK.refl _) hout rfl (Nat.le_of_ble_eq_true hk) ((eK.refl _).names xH)
theorem gJ {x z z1:ak} {ay:Nat->AV} {af:Nat->AV} (ij:eu prog sm:=by exact ij)
  (M':Mm:=M) (done:Bool:=false) (ra:Nat:=64) (rb:Nat:=48) (rj:Nat->Int) (row':ak:=bp t ra rb rj o') (marks':Nat->AV:=af) (k:Nat:=0) (aN:List (Nat×ak):=[]) (e:aj P M t o=(M',o',done))
  (hv:view (32::64::80::12::1::2::3::nn) (aW prog sm d 231 [.ptr 32 0,.ptr 1 0] ⟨mk [(32,row),(64,x),(80,z),(12,iq P ay),(1,wW aA inv af),(2,mR P c),(3,Jb5 (aG P M))],96,0,0,True,oo⟩)=some (.bool done,pre,nx,wr,some rL::some x1::some z1::some (iq P ay)::some (wW aA inv marks')::some (mR P c')::some (Jb5 (aG P M'))::nr))
  (aQ:pre:=by (repeat' apply And.intro);all_goals first | exact True.intro | omega | rfl | assumption | exact ⟨_,hw⟩) (TH:aN.map (·.1)=nn:=by exact rfl) (SV:aN.map (λx=>some x.2)=nr:=by exact rfl) (hc:[32,64,80,12,1,2,3].all (λn=>(!wr.contains n||(32::64::80::12::1::2::3::nn).contains n)&&Nat.blt n 128)=true:=by exact rfl) (ho:(32::64::80::12::1::2::3::nn).all (λn=>[32,64,80,12,1,2,3].contains n||(Nat.ble 96 n&&Nat.blt n (96+k)))=true:=by exact rfl)
  (hr: ∀ D:Nat->Prop,row.aD D->(∀ i,96<=i->i<96+k->D i)->rL.aD D:=by intro D h hk;(try simp only [bp,gR,ak.aD,aR,AV.aD,and_true,true_and] at h ⊢);first | exact h | exact h.1 | exact ⟨h.1,h.2⟩ | exact ⟨h,hk 100 (by omega) (by omega)⟩ | exact ⟨h,hk 97 (by omega) (by omega)⟩ | exact ⟨h,hk 99 (by omega) (by omega)⟩ | exact ⟨h,hk 96 (by omega) (by omega)⟩ | exact ⟨h,hk 98 (by omega) (by omega)⟩) (hx: ∀ D:Nat->Prop,x.aD D->x1.aD D:=by exact λD h=>hid.1 D (vc h)) (hz: ∀ D:Nat->Prop,z1.aD D:=by exact λD=>hid.2 D) (hm:marks'=af∨ ∃ u,3<=k∧marks'=Jb2 af u eV:=by first | exact .inl rfl | exact .inr ⟨_,by omega,rfl⟩) (hn: ∀ D:Nat->Prop,∀ x∈aN,x.2.aD D:=by intro D x hx;first | (cases hx;done) | (simp only [List.mem_cons,List.not_mem_nil,or_false] at hx;(first | subst hx | rcases hx with rfl | rfl)<;>(first | exact qA | exact qy | exact qz | exact dY | simp [ak.aD,aR,AV.aD])))
  (s1:jA rL row':=by first | exact ⟨λφ=>⟨rfl,rfl,rfl⟩,λD h=>h⟩ | exact jA.refl _) (hout:vf P t af o' done row' marks' k [(64,x1),(80,z1)] aN:=by first | (refine By ?_ ?_;(focus (intro s f h;cases h;done));(focus (intro h;first | rfl | (cases h;done)))) | (refine ⟨?_,?_,?_⟩;(first | exact .inl rfl | (refine .inr ⟨_,?_,rfl,?_,?_⟩;omega;omega;intro x hx;simp only [List.mem_cons,List.not_mem_nil,or_false] at hx;(first | subst hx | rcases hx with rfl | rfl)<;>first | exact .inl ⟨rfl,_,rfl⟩ | exact .inr rfl));(first | (focus (intro h;cases h;done)) | (focus (intro _;apply Exists.intro;apply Exists.intro;apply Exists.intro;apply Exists.intro;refine ⟨rfl,?_,?_⟩;(intro e n;first | exact absurd rfl n | cases e);(first | (refine .inl ?_;focus (intro s f h;cases h;done)) | (refine .inr ⟨_,_,rfl,.new ?_ ?_ rfl ?_⟩;omega;omega;first | exact ⟨_,List.mem_singleton.2 rfl⟩ | exact ⟨_,List.mem_cons_of_mem _ (List.mem_singleton.2 rfl)⟩ | (refine ⟨⟨_,List.mem_singleton.2 rfl⟩,?_⟩;focus (intro f o h;cases h;done)) | (refine ⟨⟨_,List.mem_cons_of_mem _ (List.mem_singleton.2 rfl)⟩,?_⟩;focus (intro f o h;cases h;done))) | (refine .inr ⟨_,_,rfl,.inner ?_ ?_ rfl rfl (List.mem_cons_self ..)⟩;omega;omega) | (refine .inr ⟨_,_,rfl,.inner ?_ ?_ rfl rfl (List.mem_cons_of_mem _ (List.mem_cons_self ..))⟩;omega;omega) | exact .inr ⟨_,_,rfl,.old ⟨_,List.mem_cons_self ..⟩⟩ | (refine .inr ⟨_,_,rfl,.old ⟨⟨_,List.mem_cons_self ..⟩,?_⟩⟩;intro f o h;first | (focus (cases h;done)) | (focus (subst h;cases nK;done)) | (cases h;exact ⟨_,List.mem_cons_of_mem _ (List.mem_cons_self ..)⟩)));all_goals exact 80)));(first | (focus (intro h;cases h;done)) | (intro _;refine ⟨_,_,_,_,_,_,_,_,_,rfl,?_⟩;first | exact .inl rfl | exact .inr ⟨_,rfl⟩)))) (hk:Nat.ble k 6=true:=by exact rfl) (xH:nn.all (λn=>Nat.ble 96 n)=true:=by exact rfl):eA P t row o [(64,x),(80,z)] M ay aA inv af c:=by
 subst TH SV
 exact wo ij (c':=c') (subs:=[(64,x),(80,z)]) (subs1:=[(64,x1),(80,z1)]) (subs':=[(64,x1),(80,z1)]) (news1:=aN) (aN:=aN) e (bs hv aQ (by simp [jP]) (by simp [jP]) [32,64,80,12,1,2,3] rfl hc ho) hr (λD h hk y hy=>by
  simp only [List.mem_cons,List.not_mem_nil,or_false] at hy
  rcases hy with rfl | rfl
  ·exact hx D (h _ (List.mem_cons_self ..))
  ·exact hz D) hm hn s1 (eK.refl _) (eK.refl _) hout rfl (Nat.le_of_ble_eq_true hk) ((eK.refl _).names xH)
theorem gV {ay:Nat->AV} {af:Nat->AV} (hk:k<=6) (hd:(aj P M t o).2.2=false) (VE: ∀ s f,(aj P M t o).2.1.st≠ .sub s f) (lN:(aj P M t o).2.1.st≠ .mark)
  (h: ∃ c' row',bP prog 231 (jP P row row' [] [] ay aA inv af af c c' M (aj P M t o).1 (aj P M t o).2.2 k [])∧ ∃ j',row'=bp t 64 48 j' (aj P M t o).2.1):eA P t row o [] M ay aA inv af c:=by
 obtain ⟨c',row',hp,j',hr⟩:=h
 exact ⟨c',row',[],af,k,[],hp,⟨.inl rfl,λ_=>⟨64,80,48,j',hr,λh=>absurd h lN,.inl VE⟩,λh=>by rw [hd] at h;cases h⟩,rfl,hk,λx hx=>by cases hx⟩
theorem gg (h:x<1000000):i64.wrap ((x:Int)+1)=((x+1:Nat):Int):=by rw [nH (by omega) (by omega)];omega
theorem XX (h:x<1000000):u64.wrap ((x:Int)+1)=((x+1:Nat):Int):=by rw [fm (by omega) (by omega)];omega
theorem fU:aq .gtr (a:Int) (b:Int)=decide (b<a):=by
 show decide (_>_)=_
 by_cases h:b<a
 ·rw [decide_eq_true h,decide_eq_true (by omega)]
 ·rw [decide_eq_false h,decide_eq_false (by omega)]
theorem iC:aq .eql (a:Int) (b:Int)=decide (a=b):=gx
theorem Dh:aq .neq (a:Int) (b:Int)= !decide (a=b):=by
 show (!(_==_))=_
 rw [gx]
theorem jB:aq .lss (a:Int) (b:Int)=decide (a<b):=by
 show decide (_<_)=_
 by_cases h:a<b
 ·rw [decide_eq_true h,decide_eq_true (by omega)]
 ·rw [decide_eq_false h,decide_eq_false (by omega)]
theorem Pz:aq .leq (a:Int) (b:Int)=decide (a<=b):=by
 show decide (_<=_)=_
 by_cases h:a<=b
 ·rw [decide_eq_true h,decide_eq_true (by omega)]
 ·rw [decide_eq_false h,decide_eq_false (by omega)]
theorem N0 (h:x<18446744073709551616):rE (x:Int):=⟨by omega,by omega⟩
theorem Ul:(a:Int)*(b:Int)=((a*b:Nat):Int):=(Int.natCast_mul a b).symm
end
section
variable {P:cv} {b t last:Nat} {M:Mm} {o:Op}
theorem Jf (hP:PB P) (iN:P.n<=4) (hb:b<524288) (bi:BI P b M) (hc:m6 P b t o) (eF:o.st= .ib) (tb:pL P M t o) (j:Nat->Int) (ay:Nat->AV) (aA:Int) (inv af:Nat->AV) (c:Nat->Int):eA P t (bp t 64 48 j o) o [] M ay aA inv af c:=by
 obtain ⟨n1,n2⟩:=hP.n
 obtain ⟨k1,k2⟩:=hP.k
 obtain ⟨take,v,tries,ref,i,ag,err,val,os⟩:=o
 obtain ⟨ht,hv,lf,nu,eY,hi,eX⟩:=hc
 simp only at ht hv lf nu eY hi eX
 cases eF
 have hT:i64.wrap ((tries:Int)+1)=((tries+1:Nat):Int):=gg (by omega)
 have hI:i64.wrap ((i:Int)+1)=((i+1:Nat):Int):=gg (by omega)
 obtain ⟨hk,ho⟩:=tb
 have hk:take=false:=hk
 have ho:P.okp ref:=ho
 subst hk
 obtain ⟨i1,i2⟩:=gH ho
 have hf:=lT (f:=1) ho (by omega)
 simp only [show ((1:Nat):Int)=1 from rfl] at hf
 obtain ⟨g1,g2,g3⟩:=hf
 have hw:(aG P M)[(0+(2+(P.n:Int)+4*((ref:Int)%1024-1)+1)).toNat]?=some (.aa .u64 ((st (M.tk (aO ref)):Nat):Int)):=by
  rw [g3,cr (fH ho.1 ho.2 (by omega)),ek ho.1 (by omega),if_neg (by omega),if_pos rfl]
 have dV:(aG P M).set (0+(2+(P.n:Int)+4*((ref:Int)%1024-1)+1)).toNat (.aa .u64 ((0:Int)+(ref:Int)/1024*1073741824))=aG P { M with tk:=Jb2 M.tk (aO ref) (bH ref,0) }:=by
  rw [g3];exact qw ho.1 ho.2 (by rw [jy];unfold st;omega)
 by_cases ha:P.att<tries+1
 ·have uC:aq .gtr ((tries+1:Nat):Int) (P.att:Int)=true:=by rw [fU];exact decide_eq_true ha
  have wy:=wA Nq P c M aA inv af ay 0 P.n P.k P.att t (j 6) v i tries (j 0) ref (j 1) (j 2) (j 3) (j 4) ag (j 5) err val .au 0
  rw [hT] at wy
  rw [dV] at wy
  refine Jb3 (M':={ M with tk:=Jb2 M.tk (aO ref) (bH ref,0) }) (o':=⟨false,v,tries+1,ref,0,ag,err,val,.ag⟩) (rj:=j) (c':=bw c 1) (e:=by simp [aj,Op.aH,ha]) (hv:=wy)
 ·have uC:aq .gtr ((tries+1:Nat):Int) (P.att:Int)=false:=by rw [fU];exact decide_eq_false ha
  have wy:=wA Nr P c M aA inv af ay 0 P.n P.k P.att t (j 6) v i tries (j 0) ref (j 1) (j 2) (j 3) (j 4) ag (j 5) err val .au 0
  rw [hT] at wy
  rw [dV] at wy
  refine Jb3 (M':={ M with tk:=Jb2 M.tk (aO ref) (bH ref,0) }) (o':=⟨false,v,tries+1,ref,i,ag,err,val,.tail⟩) (rj:=j) (c':=bw c 1) (e:=by simp [aj,Op.aH,ha]) (hv:=wy)
theorem EZ (hP:PB P) (iN:P.n<=4) (hb:b<524288) (bi:BI P b M) (hc:m6 P b t o) (eF:o.st= .behind last) (tb:pL P M t o) (j:Nat->Int) (ay:Nat->AV) (aA:Int) (inv af:Nat->AV) (c:Nat->Int):eA P t (bp t 64 48 j o) o [] M ay aA inv af c:=by
 obtain ⟨n1,n2⟩:=hP.n
 obtain ⟨k1,k2⟩:=hP.k
 obtain ⟨take,v,tries,ref,i,ag,err,val,os⟩:=o
 obtain ⟨ht,hv,lf,nu,eY,hi,eX⟩:=hc
 simp only at ht hv lf nu eY hi eX
 cases eF
 have hT:i64.wrap ((tries:Int)+1)=((tries+1:Nat):Int):=gg (by omega)
 have hI:i64.wrap ((i:Int)+1)=((i+1:Nat):Int):=gg (by omega)
 obtain ⟨hk,ho,hl⟩:=tb
 have hk:take=false:=hk
 subst hk
 obtain ⟨i1,i2⟩:=gH ho
 have hf:=lT (f:=0) ho (by omega)
 simp only [Int.natCast_zero] at hf
 obtain ⟨g1,g2,g3⟩:=hf
 have hw:(aG P M)[(0+(2+(P.n:Int)+4*((last:Int)%1024-1)+0)).toNat]?=some (.aa .u64 ((st (M.nx (aO last)):Nat):Int)):=by
  rw [g3,cr (fH ho.1 ho.2 (by omega)),ek ho.1 (by omega),if_pos rfl]
 obtain ⟨xk,Ap⟩:=bi.nx (aO last)
 obtain ⟨s1,s2⟩:=Bs Ap
 have hu:rE ((st (M.nx (aO last)):Nat):Int):=N0 (sV Ap xk)
 by_cases hf:(M.nx (aO last)).1=bH last
 ·have Tm:(!((st (M.nx (aO last)):Nat):Int)/1073741824==(last:Int)/1024)=false:=by rw [s1,jy,gx,decide_eq_true hf];rfl
  by_cases hx:(M.nx (aO last)).2=0
  ·have VD:aq .neq (((M.nx (aO last)).2:Nat):Int) ((0:Nat):Int)=false:=by rw [Dh,decide_eq_true hx];rfl
   have ni:((st (M.nx (aO last)):Nat):Int)=((st (bH last,0):Nat):Int):=by unfold st;rw [hf,hx]
   have wy:=wA Nw P c M aA inv af ay 0 P.n P.k P.att t (j 6) v i tries (j 0) ref (j 1) last (j 3) (j 4) ag (j 5) err val .au ((st (M.nx (aO last)):Nat):Int)
   rw [s2] at wy
   refine Jb3 (o':=⟨false,v,tries,ref,i,ag,err,val,.put last⟩) (rj:=λq=>if q=2 then (last:Int) else j q) (c':=bw c 0) (e:=by simp [aj,hf,hx]) (hv:=wy) (s1:=by rw [ni];exact ⟨λφ=>⟨rfl,rfl,rfl⟩,λD h=>h⟩)
  ·have VD:aq .neq (((M.nx (aO last)).2:Nat):Int) ((0:Nat):Int)=true:=by rw [Dh,decide_eq_false hx];rfl
   have wy:=wA Nv P c M aA inv af ay 0 P.n P.k P.att t (j 6) v i tries (j 0) ref (j 1) last (j 3) (j 4) ag (j 5) err val .au ((st (M.nx (aO last)):Nat):Int)
   rw [s2] at wy
   refine Jb3 (o':=⟨false,v,tries,ref,i,ag,err,val,.sub (.fn (.tl .e)) .aH⟩) (ra:=97) (rj:=λq=>if q=7 then 7 else if q=3 then ((st (M.nx (aO last)):Nat):Int) else if q=2 then (last:Int) else j q) (c':=bw c 0) (k:=2) (news1:=[(97,fT P)]) (aN:=[(97,bk P (λ_=>0) (.tl .e))]) (e:=by simp [aj,hf,hx]) (hv:=wy)
 ·have Tm:(!((st (M.nx (aO last)):Nat):Int)/1073741824==(last:Int)/1024)=true:=by rw [s1,jy,gx,decide_eq_false hf];rfl
  by_cases ha:P.att<tries+1
  ·have uC:aq .gtr ((tries+1:Nat):Int) (P.att:Int)=true:=by rw [fU];exact decide_eq_true ha
   have wy:=wA Nt P c M aA inv af ay 0 P.n P.k P.att t (j 6) v i tries (j 0) ref (j 1) last (j 3) (j 4) ag (j 5) err val .au ((st (M.nx (aO last)):Nat):Int)
   rw [hT] at wy
   refine Jb3 (o':=⟨false,v,tries+1,ref,0,ag,err,val,.ag⟩) (rj:=λq=>if q=3 then ((st (M.nx (aO last)):Nat):Int) else if q=2 then (last:Int) else j q) (c':=bw c 0) (e:=by simp [aj,Op.aH,ha,hf]) (hv:=wy)
  ·have uC:aq .gtr ((tries+1:Nat):Int) (P.att:Int)=false:=by rw [fU];exact decide_eq_false ha
   have wy:=wA Nu P c M aA inv af ay 0 P.n P.k P.att t (j 6) v i tries (j 0) ref (j 1) last (j 3) (j 4) ag (j 5) err val .au ((st (M.nx (aO last)):Nat):Int)
   rw [hT] at wy
   refine Jb3 (o':=⟨false,v,tries+1,ref,i,ag,err,val,.tail⟩) (rj:=λq=>if q=3 then ((st (M.nx (aO last)):Nat):Int) else if q=2 then (last:Int) else j q) (c':=bw c 0) (e:=by simp [aj,Op.aH,ha,hf]) (hv:=wy)
theorem Rk (hP:PB P) (iN:P.n<=4) (hb:b<524288) (bi:BI P b M) (hc:m6 P b t o) (eF:o.st= .put last) (tb:pL P M t o) (j:Nat->Int) (ay:Nat->AV) (aA:Int) (inv af:Nat->AV) (c:Nat->Int):eA P t (bp t 64 48 j o) o [] M ay aA inv af c:=by
 obtain ⟨n1,n2⟩:=hP.n
 obtain ⟨k1,k2⟩:=hP.k
 obtain ⟨take,v,tries,ref,i,ag,err,val,os⟩:=o
 obtain ⟨ht,hv,lf,nu,eY,hi,eX⟩:=hc
 simp only at ht hv lf nu eY hi eX
 cases eF
 have hT:i64.wrap ((tries:Int)+1)=((tries+1:Nat):Int):=gg (by omega)
 have hI:i64.wrap ((i:Int)+1)=((i+1:Nat):Int):=gg (by omega)
 obtain ⟨hk,ho,hl⟩:=tb
 have hk:take=false:=hk
 subst hk
 obtain ⟨i1,i2⟩:=gH ho
 have hf:=lT (f:=0) ho (by omega)
 simp only [Int.natCast_zero] at hf
 obtain ⟨g1,g2,g3⟩:=hf
 have hw:(aG P M)[(0+(2+(P.n:Int)+4*((last:Int)%1024-1)+0)).toNat]?=some (.aa .u64 ((st (M.nx (aO last)):Nat):Int)):=by
  rw [g3,cr (fH ho.1 ho.2 (by omega)),ek ho.1 (by omega),if_pos rfl]
 obtain ⟨xk,Ap⟩:=bi.nx (aO last)
 have Ga:bH last<1048576:=by unfold bH;omega
 have lf:ref<1073741824:=lf
 have dV:(aG P M).set (0+(2+(P.n:Int)+4*((last:Int)%1024-1)+0)).toNat (.aa .u64 ((st (bH last,ref):Nat):Int))=aG P { M with nx:=Jb2 M.nx (aO last) (bH last,ref) }:=by
  rw [g3];exact Br ho.1 ho.2 rfl
 by_cases hs:M.nx (aO last)=(bH last,0)
 ·have Zi: ∃ v:Int,(aG P M)[(0+(2+(P.n:Int)+4*((last:Int)%1024-1)+0)).toNat]?=some (.aa .u64 v)∧(v==((st (bH last,0):Nat):Int))=true:=⟨_,hw,by rw [qx Ap (by show (0:Nat)<_;omega)];exact decide_eq_true hs⟩
  have h4:t=0∨t=1∨t=2∨t=3:=by omega
  rcases h4 with rfl | rfl | rfl | rfl
  ·have wy:=wA Ir P c M aA inv af ay 0 P.n P.k P.att (j 6) v i tries (j 0) ref (j 1) last ((st (bH last,0):Nat):Int) (j 4) ag (j 5) err val .au 0
   unfold zx at wy
   rw [zD Ga lf] at wy
   rw [dV] at wy
   refine Jb3 (M':={ M with nx:=Jb2 M.nx (aO last) (bH last,ref) }) (o':=⟨false,v,tries,ref,i,ag,err,val,.sub (.fn (.tl .e)) .fin⟩) (ra:=100) (rj:=λq=>if q=7 then 8 else if q=3 then ((st (bH last,0):Nat):Int) else if q=2 then (last:Int) else j q) (marks':=Jb2 af 0 eV) (c':=bw c 2) (k:=5) (news1:=[(98,bU (i64.wrap ((2:Int)*aA))),(100,fT P)]) (aN:=[(98,bU (i64.wrap ((2:Int)*aA))),(100,bk P (λ_=>0) (.tl .e))]) (e:=by simp [aj,hs]) (hv:=wy)
  ·have wy:=wA Is P c M aA inv af ay 0 P.n P.k P.att (j 6) v i tries (j 0) ref (j 1) last ((st (bH last,0):Nat):Int) (j 4) ag (j 5) err val .au 0
   unfold zx at wy
   rw [zD Ga lf] at wy
   rw [dV] at wy
   refine Jb3 (M':={ M with nx:=Jb2 M.nx (aO last) (bH last,ref) }) (o':=⟨false,v,tries,ref,i,ag,err,val,.sub (.fn (.tl .e)) .fin⟩) (ra:=100) (rj:=λq=>if q=7 then 8 else if q=3 then ((st (bH last,0):Nat):Int) else if q=2 then (last:Int) else j q) (marks':=Jb2 af 1 eV) (c':=bw c 2) (k:=5) (news1:=[(98,bU (i64.wrap ((2:Int)*aA))),(100,fT P)]) (aN:=[(98,bU (i64.wrap ((2:Int)*aA))),(100,bk P (λ_=>0) (.tl .e))]) (e:=by simp [aj,hs]) (hv:=wy)
  ·have wy:=wA It P c M aA inv af ay 0 P.n P.k P.att (j 6) v i tries (j 0) ref (j 1) last ((st (bH last,0):Nat):Int) (j 4) ag (j 5) err val .au 0
   unfold zx at wy
   rw [zD Ga lf] at wy
   rw [dV] at wy
   refine Jb3 (M':={ M with nx:=Jb2 M.nx (aO last) (bH last,ref) }) (o':=⟨false,v,tries,ref,i,ag,err,val,.sub (.fn (.tl .e)) .fin⟩) (ra:=100) (rj:=λq=>if q=7 then 8 else if q=3 then ((st (bH last,0):Nat):Int) else if q=2 then (last:Int) else j q) (marks':=Jb2 af 2 eV) (c':=bw c 2) (k:=5) (news1:=[(98,bU (i64.wrap ((2:Int)*aA))),(100,fT P)]) (aN:=[(98,bU (i64.wrap ((2:Int)*aA))),(100,bk P (λ_=>0) (.tl .e))]) (e:=by simp [aj,hs]) (hv:=wy)
  ·have wy:=wA Iu P c M aA inv af ay 0 P.n P.k P.att (j 6) v i tries (j 0) ref (j 1) last ((st (bH last,0):Nat):Int) (j 4) ag (j 5) err val .au 0
   unfold zx at wy
   rw [zD Ga lf] at wy
   rw [dV] at wy
   refine Jb3 (M':={ M with nx:=Jb2 M.nx (aO last) (bH last,ref) }) (o':=⟨false,v,tries,ref,i,ag,err,val,.sub (.fn (.tl .e)) .fin⟩) (ra:=100) (rj:=λq=>if q=7 then 8 else if q=3 then ((st (bH last,0):Nat):Int) else if q=2 then (last:Int) else j q) (marks':=Jb2 af 3 eV) (c':=bw c 2) (k:=5) (news1:=[(98,bU (i64.wrap ((2:Int)*aA))),(100,fT P)]) (aN:=[(98,bU (i64.wrap ((2:Int)*aA))),(100,bk P (λ_=>0) (.tl .e))]) (e:=by simp [aj,hs]) (hv:=wy)
 ·have Zi: ∃ v:Int,(aG P M)[(0+(2+(P.n:Int)+4*((last:Int)%1024-1)+0)).toNat]?=some (.aa .u64 v)∧(v==((st (bH last,0):Nat):Int))=false:=⟨_,hw,by rw [qx Ap (by show (0:Nat)<_;omega)];exact decide_eq_false hs⟩
  have wy:=wA Nx P c M aA inv af ay 0 P.n P.k P.att t (j 6) v i tries (j 0) ref (j 1) last ((st (bH last,0):Nat):Int) (j 4) ag (j 5) err val .au 0
  refine Jb3 (o':=⟨false,v,tries,ref,i,ag,err,val,.sub (.fn (.tl .e)) .aH⟩) (ra:=97) (rj:=λq=>if q=7 then 8 else if q=3 then ((st (bH last,0):Nat):Int) else if q=2 then (last:Int) else j q) (c':=bw c 2) (k:=2) (news1:=[(97,fT P)]) (aN:=[(97,bk P (λ_=>0) (.tl .e))]) (e:=by simp [aj,hs]) (hv:=wy)
end
section
variable {P:cv} {b t:Nat} {M:Mm} {o:Op}
theorem Jg (hP:PB P) (iN:P.n<=4) (hb:b<524288) (bi:BI P b M) (hc:m6 P b t o) (eF:o.st= .check) (tb:pL P M t o) (j:Nat->Int) (ay:Nat->AV) (aA:Int) (inv af:Nat->AV) (c:Nat->Int):eA P t (bp t 64 48 j o) o [] M ay aA inv af c:=by
 obtain ⟨n1,n2⟩:=hP.n
 obtain ⟨k1,k2⟩:=hP.k
 obtain ⟨take,v,tries,ref,i,ag,err,val,os⟩:=o
 obtain ⟨ht,hv,lf,nu,eY,hi,eX⟩:=hc
 simp only at ht hv lf nu eY hi eX
 cases eF
 have hT:i64.wrap ((tries:Int)+1)=((tries+1:Nat):Int):=gg (by omega)
 have hI:i64.wrap ((i:Int)+1)=((i+1:Nat):Int):=gg (by omega)
 have iS:i<P.n:=tb
 obtain ⟨f1,f2,f3⟩:=sW (P:=P) (u:=i) (by omega)
 have nv:=Jc3 hb bi i
 have dA:=jY nv
 obtain ⟨q1,q2,q3,q4⟩:=Jd1 nv
 have hw:(aG P M)[(0+2+(i:Int)).toNat]?=some (.aa .u64 ((cd (M.ds i):Nat):Int)):=by
  rw [f3,cr (by unfold sz;omega),gA (by omega)]
 by_cases hp:(M.ds i).bN=true
 ·have e1:(((cd (M.ds i):Nat):Int)%2==1)=true:=by rw [q1];exact hp
  cases hd:(M.ds i).take
  ·have e2:(((cd (M.ds i):Nat):Int)/2%2==1)=false:=by rw [q2];exact hd
   cases take
   ·have wy:=wA Ih P c M aA inv af ay 0 P.n P.k P.att t (j 6) v i tries (j 0) ref (j 1) (j 2) (j 3) (j 4) ag (j 5) err val .au ((cd (M.ds i):Nat):Int)
    unfold zt Pu at wy
    rw [q4] at wy
    refine Jb3 (o':=⟨false,v,tries,ref,i,ag,err,val,.sub (.hp false i (M.ds i).ag .look) .cM⟩) (ra:=99) (rj:=λq=>if q=7 then 0 else j q) (c':=bw c 0) (k:=4) (news1:=[(99,(.row false [.aa .i64 0,.aa .i64 (P.n:Nat),.aa .i64 (P.k:Nat),.aa .i64 (i:Nat),.int .i64 0,.aa .u64 (((M.ds i).ag:Nat):Int),.int .u64 0,.int .u64 0,.int .u64 0,.int .u64 0,.int .i64 0,.aX,.bool false] 333 none))]) (aN:=[(99,aY P 80 (λ_=>0) false i (M.ds i).ag .look)]) (e:=by simp [aj,hp,hd]) (hv:=wy)
   ·have wy:=wA Ij P c M aA inv af ay 0 P.n P.k P.att t (j 6) v i tries (j 0) ref (j 1) (j 2) (j 3) (j 4) ag (j 5) err val .au ((cd (M.ds i):Nat):Int)
    unfold zt Pu at wy
    rw [q4] at wy
    refine Jb3 (o':=⟨true,v,tries,ref,i,ag,err,val,.sub (.hp false i (M.ds i).ag .look) .cM⟩) (ra:=99) (rj:=λq=>if q=7 then 0 else j q) (c':=bw c 0) (k:=4) (news1:=[(99,(.row false [.aa .i64 0,.aa .i64 (P.n:Nat),.aa .i64 (P.k:Nat),.aa .i64 (i:Nat),.int .i64 0,.aa .u64 (((M.ds i).ag:Nat):Int),.int .u64 0,.int .u64 0,.int .u64 0,.int .u64 0,.int .i64 0,.aX,.bool false] 333 none))]) (aN:=[(99,aY P 80 (λ_=>0) false i (M.ds i).ag .look)]) (e:=by simp [aj,hp,hd]) (hv:=wy)
  ·have e2:(((cd (M.ds i):Nat):Int)/2%2==1)=true:=by rw [q2];exact hd
   cases take
   ·have wy:=wA Ig P c M aA inv af ay 0 P.n P.k P.att t (j 6) v i tries (j 0) ref (j 1) (j 2) (j 3) (j 4) ag (j 5) err val .au ((cd (M.ds i):Nat):Int)
    unfold zt Pv at wy
    rw [q4] at wy
    refine Jb3 (o':=⟨false,v,tries,ref,i,ag,err,val,.sub (.hp true i (M.ds i).ag .look) .cM⟩) (ra:=99) (rj:=λq=>if q=7 then 0 else j q) (c':=bw c 0) (k:=4) (news1:=[(99,(.row false [.aa .i64 0,.aa .i64 (P.n:Nat),.aa .i64 (P.k:Nat),.aa .i64 (i:Nat),.int .i64 0,.aa .u64 (((M.ds i).ag:Nat):Int),.int .u64 0,.int .u64 0,.int .u64 0,.int .u64 0,.int .i64 0,.aX,.bool false] 331 none))]) (aN:=[(99,aY P 80 (λ_=>0) true i (M.ds i).ag .look)]) (e:=by simp [aj,hp,hd]) (hv:=wy)
   ·have wy:=wA Ii P c M aA inv af ay 0 P.n P.k P.att t (j 6) v i tries (j 0) ref (j 1) (j 2) (j 3) (j 4) ag (j 5) err val .au ((cd (M.ds i):Nat):Int)
    unfold zt Pv at wy
    rw [q4] at wy
    refine Jb3 (o':=⟨true,v,tries,ref,i,ag,err,val,.sub (.hp true i (M.ds i).ag .look) .cM⟩) (ra:=99) (rj:=λq=>if q=7 then 0 else j q) (c':=bw c 0) (k:=4) (news1:=[(99,(.row false [.aa .i64 0,.aa .i64 (P.n:Nat),.aa .i64 (P.k:Nat),.aa .i64 (i:Nat),.int .i64 0,.aa .u64 (((M.ds i).ag:Nat):Int),.int .u64 0,.int .u64 0,.int .u64 0,.int .u64 0,.int .i64 0,.aX,.bool false] 331 none))]) (aN:=[(99,aY P 80 (λ_=>0) true i (M.ds i).ag .look)]) (e:=by simp [aj,hp,hd]) (hv:=wy)
 ·have Gd:(M.ds i).bN=false:=by simpa using hp
  have e1:(((cd (M.ds i):Nat):Int)%2==1)=false:=by rw [q1];exact Gd
  cases take
  ·have wy:=wA Nk P c M aA inv af ay 0 P.n P.k P.att t (j 6) v i tries (j 0) ref (j 1) (j 2) (j 3) (j 4) ag (j 5) err val .au ((cd (M.ds i):Nat):Int)
   refine Jb3 (o':=⟨false,v,tries,ref,0,ag,err,val,.mark⟩) (rj:=j) (c':=bw c 0) (e:=by simp [aj,hp,Op.cM]) (hv:=wy)
  ·by_cases ha:P.att<tries+1
   ·have uC:aq .gtr ((tries+1:Nat):Int) (P.att:Int)=true:=by rw [fU];exact decide_eq_true ha
    have wy:=wA Nl P c M aA inv af ay 0 P.n P.k P.att t (j 6) v i tries (j 0) ref (j 1) (j 2) (j 3) (j 4) ag (j 5) err val .au ((cd (M.ds i):Nat):Int)
    rw [hT] at wy
    refine Jb3 (o':=⟨true,v,tries+1,ref,0,ag,err,val,.ag⟩) (rj:=j) (c':=bw c 0) (e:=by simp [aj,Op.cM,Op.aH,ha,hp]) (hv:=wy)
   ·have uC:aq .gtr ((tries+1:Nat):Int) (P.att:Int)=false:=by rw [fU];exact decide_eq_false ha
    have wy:=wA Nm P c M aA inv af ay 0 P.n P.k P.att t (j 6) v i tries (j 0) ref (j 1) (j 2) (j 3) (j 4) ag (j 5) err val .au ((cd (M.ds i):Nat):Int)
    rw [hT] at wy
    refine Jb3 (o':=⟨true,v,tries+1,ref,i,ag,err,val,.head⟩) (rj:=j) (c':=bw c 0) (e:=by simp [aj,Op.cM,Op.aH,ha,hp]) (hv:=wy)
theorem N1 (hP:PB P) (iN:P.n<=4) (hb:b<524288) (bi:BI P b M) (hc:m6 P b t o) (eF:o.st= .mark) (tb:pL P M t o) (j:Nat->Int) (ay:Nat->AV) (aA:Int) (inv af:Nat->AV) (c:Nat->Int):eA P t (bp t 64 48 j o) o [] M ay aA inv af c:=by
 obtain ⟨n1,n2⟩:=hP.n
 obtain ⟨k1,k2⟩:=hP.k
 obtain ⟨take,v,tries,ref,i,ag,err,val,os⟩:=o
 obtain ⟨ht,hv,lf,nu,eY,hi,eX⟩:=hc
 simp only at ht hv lf nu eY hi eX
 cases eF
 have hT:i64.wrap ((tries:Int)+1)=((tries+1:Nat):Int):=gg (by omega)
 have hI:i64.wrap ((i:Int)+1)=((i+1:Nat):Int):=gg (by omega)
 obtain ⟨hk,XD⟩:=tb
 have hk:take=false:=hk
 have XD:i<P.k:=XD
 subst hk
 have D3:t*P.k+P.k<=P.n*P.k:=by have:=Nat.mul_le_mul_right P.k (show t+1<=P.n by omega);rw [Nat.add_mul,Nat.one_mul] at this;exact this
 have hnk:P.n*P.k<=4*32:=Nat.mul_le_mul iN k2
 have P7:2+t*P.k+i<=1+P.n*P.k:=by omega
 have hA:i64.wrap ((t:Int)*(P.k:Int))=((t*P.k:Nat):Int):=by rw [Ul,nH (by omega) (by omega)]
 have hB:i64.wrap ((2:Int)+((t*P.k:Nat):Int))=((2+t*P.k:Nat):Int):=by rw [nH (by omega) (by omega)];omega
 have hC:i64.wrap (((2+t*P.k:Nat):Int)+(i:Int))=((2+t*P.k+i:Nat):Int):=by rw [nH (by omega) (by omega)];omega
 have hD:i64.wrap ((0:Int)+((2:Int)+(P.n:Int)+(4:Int)*(((2+t*P.k+i:Nat):Int)-(1:Int))+(3:Int)))=((fa P (2+t*P.k+i) 3:Nat):Int):=by
  unfold fa;rw [nH (by omega) (by omega)];omega
 have F2:(P.n:Int)*(P.k:Int)=((P.n*P.k:Nat):Int):=Ul
 have hw:(aG P M)[(((fa P (2+t*P.k+i) 3:Nat):Int)).toNat]?=some (.aa .u64 ((M.mr (2+t*P.k+i):Nat):Int)):=by
  rw [Int.toNat_natCast,cr (fH (by omega) P7 (by omega)),ek (by omega) (by omega),if_neg (by omega),if_neg (by omega),if_neg (by omega)]
 have vz:=fH (P:=P) (p:=2+t*P.k+i) (f:=3) (by omega) P7 (by omega)
 have SW:=bi.mr (2+t*P.k+i)
 have hM:((M.mr (2+t*P.k+i):Nat):Int).tmod 2=((M.mr (2+t*P.k+i)%2:Nat):Int):=by rw [Int.tmod_eq_emod_of_nonneg (by omega)];omega
 have hV:u64.wrap (u64.wrap (((M.mr (2+t*P.k+i):Nat):Int).tdiv 2)+1)=((M.mr (2+t*P.k+i)/2+1:Nat):Int):=by
  rw [Int.tdiv_eq_ediv_of_nonneg (by omega),fm (x:=((M.mr (2+t*P.k+i):Nat):Int)/2) (by omega) (by omega),fm (by omega) (by omega)];omega
 have hR:((2+t*P.k+i:Nat):Int)+((M.mr (2+t*P.k+i)/2+1:Nat):Int)*(1024:Int)=((kU (2+t*P.k+i) (M.mr (2+t*P.k+i)/2+1):Nat):Int):=by unfold kU;omega
 by_cases h0:i=0
 ·have c1:aq .eql (i:Int) (0:Int)=true:=by rw [show (0:Int)=((0:Nat):Int) from rfl,iC];exact decide_eq_true h0
  have er:bp t 64 48 j ⟨false,v,tries,ref,i,ag,err,val,.mark⟩=gR t ⟨false,v,tries,ref,i,ag,err,val,.mark⟩ 1 (j 6) (j 0) (j 1) (j 2) (j 3) (j 4) (j 5) .aX .au:=by simp [bp,h0]
  rw [er]
  by_cases hm:M.mr (2+t*P.k+i)%2=0
  ·have c2:aq .eql ((M.mr (2+t*P.k+i)%2:Nat):Int) (0:Int)=true:=by rw [show (0:Int)=((0:Nat):Int) from rfl,iC];exact decide_eq_true hm
   have wy:=wA Ik P c M aA inv af ay 0 P.n P.k P.att t (j 6) v i tries (j 0) ref (j 1) (j 2) (j 3) (j 4) ag (j 5) err val .au ((M.mr (2+t*P.k+i):Nat):Int)
   rw [hA] at wy
   rw [hB] at wy
   rw [hC] at wy
   rw [hD] at wy
   rw [F2] at wy
   rw [hM] at wy
   rw [hI] at wy
   rw [hV] at wy
   rw [hR] at wy
   refine Jb3 (o':=⟨false,v,tries,kU (2+t*P.k+i) (M.mr (2+t*P.k+i)/2+1),i+1,ag,err,val,.ia (M.mr (2+t*P.k+i))⟩) (rj:=j) (c':=bw c 0) (k:=1) (e:=by simp [aj,hm]) (hv:=wy)
  ·have c2:aq .eql ((M.mr (2+t*P.k+i)%2:Nat):Int) (0:Int)=false:=by rw [show (0:Int)=((0:Nat):Int) from rfl,iC];exact decide_eq_false hm
   by_cases hl:i+1=P.k
   ·have c3:aq .eql ((i+1:Nat):Int) (P.k:Int)=true:=by rw [iC];exact decide_eq_true hl
    have wy:=wA Il P c M aA inv af ay 0 P.n P.k P.att t (j 6) v i tries (j 0) ref (j 1) (j 2) (j 3) (j 4) ag (j 5) err val .au ((M.mr (2+t*P.k+i):Nat):Int)
    unfold zv at wy
    rw [hA] at wy
    rw [hB] at wy
    rw [hC] at wy
    rw [hD] at wy
    rw [F2] at wy
    rw [hM] at wy
    rw [hI] at wy
    refine Jb3 (o':=⟨false,v,tries,ref,i+1,ag,6,val,.mark⟩) (done:=true) (rj:=j) (row':=gR t ⟨false,v,tries,ref,i+1,ag,6,val,.mark⟩ 1 (j 6) ((M.mr (2+t*P.k+i):Nat):Int) (j 1) (j 2) (j 3) (j 4) (j 5) .aX (.slice 96 0 1 1)) (c':=bw c 0) (k:=1) (news1:=[(96,(.row false [.aa .i64 (i64.wrap ((2:Int)*aA))] 3 none))]) (aN:=[(96,(.row false [.aa .i64 (i64.wrap ((2:Int)*aA))] 3 none))]) (e:=by simp [aj,hm,hl]) (hv:=wy)
   ·have c3:aq .eql ((i+1:Nat):Int) (P.k:Int)=false:=by rw [iC];exact decide_eq_false hl
    have wy:=wA Im P c M aA inv af ay 0 P.n P.k P.att t (j 6) v i tries (j 0) ref (j 1) (j 2) (j 3) (j 4) ag (j 5) err val .au ((M.mr (2+t*P.k+i):Nat):Int)
    unfold zv at wy
    rw [hA] at wy
    rw [hB] at wy
    rw [hC] at wy
    rw [hD] at wy
    rw [F2] at wy
    rw [hM] at wy
    rw [hI] at wy
    refine Jb3 (o':=⟨false,v,tries,ref,i+1,ag,err,val,.mark⟩) (rj:=j) (row':=gR t ⟨false,v,tries,ref,i+1,ag,err,val,.mark⟩ 1 (j 6) ((M.mr (2+t*P.k+i):Nat):Int) (j 1) (j 2) (j 3) (j 4) (j 5) .aX (.slice 96 0 1 1)) (c':=bw c 0) (k:=1) (news1:=[(96,(.row false [.aa .i64 (i64.wrap ((2:Int)*aA))] 3 none))]) (aN:=[(96,(.row false [.aa .i64 (i64.wrap ((2:Int)*aA))] 3 none))]) (e:=by simp [aj,hm,hl]) (hv:=wy) (hout:=⟨.inl rfl,λ_=>⟨64,80,96,(λq=>if q=0 then ((M.mr (2+t*P.k+i):Nat):Int) else j q),(by show _=gR t _ 1 _ _ _ _ _ _ _ .aX (if i+1=0 then .au else .slice 96 0 1 1);rw [if_neg (by omega)];simp),(λ_ _=>by first | exact .inl rfl | exact .inr ⟨rfl,by omega⟩),.inl (by intro s f h;cases h)⟩,λh=>by cases h⟩)
 ·have c1:aq .eql (i:Int) (0:Int)=false:=by rw [show (0:Int)=((0:Nat):Int) from rfl,iC];exact decide_eq_false h0
  have er:bp t 64 48 j ⟨false,v,tries,ref,i,ag,err,val,.mark⟩=gR t ⟨false,v,tries,ref,i,ag,err,val,.mark⟩ 1 (j 6) (j 0) (j 1) (j 2) (j 3) (j 4) (j 5) .aX (.slice 48 0 1 1):=by simp [bp,h0]
  rw [er]
  by_cases hm:M.mr (2+t*P.k+i)%2=0
  ·have c2:aq .eql ((M.mr (2+t*P.k+i)%2:Nat):Int) (0:Int)=true:=by rw [show (0:Int)=((0:Nat):Int) from rfl,iC];exact decide_eq_true hm
   have wy:=wA Io P c M aA inv af ay 0 P.n P.k P.att t (j 6) v i tries (j 0) ref (j 1) (j 2) (j 3) (j 4) ag (j 5) err val (.slice 48 0 1 1) ((M.mr (2+t*P.k+i):Nat):Int)
   rw [hA] at wy
   rw [hB] at wy
   rw [hC] at wy
   rw [hD] at wy
   rw [F2] at wy
   rw [hM] at wy
   rw [hI] at wy
   rw [hV] at wy
   rw [hR] at wy
   refine Jb3 (o':=⟨false,v,tries,kU (2+t*P.k+i) (M.mr (2+t*P.k+i)/2+1),i+1,ag,err,val,.ia (M.mr (2+t*P.k+i))⟩) (rj:=j) (c':=bw c 0) (e:=by simp [aj,hm]) (hv:=wy)
  ·have c2:aq .eql ((M.mr (2+t*P.k+i)%2:Nat):Int) (0:Int)=false:=by rw [show (0:Int)=((0:Nat):Int) from rfl,iC];exact decide_eq_false hm
   by_cases hl:i+1=P.k
   ·have c3:aq .eql ((i+1:Nat):Int) (P.k:Int)=true:=by rw [iC];exact decide_eq_true hl
    have wy:=wA Ip P c M aA inv af ay 0 P.n P.k P.att t (j 6) v i tries (j 0) ref (j 1) (j 2) (j 3) (j 4) ag (j 5) err val (.slice 48 0 1 1) ((M.mr (2+t*P.k+i):Nat):Int)
    rw [hA] at wy
    rw [hB] at wy
    rw [hC] at wy
    rw [hD] at wy
    rw [F2] at wy
    rw [hM] at wy
    rw [hI] at wy
    refine Jb3 (o':=⟨false,v,tries,ref,i+1,ag,6,val,.mark⟩) (done:=true) (rj:=j) (row':=gR t ⟨false,v,tries,ref,i+1,ag,6,val,.mark⟩ 1 (j 6) ((M.mr (2+t*P.k+i):Nat):Int) (j 1) (j 2) (j 3) (j 4) (j 5) .aX (.slice 48 0 1 1)) (c':=bw c 0) (e:=by simp [aj,hm,hl]) (hv:=wy)
   ·have c3:aq .eql ((i+1:Nat):Int) (P.k:Int)=false:=by rw [iC];exact decide_eq_false hl
    have wy:=wA Iq P c M aA inv af ay 0 P.n P.k P.att t (j 6) v i tries (j 0) ref (j 1) (j 2) (j 3) (j 4) ag (j 5) err val (.slice 48 0 1 1) ((M.mr (2+t*P.k+i):Nat):Int)
    rw [hA] at wy
    rw [hB] at wy
    rw [hC] at wy
    rw [hD] at wy
    rw [F2] at wy
    rw [hM] at wy
    rw [hI] at wy
    refine Jb3 (o':=⟨false,v,tries,ref,i+1,ag,err,val,.mark⟩) (rj:=j) (row':=gR t ⟨false,v,tries,ref,i+1,ag,err,val,.mark⟩ 1 (j 6) ((M.mr (2+t*P.k+i):Nat):Int) (j 1) (j 2) (j 3) (j 4) (j 5) .aX (.slice 48 0 1 1)) (c':=bw c 0) (e:=by simp [aj,hm,hl]) (hv:=wy) (hout:=⟨.inl rfl,λ_=>⟨64,80,48,(λq=>if q=0 then ((M.mr (2+t*P.k+i):Nat):Int) else j q),(by show _=gR t _ 1 _ _ _ _ _ _ _ .aX (if i+1=0 then .au else .slice 48 0 1 1);rw [if_neg (by omega)];simp),(λ_ _=>by first | exact .inl rfl | exact .inr ⟨rfl,by omega⟩),.inl (by intro s f h;cases h)⟩,λh=>by cases h⟩)
end
end Qk
end Go.Proofs.YtpkfimijnkkbjaaGreat
