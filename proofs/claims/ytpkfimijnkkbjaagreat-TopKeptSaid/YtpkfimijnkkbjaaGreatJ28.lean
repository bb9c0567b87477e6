/- TopKept's play, and what is seen of it. -/
import Derived.Test.YtpkfimijnkkbjaaGreatJ27
set_option linter.unusedVariables false
namespace Go.Proofs.YtpkfimijnkkbjaaGreat
namespace Qk
open Ev Ct
open Go.Proofs.Tryz (prog)
section
variable {κ:Ev.dE}
def tM (φ:bo) (i:Nat) (v:AV):AV:=if i%8=1∨i%8=6∨i%8=7 then .cQ (Jb1 φ v) else v
def Cn (φ:bo) (l:List AV):List AV:=l.mapIdx (tM φ)
theorem tN (φ:bo) (l:List AV) (i:Nat):(Cn φ l)[i]?=(l[i]?).map (tM φ i):=by
 unfold Cn;rw [List.getElem?_mapIdx]
theorem FE {φ:bo} {l:List AV} (h: ∀ v∈l,v.flat=true):az φ (Cn φ l)=az φ l:=by
 rw [dq,dq]
 refine List.ext_getElem? λi=> ?_
 rw [List.getElem?_map,List.getElem?_map,tN]
 cases hv:l[i]? with
 | none=>rfl
 | some v=>
  show some (Jb1 φ (tM φ i v))=some (Jb1 φ v)
  unfold tM
  split
  ·have hf:iP [v]=true:=by simp only [iP,h v (List.mem_of_getElem? hv)]
   have:=pS (φ:=φ) hf (Jb1 φ v) (by simp [az])
   simp only [Jb1]
   rw [if_pos this]
  ·rfl
theorem FF {φ:bo} {l:List AV} (h: ∀ v∈l,v.aD (λ_=>False)):aR (λ_=>False) (Cn φ l):=by
 rw [cS]
 intro v hv
 obtain ⟨i,hi⟩:=List.mem_iff_getElem?.1 hv
 rw [tN] at hi
 cases hu:l[i]? with
 | none=>rw [hu] at hi;cases hi
 | some u=>
  rw [hu] at hi
  have hi:some (tM φ i u)=some v:=hi
  obtain rfl:=Option.some.inj hi
  unfold tM
  split
  ·trivial
  ·exact h u (List.mem_of_getElem? hu)
theorem Sr {K:KC} {s:Qs} {j:Jq} {k:Nat} {φ:bo} (hj:kY K s j k) (fj: ∀ i,i<j.evl->(j.own i).2<s.pos (j.own i).1):vw K s j (Cn φ j.evs):=by
 refine ⟨λi hi=> ?_⟩
 have hE:=hj.evs
 obtain ⟨r,stp,err,val,c0,c2,c3,c4,c5,c6⟩:=hE.ev i hi
 obtain ⟨h1,rfl,rfl⟩:=c6 (fj i hi)
 have dP:=hE.len
 have xp: ∀ q,q<8-> ∃ v,j.evs[8*i+q]?=some v:=λq hq=>⟨_,List.getElem?_eq_getElem (by omega)⟩
 obtain ⟨v1,TW⟩:=xp 1 (by omega)
 obtain ⟨v6,Zq⟩:=xp 6 (by omega)
 obtain ⟨v7,hv7⟩:=xp 7 (by omega)
 refine ⟨r,stp,Jb1 φ v1,Jb1 φ v6,Jb1 φ v7,h1,λq hq=> ?_⟩
 rw [tN,show (0+(i:Int).toNat)*8+q=8*i+q by simp;omega]
 have hm:(8*i+q)%8=q:=by omega
 have hq':q=0∨q=1∨q=2∨q=3∨q=4∨q=5∨q=6∨q=7:=by omega
 unfold tM
 rw [hm]
 rcases hq' with rfl | rfl | rfl | rfl | rfl | rfl | rfl | rfl
 ·rw [Nat.add_zero,c0];rfl
 ·rw [TW];rfl
 ·rw [c2];rfl
 ·rw [c3];rfl
 ·rw [c4];rfl
 ·rw [c5];rfl
 ·rw [Zq];rfl
 ·rw [hv7];rfl
section
variable {P:cv} {zs ps:List Int}
theorem t11 (hP:2<=P.n∧P.n<=4) (hk:1<=P.k∧P.k<=32) (ha:P.att<=3) (hz:zs.length<=16) (bq:ps≠[]) (vD:ps.length<=65536) (hK:Kept P (KK P zs).nc (KK P zs).V (KK P zs).kd zs.length (iA.lJ (KK P zs) ps))
  {φ:bo} {a:Act} {w:World} (bf:At κ (H5 P (KK P zs).cs (ku ps) (fi ps)) 299 96 [(7,.ptr 14 0),(9,.aa .i64 zs.length)] φ w a):(aT 10 aB).wp prog (B5 κ) a w:=by
 have AQ:2<=P.n:=hP.1
 have hN:LX (KK P zs):=⟨⟨⟨by show 1<=P.n;omega,by show P.n<=16;omega⟩,hk⟩,hP.2,λt p=>(Ac (P:=P) (zs:=zs) AQ (by omega)).lt t p⟩
 have ks:(KK P zs).cs.length=2*zs.length+1:=iJ
 have qT:(KK P zs).cs≠[]:=λe=>by rw [e] at ks;simp at ks
 have jd: ∀ c∈(KK P zs).cs,c.1<P.n:=λc hc=>by
  obtain ⟨i,hi⟩:=List.mem_iff_getElem?.1 hc
  exact (nh AQ hi).1
 have bn:=eL (P:=P) (cs:=(KK P zs).cs) (pv:=ku ps) (own:=fi ps) (ng (by omega)) ig
 have tZ:ku ps= .ae 13 1 0 0 ps.length ps.length:=if_neg bq
 have ZL:AL (KK P zs).cs= .ae 7 6 0 0 (KK P zs).cs.length (KK P zs).cs.length:=if_neg qT
 have fJ:H5 P (KK P zs).cs (ku ps) (fi ps) 14=some (.row false [.aa .i64 (P.n:Nat),.slice 1 0 1 1,.ae 7 6 0 0 (KK P zs).cs.length (KK P zs).cs.length,.ae 13 1 0 0 ps.length ps.length] 26 none):=by
  show some (db P _ _)=_
  unfold db
  rw [ZL,tZ]
 have nO:H5 P (KK P zs).cs (ku ps) (fi ps) 13=some (mJ ps):=by
  show fi ps=_
  unfold fi;rw [if_neg bq]
 refine fh (a:=P5 10 aB) (b:=aT 11 aB) (by kernel_rfl) ?_
 obtain ⟨cH,s1,de,bt,cb,Jb8,cG,_⟩:=cV (FC (P.n:Int) zs.length (KK P zs).cs.length ps.length)
 have eg:s1.pre:=by rw [cb];exact True.intro
 refine jI named (sound named mixed bL 60) Cl.1 Cl.2 de bf (dC bn (ab fJ aC)) eg (λφ2 w2 a2 Gg eM=> ?_)
 have VK:(AV.agg (pz P.n (KK P zs).cs.length ps.length)).aD (· < 96):=by unfold AV.aD;exact ⟨trivial,by show 1<96;omega,by show 7<96;omega,by show 13<96;omega,trivial⟩
 have kj:At κ (H5 P (KK P zs).cs (ku ps) (fi ps)) 299 96 [(7,.ptr 14 0),(9,.aa .i64 zs.length),(188,.agg (pz P.n (KK P zs).cs.length ps.length))] φ2 w2 a2:=by
  refine eM.Jb4 (eM.fit.bB (bV (λc o h=>(bn c o h).1) cG)) bn ?_
  exact ab ⟨_,ai bt 0 rfl rfl,rfl,by show 14<96;omega⟩<|ab ⟨_,ai bt 1 rfl rfl,rfl,trivial⟩<|ab ⟨_,ai bt 2 rfl rfl,rfl,VK⟩ aC
 let O:Nat->Option ak:=λb=>if b=13 then some (mJ ps) else if b=14 then some (.row false [.aa .i64 (P.n:Nat),.cQ (Jb1 φ2 (.slice 1 0 1 1)),.cQ (Jb1 φ2 (.ae 7 6 0 0 (KK P zs).cs.length (KK P zs).cs.length)),.cQ (Jb1 φ2 (.ae 13 1 0 0 ps.length ps.length))] 26 none) else none
 have Lq: ∀ b o,O b=some o->o.aD λ_=>False:=λb o h=>by
  have h':(if b=13 then some (mJ ps) else if b=14 then some (.row false [.aa .i64 (P.n:Nat),.cQ (Jb1 φ2 (.slice 1 0 1 1)),.cQ (Jb1 φ2 (.ae 7 6 0 0 (KK P zs).cs.length (KK P zs).cs.length)),.cQ (Jb1 φ2 (.ae 13 1 0 0 ps.length ps.length))] 26 none) else none)=some o:=h
  split at h'
  ·obtain rfl:=Option.some.inj h';exact jT ps
  split at h'
  ·obtain rfl:=Option.some.inj h';exact ⟨trivial,trivial,trivial,trivial,trivial⟩
  ·cases h'
 have Ts:cz κ (lI (KK P zs) O) φ2 w2:=by
  refine kj.fit.iQ (H':=lI (KK P zs) O) (λb=>b) (λb c x y _ _ h=>h) (λb o' hb=> ?_)
  rcases vq hb with ⟨rfl,rfl⟩ | ⟨rfl,rfl⟩ | ⟨oE,h⟩
  ·exact ⟨_,rfl,rfl,rfl,rfl⟩
  ·refine ⟨.row true ((KK P zs).cs.flatMap bj) 42 (some 6),?_,bl (cE _)⟩
   unfold H5
   rw [if_neg (by omega),if_pos rfl,if_neg qT]
  ·have h':(if b=13 then some (mJ ps) else if b=14 then some (ak.row false [.aa .i64 (P.n:Nat),.cQ (Jb1 φ2 (.slice 1 0 1 1)),.cQ (Jb1 φ2 (.ae 7 6 0 0 (KK P zs).cs.length (KK P zs).cs.length)),.cQ (Jb1 φ2 (.ae 13 1 0 0 ps.length ps.length))] 26 none) else none)=some o':=h
   split at h'
   ·rename_i e;subst e
    obtain rfl:=Option.some.inj h'
    exact ⟨_,nO,bl (jT ps)⟩
   split at h'
   ·rename_i e;subst e
    obtain rfl:=Option.some.inj h'
    exact ⟨_,fJ,rfl,rfl,rfl⟩
   ·cases h'
 rw [fC 1 6,wpOps_cons]
 obtain ⟨r,kO,kz,CA,CC⟩:=Sm
 have qM: ∀ u,u<P.n->(iA.lJ (KK P zs) ps).cur u=none:=hK.cur
 refine gz named Vf kO kz CA (avs:=[.agg (pz P.n (KK P zs).cs.length ps.length)]) rfl kj (Va (K:=KK P zs) (O:=O) hN ha jd (by omega) vD rfl rfl rfl Lq qM Ts) ?_
 rintro e w3 ⟨φ3,j,rfl,hj,nN,xz⟩
 have uD:=Sj hP (by omega) hK hj
 have dP:=uD.len
 have oB:j.evl≠0:=by omega
 have hEv:ju j= .ae 8 8 0 0 j.evl j.evl:=if_neg oB
 have hE:=hj.evs
 let h:Hp:=⟨P.n,(KK P zs).cs,Jb1 φ2 (.slice 1 0 1 1),Jb1 φ2 (.ae 13 1 0 0 ps.length ps.length),[.ae 8 8 0 0 j.evl j.evl,.ae 20 1 0 0 (sz P) (sz P),.aa .i64 (j.c 0),.aa .i64 (j.c 1),.aa .i64 (j.c 2),.aa .i64 (j.c 3),.aa .i64 (j.c 4),.aa .i64 j.aA,.aa .i64 j.idle],Cn φ3 j.evs⟩
 have he:aR (λ_=>False) h.evs:=FF λv hv=>(hE.all v hv).2
 have fI:vw (KK P zs) (iA.lJ (KK P zs) ps) j h.evs:=Sr hj λi hi=>(uD.at_ i hi).2.2
 let Hm:Nat->Option ak:=λb=>if b=7∨b=8∨b=14 then DS h b else none
 have Ao: ∀ b o,Hm b=some o->(b=7∧o= .row true ((KK P zs).cs.flatMap bj) 42 (some 6))∨(b=8∧o= .row true (Cn φ3 j.evs) 48 (some 8))∨(b=14∧o=Cm h):=λb o hb=>by
  have oE:(if b=7∨b=8∨b=14 then DS h b else none)=some o:=hb
  split at oE
  ·rename_i hh
   rcases hh with rfl | rfl | rfl
   ·exact .inl ⟨rfl,(Option.some.inj oE).symm⟩
   ·exact .inr (.inl ⟨rfl,(Option.some.inj oE).symm⟩)
   ·exact .inr (.inr ⟨rfl,(Option.some.inj oE).symm⟩)
  ·cases oE
 have VR: ∀ c o,Hm c=some o->c<96∧o.aD (· < 96):=λc o hc=>by
  rcases Ao c o hc with ⟨rfl,rfl⟩ | ⟨rfl,rfl⟩ | ⟨rfl,rfl⟩
  ·exact ⟨by omega,bJ (cE _)⟩
  ·exact ⟨by omega,aR.mono (λ_ h=>h.elim) he⟩
  ·exact ⟨by omega,trivial,trivial,by show 7<96;omega,trivial,trivial⟩
 have Wx:cz κ Hm φ3 w3:=by
  refine nN.iQ (H':=Hm) (λb=>b) (λb c x y _ _ h=>h) (λb o' hb=> ?_)
  rcases Ao b o' hb with ⟨rfl,rfl⟩ | ⟨rfl,rfl⟩ | ⟨rfl,rfl⟩
  ·exact ⟨.row true (KK P zs).calls 42 (some 6),rfl,bl (cE _)⟩
  ·refine ⟨.row true j.evs 48 (some 8),?_,(FE λv hv=>(hE.all v hv).1).symm,rfl,rfl⟩
   unfold tC
   rw [if_neg (by omega),if_pos rfl,if_neg oB]
  ·refine ⟨.row false [.aa .i64 (P.n:Nat),.cQ (Jb1 φ2 (.slice 1 0 1 1)),.cQ (Jb1 φ2 (.ae 7 6 0 0 (KK P zs).cs.length (KK P zs).cs.length)),.cQ (Jb1 φ2 (.ae 13 1 0 0 ps.length ps.length))] 26 none,rfl,?_,rfl,rfl⟩
   have e7:Jb1 φ3 (.cQ (Jb1 φ2 (.ae 7 6 0 0 (KK P zs).cs.length (KK P zs).cs.length)))=Jb1 φ3 (.ae 7 6 0 0 (KK P zs).cs.length (KK P zs).cs.length):=by
    have:Jb1 φ2 (.ae 7 6 0 0 (KK P zs).cs.length (KK P zs).cs.length)=Jb1 φ3 (.ae 7 6 0 0 (KK P zs).cs.length (KK P zs).cs.length):=cI (xz 7 (.inl rfl)).symm
    rw [this];rfl
   simp only [az]
   rw [e7]
 have TF:(uy (KK P zs) j).aD (· < 96):=by
  unfold uy
  rw [hEv]
  unfold AV.aD
  exact ⟨by show 8<96;omega,by show 20<96;omega,trivial,trivial,trivial,trivial,trivial,trivial,trivial,trivial⟩
 refine ⟨φ3,Hm,96,.eT [uy (KK P zs) j,.int .i64 0],[(7,.ptr 14 0),(9,.aa .i64 zs.length)],_,rfl,Nat.le_refl _,(λt u hu=> ?_),Wx,VR,(by unfold AV.aD;exact ⟨TF,trivial,trivial⟩),by rw [CC];rfl,λa4 ja=> ?_⟩
 ·have hm:=gh hu
  simp only [List.mem_cons,List.not_mem_nil,or_false,Prod.mk.injEq] at hm
  rcases hm with ⟨rfl,rfl⟩ | ⟨rfl,rfl⟩
  ·exact ⟨rfl,by simp only [Jb1,xz 14 (.inr ⟨by omega,by omega⟩)]⟩
  ·exact ⟨rfl,rfl⟩
 obtain ⟨CH,s5,oC,gK,kp,Cx,lZ,tW⟩:=cV (Ck zs.length j.evl (sz P) (j.c 0) (j.c 1) (j.c 2) (j.c 3) (j.c 4) j.aA j.idle)
 have Ax:s5.pre:=by rw [kp];exact True.intro
 have WX:uy (KK P zs) j= .agg [.ae 8 8 0 0 j.evl j.evl,.ae 20 1 0 0 (sz P) (sz P),.aa .i64 (j.c 0),.aa .i64 (j.c 1),.aa .i64 (j.c 2),.aa .i64 (j.c 3),.aa .i64 (j.c 4),.aa .i64 j.aA,.aa .i64 j.idle]:=by
  unfold uy;rw [hEv];rfl
 rw [WX] at ja
 refine Jc0 named (sound named mixed bL 60) (q:=2) (r:=6) Cl.2 oC ja bA Ax (λφ5 w5 a5 xe iO=> ?_)
 show (aT 11 aB).wp prog (B5 κ) a5 w5
 let φ6:bo:=λb=>φ5 (if b=21 then 96 else b)
 have W6: ∀ b,b≠21->φ6 b=φ5 b:=λb hb=>by show φ5 (if b=21 then 96 else b)=φ5 b;rw [if_neg hb]
 have TB:after Hm s5 96=some (.row false h.Ad 34 none):=(bR lZ (by omega) (by simp)).trans (ah tW 0 rfl rfl)
 have Tp: ∀ c o,DS h c=some o->c<96∧o.aD (· < 96):=λc o hc=>by
  obtain ⟨h1,h2,h3⟩:=K1 hc [] []
  exact xb (puts:=[]) (takes:=[]) he (by exact ⟨by show 8<96;omega,by show 20<96;omega,trivial,trivial,trivial,trivial,trivial,trivial,trivial,trivial⟩) trivial trivial c o h1
 have Aj:cz κ (DS h) φ6 w5:=by
  refine iO.fit.iQ (λb=>if b=21 then 96 else b) (λb d x y hb hd he=> ?_) (λb o' hb=> ?_)
  ·have h1:=(Tp b x hb).1
   have h2:=(Tp d y hd).1
   have ny:(if b=21 then 96 else b)=(if d=21 then 96 else d):=he
   split at ny<;>split at ny<;>omega
  ·obtain ⟨h1,h2,h3⟩:=K1 hb [] []
   rcases mN h1 with ⟨rfl,rfl⟩ | ⟨rfl,rfl⟩ | ⟨rfl,rfl⟩ | ⟨rfl,rfl⟩ | ⟨rfl,_⟩ | ⟨rfl,_⟩
   ·rw [if_neg (by omega),bY lZ (by omega) (by simp)]
    exact ⟨_,rfl,bl (cE _)⟩
   ·rw [if_neg (by omega),bY lZ (by omega) (by simp)]
    exact ⟨_,rfl,bl he⟩
   ·rw [if_neg (by omega),bY lZ (by omega) (by simp)]
    exact ⟨_,rfl,bW.jt (D:=λi=>i=7) ⟨trivial,trivial,rfl,trivial,trivial⟩ λi hi=>by rw [hi];exact W6 7 (by omega)⟩
   ·rw [if_pos rfl,TB]
    refine ⟨_,rfl,bW.jt (D:=λi=>i=8∨i=20) ?_ λi hi=>W6 i (by omega)⟩
    show aR _ h.Ad
    exact ⟨.inl rfl,.inr rfl,trivial,trivial,trivial,trivial,trivial,trivial,trivial,trivial⟩
   ·exact absurd rfl h2
   ·exact absurd rfl h3
 refine t12 uD (by omega) AQ fI rfl he rfl (φ:=φ6) (iO.Jb4 Aj Tp ?_)
 exact ab ⟨_,ai gK 0 rfl rfl,by simp only [Jb1];rw [W6 14 (by omega)],by show 14<96;omega⟩<|ab ⟨_,ai gK 1 rfl rfl,rfl,trivial⟩<|ab ⟨_,ai gK 2 rfl rfl,by simp only [Jb1];rfl,by show 21<96;omega⟩<|ab ⟨_,ai gK 3 rfl rfl,rfl,trivial⟩ aC
theorem t10 (hP:2<=P.n∧P.n<=4) (hk:1<=P.k∧P.k<=32) (ha:P.att<=3) (hz:zs.length<=16) (bq:ps≠[]) (hK:Kept P (KK P zs).nc (KK P zs).V (KK P zs).kd zs.length (iA.lJ (KK P zs) ps))
  {φ:bo} {a:Act} {w:World} (bf:At κ (H5 P (KK P zs).cs (ku ps) (fi ps)) 299 96 [(7,.ptr 14 0),(9,.aa .i64 zs.length)] φ w a):(aT 9 aB).wp prog (B5 κ) a w:=by
 have ks:(KK P zs).cs.length=2*zs.length+1:=iJ
 have qT:(KK P zs).cs≠[]:=λe=>by rw [e] at ks;simp at ks
 have fJ:H5 P (KK P zs).cs (ku ps) (fi ps) 14=some (.row false [.aa .i64 (P.n:Nat),.slice 1 0 1 1,.ae 7 6 0 0 (KK P zs).cs.length (KK P zs).cs.length,.ae 13 1 0 0 ps.length ps.length] 26 none):=by
  show some (db P _ _)=_
  unfold db AL ku
  rw [if_neg qT,if_neg bq]
 by_cases vD:ps.length<=65536
 ·obtain ⟨cH,s1,de,bt,cb,Jb8,cG,_⟩:=aE (Vk (P.n:Int) zs.length (KK P zs).cs.length ps.length)
  have eg:s1.pre:=by rw [cb];exact ⟨True.intro,by simp [aq]<;>omega⟩
  refine cN (bX named mixed bL (nt:=299) 0 (aT 9 aB) 100000 _ _ _ _ (by kernel_rfl) de) bf (dC bf.ids (ab fJ aC)) eg (K:=λa w=>(aT 10 aB).wp prog (B5 κ) a w) (λφ1 w1 a1 fD bO=> ?_) _ (λa w h=>h)
  refine t11 hP hk ha hz bq vD hK (φ:=φ1) (bO.Jb4 (bO.fit.bB (bV (λc o h=>(bf.ids c o h).1) cG)) bf.ids ?_)
  exact ab ⟨_,ai bt 0 rfl rfl,rfl,by show 14<96;omega⟩<|ab ⟨_,ai bt 1 rfl rfl,rfl,trivial⟩ aC
 ·refine mO (Sk (P.n:Int) (KK P zs).cs.length ps.length) ⟨True.intro,by simp [aq]<;>omega⟩ (bf.Jb4 (E:=[(7,.ptr 14 0)]) bf.fit bf.ids (ab ⟨_,rfl,rfl,by show 14<96;omega⟩ aC)) (dC bf.ids (ab fJ aC))
end
end
section
open Ev Ct Go.RowKit
open Go.IntKind (i64 u64)
variable {κ:Ev.dE}
section
variable {P:cv} {zs pk:List Int}
theorem t9 (hP:2<=P.n∧P.n<=4) (hk:1<=P.k∧P.k<=32) (ha:P.att<=3) (hz:zs.length<=16) (nL:pk.length<=2000) {mo:Nat} (xF:P.att*14+P.n*58+P.k+72<=mo) (Pb:mo<=4000)
  {φ:bo} {a:Act} {w:World} {pv:Value} {own:Option ak} (tZ:nq φ pv own (Ci (pf (P.n-1:Nat) pk pk.length) (KK P zs).cs zs.length mo (P.n-1))) (bf:At κ (H5 P (KK P zs).cs (.cQ pv) own) 299 96 [(3,.ptr 12 0),(7,.ptr 14 0),(9,.aa .i64 zs.length)] φ w a):(aT 8 aB).wp prog (B5 κ) a w:=by
 have ks:(KK P zs).cs.length=2*zs.length+1:=iJ
 have qT:(KK P zs).cs≠[]:=λe=>by rw [e] at ks;simp at ks
 have bn:=eL (P:=P) (cs:=(KK P zs).cs) (pv:= .cQ pv) (own:=own) trivial tZ.own
 have P3:=DO (pf (P.n-1:Nat) pk pk.length) (KK P zs).cs (o:=zs.length) (mo:=mo) (P.n-1) Pb hz
 have YH:=Ce ((P.n-1:Nat):Int) pk pk.length
 refine fh (a:=P5 8 aB) (b:=aT 9 aB) (by kernel_rfl) ?_
 obtain ⟨cH,s1,de,bt,cb,Jb8,cG,_⟩:=cV (Fz pv (P.n:Int) zs.length ((P.n-1:Nat):Int) (P.k:Int) (P.att:Int) (KK P zs).cs.length)
 have eg:s1.pre:=by rw [cb];exact ⟨⟨True.intro,rfl⟩,rfl⟩
 refine jI named (sound named mixed bL 60) Cg.1 Cg.2 de bf (dC bn (ab rfl<|ab (mM qT) aC)) eg (λφ2 w2 a2 Gg eM=> ?_)
 have WT:i64.wrap ((200:Int)*i64.wrap ((zs.length:Int)+1))=((200*(zs.length+1):Nat):Int):=by
  rw [wrap64 (x:=(zs.length:Int)+1) (by omega) (by omega),wrap64 (by omega) (by omega)]
  omega
 have kj:At κ (H5 P (KK P zs).cs (.cQ pv) own) 299 96 [(3,.ptr 12 0),(7,.ptr 14 0),(9,.aa .i64 zs.length),(174,.cQ pv),(176,.aa .i64 ((P.n-1:Nat):Int)),(179,.aa .i64 ((200*(zs.length+1):Nat):Int))] φ2 w2 a2:=by
  refine eM.Jb4 (eM.fit.bB (bV (λc o h=>(bn c o h).1) cG)) bn ?_
  exact ab ⟨_,ai bt 0 rfl rfl,rfl,by show 12<96;omega⟩<|ab ⟨_,ai bt 1 rfl rfl,rfl,by show 14<96;omega⟩<|ab ⟨_,ai bt 2 rfl rfl,rfl,trivial⟩<|ab ⟨_,ai bt 3 rfl rfl,rfl,trivial⟩<|ab ⟨_,ai bt 4 rfl rfl,rfl,trivial⟩<|ab ⟨_,ai bt 5 rfl rfl,by simp only [Jb1];rw [WT],trivial⟩ aC
 have S8:=tZ.congr (φ':=φ2) (Gg 13 (by show 13<96;omega))
 rw [fC 7 2,wpOps_cons]
 obtain ⟨r,kO,kz,CA,CC⟩:=Se
 have h64:(P.n-1)*64000<=3*64000:=Nat.mul_le_mul_right _ (by omega)
 refine gz named KG kO kz CA (avs:=[.cQ pv,.aa .i64 ((P.n-1:Nat):Int),.aa .i64 ((200*(zs.length+1):Nat):Int)]) rfl kj (DP kj.fit S8 (t:=((P.n-1:Nat):Int)) (more:=200*(zs.length+1)) (by omega) (by omega)) ?_
 rintro e w3 ⟨v,φ3,Tv,rfl,xz,LH,nN⟩
 have Lc:=eL (P:=P) (cs:=(KK P zs).cs) (pv:= .cQ pv) (own:=Tv) trivial LH.own
 refine ⟨φ3,H5 P (KK P zs).cs (.cQ pv) Tv,96,.cQ v,[(3,.ptr 12 0),(7,.ptr 14 0),(9,.aa .i64 zs.length)],_,rfl,Nat.le_refl _,(λt u hu=> ?_),nN,Lc,trivial,by rw [CC];rfl,λa4 ja=> ?_⟩
 ·have hm:=gh hu
  simp only [List.mem_cons,List.not_mem_nil,or_false,Prod.mk.injEq] at hm
  rcases hm with ⟨rfl,rfl⟩ | ⟨rfl,rfl⟩ | ⟨rfl,rfl⟩
  ·exact ⟨rfl,by simp only [Jb1,xz 12 (by omega)]⟩
  ·exact ⟨rfl,by simp only [Jb1,xz 14 (by omega)]⟩
  ·exact ⟨rfl,rfl⟩
 obtain ⟨CH,s5,oC,gK,kp,Cx,lZ,tW⟩:=cV (Cf pv (P.n:Int) zs.length (KK P zs).cs.length v)
 have Ax:s5.pre:=by rw [kp];exact True.intro
 have lP:At κ (H5 P (KK P zs).cs (.cQ pv) Tv) 299 96 [(3,.ptr 12 0),(7,.ptr 14 0),(9,.aa .i64 zs.length),(180,.cQ v)] φ3 w3 a4:=ja.Jb4 ja.fit Lc (ab ⟨_,rfl,rfl,by show 12<96;omega⟩<|ab ⟨_,rfl,rfl,by show 14<96;omega⟩<|ab ⟨_,rfl,rfl,trivial⟩<|ab ⟨_,rfl,rfl,trivial⟩ aC)
 refine Jc0 named (sound named mixed bL 60) (q:=8) (r:=2) Cg.2 oC lP (dC Lc (ab (mM qT) aC)) Ax (λφ5 w5 a5 xe iO=> ?_)
 show (aT 9 aB).wp prog (B5 κ) a5 w5
 have Lj:=KM qT LH.own lZ rfl (ah tW 0 rfl rfl) iO.fit
 have Ph:=LH.congr (φ':=φ5) (xe 13 (by show 13<96;omega))
 have Zh:Ci (pf (P.n-1:Nat) pk pk.length) (KK P zs).cs zs.length mo (P.n-1)++List.replicate (200*(zs.length+1)) ((P.n-1:Nat):Int)=uz P zs pk mo:=rfl
 rw [Zh] at Ph
 have bq:uz P zs pk mo≠[]:=λe=>by
  have:=congrArg List.length e
  unfold uz at this
  rw [List.length_append,List.length_replicate] at this
  simp at this
 obtain ⟨SC,⟨h0,_⟩ | ⟨_,rfl,hv⟩⟩:=Ph
 ·exact absurd h0 bq
 have Zm:ku (uz P zs pk mo)= .ae 13 1 0 0 (uz P zs pk mo).length (uz P zs pk mo).length:=if_neg bq
 have lM:fi (uz P zs pk mo)=some (mJ (uz P zs pk mo)):=if_neg bq
 have pJ:=eL (P:=P) (cs:=(KK P zs).cs) (pv:=ku (uz P zs pk mo)) (own:=fi (uz P zs pk mo)) (ng (by omega)) ig
 have Aj:cz κ (H5 P (KK P zs).cs (ku (uz P zs pk mo)) (fi (uz P zs pk mo))) φ5 w5:=by
  refine Lj.iQ (H':=H5 P (KK P zs).cs (ku (uz P zs pk mo)) (fi (uz P zs pk mo))) (λb=>b) (λb c x y _ _ h=>h) (λb o' hb=> ?_)
  by_cases e:b=14
  ·subst e
   have:H5 P (KK P zs).cs (ku (uz P zs pk mo)) (fi (uz P zs pk mo)) 14=some (db P (KK P zs).cs (ku (uz P zs pk mo))):=rfl
   rw [this] at hb
   obtain rfl:=Option.some.inj hb
   refine ⟨db P (KK P zs).cs (.cQ v),rfl,?_,rfl,rfl⟩
   have e1:Jb1 φ5 (.cQ v)=Jb1 φ5 (ku (uz P zs pk mo)):=by
    rw [Zm,<- hv]
    simp only [Jb1]
    rw [if_pos SC]
   simp only [az]
   rw [e1]
  ·refine ⟨o',?_,bl (wV ig e hb)⟩
   rw [<- hb,lM]
   unfold H5
   rw [if_neg e,if_neg e]
 refine t10 hP hk ha hz bq (OQ hP hk ha (by omega) xF) (φ:=φ5) (iO.Jb4 Aj pJ ?_)
 exact ab ⟨_,ai gK 1 rfl rfl,rfl,by show 14<96;omega⟩<|ab ⟨_,ai gK 2 rfl rfl,rfl,trivial⟩ aC
theorem t8 (hP:2<=P.n∧P.n<=4) (hk:1<=P.k∧P.k<=32) (ha:P.att<=3) (hz:zs.length<=16) (nL:pk.length<=2000) {mo:Nat} (xF:P.att*14+P.n*58+P.k+72<=mo) (Pb:mo<=4000)
  {φ:bo} {a:Act} {w:World} {pv:Value} {own:Option ak} (tZ:nq φ pv own (pf (P.n-1:Nat) pk pk.length)) (bf:At κ (H5 P (KK P zs).cs (.cQ pv) own) 299 96 [(3,.ptr 12 0),(7,.ptr 14 0),(9,.aa .i64 zs.length),(11,.aa .i64 mo)] φ w a):(aT 7 aB).wp prog (B5 κ) a w:=by
 have ks:(KK P zs).cs.length=2*zs.length+1:=iJ
 have bn:=eL (P:=P) (cs:=(KK P zs).cs) (pv:= .cQ pv) (own:=own) trivial tZ.own
 have YH:=Ce ((P.n-1:Nat):Int) pk pk.length
 refine fh (a:=P5 7 aB) (b:=aT 8 aB) (by kernel_rfl) ?_
 obtain ⟨cH,s1,de,bt,cb,Jb8,cG,_⟩:=aE (Kz zs.length mo ((P.n-1:Nat):Int) (P.k:Int) (P.att:Int))
 have eg:s1.pre:=by rw [cb];exact True.intro
 refine cN (bX named mixed bL (nt:=299) 0 (P5 7 aB) 100000 _ _ _ _ (by kernel_rfl) de) bf (dC bn (ab rfl aC)) eg (λφ1 w1 a1 fD bO=> ?_) _ (λa w h=>h)
 refine gk (id:=6) (b:= .loop (B4 aB)) (by kernel_rfl) ?_
 refine bh.wp (Sh (κ:=κ) (P:=P) (cs:=(KK P zs).cs) (ps0:=pf (P.n-1:Nat) pk pk.length) (o:=zs.length) (mo:=mo) (tn:=P.n-1) (by omega) (by omega) hz Pb (by omega) (by omega) (λa2 w2 h2=> ?_) (P.n-1) 0 (by omega) a1 w1 ⟨φ1,pv,own,?_,?_⟩)
 ·obtain ⟨φ2,pv2,Jai,eM,S8⟩:=h2
  show (aT 8 aB).wp prog (B5 κ) a2 w2
  exact t9 hP hk ha hz nL xF Pb S8 (eM.Jb4 eM.fit eM.ids (ab ⟨_,rfl,rfl,by show 12<96;omega⟩<|ab ⟨_,rfl,rfl,by show 14<96;omega⟩<|ab ⟨_,rfl,rfl,trivial⟩ aC))
 ·refine bO.Jb4 (bO.fit.bB (bV (λc o h=>(bn c o h).1) cG)) bn ?_
  exact ab ⟨_,ai bt 0 rfl rfl,rfl,by show 12<96;omega⟩<|ab ⟨_,ai bt 1 rfl rfl,rfl,by show 14<96;omega⟩<|ab ⟨_,ai bt 2 rfl rfl,rfl,trivial⟩<|ab ⟨_,ai bt 3 rfl rfl,rfl,trivial⟩<|ab ⟨_,ai bt 4 rfl rfl,rfl,trivial⟩<|ab ⟨_,ai bt 5 rfl rfl,rfl,trivial⟩ aC
 ·have e:Ci (pf (P.n-1:Nat) pk pk.length) (KK P zs).cs zs.length mo 0=pf (P.n-1:Nat) pk pk.length:=by unfold Ci;simp
  rw [e]
  exact tZ.congr (fD 13 (by show 13<96;omega))
end
end
section
open Ev Ct Go.RowKit
open Go.IntKind (i64 u64)
variable {κ:Ev.dE}
theorem Af {H:Nat->Option ak} {s:St} {wr:List Nat} (hw: ∀ x∈wr,96<=x) (hH: ∀ c o,H c=some o->c<96) (dc: ∀ c,c<128->(s.wr.testBit c=true↔c∈wr)) (c:Nat) (o:ak) (h:H c=some o):after H s c=some o:=by
 unfold after
 rw [if_neg (λhh=>by
  have h1:=hH c o h
  have h2:=hw c ((dc c (by omega)).1 hh)
  omega)]
 exact h
def OS (n k att:Nat):Nat:=(n+1)*(15*(2*n*n+8)+1)+k+14*att+n+14
theorem PR {n k att:Nat} (hn:2<=n∧n<=4) (hk:k<=32) (ha:att<=3):
  i64.wrap (i64.wrap (i64.wrap (i64.wrap (i64.wrap (i64.wrap ((n:Int)+(1:Int))*i64.wrap (i64.wrap ((15:Int)*i64.wrap (i64.wrap (i64.wrap ((2:Int)*(n:Int))*(n:Int))+(8:Int)))+(1:Int)))+(k:Int))+i64.wrap ((14:Int)*(att:Int)))+(n:Int))+(14:Int))=((OS n k att:Nat):Int):=by
 have hw:i64.wrap ((14:Int)*(att:Int))=14*(att:Int):=wrap64 (by omega) (by omega)
 rw [hw]
 have h:n=2∨n=3∨n=4:=by omega
 rcases h with rfl | rfl | rfl
 ·have hX:i64.wrap (i64.wrap (((2:Nat):Int)+(1:Int))*i64.wrap (i64.wrap ((15:Int)*i64.wrap (i64.wrap (i64.wrap ((2:Int)*((2:Nat):Int))*((2:Nat):Int))+(8:Int)))+(1:Int)))=723:=by decide
  rw [hX,wrap64 (x:=723+(k:Int)) (by omega) (by omega),wrap64 (x:=723+(k:Int)+14*(att:Int)) (by omega) (by omega),wrap64 (x:=723+(k:Int)+14*(att:Int)+((2:Nat):Int)) (by omega) (by omega),wrap64 (by omega) (by omega)]
  unfold OS;omega
 ·have hX:i64.wrap (i64.wrap (((3:Nat):Int)+(1:Int))*i64.wrap (i64.wrap ((15:Int)*i64.wrap (i64.wrap (i64.wrap ((2:Int)*((3:Nat):Int))*((3:Nat):Int))+(8:Int)))+(1:Int)))=1564:=by decide
  rw [hX,wrap64 (x:=1564+(k:Int)) (by omega) (by omega),wrap64 (x:=1564+(k:Int)+14*(att:Int)) (by omega) (by omega),wrap64 (x:=1564+(k:Int)+14*(att:Int)+((3:Nat):Int)) (by omega) (by omega),wrap64 (by omega) (by omega)]
  unfold OS;omega
 ·have hX:i64.wrap (i64.wrap (((4:Nat):Int)+(1:Int))*i64.wrap (i64.wrap ((15:Int)*i64.wrap (i64.wrap (i64.wrap ((2:Int)*((4:Nat):Int))*((4:Nat):Int))+(8:Int)))+(1:Int)))=3005:=by decide
  rw [hX,wrap64 (x:=3005+(k:Int)) (by omega) (by omega),wrap64 (x:=3005+(k:Int)+14*(att:Int)) (by omega) (by omega),wrap64 (x:=3005+(k:Int)+14*(att:Int)+((4:Nat):Int)) (by omega) (by omega),wrap64 (by omega) (by omega)]
  unfold OS;omega
theorem Vn {n k att:Nat} (hn:2<=n∧n<=4) (hk:k<=32) (ha:att<=3):att*14+n*58+k+72<=OS n k att∧OS n k att<=4000:=by
 have h:n=2∨n=3∨n=4:=by omega
 rcases h with rfl | rfl | rfl<;>(unfold OS;omega)
section
variable {P:cv} {zs pk:List Int}
theorem t7b (hP:2<=P.n∧P.n<=4) (hk:1<=P.k∧P.k<=32) (ha:P.att<=3) (hz:zs.length<=16) (nL:pk.length<=2000)
  {φ:bo} {a:Act} {w:World} {nx:Nat} {env:Env} {H:Nat->Option ak} {k:Int} (hH:cz κ (H5 P (KK P zs).cs (ku (pf (P.n-1:Nat) pk pk.length)) (fi (pf (P.n-1:Nat) pk pk.length))) φ w) (bf:At κ H 299 nx env φ w a)
  (df:[3,7,9,11].map env.look=[some (.ptr 12 0),some (.ptr 14 0),some (.aa .i64 zs.length),some (.aa .i64 k)]) (D3:k=((OS P.n P.k P.att:Nat):Int)):(aT 7 aB).wp prog (B5 κ) a w:=by
 subst D3
 have xF:=Vn hP hk.2 ha
 have main: ∀ (pv:Value),nq φ pv (fi (pf (P.n-1:Nat) pk pk.length)) (pf (P.n-1:Nat) pk pk.length)->Jb1 φ (ku (pf (P.n-1:Nat) pk pk.length))=pv->(aT 7 aB).wp prog (B5 κ) a w:=λpv tZ hc=>by
  have bn:=eL (P:=P) (cs:=(KK P zs).cs) (pv:= .cQ pv) (own:=fi (pf (P.n-1:Nat) pk pk.length)) trivial tZ.own
  refine t8 hP hk ha hz nL (mo:=OS P.n P.k P.att) xF.1 xF.2 tZ (bf.Jb4 (hH.iQ (λb=>b) (λb c x y _ _ h=>h) (λb o' hb=> ?_)) bn ?_)
  ·by_cases e:b=14
   ·subst e
    have:H5 P (KK P zs).cs (.cQ pv) (fi (pf (P.n-1:Nat) pk pk.length)) 14=some (db P (KK P zs).cs (.cQ pv)):=rfl
    rw [this] at hb
    obtain rfl:=Option.some.inj hb
    refine ⟨db P (KK P zs).cs (ku (pf (P.n-1:Nat) pk pk.length)),rfl,?_,rfl,rfl⟩
    simp only [az]
    rw [hc]
    simp only [Jb1]
    rw [if_pos tZ.1]
   ·refine ⟨o',?_,bl (wV tZ.own e hb)⟩
    rw [<- hb]
    unfold H5
    rw [if_neg e,if_neg e]
  ·exact ab ⟨_,ai df 0 rfl rfl,rfl,by show 12<96;omega⟩<|ab ⟨_,ai df 1 rfl rfl,rfl,by show 14<96;omega⟩<|ab ⟨_,ai df 2 rfl rfl,rfl,trivial⟩<|ab ⟨_,ai df 3 rfl rfl,rfl,trivial⟩ aC
 by_cases he:pf (P.n-1:Nat) pk pk.length=[]
 ·refine main (.slice none 0 0) ⟨rfl,.inl ⟨he,?_,none,0,rfl,λ_=>rfl⟩⟩ ?_
  ·unfold fi;rw [if_pos he]
  ·unfold ku;rw [if_pos he];rfl
 ·refine main _ ⟨?_,.inr ⟨he,if_neg he,rfl⟩⟩ ?_
  ·rfl
  ·unfold ku;rw [if_neg he]
theorem t7 (hP:2<=P.n∧P.n<=4) (hk:1<=P.k∧P.k<=32) (ha:P.att<=3) (hz:zs.length<=16) (nL:pk.length<=2000)
  {φ:bo} {a:Act} {w:World} (bf:At κ (H5 P (KK P zs).cs (ku (pf (P.n-1:Nat) pk pk.length)) (fi (pf (P.n-1:Nat) pk pk.length))) 299 96 [(3,.ptr 12 0),(7,.ptr 14 0),(9,.aa .i64 zs.length)] φ w a):(aT 6 aB).wp prog (B5 κ) a w:=by
 have ks:(KK P zs).cs.length=2*zs.length+1:=iJ
 have qT:(KK P zs).cs≠[]:=λe=>by rw [e] at ks;simp at ks
 have jV:AL (KK P zs).cs= .ae 7 6 0 0 (KK P zs).cs.length (KK P zs).cs.length:=if_neg qT
 have bn:=eL (P:=P) (cs:=(KK P zs).cs) (pv:=ku (pf (P.n-1:Nat) pk pk.length)) (own:=fi (pf (P.n-1:Nat) pk pk.length)) (ng (by omega)) ig
 have h7:H5 P (KK P zs).cs (ku (pf (P.n-1:Nat) pk pk.length)) (fi (pf (P.n-1:Nat) pk pk.length)) 7=some (.row true ((KK P zs).cs.flatMap bj) 42 (some 6)):=by
  unfold H5;rw [if_neg (by decide),if_pos rfl,if_neg qT]
 have fJ: ∀ v,ku (pf (P.n-1:Nat) pk pk.length)=v->H5 P (KK P zs).cs (ku (pf (P.n-1:Nat) pk pk.length)) (fi (pf (P.n-1:Nat) pk pk.length)) 14=some (.row false [.aa .i64 (P.n:Nat),.slice 1 0 1 1,.ae 7 6 0 0 (KK P zs).cs.length (KK P zs).cs.length,v] 26 none):=λv hv=>by
  show some (db _ _ _)=_
  unfold db;rw [jV,hv]
 have fI:=nb (sd (P:=P) (zs:=zs) (c:=zs.length) (Nat.le_refl _) (by omega))
 have aQ: ∀ n:Nat,n=(KK P zs).cs.length->((((((True∧(0:Nat)+n<=n)∧(0:Int)<=(zs.length:Int)∧(zs.length:Int)<(n:Int))))):Prop):=λn hn=>⟨⟨trivial,by omega⟩,by omega,by omega⟩
 by_cases he:pf (P.n-1:Nat) pk pk.length=[]
 ·obtain ⟨cH,s1,de,bt,cb,Jb8,cG,_⟩:=aE (OK (P.n:Int) ((P.n-1:Nat):Int) (P.k:Int) (P.att:Int) ((P.n-1:Nat):Int) ((KK P zs).cs.flatMap bj) zs.length (KK P zs).cs.length)
  have eg:s1.pre:=by
   rw [cb]
   simp only [and_true]
   exact ⟨aQ _ rfl,trivial,fI⟩
  refine cN (bX named mixed bL (nt:=299) 0 (aT 6 aB) 100000 _ _ _ _ (by kernel_rfl) de) bf (dC bn (ab rfl<|ab rfl<|ab (fJ _ (if_pos he))<|ab h7 aC)) eg (λφ1 w1 a1 fD bO=> ?_) _ (λa w h=>h)
  exact t7b hP hk ha hz nL (bO.fit.bB (Af (by decide) (λc o h=>(bn c o h).1) cG)) bO bt (PR hP hk.2 ha)
 ·obtain ⟨cH,s1,de,bt,cb,Jb8,cG,_⟩:=aE (OL (P.n:Int) ((P.n-1:Nat):Int) (P.k:Int) (P.att:Int) ((P.n-1:Nat):Int) ((KK P zs).cs.flatMap bj) zs.length (KK P zs).cs.length (pf (P.n-1:Nat) pk pk.length).length)
  have eg:s1.pre:=by
   rw [cb]
   simp only [and_true]
   exact ⟨aQ _ rfl,trivial,fI⟩
  refine cN (bX named mixed bL (nt:=299) 0 (aT 6 aB) 100000 _ _ _ _ (by kernel_rfl) de) bf (dC bn (ab rfl<|ab rfl<|ab (fJ _ (if_neg he))<|ab h7 aC)) eg (λφ1 w1 a1 fD bO=> ?_) _ (λa w h=>h)
  exact t7b hP hk ha hz nL (bO.fit.bB (Af (by decide) (λc o h=>(bn c o h).1) cG)) bO bt (PR hP hk.2 ha)
end
end
section
open Ev Ct Go.RowKit
variable {κ:Ev.dE}
def jU (c0:Nat) (a0:Option Addr) (len cap:Nat):AV:=match a0 with
 | none=> .au
 | some x=> .aL c0 x.off len cap
theorem iK {c0:Nat} {a0:Option Addr} {len cap:Nat} {D:Nat->Prop} (h:D c0):(jU c0 a0 len cap).aD D:=by
 cases a0 with
 | none=>trivial
 | some x=>exact h
theorem pF {c0:Nat} {a0:Option Addr} {len cap:Nat} {φ φ':bo} (h:φ c0=φ' c0):Jb1 φ (jU c0 a0 len cap)=Jb1 φ' (jU c0 a0 len cap):=by
 cases a0 with
 | none=>rfl
 | some x=>unfold jU;simp only [Jb1];rw [h]
structure uA (κ:Ev.dE) (k:IntKind) (c0:Nat) (a0:Option Addr) (cap:Nat) (zs:List Int) (φ:bo):Prop where
 ints:Jb9 k κ.yM a0 zs
 none:a0=none->zs=[]∧cap=0
 at_: ∀ x,a0=some x->φ c0=⟨x.block,0⟩
theorem uA.congr {k:IntKind} {c0:Nat} {a0:Option Addr} {cap:Nat} {zs:List Int} {φ φ':bo} (h:uA κ k c0 a0 cap zs φ) (e:φ' c0=φ c0):uA κ k c0 a0 cap zs φ':=⟨h.ints,h.none,λx hx=>e.trans (h.at_ x hx)⟩
section
variable {P:cv} {zs pk:List Int}
theorem PS {cs:List (Nat×Bool×Nat)} {pkv:AV} {own:Nat} {φ0:bo} (nL:pkv.aD (· < 96)) (hpc: ∀ φ φ':bo,φ 41=φ' 41->Jb1 φ pkv=Jb1 φ' pkv) {Q:Exit->Act->World->Prop} (hQ: ∀ a w,Fw κ P cs pkv own [] φ0 0 a w->Q (.exit 4) a w) (a:Act) (w:World) (h:Fw κ P cs pkv own [] φ0 0 a w):bh prog (bK (P5 5 aB)) Q a w:=by
 obtain ⟨φ,bf,rA⟩:=h
 have bn: ∀ i,∀ c o,H5 P cs (ku (pf (P.n-1:Nat) [] i)) (fi (pf (P.n-1:Nat) [] i)) c=some o->c<96∧o.aD (· < 96):=λi=>eL (ng (by omega)) ig
 refine bh.of ?_
 obtain ⟨env,s,cW,df,aQ,eP,dc,_⟩:=aE (DN pkv own 0 0)
 have eg:s.pre:=by rw [aQ];exact ⟨True.intro,by simp [aq]⟩
 refine cN ((bE named (cj mixed) (sound named mixed bL 60) (nt:=299) 100000).1 _ _ _ _ _ _ cW) bf bA eg (K:=λa w=>Q (.exit 4) a w) (λφ' w' a' uF fN=> ?_) _ (λa w h=>h)
 have TA:φ' 41=φ 41:=uF 41 (by show 41<96;omega)
 exact hQ a' w' ⟨φ',pA fN df rfl (fN.fit.bB (bV (λc o h=>(bf.ids c o h).1) dc)) (bn _) nL rfl rfl rfl,TA.trans rA⟩
theorem t6 (hP:2<=P.n∧P.n<=4) (hk:1<=P.k∧P.k<=32) (ha:P.att<=3) (hz:zs.length<=16) (nL:pk.length<=2000) (hm:κ.mark=κ.yM.heap.size)
  {φ:bo} {a:Act} {w:World} {b0:Option Addr} {cap:Nat} (cF:uA κ .i64 41 b0 cap pk φ) (bf:At κ (H5 P (KK P zs).cs .au none) 299 96 [(2,jU 41 b0 pk.length cap),(3,.ptr 12 0),(7,.ptr 14 0),(9,.aa .i64 zs.length)] φ w a):(aT 5 aB).wp prog (B5 κ) a w:=by
 have ks:(KK P zs).cs.length=2*zs.length+1:=iJ
 have qT:(KK P zs).cs≠[]:=λe=>by rw [e] at ks;simp at ks
 have bn: ∀ i,∀ c o,H5 P (KK P zs).cs (ku (pf (P.n-1:Nat) pk i)) (fi (pf (P.n-1:Nat) pk i)) c=some o->c<96∧o.aD (· < 96):=λi=>eL (ng (by omega)) ig
 refine fh (a:=P5 5 aB) (b:=aT 6 aB) (by kernel_rfl) ?_
 have qM: ∀ (pkv:AV) a w,Fw κ P (KK P zs).cs pkv zs.length pk φ pk.length a w->(aT 6 aB).wp prog (B5 κ) a w:=λpkv a w h=>by
  obtain ⟨φ2,eM,_⟩:=h
  exact t7 hP hk ha hz nL (eM.Jb4 eM.fit eM.ids (ab ⟨_,rfl,rfl,by show 12<96;omega⟩<|ab ⟨_,rfl,rfl,by show 14<96;omega⟩<|ab ⟨_,rfl,rfl,trivial⟩ aC))
 have go: ∀ (pkv v:AV) {cH:Env} {s1:St},pkv.aD (· < 96)->aP prog (aW prog ba 60) 299 100000 (cA 0 (P5 5 aB)) [(2,pkv),(3,.ptr 12 0),(7,.ptr 14 0),(9,.aa .i64 (zs.length:Nat))] ⟨mk [],96,0,0,True,[]⟩= .ok (.normal,cH) s1->[2,3,7,9,117,118].map cH.look=[some pkv,some (.ptr 12 0),some (.ptr 14 0),some (.aa .i64 (zs.length:Nat)),some v,some (.int .i64 0)]->(∀ φ:bo,Jb1 φ v= .int .i64 (pk.length:Nat))->s1.pre->(∀ c,c<128->(s1.wr.testBit c=true↔c∈([]:List Nat)))->
   At κ (H5 P (KK P zs).cs .au none) 299 96 [(2,pkv),(3,.ptr 12 0),(7,.ptr 14 0),(9,.aa .i64 zs.length)] φ w a->
   (∀ a1 w1,Fw κ P (KK P zs).cs pkv zs.length pk φ 0 a1 w1->bh prog (bK (P5 5 aB)) (Exit.inBlock 4 (Exit.then ((aT 6 aB).wp prog (B5 κ)) (B5 κ))) a1 w1)->
   (P5 5 aB).wp prog (Exit.then ((aT 6 aB).wp prog (B5 κ)) (B5 κ)) a w:=λpkv v {cH s1} cC de bt hv eg cG bf loop=>by
  refine cN (bX named mixed bL (nt:=299) 0 (P5 5 aB) 100000 _ _ _ _ (by kernel_rfl) de) bf bA eg (λφ1 w1 a1 fD bO=> ?_) _ (λa w h=>h)
  refine gk (id:=4) (b:= .loop (bK (P5 5 aB))) (by kernel_rfl) ?_
  refine bh.wp (loop a1 w1 ⟨φ1,?_,fD 41 (by show 41<96;omega)⟩)
  have Ea:pf (P.n-1:Nat) pk 0=[]:=rfl
  rw [Ea]
  refine bO.Jb4 (bO.fit.bB (bV (λc o h=>(bf.ids c o h).1) cG)) bf.ids ?_
  exact ab ⟨_,ai bt 0 rfl rfl,rfl,cC⟩<|ab ⟨_,ai bt 1 rfl rfl,rfl,by show 12<96;omega⟩<|ab ⟨_,ai bt 2 rfl rfl,rfl,by show 14<96;omega⟩<|ab ⟨_,ai bt 3 rfl rfl,rfl,trivial⟩<|ab ⟨_,ai bt 4 rfl rfl,(hv _).trans rfl,trivial⟩<|ab ⟨_,ai bt 5 rfl rfl,rfl,trivial⟩ aC
 cases b0 with
 | none=>
  obtain ⟨oD,_⟩:=cF.none rfl
  subst oD
  obtain ⟨cH,s1,de,bt,cb,Jb8,cG,_⟩:=aE (Fs zs.length)
  have eg:s1.pre:=by rw [cb];exact True.intro
  exact go .au _ True.intro de bt (λ_=>rfl) eg cG bf (PS (pkv:= .au) True.intro (λ_ _ _=>rfl) (qM _))
 | some x=>
  obtain ⟨cH,s1,de,bt,cb,Jb8,cG,_⟩:=aE (Ku pk.length x.off cap zs.length)
  have eg:s1.pre:=by rw [cb];exact True.intro
  have cC:(AV.aL 41 x.off pk.length cap).aD (· < 96):=by show 41<96;omega
  refine go _ _ cC de bt (λ_=>rfl) eg cG bf ?_
  by_cases oD:pk=[]
  ·subst oD
   exact PS cC (λφ φ' h=>by simp only [Jb1];rw [h]) (qM _)
  ·obtain ⟨dp,off,l,t,hx,hl,gm,rz⟩:=DJ hm cF.ints oD
   obtain rfl:=Option.some.inj hx
   exact Sa hP qT nL hl gm (λφ2 H ψ w2 hf rA=>rz 41 φ2 H ψ w2 hf (rA.trans (cF.at_ _ rfl))) (qM _) pk.length 0 (by omega)
end
end
section
open Ev Ct Go.RowKit
open Go.IntKind (i64 u64)
variable {κ:Ev.dE}
section
variable {P:cv} {zs pk:List Int}
theorem Vo {b0:Option Addr} {len cap:Nat}: ∃ D:Nat->Prop,(jU 41 b0 len cap).aD D∧ ∀ i,D i->i=41:=⟨λi=>i=41,iK rfl,λ_ h=>h⟩
theorem t5 (hP:2<=P.n∧P.n<=4) (hk:1<=P.k∧P.k<=32) (ha:P.att<=3) (hz:zs.length<=16) (nL:pk.length<=2000) (hm:κ.mark=κ.yM.heap.size)
  {φ:bo} {a:Act} {w:World} {b0:Option Addr} {cap:Nat} (cF:uA κ .i64 41 b0 cap pk φ) (bf:At κ (H5 P (jv (P.n-1) zs zs.length) .au none) 299 96 [(2,jU 41 b0 pk.length cap),(3,.ptr 12 0),(7,.ptr 14 0),(9,.aa .i64 zs.length)] φ w a):(aT 4 aB).wp prog (B5 κ) a w:=by
 have bn: ∀ c o,H5 P (jv (P.n-1) zs zs.length) .au none c=some o->c<96∧o.aD (· < 96):=eL trivial (λo h=>by cases h)
 have cC:(jU 41 b0 pk.length cap).aD (· < 96):=iK (by omega)
 refine fh (a:=P5 4 aB) (b:=aT 5 aB) (by kernel_rfl) ?_
 obtain ⟨cH,s1,de,bt,cb,Jb8,cG,_⟩:=aE (Ks (jU 41 b0 pk.length cap) zs.length)
 have eg:s1.pre:=by rw [cb];exact ⟨True.intro,rfl⟩
 refine cN (bX named mixed bL (nt:=299) 0 (P5 4 aB) 100000 _ _ _ _ (by kernel_rfl) de) bf bA eg (λφ1 w1 a1 fD bO=> ?_) _ (λa w h=>h)
 refine gk (id:=2) (b:= .loop (bK (P5 4 aB))) (by kernel_rfl) ?_
 have hl:(jv (P.n-1) zs zs.length).length=zs.length:=jc _ _ _
 refine bh.wp (R9 (κ:=κ) (P:=P) (pk:=jU 41 b0 pk.length cap) (c1:=jv (P.n-1) zs zs.length) hP (by omega) (φ0:=φ) Vo (λa2 w2 h2=> ?_) ((jv (P.n-1) zs zs.length).length+1) 0 (by omega) a1 w1 ⟨φ1,?_,fD 41 (by show 41<96;omega)⟩)
 ·obtain ⟨φ2,eM,rA⟩:=h2
  rw [hl] at eM
  show (aT 5 aB).wp prog (B5 κ) a2 w2
  exact t6 hP hk ha hz nL hm (cF.congr rA) (eM.Jb4 (H':=H5 P (KK P zs).cs .au none) eM.fit eM.ids (ab ⟨_,rfl,rfl,cC⟩<|ab ⟨_,rfl,rfl,by show 12<96;omega⟩<|ab ⟨_,rfl,rfl,by show 14<96;omega⟩<|ab ⟨_,rfl,rfl,trivial⟩ aC))
 ·rw [hl]
  have hc:nI (jv (P.n-1) zs zs.length) (P.n-1) 0=jv (P.n-1) zs zs.length:=by unfold nI;simp
  rw [hc]
  have hw:i64.wrap ((zs.length:Int)+(1:Int))=((zs.length+1:Nat):Int):=by rw [wrap64 (by omega) (by omega)];omega
  refine bO.Jb4 (bO.fit.bB (bV (λc o h=>(bn c o h).1) cG)) bn ?_
  exact ab ⟨_,ai bt 0 rfl rfl,rfl,cC⟩<|ab ⟨_,ai bt 1 rfl rfl,rfl,by show 12<96;omega⟩<|ab ⟨_,ai bt 2 rfl rfl,rfl,by show 14<96;omega⟩<|ab ⟨_,ai bt 3 rfl rfl,rfl,trivial⟩<|ab ⟨_,ai bt 4 rfl rfl,by simp only [Jb1];rw [hw],trivial⟩<|ab ⟨_,ai bt 5 rfl rfl,rfl,trivial⟩ aC
theorem t4 (hP:2<=P.n∧P.n<=4) (hk:1<=P.k∧P.k<=32) (ha:P.att<=3) (hz:zs.length<=16) (nL:pk.length<=2000) (hm:κ.mark=κ.yM.heap.size)
  {φ:bo} {a:Act} {w:World} {b0:Option Addr} {cap:Nat} (cF:uA κ .i64 41 b0 cap pk φ) (bf:At κ (H5 P (jv (P.n-1) zs zs.length) .au none) 299 96 [(2,jU 41 b0 pk.length cap),(3,.ptr 12 0),(7,.ptr 14 0)] φ w a):(aT 3 aB).wp prog (B5 κ) a w:=by
 have bn: ∀ c o,H5 P (jv (P.n-1) zs zs.length) .au none c=some o->c<96∧o.aD (· < 96):=eL trivial (λo h=>by cases h)
 have cC:(jU 41 b0 pk.length cap).aD (· < 96):=iK (by omega)
 have hl:(jv (P.n-1) zs zs.length).length=zs.length:=jc _ _ _
 have fin: ∀ (v:AV) {cH:Env} {s1:St},aP prog (aW prog ba 60) 299 100000 (cA 0 (aT 3 aB)) [(2,jU 41 b0 pk.length cap),(3,.ptr 12 0),(7,.ptr 14 0)] ⟨mk [(14,db P (jv (P.n-1) zs zs.length) .au)],96,0,0,True,[]⟩= .ok (.normal,cH) s1->[2,3,7,9].map cH.look=[some (jU 41 b0 pk.length cap),some (.ptr 12 0),some (.ptr 14 0),some v]->(∀ φ:bo,Jb1 φ v= .int .i64 (zs.length:Nat))->s1.pre->(∀ c,c<128->(s1.wr.testBit c=true↔c∈([]:List Nat)))->(aT 3 aB).wp prog (B5 κ) a w:=λv {cH s1} de bt hv eg cG=>by
  refine cN (bX named mixed bL (nt:=299) 0 (aT 3 aB) 100000 _ _ _ _ (by kernel_rfl) de) bf (dC bn (ab rfl aC)) eg (λφ1 w1 a1 fD bO=> ?_) _ (λa w h=>h)
  show (aT 4 aB).wp prog (B5 κ) a1 w1
  refine t5 hP hk ha hz nL hm (cF.congr (fD 41 (by show 41<96;omega))) (bO.Jb4 (bO.fit.bB (bV (λc o h=>(bn c o h).1) cG)) bn ?_)
  exact ab ⟨_,ai bt 0 rfl rfl,rfl,cC⟩<|ab ⟨_,ai bt 1 rfl rfl,rfl,by show 12<96;omega⟩<|ab ⟨_,ai bt 2 rfl rfl,rfl,by show 14<96;omega⟩<|ab ⟨_,ai bt 3 rfl rfl,(hv _).trans rfl,trivial⟩ aC
 by_cases he:jv (P.n-1) zs zs.length=[]
 ·have Ea:zs.length=0:=by rw [<- hl,he];rfl
  obtain ⟨cH,s1,de,bt,cb,Jb8,cG,_⟩:=aE (R6 (jU 41 b0 pk.length cap) (P.n:Int))
  have eg:s1.pre:=by rw [cb];exact True.intro
  refine fin _ ?_ bt (λ_=>by rw [Ea];rfl) eg cG
  have e:db P (jv (P.n-1) zs zs.length) .au= .row false [.aa .i64 (P.n:Nat),.slice 1 0 1 1,.au,.au] 26 none:=by unfold db AL;rw [if_pos he]
  rw [e];exact de
 ·obtain ⟨cH,s1,de,bt,cb,Jb8,cG,_⟩:=aE (Vb (jU 41 b0 pk.length cap) (P.n:Int) (jv (P.n-1) zs zs.length).length)
  have eg:s1.pre:=by rw [cb];exact True.intro
  refine fin _ ?_ bt (λ_=>by simp only [Jb1];rw [hl]) eg cG
  have e:db P (jv (P.n-1) zs zs.length) .au= .row false [.aa .i64 (P.n:Nat),.slice 1 0 1 1,.ae 7 6 0 0 (jv (P.n-1) zs zs.length).length (jv (P.n-1) zs zs.length).length,.au] 26 none:=by unfold db AL;rw [if_neg he]
  rw [e];exact de
end
end
section
open Ev Ct Go.RowKit
open Go.IntKind (i64 u64)
variable {κ:Ev.dE}
section
variable {P:cv} {zs pk:List Int}
theorem PT {aV pkv:AV} {φ0:bo} (Z3:aV.aD (· < 96)) (nL:pkv.aD (· < 96)) {Q:Exit->Act->World->Prop} (hQ: ∀ a w,Fv κ P aV pkv [] φ0 0 a w->Q (.exit 0) a w) (a:Act) (w:World) (h:Fv κ P aV pkv [] φ0 0 a w):bh prog (bK (P5 2 aB)) Q a w:=by
 obtain ⟨φ,bf,Lb,rA⟩:=h
 have bn: ∀ i,∀ c o,H5 P (jv (P.n-1) [] i) .au none c=some o->c<96∧o.aD (· < 96):=λi=>eL trivial (λo h=>by cases h)
 refine bh.of ?_
 obtain ⟨env,s,cW,df,aQ,eP,dc,_⟩:=aE (DM aV pkv 0 0)
 have eg:s.pre:=by rw [aQ];exact ⟨True.intro,by simp [aq]⟩
 refine cN ((bE named (cj mixed) (sound named mixed bL 60) (nt:=299) 100000).1 _ _ _ _ _ _ cW) bf bA eg (K:=λa w=>Q (.exit 0) a w) (λφ' w' a' uF fN=> ?_) _ (λa w h=>h)
 have WV:φ' 40=φ 40:=uF 40 (by show 40<96;omega)
 have TA:φ' 41=φ 41:=uF 41 (by show 41<96;omega)
 exact hQ a' w' ⟨φ',tI fN df rfl (fN.fit.bB (bV (λc o h=>(bf.ids c o h).1) dc)) (bn _) Z3 nL rfl rfl rfl rfl,WV.trans Lb,TA.trans rA⟩
theorem t3 (hP:2<=P.n∧P.n<=4) (hk:1<=P.k∧P.k<=32) (ha:P.att<=3) (hz:zs.length<=16) (Td: ∀ i,i<zs.length->0<=nth zs i∧nth zs i<=255) (nL:pk.length<=2000) (hm:κ.mark=κ.yM.heap.size)
  {φ:bo} {a:Act} {w:World} {a0 b0:Option Addr} {ca cap:Nat} (Tw:uA κ .u8 40 a0 ca zs φ) (cF:uA κ .i64 41 b0 cap pk φ) (bf:At κ (H5 P [] .au none) 299 96 [(1,jU 40 a0 zs.length ca),(2,jU 41 b0 pk.length cap),(3,.ptr 12 0),(7,.ptr 14 0)] φ w a):(aT 2 aB).wp prog (B5 κ) a w:=by
 have cC:(jU 41 b0 pk.length cap).aD (· < 96):=iK (by omega)
 have QD:(jU 40 a0 zs.length ca).aD (· < 96):=iK (by omega)
 have bn: ∀ c o,H5 P [] .au none c=some o->c<96∧o.aD (· < 96):=eL trivial (λo h=>by cases h)
 refine fh (a:=P5 2 aB) (b:=aT 3 aB) (by kernel_rfl) ?_
 have qM: ∀ (aV:AV) a w,Fv κ P aV (jU 41 b0 pk.length cap) zs φ zs.length a w->(aT 3 aB).wp prog (B5 κ) a w:=λaV a w h=>by
  obtain ⟨φ2,eM,_,rA⟩:=h
  exact t4 hP hk ha hz nL hm (cF.congr rA) (eM.Jb4 eM.fit eM.ids (ab ⟨_,rfl,rfl,cC⟩<|ab ⟨_,rfl,rfl,by show 12<96;omega⟩<|ab ⟨_,rfl,rfl,by show 14<96;omega⟩ aC))
 have go: ∀ (aV v:AV) {cH:Env} {s1:St},aV.aD (· < 96)->aP prog (aW prog ba 60) 299 100000 (cA 0 (P5 2 aB)) [(1,aV),(2,jU 41 b0 pk.length cap),(3,.ptr 12 0),(7,.ptr 14 0)] ⟨mk [],96,0,0,True,[]⟩= .ok (.normal,cH) s1->[1,2,3,7,72,73].map cH.look=[some aV,some (jU 41 b0 pk.length cap),some (.ptr 12 0),some (.ptr 14 0),some v,some (.int .i64 0)]->(∀ φ:bo,Jb1 φ v= .int .i64 (zs.length:Nat))->s1.pre->(∀ c,c<128->(s1.wr.testBit c=true↔c∈([]:List Nat)))->
   At κ (H5 P [] .au none) 299 96 [(1,aV),(2,jU 41 b0 pk.length cap),(3,.ptr 12 0),(7,.ptr 14 0)] φ w a->
   (∀ a1 w1,Fv κ P aV (jU 41 b0 pk.length cap) zs φ 0 a1 w1->bh prog (bK (P5 2 aB)) (Exit.inBlock 0 (Exit.then ((aT 3 aB).wp prog (B5 κ)) (B5 κ))) a1 w1)->
   (P5 2 aB).wp prog (Exit.then ((aT 3 aB).wp prog (B5 κ)) (B5 κ)) a w:=λaV v {cH s1} Z3 de bt hv eg cG bf loop=>by
  refine cN (bX named mixed bL (nt:=299) 0 (P5 2 aB) 100000 _ _ _ _ (by kernel_rfl) de) bf bA eg (λφ1 w1 a1 fD bO=> ?_) _ (λa w h=>h)
  refine gk (id:=0) (b:= .loop (bK (P5 2 aB))) (by kernel_rfl) ?_
  refine bh.wp (loop a1 w1 ⟨φ1,?_,fD 40 (by show 40<96;omega),fD 41 (by show 41<96;omega)⟩)
  have Ea:jv (P.n-1) zs 0=[]:=rfl
  rw [Ea]
  refine bO.Jb4 (bO.fit.bB (bV (λc o h=>(bf.ids c o h).1) cG)) bf.ids ?_
  exact ab ⟨_,ai bt 0 rfl rfl,rfl,Z3⟩<|ab ⟨_,ai bt 1 rfl rfl,rfl,cC⟩<|ab ⟨_,ai bt 2 rfl rfl,rfl,by show 12<96;omega⟩<|ab ⟨_,ai bt 3 rfl rfl,rfl,by show 14<96;omega⟩<|ab ⟨_,ai bt 4 rfl rfl,(hv _).trans rfl,trivial⟩<|ab ⟨_,ai bt 5 rfl rfl,rfl,trivial⟩ aC
 cases a0 with
 | none=>
  obtain ⟨oD,_⟩:=Tw.none rfl
  subst oD
  obtain ⟨cH,s1,de,bt,cb,Jb8,cG,_⟩:=aE (Fm (jU 41 b0 pk.length cap))
  have eg:s1.pre:=by rw [cb];exact True.intro
  exact go .au _ True.intro de bt (λ_=>rfl) eg cG bf (PT (aV:= .au) True.intro cC (qM _))
 | some x=>
  obtain ⟨cH,s1,de,bt,cb,Jb8,cG,_⟩:=aE (Kr (jU 41 b0 pk.length cap) zs.length x.off ca)
  have eg:s1.pre:=by rw [cb];exact True.intro
  have Qt:(AV.aL 40 x.off zs.length ca).aD (· < 96):=by show 40<96;omega
  refine go _ _ Qt de bt (λ_=>rfl) eg cG bf ?_
  by_cases oD:zs=[]
  ·subst oD
   exact PT Qt cC (qM _)
  ·obtain ⟨dp,off,l,t,hx,hl,gm,rz⟩:=DJ hm Tw.ints oD
   obtain rfl:=Option.some.inj hx
   exact R7 hP hm (by omega) Td Vo hl gm (λφ2 H ψ w2 hf Lb=>rz 40 φ2 H ψ w2 hf (Lb.trans (Tw.at_ _ rfl))) (qM _) zs.length 0 (by omega)
def L7 (P:cv) (b:Nat):Option ak:=if b=12 then some (Fu P) else none
theorem DT: ∀ c o,L7 P c=some o->c<96∧o.aD (· < 96):=λc o h=>by
 unfold L7 at h
 split at h
 ·rename_i e;subst e
  obtain rfl:=Option.some.inj h
  exact ⟨by omega,trivial,trivial,trivial,trivial⟩
 ·cases h
theorem t2 (hP:2<=P.n∧P.n<=4) (hk:1<=P.k∧P.k<=32) (ha:P.att<=3) (hz:zs.length<=16) (Td: ∀ i,i<zs.length->0<=nth zs i∧nth zs i<=255) (nL:pk.length<=2000) (hm:κ.mark=κ.yM.heap.size)
  {φ:bo} {a:Act} {w:World} {a0 b0:Option Addr} {ca cap:Nat} (Tw:uA κ .u8 40 a0 ca zs φ) (cF:uA κ .i64 41 b0 cap pk φ) (bf:At κ (L7 P) 299 96 [(1,jU 40 a0 zs.length ca),(2,jU 41 b0 pk.length cap),(3,.ptr 12 0)] φ w a):(aT 1 aB).wp prog (B5 κ) a w:=by
 have cC:(jU 41 b0 pk.length cap).aD (· < 96):=iK (by omega)
 have QD:(jU 40 a0 zs.length ca).aD (· < 96):=iK (by omega)
 obtain ⟨cH,s1,de,bt,cb,Jb8,cG,dT⟩:=aE (X8 (jU 40 a0 zs.length ca) (jU 41 b0 pk.length cap) ((P.n-1:Nat):Int) (P.k:Int) (P.att:Int))
 have eg:s1.pre:=by rw [cb];exact ⟨True.intro,rfl⟩
 refine cN (bX named mixed bL (nt:=299) 0 (aT 1 aB) 100000 _ _ _ _ (by kernel_rfl) de) bf (dC DT (ab rfl aC)) eg (λφ1 w1 a1 fD bO=> ?_) _ (λa w h=>h)
 show (aT 2 aB).wp prog (B5 κ) a1 w1
 have hw:i64.wrap (((P.n-1:Nat):Int)+(1:Int))=(P.n:Int):=by rw [wrap64 (by omega) (by omega)];omega
 have S4:=ah dT 0 rfl rfl
 have AO:=ah dT 1 rfl rfl
 rw [hw] at AO
 let r:Nat->Nat:=λb=>if b=1 then 96 else if b=14 then 97 else b
 have bn: ∀ c o,H5 P [] .au none c=some o->c<96∧o.aD (· < 96):=eL trivial (λo h=>by cases h)
 have gM: ∀ {b:Nat} {o:ak},H5 P [] .au none b=some o->(b=1∧o=nf P)∨(b=12∧o=Fu P)∨(b=14∧o=db P [] .au):=fun {b o} h=>by
  rcases iI h with ⟨h1,h2⟩ | ⟨_,h2,_⟩ | ⟨h1,h2⟩ | ⟨_,h2⟩ | ⟨h1,h2⟩
  ·exact .inl ⟨h1,h2⟩
  ·exact absurd rfl h2
  ·exact .inr (.inl ⟨h1,h2⟩)
  ·cases h2
  ·exact .inr (.inr ⟨h1,h2⟩)
 have Zu:after (L7 P) s1 96=some (nf P):=by
  unfold after
  rw [if_pos ((cG 96 (by omega)).2 (by simp)),S4];rfl
 have a97:after (L7 P) s1 97=some (.row false [.aa .i64 (P.n:Nat),.slice 96 0 1 1,.au,.au] 26 none):=by
  unfold after
  rw [if_pos ((cG 97 (by omega)).2 (by simp)),AO]
 have a12:after (L7 P) s1 12=some (Fu P):=by
  unfold after
  rw [if_neg (λhh=>by have:=(cG 12 (by omega)).1 hh;simp at this)];rfl
 have bx:cz κ (H5 P [] .au none) (λb=>φ1 (r b)) w1:=by
  refine bO.fit.iQ (H':=H5 P [] .au none) r (λb d x y hb hd he=> ?_) (λb o' hb=> ?_)
  ·rcases gM hb with ⟨rfl,_⟩ | ⟨rfl,_⟩ | ⟨rfl,_⟩<;>rcases gM hd with ⟨rfl,_⟩ | ⟨rfl,_⟩ | ⟨rfl,_⟩<;>first | rfl | (exfalso;revert he;decide)
  ·rcases gM hb with ⟨rfl,rfl⟩ | ⟨rfl,rfl⟩ | ⟨rfl,rfl⟩
   ·exact ⟨_,Zu,bl ⟨trivial,trivial,trivial,trivial⟩⟩
   ·exact ⟨_,a12,bl ⟨trivial,trivial,trivial,trivial⟩⟩
   ·exact ⟨_,a97,rfl,rfl,rfl⟩
 have WV:φ1 40=φ 40:=fD 40 (by show 40<96;omega)
 have TA:φ1 41=φ 41:=fD 41 (by show 41<96;omega)
 refine t3 hP hk ha hz Td nL hm (φ:=λb=>φ1 (r b)) (Tw.congr WV) (cF.congr TA) (bO.Jb4 bx bn ?_)
 exact ab ⟨_,ai bt 0 rfl rfl,pF rfl,QD⟩<|ab ⟨_,ai bt 1 rfl rfl,pF rfl,cC⟩<|ab ⟨_,ai bt 2 rfl rfl,rfl,by show 12<96;omega⟩<|ab ⟨_,ai bt 3 rfl rfl,rfl,by show 14<96;omega⟩ aC
end
end
def ns (x:AV):Prop:=x= .au∨ ∃ b off len cap,x= .aL b off len cap
theorem Ye (q0 q1 q2:Int) (x y:AV) (hx:ns x) (hy:ns y):iD prog Tryz.f5.results.toList [] (aP prog (aW prog ba 60) 299 100000 aB (eG [.agg [.aa .i64 q0,.aa .i64 q1,.aa .i64 q2],x,y] 0) ⟨mk [],96,0,0,True,[.br true]⟩)=
  some ([.bool true],True∧aq .lss q0 (1:Int)=true,97,[96],[]):=by
 rcases hx with rfl | ⟨b,off,len,cap,rfl⟩<;>rcases hy with rfl | ⟨b',lb,rP,rH,rfl⟩<;>kernel_rfl
theorem Yf (q0 q1 q2:Int) (x y:AV) (hx:ns x) (hy:ns y):iD prog Tryz.f5.results.toList [] (aP prog (aW prog ba 60) 299 100000 aB (eG [.agg [.aa .i64 q0,.aa .i64 q1,.aa .i64 q2],x,y] 0) ⟨mk [],96,0,0,True,[.br false,.br true]⟩)=
  some ([.bool true],(True∧aq .lss q0 (1:Int)=false)∧aq .gtr q0 (3:Int)=true,97,[96],[]):=by
 rcases hx with rfl | ⟨b,off,len,cap,rfl⟩<;>rcases hy with rfl | ⟨b',lb,rP,rH,rfl⟩<;>kernel_rfl
theorem Yg (q0 q1 q2:Int) (x y:AV) (hx:ns x) (hy:ns y):iD prog Tryz.f5.results.toList [] (aP prog (aW prog ba 60) 299 100000 aB (eG [.agg [.aa .i64 q0,.aa .i64 q1,.aa .i64 q2],x,y] 0) ⟨mk [],96,0,0,True,[.br false,.br false,.br true]⟩)=
  some ([.bool true],((True∧aq .lss q0 (1:Int)=false)∧aq .gtr q0 (3:Int)=false)∧aq .lss q1 (1:Int)=true,97,[96],[]):=by
 rcases hx with rfl | ⟨b,off,len,cap,rfl⟩<;>rcases hy with rfl | ⟨b',lb,rP,rH,rfl⟩<;>kernel_rfl
theorem Yh (q0 q1 q2:Int) (x y:AV) (hx:ns x) (hy:ns y):iD prog Tryz.f5.results.toList [] (aP prog (aW prog ba 60) 299 100000 aB (eG [.agg [.aa .i64 q0,.aa .i64 q1,.aa .i64 q2],x,y] 0) ⟨mk [],96,0,0,True,[.br false,.br false,.br false,.br true]⟩)=
  some ([.bool true],(((True∧aq .lss q0 (1:Int)=false)∧aq .gtr q0 (3:Int)=false)∧aq .lss q1 (1:Int)=false)∧aq .gtr q1 (32:Int)=true,97,[96],[]):=by
 rcases hx with rfl | ⟨b,off,len,cap,rfl⟩<;>rcases hy with rfl | ⟨b',lb,rP,rH,rfl⟩<;>kernel_rfl
theorem Yi (q0 q1 q2:Int) (x y:AV) (hx:ns x) (hy:ns y):iD prog Tryz.f5.results.toList [] (aP prog (aW prog ba 60) 299 100000 aB (eG [.agg [.aa .i64 q0,.aa .i64 q1,.aa .i64 q2],x,y] 0) ⟨mk [],96,0,0,True,[.br false,.br false,.br false,.br false,.br true]⟩)=
  some ([.bool true],((((True∧aq .lss q0 (1:Int)=false)∧aq .gtr q0 (3:Int)=false)∧aq .lss q1 (1:Int)=false)∧aq .gtr q1 (32:Int)=false)∧aq .lss q2 (0:Int)=true,97,[96],[]):=by
 rcases hx with rfl | ⟨b,off,len,cap,rfl⟩<;>rcases hy with rfl | ⟨b',lb,rP,rH,rfl⟩<;>kernel_rfl
theorem Yj (q0 q1 q2:Int) (x y:AV) (hx:ns x) (hy:ns y):iD prog Tryz.f5.results.toList [] (aP prog (aW prog ba 60) 299 100000 aB (eG [.agg [.aa .i64 q0,.aa .i64 q1,.aa .i64 q2],x,y] 0) ⟨mk [],96,0,0,True,[.br false,.br false,.br false,.br false,.br false,.br true]⟩)=
  some ([.bool true],(((((True∧aq .lss q0 (1:Int)=false)∧aq .gtr q0 (3:Int)=false)∧aq .lss q1 (1:Int)=false)∧aq .gtr q1 (32:Int)=false)∧aq .lss q2 (0:Int)=false)∧aq .gtr q2 (3:Int)=true,97,[96],[]):=by
 rcases hx with rfl | ⟨b,off,len,cap,rfl⟩<;>rcases hy with rfl | ⟨b',lb,rP,rH,rfl⟩<;>kernel_rfl
theorem Yk (q0 q1 q2:Int) (b off len cap:Nat) (y:AV) (hy:ns y):iD prog Tryz.f5.results.toList [] (aP prog (aW prog ba 60) 299 100000 aB (eG [.agg [.aa .i64 q0,.aa .i64 q1,.aa .i64 q2],.aL b off len cap,y] 0) ⟨mk [],96,0,0,True,[.br false,.br false,.br false,.br false,.br false,.br false,.br true]⟩)=
  some ([.bool true],((((((True∧aq .lss q0 (1:Int)=false)∧aq .gtr q0 (3:Int)=false)∧aq .lss q1 (1:Int)=false)∧aq .gtr q1 (32:Int)=false)∧aq .lss q2 (0:Int)=false)∧aq .gtr q2 (3:Int)=false)∧aq .gtr (len:Int) (16:Int)=true,97,[96],[]):=by
 rcases hy with rfl | ⟨b',lb,rP,rH,rfl⟩<;>kernel_rfl
theorem Yl (q0 q1 q2:Int) (b off len cap b' lb rP rH:Nat):iD prog Tryz.f5.results.toList [] (aP prog (aW prog ba 60) 299 100000 aB (eG [.agg [.aa .i64 q0,.aa .i64 q1,.aa .i64 q2],.aL b off len cap,(.aL b' lb rP rH)] 0) ⟨mk [],96,0,0,True,[.br false,.br false,.br false,.br false,.br false,.br false,.br false,.br true]⟩)=
  some ([.bool true],(((((((True∧aq .lss q0 (1:Int)=false)∧aq .gtr q0 (3:Int)=false)∧aq .lss q1 (1:Int)=false)∧aq .gtr q1 (32:Int)=false)∧aq .lss q2 (0:Int)=false)∧aq .gtr q2 (3:Int)=false)∧aq .gtr (len:Int) (16:Int)=false)∧aq .gtr (rP:Int) (2000:Int)=true,97,[96],[]):=by
 kernel_rfl
theorem Ym (q0 q1 q2:Int) (b' lb rP rH:Nat):iD prog Tryz.f5.results.toList [] (aP prog (aW prog ba 60) 299 100000 aB (eG [.agg [.aa .i64 q0,.aa .i64 q1,.aa .i64 q2],.au,(.aL b' lb rP rH)] 0) ⟨mk [],96,0,0,True,[.br false,.br false,.br false,.br false,.br false,.br false,.br true]⟩)=
  some ([.bool true],((((((True∧aq .lss q0 (1:Int)=false)∧aq .gtr q0 (3:Int)=false)∧aq .lss q1 (1:Int)=false)∧aq .gtr q1 (32:Int)=false)∧aq .lss q2 (0:Int)=false)∧aq .gtr q2 (3:Int)=false)∧aq .gtr (rP:Int) (2000:Int)=true,97,[96],[]):=by
 kernel_rfl
section
open Ev Ct Go.RowKit
variable {φ:bo} {nx c0 len cap:Nat} {a0:Option Addr}
theorem nJ {oo:List CL}: ∀ c o,St.get ⟨mk [],nx,0,0,True,oo⟩ c=some o->o.aD (· < nx)∧ ∃ o0,(λ_=>none:Nat->Option ak) c=some o0∧bW φ φ o0 o:=bA
theorem Ss: ∀ c o,(λ_=>none:Nat->Option ak) c=some o->c<nx∧o.aD (· < nx):=λc o h=>by cases h
theorem Su (w:World) (φ:bo):cz ⟨w.heap.size,w⟩ (λ_=>none) φ w:=
 ⟨λc o h=>(by cases h),λb c x y h=>(by cases h),λc o h=>(by cases h),λr _=>rfl,Nat.le_refl _,rfl,rfl⟩
def mP (a0 b0:Option Addr):bo:=λc=>⟨match (if c=40 then a0 else b0) with | some x=>x.block | none=>0,0⟩
theorem K2:ns (jU c0 a0 len cap):=by
 cases a0 with
 | none=>exact .inl rfl
 | some x=>exact .inr ⟨_,_,_,_,rfl⟩
theorem DU (V6: ∀ x,a0=some x->x.spot=none) (h0:a0=none->len=0∧cap=0) (hφ: ∀ x,a0=some x->φ c0=⟨x.block,0⟩):Jb1 φ (jU c0 a0 len cap)= .slice a0 len cap:=by
 cases a0 with
 | none=>obtain ⟨rfl,rfl⟩:=h0 rfl;rfl
 | some x=>
  have h:=hφ _ rfl
  obtain ⟨b,off,spot⟩:=x
  have:=V6 _ rfl
  subst this
  unfold jU
  simp only [Jb1,h]
theorem FG (q0 q1 q2:Int) (a0 b0:Option Addr) (ca cap:Nat) (zs pk:List Int) (w:World) (ha0:Jb9 .u8 w a0 zs) (hb0:Jb9 .i64 w b0 pk) (Qg:a0=none->zs=[]∧ca=0) (S2:b0=none->pk=[]∧cap=0) (hsa: ∀ x,a0=some x->x.spot=none) (qJ: ∀ x,b0=some x->x.spot=none)
  (Td: ∀ i,i<zs.length->0<=nth zs i∧nth zs i<=255):
  Calls prog 5 #[.agg #[.int .i64 q0,.int .i64 q1,.int .i64 q2],.slice a0 zs.length ca,.slice b0 pk.length cap] w (PQ ⟨w.heap.size,w⟩):=by
 have Lb: ∀ x,a0=some x->mP a0 b0 40=⟨x.block,0⟩:=λx h=>by subst h;rfl
 have rA: ∀ x,b0=some x->mP a0 b0 41=⟨x.block,0⟩:=λx h=>by subst h;rfl
 have FP:Jb1 (mP a0 b0) (jU 40 a0 zs.length ca)= .slice a0 zs.length ca:=DU hsa (λh=>by rw [(Qg h).1];exact ⟨rfl,(Qg h).2⟩) Lb
 have nA:Jb1 (mP a0 b0) (jU 41 b0 pk.length cap)= .slice b0 pk.length cap:=DU qJ (λh=>by rw [(S2 h).1];exact ⟨rfl,(S2 h).2⟩) rA
 have et:(az (mP a0 b0) [.agg [.aa .i64 q0,.aa .i64 q1,.aa .i64 q2],jU 40 a0 zs.length ca,jU 41 b0 pk.length cap]).toArray= #[.agg #[.int .i64 q0,.int .i64 q1,.int .i64 q2],.slice a0 zs.length ca,.slice b0 pk.length cap]:=by
  simp only [az,FP,nA];rfl
 rw [<- et]
 refine iY Tryz.func5 (c:=Tryz.f5.body.getD .skip) (args:=[.agg [.aa .i64 q0,.aa .i64 q1,.aa .i64 q2],jU 40 a0 zs.length ca,jU 41 b0 pk.length cap]) (by kernel_rfl) (by show 3<=Tryz.f5.ntmps;rw [Tryz.ntmps5];omega) (Su w (mP a0 b0)) (nx:=96) Ss ⟨⟨trivial,trivial,trivial,trivial⟩,iK (by omega),iK (by omega),trivial⟩ (λa bf=> ?_)
 rw [Tryz.ntmps5] at bf ⊢
 show aB.wp prog (B5 ⟨w.heap.size,w⟩) a w
 have ix:ns (jU 40 a0 zs.length ca):=K2
 have iy:ns (jU 41 b0 pk.length cap):=K2
 by_cases g1:q0<1
 ·exact mO (Ye q0 q1 q2 _ _ ix iy) (by simp [aq];omega) bf nJ
 by_cases g2:q0>3
 ·exact mO (Yf q0 q1 q2 _ _ ix iy) (by simp [aq];omega) bf nJ
 by_cases g3:q1<1
 ·exact mO (Yg q0 q1 q2 _ _ ix iy) (by simp [aq];omega) bf nJ
 by_cases g4:q1>32
 ·exact mO (Yh q0 q1 q2 _ _ ix iy) (by simp [aq];omega) bf nJ
 by_cases g5:q2<0
 ·exact mO (Yi q0 q1 q2 _ _ ix iy) (by simp [aq];omega) bf nJ
 by_cases g6:q2>3
 ·exact mO (Yj q0 q1 q2 _ _ ix iy) (by simp [aq];omega) bf nJ
 by_cases g7:zs.length>16
 ·cases a0 with
  | none=>
   rw [(Qg rfl).1] at g7
   simp at g7
  | some x=>exact mO (Yk q0 q1 q2 40 x.off zs.length ca _ iy) (by simp [aq];omega) bf nJ
 by_cases g8:pk.length>2000
 ·cases b0 with
  | none=>
   rw [(S2 rfl).1] at g8
   simp at g8
  | some y=>
   cases a0 with
   | none=>exact mO (Ym q0 q1 q2 41 y.off pk.length cap) (by simp [aq];omega) bf nJ
   | some x=>exact mO (Yl q0 q1 q2 40 x.off zs.length ca 41 y.off pk.length cap) (by simp [aq];omega) bf nJ
 obtain ⟨m0,rfl⟩: ∃ m:Nat,q0=m:=⟨q0.toNat,by omega⟩
 obtain ⟨m1,rfl⟩: ∃ m:Nat,q1=m:=⟨q1.toNat,by omega⟩
 obtain ⟨m2,rfl⟩: ∃ m:Nat,q2=m:=⟨q2.toNat,by omega⟩
 have go: ∀ {cH:Env} {s1:St} {oo:List CL},aP prog (aW prog ba 60) 299 100000 (cA 1 aB) (eG [.agg [.aa .i64 (m0:Nat),.aa .i64 (m1:Nat),.aa .i64 (m2:Nat)],jU 40 a0 zs.length ca,jU 41 b0 pk.length cap] 0) ⟨mk [],96,0,0,True,oo⟩= .ok (.normal,cH) s1->
   [1,2,3].map cH.look=[some (jU 40 a0 zs.length ca),some (jU 41 b0 pk.length cap),some (.ptr 96 0)]->s1.pre->(∀ c,c<128->(s1.wr.testBit c=true↔c∈[96]))->[96].map s1.get=[some (.row false [.aa .i64 (m0:Nat),.aa .i64 (m1:Nat),.aa .i64 (m2:Nat)] 52 none)]->aB.wp prog (B5 ⟨w.heap.size,w⟩) a w:=fun {cH s1 oo} de bt eg cG dT=>by
  refine cN (bX named mixed bL (nt:=299) 1 aB 100000 _ _ _ _ (by kernel_rfl) de) bf nJ eg (λφ1 w1 a1 fD bO=> ?_) _ (λa w h=>h)
  show (aT 1 aB).wp prog (B5 ⟨w.heap.size,w⟩) a1 w1
  have S4:=ah dT 0 rfl rfl
  have Zu:after (λ_=>none) s1 96=some (Fu ⟨m0+1,m1,m2⟩):=by
   unfold after
   rw [if_pos ((cG 96 (by omega)).2 (by simp)),S4];rfl
  have bx:cz ⟨w.heap.size,w⟩ (L7 ⟨m0+1,m1,m2⟩) (λb=>φ1 (if b=12 then 96 else b)) w1:=by
   refine bO.fit.iQ (H':=L7 ⟨m0+1,m1,m2⟩) (λb=>if b=12 then 96 else b) (λb d x y hb hd he=> ?_) (λb o' hb=> ?_)
   ·unfold L7 at hb hd
    split at hb
    ·split at hd
     ·omega
     ·cases hd
    ·cases hb
   ·unfold L7 at hb
    split at hb
    ·rename_i e;subst e
     obtain rfl:=Option.some.inj hb
     exact ⟨_,Zu,bl ⟨trivial,trivial,trivial,trivial⟩⟩
    ·cases hb
  have WV:φ1 40=mP a0 b0 40:=fD 40 (by show 40<96;omega)
  have TA:φ1 41=mP a0 b0 41:=fD 41 (by show 41<96;omega)
  refine t2 (P:=⟨m0+1,m1,m2⟩) (φ:=λb=>φ1 (if b=12 then 96 else b)) ⟨by show 2<=m0+1;omega,by show m0+1<=4;omega⟩ ⟨by show 1<=m1;omega,by show m1<=32;omega⟩ (by show m2<=3;omega) (by omega) Td (by omega) rfl ⟨ha0,Qg,λx hx=>WV.trans (Lb x hx)⟩ ⟨hb0,S2,λx hx=>TA.trans (rA x hx)⟩ (bO.Jb4 bx DT ?_)
  exact ab ⟨_,ai bt 0 rfl rfl,pF rfl,iK (by omega)⟩<|ab ⟨_,ai bt 1 rfl rfl,pF rfl,iK (by omega)⟩<|ab ⟨_,ai bt 2 rfl rfl,rfl,by show 12<96;omega⟩ aC
 cases a0 with
 | none=>
  cases b0 with
  | none=>
   obtain ⟨cH,s1,de,bt,cb,Jb8,cG,dT⟩:=aE (R5 (m0:Nat) (m1:Nat) (m2:Nat))
   exact go de bt (by rw [cb];simp [aq];omega) cG dT
  | some y=>
   obtain ⟨cH,s1,de,bt,cb,Jb8,cG,dT⟩:=aE (R4 (m0:Nat) (m1:Nat) (m2:Nat) pk.length y.off cap)
   exact go de bt (by rw [cb];simp [aq];omega) cG dT
 | some x=>
  cases b0 with
  | none=>
   obtain ⟨cH,s1,de,bt,cb,Jb8,cG,dT⟩:=aE (R3 (m0:Nat) (m1:Nat) (m2:Nat) zs.length x.off ca)
   exact go de bt (by rw [cb];simp [aq];omega) cG dT
  | some y=>
   obtain ⟨cH,s1,de,bt,cb,Jb8,cG,dT⟩:=aE (RZ (m0:Nat) (m1:Nat) (m2:Nat) zs.length x.off ca pk.length y.off cap)
   exact go de bt (by rw [cb];simp [aq];omega) cG dT
end
end Qk
end Go.Proofs.YtpkfimijnkkbjaaGreat
