/- A pick of a thread that begins a call goes as the machine says. -/
import Derived.Test.YtpkfimijnkkbjaaGreatJ21
set_option linter.unusedVariables false
namespace Go.Proofs.YtpkfimijnkkbjaaGreat
namespace Qk
open Ev Ct
open Go.Proofs.Tryz (prog)
section
variable {κ:Ev.dE}
variable {P:cv} {i a t:Nat} {σ:Nat->Nat} {aA:Int} {inv:Nat->AV} {M:Mm}
theorem J4 {P:Program} {f:FuncId} {p:Part} {VV:List (Nat×ak)} (hp:bP P f p) (h:eK VV p.ins):bP P f { p with ins:=VV }:=by
 have TU:=h.right
 have toL:=h.left
 refine ⟨hp.fn,λhq D ha hi hn=>hp.ids hq D ha (λy hy=> ?_) hn,λhq n φ w hn et hi lY=> ?_⟩
 ·obtain ⟨x,hx,_,hs⟩:=TU y hy
  exact hs.2 D (hi x hx)
 ·refine (hp.nX hq n φ w hn et (λy hy=> ?_) (λx hx y hy he=> ?_)).mono ?_
  ·obtain ⟨x,hx,e,hs⟩:=TU y hy
   obtain ⟨q1,q2,q3⟩:=hi x hx
   rw [<- e]
   exact ⟨q1.same rfl (hs.1 φ),q2,hs.2 _ q3⟩
  ·obtain ⟨x',jx,e,_⟩:=TU x hx
   obtain ⟨y',l0,e',_⟩:=TU y hy
   rw [<- e,<- e'] at he ⊢
   exact lY x' jx y' l0 he
  ·rintro e w' ⟨φ1,rfl,hA,hH,hI,hS,hF,fy⟩
   refine ⟨φ1,rfl,hA,hH,hI,λx hx=> ?_,λr hr bq=>hF r hr λy hy ⟨z,hz,SE⟩=> ?_,fy⟩
   ·rcases hS x hx with h | ⟨y,hy,⟨z,hz,SE⟩,h⟩
    ·exact .inl h
    ·obtain ⟨z',Qx,e,_⟩:=TU z hz
     exact .inr ⟨y,hy,⟨z',Qx,e.trans SE⟩,h⟩
   ·obtain ⟨z',Qx,e,_⟩:=TU z hz
    exact bq y hy ⟨z',Qx,e.trans SE⟩
def fl (i:Nat):Nat:=if i<96 then (if i=32 then 100 else i) else i+5
theorem wP (h:i<96) (h':i≠32):fl i=i:=by unfold fl;rw [if_pos h,if_neg h']
theorem Ow (h:96<=i):fl i=i+5:=by unfold fl;rw [if_neg (by omega)]
theorem wQ {l:List (Nat×ak)} {o:ak} (h:(a,o)∈l):(σ a,dm σ o)∈iB σ l:=List.mem_map.2 ⟨_,h,rfl⟩
theorem Ox {a2:Nat} {j2 j3:Nat->Int} {outs:List (Nat×ak)} {st:Os} (h:Dy P a a2 j2 j3 outs st):Dy P (σ a) (σ a2) j2 j3 (iB σ outs) st:=by
 revert h
 cases st with
 | sub x f=>
  cases x with
  | fn q=>
   intro h
   have:=wQ (σ:=σ) h
   rw [wv] at this
   exact this
  | hp take u ph q=>
   intro h
   refine ⟨?_,λf2 ov e=> ?_⟩
   ·have:=wQ (σ:=σ) h.1
    rw [BB] at this
    exact this
   ·have:=wQ (σ:=σ) (h.2 f2 ov e)
    rw [wv] at this
    exact this
 | _=>exact λ_=>trivial
theorem PI {af:Nat->AV} (h2:σ 2=2) (kN:σ 10=10) (hi: ∀ u,dz σ (inv u)=inv u):dm σ (wW aA inv af)=wW aA inv (λu=>dz σ (af u)):=by
 have e: ∀ l m:List AV,gI σ (l++m)=gI σ l++gI σ m:=λl m=>by
  induction l with
  | nil=>rfl
  | cons a l ih=>simp only [List.cons_append,gI,ih]
 have m16: ∀ f:Nat->AV,gI σ (cP f)=cP (λu=>dz σ (f u)):=λf=>by
  have: ∀ l:List Nat,gI σ (l.map f)=l.map (λu=>dz σ (f u)):=λl=>by
   induction l with
   | nil=>rfl
   | cons a l ih=>simp only [List.map_cons,gI,ih]
  exact this _
 show ak.row false (gI σ (WL aA inv af)) 92 none= .row false (WL aA inv (λu=>dz σ (af u))) 92 none
 unfold WL
 rw [e,e,e,m16,m16]
 have iS:(λu=>dz σ (inv u))=inv:=funext hi
 rw [iS]
 simp only [gI,dz,h2,kN]
theorem J5 {o:Op} (h:o.st= .check):(aj P M t o).2.2=false:=by
 obtain ⟨take,v,tries,ref,i,ag,err,val,os⟩:=o
 cases h
 simp only [aj]
 split<;>rfl
def X4 (t:Nat) (take:Bool) (a li:Int):ak:= .row false [.ptr 12 0,.int .i64 (t:Nat),.int .i64 0,.int .i64 0,.bool take,.aa .u64 a,.aX,.aa .i64 li,.int .i64 0,.int .u64 0,.int .u64 0,.int .u64 0,.int .u64 0,.int .u64 0,.int .u64 0,.int .u64 0,.int .i64 0,.int .i64 0,.int .u64 0,.au,.au] 287 none
theorem BW {take:Bool} {v li:Nat} {row':ak} {ay:Nat->AV} {af marks':Nat->AV} {c c':Nat->Int} {M':Mm} {d:Bool} {aN:List (Nat×ak)} (hl:(iq P ay).aD (λ_=>False)) (hinv: ∀ u,dz fl (inv u)=inv u) (hm: ∀ u,dz fl (af u)=af u)
  (hp:bP prog 231 (jP P (bp t 64 48 (λ_=>0) ⟨take,v,0,0,li,0,0,0,.check⟩) row' [] [] ay aA inv af marks' c c' M M' d 6 aN)):
  bP prog 231 { args:=[.ptr 100 0,.ptr 1 0],ins:=[(100,X4 t take (v:Nat) (li:Nat)),(12,iq P ay),(1,wW aA inv af),(2,mR P c),(3,Jb5 (aG P M))],v:= .bool d,outs:=[(100,dm fl row'),(12,iq P ay),(1,wW aA inv (λu=>dz fl (marks' u))),(2,mR P c'),(3,Jb5 (aG P M'))]++iB fl aN,nx:=101,k:=6 }:=by
 have h:=E4 hp (ρ:=fl) (d:=5) (nx':=101) (by show 0<6;omega) rfl (λi hi=>Ow hi) (λi hi=>by
   have hi:i<96:=hi
   unfold fl
   split
   ·split<;>omega
   ·omega) (λx hx y hy he=>by
   have jx:x.1=32∨x.1=12∨x.1=1∨x.1=2∨x.1=3:=by
    simp only [jP,List.nil_append,List.mem_cons,List.not_mem_nil,or_false] at hx
    rcases hx with rfl | rfl | rfl | rfl | rfl<;>simp
   have l0:y.1=32∨y.1=12∨y.1=1∨y.1=2∨y.1=3:=by
    simp only [jP,List.nil_append,List.mem_cons,List.not_mem_nil,or_false] at hy
    rcases hy with rfl | rfl | rfl | rfl | rfl<;>simp
   rcases jx with h | h | h | h | h<;>rcases l0 with h' | h' | h' | h' | h'<;>rw [h,h'] at he ⊢ <;>(revert he;decide))
 have e1:dm fl (iq P ay)=iq P ay:=fS (bJ hl)
 have e2:dm fl (wW aA inv af)=wW aA inv af:=by rw [PI rfl rfl hinv];exact congrArg (wW aA inv) (funext hm)
 have e2':dm fl (wW aA inv marks')=wW aA inv (λu=>dz fl (marks' u)):=PI rfl rfl hinv
 have e3: ∀ c,dm fl (mR P c)=mR P c:=λc=>fS (dK (wP (by omega) (by omega)))
 have e4: ∀ M,dm fl (Jb5 (aG P M))=Jb5 (aG P M):=λM=>fS gT
 have e5:dm fl (bp t 64 48 (λ_=>0) ⟨take,v,0,0,li,0,0,0,.check⟩)=bp t 64 48 (λ_=>0) ⟨take,v,0,0,li,0,0,0,.check⟩:=sZ rfl
 have ei:iB fl (jP P (bp t 64 48 (λ_=>0) ⟨take,v,0,0,li,0,0,0,.check⟩) row' [] [] ay aA inv af marks' c c' M M' d 6 aN).ins=[(100,bp t 64 48 (λ_=>0) ⟨take,v,0,0,li,0,0,0,.check⟩),(12,iq P ay),(1,wW aA inv af),(2,mR P c),(3,Jb5 (aG P M))]:=by
  simp only [jP,iB,List.nil_append,List.map_cons,List.map_nil,e1,e2,e3,e4,e5]
  rfl
 have eo:iB fl (jP P (bp t 64 48 (λ_=>0) ⟨take,v,0,0,li,0,0,0,.check⟩) row' [] [] ay aA inv af marks' c c' M M' d 6 aN).outs=[(100,dm fl row'),(12,iq P ay),(1,wW aA inv (λu=>dz fl (marks' u))),(2,mR P c'),(3,Jb5 (aG P M'))]++iB fl aN:=by
  simp only [jP,iB,List.nil_append,List.map_cons,List.map_nil,List.map_append,e1,e2',e3,e4]
  rfl
 rw [ei,eo] at h
 exact J4 h (.cons ⟨λφ=>⟨rfl,rfl,rfl⟩,λD h=>h⟩ (eK.refl _))
end
section
open Go.IntKind (i64 u64)
variable {κ:Ev.dE}
theorem RC {K:KC} {t i:Nat} (h:i∈K.ix t): ∃ c,K.cs[i]?=some c∧c.1=t:=by
 unfold KC.ix at h
 obtain ⟨h1,h2⟩:=List.mem_filter.1 h
 split at h2
 ·rename_i c hc
  exact ⟨c,hc,by simpa using h2⟩
 ·cases h2
theorem at_mem {K:KC} {t p:Nat} (h:p<K.nc t):K.at_ t p∈K.ix t:=by
 have h':p<(K.ix t).length:=h
 unfold KC.at_
 rw [List.getElem?_eq_getElem h']
 exact List.getElem_mem h'
theorem lF {K:KC} {t p:Nat} (h:p<K.nc t):K.cs[K.at_ t p]?=some (t,K.kd t p,K.V t p):=by
 obtain ⟨c,h1,h2⟩:=RC (at_mem h)
 have e:K.call (K.at_ t p)=c:=by unfold KC.call;rw [h1];rfl
 unfold KC.kd KC.V
 rw [e,h1,<- h2]
theorem zX {K:KC} {t p:Nat} (h:p<K.nc t): ∀ r,r<6->K.calls[K.at_ t p*6+r]?=[AV.aa .i64 (t:Int),.int .i64 0,.int .i64 (Om (K.kd t p)),.aa .u64 ((K.V t p:Nat):Int),.int .u64 0,.int .u64 0][r]?:=λr hr=>by
 have hc: ∀ c,(bj c).length=6:=λc=>rfl
 have:=JY hc hr K.cs (K.at_ t p)
 rw [lF h] at this
 rw [Nat.mul_comm]
 exact this
theorem J6 {K:KC} {t p:Nat} (h:p<K.nc t):K.at_ t p<K.cs.length:=(List.getElem?_eq_some_iff.1 (lF h)).1
theorem J7 {t c:Nat} (ht:t<4) (hc:c=0∨c=1∨c=2∨c=3∨c=4∨c=5∨c=16+t∨c=7∨c=8∨c=9∨c=12):iF t true c=true:=by
 unfold iF jb
 simp only [Bool.or_eq_true,beq_iff_eq,Bool.true_and]
 rcases hc with h | h | h | h | h | h | h | h | h | h | h<;>simp [h]
theorem fV {H:Nat->Option ak} {φ:bo} {c:Nat} {o:ak} (h:H c=some o) (hc:c<96) (ho:o.aD (· < 96)):mG H φ (λi=>i) (c,o):=⟨hc,ho,o,h,bW.refl _ _⟩
section
variable {K:KC} {s:Qs} {j:Jq} {k t b:Nat} {φ:bo} {w:World}
theorem BX (hP:PB K.P) (iN:K.P.n<=4) (hb:b<524288) (bi:BI K.P b s.M) (ht:t<K.P.n) (dU:s.cur t=none) (hc:m6 K.P b t (kV K.V K.kd s t)) (tb:pL K.P s.M t (kV K.V K.kd s t)) (P9:s.look t<K.P.n) (hj:kY K s j k) (hk:k<=1000000) (fj:s.pos t<K.nc t) (SU:j.evl<100000) (bx:cz κ (b7 K s j) φ w):
  Calls prog 22 #[Jb1 φ (.ptr 0 0),.int .i64 (t:Int)] w (zU κ K k φ j.oth (s.step K.P K.V K.kd t)):=by
 have xj:s.aA K.V K.kd t=kV K.V K.kd s t:=by unfold Qs.aA;rw [dU];rfl
 have tX:s.look' K.P t=Jb2 s.look t ((s.look t+1)%K.P.n):=by unfold Qs.look';rw [dU];rfl
 have Mn:K.nc t≠0:=by omega
 have hE:=hj.evs
 have lg:=hj.lm t ht Mn
 rw [if_neg (by omega)] at lg
 have hv:K.V t (s.pos t)<16777216:=hc.v
 have uB:(i64.wrap (((s.look t:Nat):Int)+1)).tmod (K.P.n:Int)=(((s.look t+1)%K.P.n:Nat):Int):=by
  rw [gg (by omega),Int.tmod_eq_emod_of_nonneg (by omega)];omega
 have Cu:bm (dB j) t .au=dB { j with af:=Jb2 j.af t false }:=by
  funext u
  rw [cu]
  unfold dB
  by_cases e:u=t
  ·subst e
   rw [if_pos rfl]
   show _=match decide (u<4)&&Jb2 j.af u false u with | true=>AV.aF (49+u) 1 0 0 1 1 | false=> .au
   rw [aM,Bool.and_false]
  ·rw [if_neg e]
   show _=match decide (u<4)&&Jb2 j.af t false u with | true=>AV.aF (49+u) 1 0 0 1 1 | false=> .au
   rw [aJ e]
   generalize (decide (u<4)&&j.af u)=z
   cases z<;>rfl
 have YT: ∀ u,dz fl (bm (dB j) t .au u)=bm (dB j) t .au u:=λu=>by
  rw [Cu]
  exact wj _ (jS (λv hv=>wP (by omega) (by omega)) u)
 have hW: ∀ aA inv,(∀ u,∃ x,inv u=AV.aa .i64 x)->(wW aA inv (bm (dB j) t .au)).aD (λi=>i<96∧i≠64):=λaA inv hi=>zV (by omega) (by omega) (λu _=>by obtain ⟨x,hx⟩:=hi u;rw [hx];trivial) (λu _=>by rw [Cu];exact jS (λv hv=>by omega) u)
 have hinv: ∀ u,∃ x,bm (λu=>AV.aa .i64 (j.inv u)) t (.aa .i64 (i64.wrap (j.aA+1))) u= .aa .i64 x:=λu=>by
  rw [cu];split<;>exact ⟨_,rfl⟩
 have hq: ∀ x,(iq K.P (bm (ct s) t (.aa .i64 x))).aD (λ_=>False):=λx=>by
  show aR _ ([AV.aa .i64 0,.aa .i64 (K.P.n:Nat),.aa .i64 (K.P.k:Nat),.aa .i64 (K.P.att:Nat)]++cP (bm (ct s) t (.aa .i64 x)))
  exact all_append ⟨trivial,trivial,trivial,trivial,trivial⟩ (jl λu _=>by rw [cu];split<;>trivial)
 obtain ⟨c',row',subs',marks',aN,hp,ho,lN⟩:=Dk (Ji hP iN hb bi hc tb (λ_=>0) (λ_=>0) (λ_=>0) (bm (ct s) t (.aa .i64 ((i64.wrap (((s.look t:Nat):Int)+1)).tmod (K.P.n:Int)))) (i64.wrap (j.aA+1)) (bm (λu=> .aa .i64 (j.inv u)) t (.aa .i64 (i64.wrap (j.aA+1)))) (bm (dB j) t .au) j.c ((hW _ _ hinv).mono λi hi=>hi.2)) (λx hx=>by cases hx) (bJ (hq _)) ((hW _ _ hinv).mono λi hi=>hi.1)
 have LM:subs'=[]:=Oo lN
 subst LM
 have hd:(aj K.P s.M t (kV K.V K.kd s t)).2.2=false:=J5 rfl
 rw [hd] at hp ho
 have hpb:=BW (li:=s.look t) (hq _) (λu=>by obtain ⟨x,hx⟩:=hinv u;rw [hx];rfl) YT hp
 have ij:=gu dx (l:=[(231,_)]) (λx hx=>by
  simp only [List.mem_cons,List.not_mem_nil,or_false] at hx
  subst hx;exact hpb)
 obtain ⟨mu,rI,Pc,AU⟩:=zW (j:={ j with af:=Jb2 j.af t false }) iN (by rw [<- Cu];exact ho.mark)
 have AR:s.step K.P K.V K.kd t={ s with M:=(aj K.P s.M t (kV K.V K.kd s t)).1,cur:=Jb2 s.cur t (some (aj K.P s.M t (kV K.V K.kd s t)).2.1),look:=Jb2 s.look t ((s.look t+1)%K.P.n) }:=by
  unfold Qs.step
  rw [xj,tX]
  revert hd
  generalize aj K.P s.M t (kV K.V K.kd s t)=r
  obtain ⟨M',o',b⟩:=r
  intro hd
  cases hd
  rfl
 rw [AR]
 have lQ:iB fl aN=[]∨ ∃ y,iB fl aN=[(105,y)]:=by
  rcases ho.aN with rfl | ⟨y,rfl⟩
  ·exact .inl rfl
  ·exact .inr ⟨_,rfl⟩
 have hmn:bm (mK s) t .aX=mK s:=jR (by unfold mK;rw [dU];simp)
 have Gf:bm (ct s) t (.aa .i64 ((s.look t:Nat):Int))=ct s:=jR rfl
 obtain ⟨E0,Mo,Zy,hE0,VW⟩: ∃ E0 Mo,((j.evl=0∧E0=AV.au∧Mo=([]:List (Nat×ak)))∨(j.evl≠0∧E0= .ae 8 8 0 0 j.evl j.evl∧Mo=[(8,.row true j.evs 48 (some 8))]))∧E0=ju j∧ ∀ p∈Mo,p.1=8∧mG (b7 K s j) φ (λi=>i) p:=by
  by_cases e:j.evl=0
  ·exact ⟨.au,[],.inl ⟨e,rfl,rfl⟩,(by unfold ju;rw [if_pos e]),λp hp=>by cases hp⟩
  ·refine ⟨_,_,.inr ⟨e,rfl,rfl⟩,(by unfold ju;rw [if_neg e]),λp hp=> ?_⟩
   simp only [List.mem_singleton] at hp
   subst hp
   exact ⟨rfl,fV (by rw [dj (by omega)];exact if_neg e) (by omega) (bJ (pq hE))⟩
 obtain ⟨oo,s1,A,E,sy,L,cW,aQ,eP,hA1,hE1,hB,hAf,oy⟩:=Fc (by omega) (turn:= .aa .i64 j.turn) (m:=mK s) (ats:=λu=> .aa .i64 (j.ats u:Nat)) (at1:=(j.ats t:Nat)) (wd:= .au) (cn:=λi=> .aa .i64 (j.cn i)) (idle:=j.idle) (aA:=j.aA) (inv:=λu=> .aa .i64 (j.inv u)) (af:=dB j) (marks2:=λu=>dz fl (marks' u)) (evl:=j.evl) (evs:=j.evs) (left:=j.left) (lmap:=j.lmap) (lst:=K.lst t) (calls:=K.calls) (lk:=s.pos t) (ll:=K.nc t-s.pos t) (lt:=K.nc t) (nc:=K.cs.length) (ci:=K.at_ t (s.pos t)) (ay:=ct s) (n:=(K.P.n:Nat)) (k:=(K.P.k:Nat)) (att:=(K.P.att:Nat)) (li:=(s.look t:Nat)) (a:=(K.V t (s.pos t):Nat)) (th:=(t:Nat)) (take:=K.kd t (s.pos t)) (yr:=dm fl row') (xm:=mR K.P j.c) (ym:=mR K.P c') (xs:=Jb5 (aG K.P s.M)) (ys:=Jb5 (aG K.P (aj K.P s.M t (kV K.V K.kd s t)).1)) lQ Zy lg (by omega) (by omega) (BV K fj) hE.len SU (J6 fj) (zX fj) (by have:=hP.n;omega) (by omega)
 rw [hmn,Gf] at cW
 have eN: ∀ c o1,c<16->Fb K s j c=some o1->b7 K s j c=some o1:=λc o1 hc h=>by rw [dj hc];exact h
 have vC: ∀ p∈([(0,.row false (PK wF (.ae 7 6 0 0 K.cs.length K.cs.length) (.aa .i64 j.turn) (mK s) (bm (λu=> .aa .i64 (j.ats u:Nat)) t (.aa .i64 (j.ats t:Nat))) E0 .au (λi=> .aa .i64 (j.cn i)) j.idle) 83 none),(1,wW j.aA (λu=> .aa .i64 (j.inv u)) (dB j)),(2,mR K.P j.c),(3,Jb5 (aG K.P s.M)),(4,.row false [.ed 5,.aa .i64 j.left] 113 none),(5,.map true j.lmap),(16+t,.row true (K.lst t) 3 (some 1)),(7,.row true K.calls 42 (some 6))]:List (Nat×ak))++Mo++[(9,.row false [.iface 162 (.ptr 12 0)] 107 (some 1)),(12,iq K.P (ct s))],mG (b7 K s j) φ (λi=>i) p:=by
  have Ls: ∀ p∈([(0,.row false (PK wF (.ae 7 6 0 0 K.cs.length K.cs.length) (.aa .i64 j.turn) (mK s) (bm (λu=> .aa .i64 (j.ats u:Nat)) t (.aa .i64 (j.ats t:Nat))) E0 .au (λi=> .aa .i64 (j.cn i)) j.idle) 83 none),(1,wW j.aA (λu=> .aa .i64 (j.inv u)) (dB j)),(2,mR K.P j.c),(3,Jb5 (aG K.P s.M)),(4,.row false [.ed 5,.aa .i64 j.left] 113 none),(5,.map true j.lmap),(16+t,.row true (K.lst t) 3 (some 1)),(7,.row true K.calls 42 (some 6))]:List (Nat×ak)),mG (b7 K s j) φ (λi=>i) p:=by
   have Jab:bm (λu=>AV.aa .i64 (j.ats u:Nat)) t (.aa .i64 (j.ats t:Nat))=λu=> .aa .i64 (j.ats u:Nat):=jR rfl
   rw [Jab,hE0]
   refine ab ?_<|ab ?_<|ab ?_<|ab ?_<|ab ?_<|ab ?_<|ab ?_<|ab ?_ aC
   ·refine fV (eN 0 _ (by omega) rfl) (by omega) (wO (by omega) (by omega) (by show 9<96;omega) (by show 7<96;omega) trivial (λu hu=> ?_) (λu hu=>trivial) ?_ trivial (λi=>trivial))
    ·unfold mK;split
     ·show 33+u<96;omega
     ·trivial
    ·unfold ju;split
     ·trivial
     ·show 8<96;omega
   ·exact fV (eN 1 _ (by omega) rfl) (by omega) (zV (by omega) (by omega) (λu _=>trivial) (λu _=>jS (λv hv=>by omega) u))
   ·exact fV (eN 2 _ (by omega) rfl) (by omega) (dK (by omega))
   ·exact fV (eN 3 _ (by omega) rfl) (by omega) gT
   ·exact fV (eN 4 _ (by omega) rfl) (by omega) ⟨by show 5<96;omega,trivial,trivial⟩
   ·exact fV (eN 5 _ (by omega) rfl) (by omega) (λp hp=>(hj.mD p hp).mono λi hi=>by omega)
   ·exact fV (by rw [oe (by omega),if_pos ⟨ht,Mn⟩]) (by omega) (bJ (j9 K t))
   ·exact fV (eN 7 _ (by omega) rfl) (by omega) (bJ (ka K))
  have h9: ∀ p∈([(9,.row false [.iface 162 (.ptr 12 0)] 107 (some 1)),(12,iq K.P (ct s))]:List (Nat×ak)),mG (b7 K s j) φ (λi=>i) p:=by
   refine ab ?_<|ab ?_ aC
   ·exact fV (eN 9 _ (by omega) rfl) (by omega) ⟨by show 12<96;omega,trivial⟩
   ·exact fV (eN 12 _ (by omega) rfl) (by omega) (bJ kH)
  intro p hp
  rcases List.mem_append.1 hp with hp | hp
  ·rcases List.mem_append.1 hp with hp | hp
   ·exact Ls p hp
   ·exact (VW p hp).2
  ·exact h9 p hp
 have qU: ∀ p∈([(0,.row false (PK wF (.ae 7 6 0 0 K.cs.length K.cs.length) (.aa .i64 j.turn) (mK s) (bm (λu=> .aa .i64 (j.ats u:Nat)) t (.aa .i64 (j.ats t:Nat))) E0 .au (λi=> .aa .i64 (j.cn i)) j.idle) 83 none),(1,wW j.aA (λu=> .aa .i64 (j.inv u)) (dB j)),(2,mR K.P j.c),(3,Jb5 (aG K.P s.M)),(4,.row false [.ed 5,.aa .i64 j.left] 113 none),(5,.map true j.lmap),(16+t,.row true (K.lst t) 3 (some 1)),(7,.row true K.calls 42 (some 6))]:List (Nat×ak))++Mo++[(9,.row false [.iface 162 (.ptr 12 0)] 107 (some 1)),(12,iq K.P (ct s))],p.1=0∨p.1=1∨p.1=2∨p.1=3∨p.1=4∨p.1=5∨p.1=16+t∨p.1=7∨p.1=8∨p.1=9∨p.1=12:=by
  intro p hp
  rcases List.mem_append.1 hp with hp | hp
  ·rcases List.mem_append.1 hp with hp | hp
   ·simp only [List.mem_cons,List.not_mem_nil,or_false] at hp
    rcases hp with rfl | rfl | rfl | rfl | rfl | rfl | rfl | rfl<;>omega
   ·have:=(VW p hp).1;omega
  ·simp only [List.mem_cons,List.not_mem_nil,or_false] at hp
   rcases hp with rfl | rfl<;>omega
 have kf:=rZ named mixed ij cW aQ bx (λi=>i) (λc o1 h=>vC _ (kJ h)) (λb c x y _ _ h=>h) (by exact ⟨by show 0<96;omega,trivial,trivial⟩)
 refine kf.mono ?_
 rintro e w' ⟨φ1,rfl,hA,_,_,hQ⟩
 have hA: ∀ i,¬ (96<=i∧i<107)->φ1 i=φ i:=λi hi=>hA i (by rw [eP];exact hi)
 obtain ⟨a,a2,bb,jn,j2,j3,fI,hbb,ha,Ee,bq,kr⟩:=ho.names
 subst fI
 rw [sZ rfl] at oy
 have hout: ∀ p∈iB fl ([]++aN),s1.get p.1=some p.2:=λp hp=>oy p (List.mem_append.2 (.inr hp))
 have Ww:fl 100=105:=rfl
 have r64:fl 64=64:=rfl
 have r80:fl 80=80:=rfl
 have D4: ∀ φ φ',bW φ φ' (iq K.P (bm (ct s) t (.aa .i64 ((i64.wrap (((s.look t:Nat):Int)+1)).tmod (K.P.n:Int))))) (iq K.P (λu=> .aa .i64 ((Jb2 s.look t ((s.look t+1)%K.P.n) u:Nat):Int))):=λφ φ'=>by
  rw [uB]
  have:(bm (ct s) t (.aa .i64 (((s.look t+1)%K.P.n:Nat):Int)))=λu=> .aa .i64 ((Jb2 s.look t ((s.look t+1)%K.P.n) u:Nat):Int):=by
   funext u
   rw [cu,wb]
   split
   ·rfl
   ·rfl
  rw [this]
  have h0:(iq K.P (λu=> .aa .i64 ((Jb2 s.look t ((s.look t+1)%K.P.n) u:Nat):Int))).aD (λ_=>False):=by
   show aR _ ([AV.aa .i64 0,.aa .i64 (K.P.n:Nat),.aa .i64 (K.P.k:Nat),.aa .i64 (K.P.att:Nat)]++cP (λu=> .aa .i64 ((Jb2 s.look t ((s.look t+1)%K.P.n) u:Nat):Int)))
   exact all_append ⟨trivial,trivial,trivial,trivial,trivial⟩ (jl λu _=>trivial)
  exact bl h0
 have row: ∀ (i:Nat) (p:Nat×ak),[(0,ak.row false (PK wF (.ae 7 6 0 0 K.cs.length K.cs.length) (.int .i64 (t:Nat)) (bm (mK s) t (.iface 283 (.ptr 100 0))) (bm (λu=> .aa .i64 (j.ats u:Nat)) t A) E .au (λi=> .aa .i64 (j.cn i)) j.idle) 83 none),(1,wW (i64.wrap (j.aA+1)) (bm (λu=> .aa .i64 (j.inv u)) t (.aa .i64 (i64.wrap (j.aA+1)))) (λu=>dz fl (marks' u))),(2,mR K.P c'),(3,Jb5 (aG K.P (aj K.P s.M t (kV K.V K.kd s t)).1)),(4,.row false [.ed 5,.aa .i64 j.left] 113 none),(5,.map true j.lmap),(16+t,.row true (K.lst t) 3 (some 1)),(7,.row true K.calls 42 (some 6)),(9,.row false [.iface 162 (.ptr 12 0)] 107 (some 1)),(12,iq K.P (bm (ct s) t (.aa .i64 ((i64.wrap (((s.look t:Nat):Int)+1)).tmod (K.P.n:Int))))),(98,.row sy L 48 (some 8)),(100,bp t (fl a) (fl bb) jn (aj K.P s.M t (kV K.V K.kd s t)).2.1)][i]?=some p->s1.get p.1=some p.2:=λi p h=>oy p (List.mem_append.2 (.inl (List.mem_of_getElem? h)))
 have Zf: ∀ u,u<16->dz fl (marks' u)=match decide (u<4)&&rI u with | true=> .aF (if u=mu then 103 else 49+u) 1 0 0 1 1 | false=> .au:=λu hu=>by
  rw [AU u hu]
  generalize (decide (u<4)&&rI u)=z
  cases z
  ·rfl
  ·by_cases e:u=mu
   ·subst e
    show dz fl (AV.aF (if u=u then 98 else 49+u) 1 0 0 1 1)=AV.aF (if u=u then 103 else 49+u) 1 0 0 1 1
    rw [if_pos rfl,if_pos rfl];rfl
   ·show dz fl (AV.aF (if u=mu then 98 else 49+u) 1 0 0 1 1)=AV.aF (if u=mu then 103 else 49+u) 1 0 0 1 1
    rw [if_neg e,if_neg e]
    show AV.aF (fl (49+u)) 1 0 0 1 1=_
    rw [wP (by omega) (by omega)]
 obtain ⟨φ',h1,h2⟩:=Dz (ρ:=λi=>i) (en:=98) (on:=100) (a:=fl a) (a2:=fl a2) (b:=fl bb) (mkn:=103) (tch:=true) (at':=j.evl) (evl':=j.evl+1) (A:=A) (E:=E) (inv':=bm j.inv t (i64.wrap (j.aA+1))) (look':=Jb2 s.look t ((s.look t+1)%K.P.n)) (own':=Jb2 j.own j.evl (t,s.pos t)) iN ht hQ (λi h0 _ _ _ _=>hA i (by omega)) (λb x h=>J7 (by omega) (qU _ (kJ h))) (.inr ⟨rfl,rfl,by rcases ha with rfl | rfl;exact .inl rfl;exact .inr rfl,by rcases Ee with rfl | rfl;exact .inl rfl;exact .inr rfl⟩) (by
   rcases ha with rfl | rfl<;>rcases Ee with rfl | rfl<;>first | (exact absurd rfl bq) | (rw [r64,r80];omega) | (rw [r64,Ww];omega) | (rw [Ww,r80];omega)) Pc (row 0 _ rfl) hA1 hE1 (by omega) (row 1 _ rfl) (λu _ φ=>by
   rw [cu,cu]
   split<;>rfl) Zf (row 2 _ rfl) (row 3 _ rfl) (row 4 _ rfl) (row 5 _ rfl) hj.mD (row 6 _ rfl) (row 10 _ rfl) (hB.flat λv hv=>(hE.all v hv).1) (row 9 _ rfl) D4 (row 11 _ rfl) (Ox kr) hout (λ_=>⟨row 7 _ rfl,row 8 _ rfl⟩) hj.oth
 exact ⟨φ',_,false,rfl,h1,h2,Ff iN hj ht dU hk hB,rfl⟩
end
end
section
open Go.IntKind (i64 u64)
variable {κ:Ev.dE}
theorem Uz (th:Int) (ob cl turn:AV) (m ats:Nat->AV) (evs wd:AV) (cn:Nat->AV) (idle left:Int) (lmap:List (Int×AV)):
  view [0,4,5] (aW prog bT 60 22 [.ptr 0 0,.aa .i64 th] ⟨mk [(0,.row false (PK ob cl turn m ats evs wd cn idle) 83 none),(4,.row false [.ed 5,.aa .i64 left] 113 none),(5,.map true lmap)],96,0,0,True,[.val []]⟩)=
  some (.bool false,(True∧cR th lmap=none)∧true=true,96,[0],[some (.row false (PK ob cl turn m ats evs wd cn (i64.wrap (idle+1))) 83 none),some (.row false [.ed 5,.aa .i64 left] 113 none),some (.map true lmap)]):=by kernel_rfl
theorem UA (th:Int) (ob cl turn:AV) (m ats:Nat->AV) (evs wd:AV) (cn:Nat->AV) (idle left:Int) (lmap:List (Int×AV)) (b lk lj lt:Nat):
  view [0,4,5] (aW prog bT 60 22 [.ptr 0 0,.aa .i64 th] ⟨mk [(0,.row false (PK ob cl turn m ats evs wd cn idle) 83 none),(4,.row false [.ed 5,.aa .i64 left] 113 none),(5,.map true lmap)],96,0,0,True,[.val [.ae b 1 lk lj 0 lt],.br true]⟩)=
  some (.bool false,((True∧cR th lmap=some (.ae b 1 lk lj 0 lt))∧true=true)∧true=true,96,[0],[some (.row false (PK ob cl turn m ats evs wd cn (i64.wrap (idle+1))) 83 none),some (.row false [.ed 5,.aa .i64 left] 113 none),some (.map true lmap)]):=by kernel_rfl
section
variable {K:KC} {s:Qs} {j:Jq} {k t b:Nat} {φ:bo} {w:World}
theorem qF (hj:kY K s j k) (iN:K.P.n<=4) (bx:cz κ (b7 K s j) φ w) {th:Int} (h:cR th j.lmap=none∨ ∃ b lk lj lt,cR th j.lmap=some (.ae b 1 lk lj 0 lt)):
  Calls prog 22 #[Jb1 φ (.ptr 0 0),.int .i64 th] w (zU κ K k φ j.oth s):=by
 obtain ⟨oo,pre,cW,aQ⟩: ∃ oo pre,view [0,4,5] (aW prog bT 60 22 [.ptr 0 0,.aa .i64 th] ⟨mk [(0,.row false (PK wF (Fa K) (.aa .i64 j.turn) (mK s) (λu=> .aa .i64 (j.ats u:Nat)) (ju j) .au (λi=> .aa .i64 (j.cn i)) j.idle) 83 none),(4,.row false [.ed 5,.aa .i64 j.left] 113 none),(5,.map true j.lmap)],96,0,0,True,oo⟩)=
  some (.bool false,pre,96,[0],[some (.row false (PK wF (Fa K) (.aa .i64 j.turn) (mK s) (λu=> .aa .i64 (j.ats u:Nat)) (ju j) .au (λi=> .aa .i64 (j.cn i)) (i64.wrap (j.idle+1))) 83 none),some (.row false [.ed 5,.aa .i64 j.left] 113 none),some (.map true j.lmap)])∧pre:=by
  rcases h with h | ⟨b,lk,lj,lt,h⟩
  ·exact ⟨_,_,Uz th _ _ _ _ _ _ _ _ _ _ _,⟨True.intro,h⟩,rfl⟩
  ·exact ⟨_,_,UA th _ _ _ _ _ _ _ _ _ _ _ b lk lj lt,⟨⟨True.intro,h⟩,rfl⟩,rfl⟩
 obtain ⟨s1,nB,ua,eP,dc,aI⟩:=b9 cW
 have eN: ∀ c o1,c<16->Fb K s j c=some o1->b7 K s j c=some o1:=λc o1 hc h=>by rw [dj hc];exact h
 have SZ: ∀ i,(ak.row false (PK wF (Fa K) (.aa .i64 j.turn) (mK s) (λu=> .aa .i64 (j.ats u:Nat)) (ju j) .au (λi=> .aa .i64 (j.cn i)) i) 83 none).aD (· < 96):=λi=>by
  refine wO (by omega) (by omega) (by show 9<96;omega) (by show 7<96;omega) trivial (λu hu=> ?_) (λu hu=>trivial) ?_ trivial (λi=>trivial)
  ·unfold mK;split
   ·show 33+u<96;omega
   ·trivial
  ·unfold ju;split
   ·trivial
   ·show 8<96;omega
 have vC: ∀ p∈([(0,.row false (PK wF (Fa K) (.aa .i64 j.turn) (mK s) (λu=> .aa .i64 (j.ats u:Nat)) (ju j) .au (λi=> .aa .i64 (j.cn i)) j.idle) 83 none),(4,.row false [.ed 5,.aa .i64 j.left] 113 none),(5,.map true j.lmap)]:List (Nat×ak)),mG (b7 K s j) φ (λi=>i) p:=by
  refine ab ?_<|ab ?_<|ab ?_ aC
  ·exact fV (eN 0 _ (by omega) rfl) (by omega) (SZ _)
  ·exact fV (eN 4 _ (by omega) rfl) (by omega) ⟨by show 5<96;omega,trivial,trivial⟩
  ·exact fV (eN 5 _ (by omega) rfl) (by omega) (λp hp=>(hj.mD p hp).mono λi hi=>by omega)
 have kf:=rZ named mixed bd nB (by rw [ua];exact aQ) bx (λi=>i) (λc o1 h=>vC _ (kJ h)) (λb c x y _ _ h=>h) (by exact ⟨by show 0<96;omega,trivial,trivial⟩)
 refine kf.mono ?_
 rintro e w' ⟨φ1,rfl,hA,_,_,hQ⟩
 have hφ:φ1=φ:=funext λi=>hA i (by rw [eP];show ¬ (96<=i∧i<96);omega)
 subst hφ
 let j':Jq:={ j with idle:=i64.wrap (j.idle+1) }
 have r0:s1.get 0=some (.row false (PK wF (Fa K) (.aa .i64 j.turn) (mK s) (λu=> .aa .i64 (j.ats u:Nat)) (ju j) .au (λi=> .aa .i64 (j.cn i)) (i64.wrap (j.idle+1))) 83 none):=ah aI 0 rfl rfl
 have r4:s1.get 4=some (.row false [.ed 5,.aa .i64 j.left] 113 none):=ah aI 1 rfl rfl
 have r5:s1.get 5=some (.map true j.lmap):=ah aI 2 rfl rfl
 have Qv: ∀ c,c≠0->b7 K s j' c=b7 K s j c:=λc hc=>by
  by_cases vB:c<16
  ·rw [dj vB,dj vB]
   have:c=1∨c=2∨c=3∨c=4∨c=5∨c=6∨c=7∨c=8∨c=9∨c=10∨c=11∨c=12∨c=13∨c=14∨c=15:=by omega
   rcases this with rfl | rfl | rfl | rfl | rfl | rfl | rfl | rfl | rfl | rfl | rfl | rfl | rfl | rfl | rfl<;>rfl
  ·unfold b7
   rw [if_neg vB,if_neg vB]
   rfl
 refine ⟨φ1,j',false,rfl,λ_ _=>rfl,?_,?_,rfl⟩
 ·refine tq (τ:=λi=>i) (L:=λc=>c==0||c==4||c==5) hQ (λb x h=> ?_) (λb c x y _ _ _ _ h=>h) (λc o1 hL hc=> ?_) (λc o1 hL hc=> ?_)
  ·obtain h:b=0∨b=4∨b=5:=by
    have:=kJ h
    simp only [List.mem_cons,List.not_mem_nil,or_false,Prod.mk.injEq] at this
    rcases this with h | h | h
    ·exact .inl h.1
    ·exact .inr (.inl h.1)
    ·exact .inr (.inr h.1)
   rcases h with rfl | rfl | rfl<;>rfl
  ·obtain h:c=0∨c=4∨c=5:=by
    simp only [Bool.or_eq_true,beq_iff_eq] at hL
    omega
   refine ⟨rfl,?_⟩
   rcases h with rfl | rfl | rfl
   ·rw [dj (by omega)] at hc
    obtain rfl:=Option.some.inj hc
    exact ⟨_,r0,bW.refl _ _⟩
   ·rw [dj (by omega)] at hc
    obtain rfl:=Option.some.inj hc
    exact ⟨_,r4,bW.refl _ _⟩
   ·rw [dj (by omega)] at hc
    obtain rfl:=Option.some.inj hc
    exact ⟨_,r5,bW.refl _ _⟩
  ·refine ⟨rfl,?_,bW.refl _ _⟩
   rw [<- Qv c (by intro e;subst e;cases hL)]
   exact hc
 ·obtain ⟨n1,n2⟩:=hj.aA
  exact ⟨⟨n1,by show j.aA<=((k+1:Nat):Int);omega⟩,hj.evl,⟨hj.evs.len,hj.evs.all,hj.evs.ev,hj.evs.own,hj.evs.inj,hj.evs.ats⟩,hj.lm,hj.TL,hj.mD,hj.oth⟩
structure MK (K:KC) (b:Nat) (s:Qs):Prop where
 inv: ∃ g,Inv K.P K.V K.kd g s
 bi:BI K.P b s.M
 z: ∀ t,t<K.P.n-> ∀ o,s.cur t=some o->zI K.P b t o
 pos: ∀ t,s.pos t<=K.nc t
 cur:vk K.nc s
structure LX (K:KC):Prop where
 pb:PB K.P
 n4:K.P.n<=4
 v: ∀ t p,K.V t p<16777216
theorem UB {s:Qs} (hN:LX K) {b:Nat} (ht:t<K.P.n) (hl:s.look t<K.P.n):zI K.P b t (kV K.V K.kd s t):=
 ⟨⟨ht,hN.v _ _,by show (0:Nat)<_;omega,Nat.zero_le _,Nat.zero_le _,by show s.look t<=32;have:=hN.n4;omega,λ_=>rfl⟩,trivial,(λh f e=>by cases e),(λe=>by cases e)⟩
theorem J8 {s:Qs} (hN:LX K) {b:Nat} (hm:MK K b s) (ht:t<K.P.n):zI K.P b t (s.aA K.V K.kd t):=by
 obtain ⟨g,hi⟩:=hm.inv
 unfold Qs.aA
 cases h:s.cur t with
 | none=>exact UB hN ht (hi.look t ht)
 | some o=>exact hm.z t ht o h
theorem Oy {s:Qs} (hN:LX K) {b:Nat} (hb:b<524287) (hm:MK K b s) (t:Nat):MK K (b+1) (s.pick K.P K.V K.kd K.nc t):=by
 obtain ⟨g,hi⟩:=hm.inv
 have fj:=lD (P:=K.P) (V:=K.V) (kd:=K.kd) [t] s hm.pos
 have dU:=zP (P:=K.P) (V:=K.V) (kd:=K.kd) (t:=t) hm.cur
 refine ⟨Ja1 hN.v hN.pb.k hi,?_,?_,fj,dU⟩
 ·unfold Qs.pick
  split
  ·rename_i hh
   obtain ⟨h1,_⟩:=Us hi.gi hm.bi hb hN.pb.k (qu hi hh.1) (J8 hN hm hh.1)
   have:(s.step K.P K.V K.kd t).M=(aj K.P s.M t (s.aA K.V K.kd t)).1:=by
    unfold Qs.step
    generalize aj K.P s.M t (s.aA K.V K.kd t)=r
    obtain ⟨M',o',d⟩:=r
    cases d<;>rfl
   rw [this];exact h1
  ·exact hm.bi.mono (by omega)
 ·intro u hu o ho
  unfold Qs.pick at ho
  split at ho
  ·rename_i hh
   by_cases e:u=t
   ·subst e
    obtain ⟨_,h2⟩:=Us hi.gi hm.bi hb hN.pb.k (qu hi hh.1) (J8 hN hm hh.1)
    cases hd:(aj K.P s.M u (s.aA K.V K.kd u)).2.2 with
    | false=>
     rw [(pe hd).2.1] at ho
     rw [<- Option.some.inj ho]
     exact h2 hd
    | true=>rw [(step_end hd).2] at ho;cases ho
   ·rw [(dR u e).2.1] at ho
    exact (hm.z u hu o ho).mono (by omega)
  ·exact (hm.z u hu o ho).mono (by omega)
def om (K:KC) (th:Int):Option Nat:=if 0<=th∧th.toNat<K.P.n then some th.toNat else none
def Qs.mH (K:KC) (s:Qs) (th:Int):Qs:=match om K th with
 | some t=>s.pick K.P K.V K.kd K.nc t
 | none=>s
theorem J9 {th:Int} (h:om K th=none) {u:Nat} (hu:u<K.P.n):th≠u:=by
 unfold om at h
 split at h
 ·cases h
 ·rename_i hh
  intro e
  exact hh ⟨by omega,by omega⟩
theorem tu {th:Int} (h:om K th=some t):th=t∧t<K.P.n:=by
 unfold om at h
 split at h
 ·rename_i hh
  cases h
  exact ⟨by omega,hh.2⟩
 ·cases h
theorem RD (ht:t<K.P.n):om K (t:Int)=some t:=by
 unfold om
 rw [if_pos ⟨by omega,by simpa using ht⟩]
 rfl
theorem Ka {s:Qs} (hN:LX K) {b:Nat} (hb:b<524287) (hm:MK K b s) (th:Int):MK K (b+1) (s.mH K th):=by
 unfold Qs.mH
 split
 ·exact Oy hN hb hm _
 ·exact ⟨hm.inv,hm.bi.mono (by omega),λu hu o ho=>(hm.z u hu o ho).mono (by omega),hm.pos,hm.cur⟩
theorem Oz (s:Qs) (u:Nat):busy s u<=1:=by unfold busy;split;exact Nat.le_refl 1;exact Nat.zero_le 1
theorem RE {P:cv} {m:Nat} {s:Qs} (h: ∀ u,u<P.n->s.pos u<=m): ∀ n,n<=P.n->gU n (λu=>s.pos u+busy s u)<=n*(m+1):=by
 intro n
 induction n with
 | zero=>exact λ_=>Nat.zero_le _
 | succ n ih=>
  intro hn
  have h1:=ih (by omega)
  have h2:=h n (by omega)
  have h4:=Oz s n
  show gU n _+(s.pos n+busy s n)<=_
  rw [Nat.succ_mul]
  omega
theorem Fh (hN:LX K) (hb:b<524287) (hm:MK K b s) (hj:kY K s j k) (hk:k<=1000000) (SU:K.cs.length<=1000) (nj: ∀ t,t<K.P.n->K.nc t<=1000) (bx:cz κ (b7 K s j) φ w) (th:Int):
  Calls prog 22 #[Jb1 φ (.ptr 0 0),.int .i64 th] w (zU κ K k φ j.oth (s.mH K th)):=by
 obtain ⟨g,hi⟩:=hm.inv
 unfold Qs.mH
 cases hw:om K th with
 | none=>exact qF hj hN.n4 bx (.inl (hj.TL th λu hu _=>J9 hw hu))
 | some t=>
  obtain ⟨rfl,ht⟩:=tu hw
  show Calls _ _ _ _ (zU κ K k φ j.oth (s.pick K.P K.V K.kd K.nc t))
  unfold Qs.pick
  by_cases fj:s.pos t<K.nc t
  ·rw [if_pos ⟨ht,fj⟩]
   have hz:=J8 hN hm ht
   have hB:=JE hi.gi hm.bi (by omega) (qu hi ht) hz
   unfold Qs.aA at hz hB
   cases dU:s.cur t with
   | none=>
    rw [dU] at hz hB
    have cW:j.evl<100000:=by
     rw [hj.evl]
     have h4:=hN.n4
     have:=RE (P:=K.P) (m:=1000) (s:=s) (λu hu=>Nat.le_trans (hm.pos u) (nj u hu)) K.P.n (Nat.le_refl _)
     have h5:K.P.n*(1000+1)<=4*(1000+1):=Nat.mul_le_mul_right _ h4
     refine Nat.lt_of_le_of_lt (Nat.le_trans this h5) ?_
     decide
    exact BX hN.pb hN.n4 (by omega) hm.bi ht dU hz.c hB (hi.look t ht) hj hk fj cW bx
   | some o=>
    rw [dU] at hz hB
    exact Ov hN.pb hN.n4 (by omega) hm.bi ht dU hz.c hB hj hk fj bx
  ·rw [if_neg (λh=>fj h.2)]
   by_cases Mn:K.nc t=0
   ·refine qF hj hN.n4 bx (.inl (hj.TL _ λu hu h e=> ?_))
    have:t=u:=by omega
    subst this;exact h Mn
   ·have lg:=hj.lm t ht Mn
    have:=hm.pos t
    rw [show K.nc t-s.pos t=0 by omega] at lg
    exact qF hj hN.n4 bx (.inr ⟨_,_,_,_,lg⟩)
end
end
end Qk
end Go.Proofs.YtpkfimijnkkbjaaGreat
namespace Go.Proofs.YtpkfimijnkkbjaaGreat
namespace Ev
section
variable {κ:dE}
variable {P:Program}
theorem bW.congr {φ φ':bo} {D:Nat->Prop} {o o':ak} (h:bW φ φ o o') (hφ: ∀ i,D i->φ' i=φ i) (ho:o.aD D) (Mk:o'.aD D):bW φ' φ' o o':=
 ((bW.jt ho hφ).symm.trans h).trans (bW.jt Mk hφ)
theorem kZ {sm:kP} (lN:gF P) (lV:P.follows .mixedOrders=true) (ij:eu P sm) {d nt F:Nat} {c:Code} {env cm:Env} {s s':St} {x:Ex} (cW:aP P (aW P sm d) nt F c env s= .ok (x,cm) s') {H:Nat->Option ak} {φ:bo} {w:World} {a:Act} (h:At κ H nt s.next env φ w a)
  (hs: ∀ c o,s.get c=some o->o.aD (· < s.next)∧ ∃ o0,H c=some o0∧bW φ φ o0 o) (hp:s'.pre) {Q:Exit->Act->World->Prop}
  (hQ: ∀ φ' w' a',(∀ i,i<s.next->φ' i=φ i)->At κ (after H s') nt s'.next cm φ' w' a'->(∀ c o,s'.get c=some o-> ∃ o0,after H s' c=some o0∧bW φ' φ' o0 o)->Q x.to a' w'):c.wp P Q a w:=by
 have hd:=(bE lN (cj lV) (sound lN lV ij d) (nt:=nt) F).1 _ _ _ _ _ _ cW
 obtain ⟨R,W,sp,_,_⟩:=hd
 refine cN ((bE lN (cj lV) (sound lN lV ij d) (nt:=nt) F).1 _ _ _ _ _ _ cW) h hs hp (K:=λa w=>Q x.to a w) (λφ' w' a' hφ bf=>hQ φ' w' a' hφ bf λc o hc=> ?_) Q (λa w h=>h)
 unfold after
 by_cases hw:s'.wr.testBit c=true
 ·rw [if_pos hw];exact ⟨o,hc,bW.refl _ _⟩
 ·rw [if_neg hw]
  have ud:s.get c=some o:=by rw [<- sp.same c (λhh=>hw (sp.wr c hh))];exact hc
  obtain ⟨h1,o0,h2,h3⟩:=hs c o ud
  exact ⟨o0,h2,h3.congr (D:=(· < s.next)) hφ (h.ids c o0 h2).2 h1⟩
end
section
variable {κ:dE}
variable {P:Program}
variable {r:eO Env} {p:Prop} {nx nt:Nat} {wr:List Nat} {env:Env} {H:Nat->Option ak} {φ:bo} {w:World} {a:Act} {K:Act->World->Prop}
theorem Jc7 {call:FuncId->List AV->St->eO AV} (hn:gF P) (hc:iv P call) {nt:Nat} {ops:Array Oper}:
  ∀ (l:List Oper) (i:Nat) (env cm:Env) (s s':St),dI P call nt ops l env s= .ok cm s'->(∀ j,j<l.length->l[j]?=ops[i+j]?)->
   fE s s' env cm nt (λK a w=> ∀ (Q:Exit->Act->World->Prop) (rest:List Nat),(∀ a w,K a w->wpOps P ops Q rest a w)->wpOps P ops Q (List.range' i l.length++rest) a w)
 | [],i,env,cm,s,s',h,_=>by
  simp only [dI] at h
  cases h
  exact fE.refl λK a w h Q rest hQ=>by simpa using hQ a w h
 | r::l,i,env,cm,s,s',h,hl=>by
  simp only [dI] at h
  split at h
  ·rename_i v s1 hv
   split at h
   ·rename_i cH cY
    have hi:ops[i]?=some r:=by have:=hl 0 (by simp);simpa using this.symm
    have first:=wq hn hc (nt:=nt) hi hv cY
    have rest:=Jc7 hn hc (nt:=nt) (ops:=ops) l (i+1) cH cm s1 s' h (λj hj=>by have:=hl (j+1) (by simp;omega);simp only [List.getElem?_cons_succ] at this;rw [this];congr 1;omega)
    refine fE.trans first rest λK a w hT Q rst hQ=> ?_
    rw [List.length_cons,List.range'_succ,List.cons_append,wpOps_cons]
    exact wpOp_mono (λa w ha=>ha Q rst hQ) (hT Q)
   ·cases h
  ·cases h
def iG (fR names:List Nat) (r:eO Env):Option (List (Option AV)×Prop×Nat×List Nat×List (Option ak)):=match r with
 | .ok env s=>some (fR.map env.look,s.pre,s.next,(List.range 128).filter s.wr.testBit,names.map s.get)
 | .fail _=>none
theorem cV {fR names:List Nat} {vs:List (Option AV)} {l:List (Option ak)} (h:iG fR names r=some (vs,p,nx,wr,l)):
  ∃ env s,r= .ok env s∧fR.map env.look=vs∧s.pre=p∧s.next=nx∧(∀ c,c<128->(s.wr.testBit c=true↔c∈wr))∧names.map s.get=l:=by
 unfold iG at h
 split at h
 ·rename_i env s
  simp only [Option.some.injEq,Prod.mk.injEq] at h
  obtain ⟨rfl,rfl,rfl,rfl,rfl⟩:=h
  exact ⟨env,s,rfl,rfl,rfl,rfl,λc hc=>by simp [hc],rfl⟩
 ·cases h
theorem UD {s s':St} {cm:Env} {T:(Act->World->Prop)->Act->World->Prop} (hd:fE s s' env cm nt T) (h:At κ H nt s.next env φ w a)
  (hs: ∀ c o,s.get c=some o->o.aD (· < s.next)∧ ∃ o0,H c=some o0∧bW φ φ o0 o) (hp:s'.pre) 
  (hK: ∀ φ' w' a',(∀ i,i<s.next->φ' i=φ i)->At κ (after H s') nt s'.next cm φ' w' a'->(∀ c o,s'.get c=some o-> ∃ o0,after H s' c=some o0∧bW φ' φ' o0 o)->K a' w'):T K a w:=by
 have VO:=hd
 obtain ⟨R,W,sp,_,_⟩:=VO
 refine cN hd h hs hp λφ' w' a' hφ bf=>hK φ' w' a' hφ bf λc o hc=> ?_
 unfold after
 by_cases hw:s'.wr.testBit c=true
 ·rw [if_pos hw];exact ⟨o,hc,bW.refl _ _⟩
 ·rw [if_neg hw]
  have ud:s.get c=some o:=by rw [<- sp.same c (λhh=>hw (sp.wr c hh))];exact hc
  obtain ⟨h1,o0,h2,h3⟩:=hs c o ud
  exact ⟨o0,h2,h3.congr (D:=(· < s.next)) hφ (h.ids c o0 h2).2 h1⟩
def Kb (P:Program) (uf:List ResultVar) (r:eO Env):Option (List AV×Prop×Nat×List Nat):=match r with
 | .ok env s=>match dW P env uf s with
  | .ok vs s'=>some (vs,s'.pre,s.next,(List.range 128).filter s.wr.testBit)
  | .fail _=>none
 | .fail _=>none
theorem BY {uf:List ResultVar} {vs:List AV} (h:Kb P uf r=some (vs,p,nx,wr)):
  ∃ env s s',r= .ok env s∧dW P env uf s= .ok vs s'∧s'.pre=p∧(s'.pre->s.pre)∧s.next=nx∧(∀ c,c<128->(s.wr.testBit c=true↔c∈wr)):=by
 unfold Kb at h
 split at h
 ·rename_i env s
  split at h
  ·rename_i vs' s' hr
   simp only [Option.some.injEq,Prod.mk.injEq] at h
   obtain ⟨rfl,rfl,rfl,rfl⟩:=h
   obtain ⟨_,hq,_,_⟩:=gq _ _ _ _ hr
   exact ⟨env,s,s',rfl,hr,rfl,hq.pre,rfl,λc hc=>by simp [hc]⟩
  ·cases h
 ·cases h
theorem cz.sub {H':Nat->Option ak} (h:cz κ H φ w) (hH: ∀ c o,H' c=some o->H c=some o):cz κ H' φ w:=
 ⟨λc o hc=>h.holds c o (hH c o hc),λb c x y hb hc he=>h.inj b c x y (hH b x hb) (hH c y hc) he,λc o hc=>h.base c o (hH c o hc),h.old,h.size,h.env⟩
theorem gz {ops:Array Oper} {i:Nat} {r:Oper} {f:FuncId} {Z0:Array Operand} {ats:Array TypeId} {avs:List AV} {Q:Exit->Act->World->Prop}
  (hn:gF P) (hf: ∃ fn,P.funcs[f]?=some fn∧fn.body.isSome=true) (hi:ops[i]?=some r) (hr:r.op= .call { callee:= .value (.func f),args:=Z0,argTypes:=ats }) (hg:r.guard=none) (O0:nm env Z0.toList=some avs)
  (h:At κ H nt nx env φ w a) {post:Ending->World->Prop} (hc:Calls P f (az φ avs).toArray w post)
  (hK: ∀ e w',post e w'-> ∃ (φ':bo) (H':Nat->Option ak) (nx':Nat) (v:AV) (Pj cm:Env),e= .returned (Jb1 φ' v)∧nx<=nx'∧(∀ t u,Pj.look t=some u->env.look t=some u∧Jb1 φ' u=Jb1 φ u)∧cz κ H' φ' w'∧(∀ c o,H' c=some o->c<nx'∧o.aD (· < nx'))∧v.aD (· < nx')∧jE nt r.dst v Pj=some cm∧
   ∀ a',At κ H' nt nx' cm φ' w' a'->K a' w'):wpOp P ops Q i K a w:=by
 unfold wpOp
 have hw:Region.wanted r (yielded ops a.tmps)=true:=by simp [Region.wanted,hg]
 simp only [hi,hw,if_true]
 refine .inl ?_
 have h2:=kA (φ:=φ) (ρ:=a.eval) O0 (λx _ u hu=>oP (λt _ u hu=>h.fR t u hu) hu)
 have h3:Z0.map a.eval=(az φ avs).toArray:=by rw [<- h2];simp [<- Array.toList_map]
 have jJ:=jH hn hf (az φ avs).toArray w
 unfold Oper.wp
 have he:(execOp a.eval r).run P w= .ok (.enter f (az φ avs).toArray) w:=by
  obtain ⟨dst,op,ty,pos,aft,gd⟩:=r
  simp only at hr
  subst hr
  rw [<- jJ]
  simp only [execOp,resolve,h3]
  simp [Act.eval,Deferred.ofValue,invoke]
 rw [he,Oper.upon_enter]
 refine hc.mono λe w' hp=> ?_
 obtain ⟨φ',H',nx',v,Pj,cm,rfl,k1,k2,k3,k4,k5,k6,k7⟩:=hK e w' hp
 have nw: ∀ t u,Pj.look t=some u->a.tmps[t]?=some (Jb1 φ' u):=λt u hu=>by
  rw [h.fR t u (k2 t u hu).1,(k2 t u hu).2]
 obtain ⟨q1,q2,q3⟩:=vP k6 (φ:=φ) h.size nw
 exact k7 _ ⟨k3,k4,q3,kE k6 k5 (λt u hu=>(h.all t u (k2 t u hu).1).mono λi hi=>Nat.lt_of_lt_of_le hi k1),q1,by rw [q2];exact h.defers⟩
end
end Ev
end Go.Proofs.YtpkfimijnkkbjaaGreat
namespace Go.Proofs.YtpkfimijnkkbjaaGreat
namespace Qk
open Ev Ct
section
variable {H:Nat->Option ak} {φ:bo} {nx:Nat} {oo:List CL} {s:St} {P:Program} {c b:Code} {Q:Exit->Act->World->Prop} {x:Act} {w:World} {wr:List Nat}
noncomputable abbrev aB:Code:=Tryz.f5.body.getD .skip
noncomputable abbrev kc:Code:=Tryz.f8.body.getD .skip
noncomputable abbrev bG:Code:=Tryz.f15.body.getD .skip
noncomputable abbrev da:Code:=Tryz.f21.body.getD .skip
noncomputable abbrev gW:Code:=Tryz.f25.body.getD .skip
noncomputable abbrev gX:Code:=Tryz.f27.body.getD .skip
noncomputable abbrev gY:Code:=Tryz.f34.body.getD .skip
variable {κ:Ev.dE}
def OA:Code->Code
 | .seq _ b=>b
 | c=>c
def TM:Code->Code
 | .block _ (.loop x)=>x
 | .block _ x=>x
 | c=>c
def cB:Code->Array Oper
 | .region _ ops _=>ops
 | _=> #[]
def bK (c:Code):Code:=TM (OA c)
theorem bA: ∀ b o,St.get ⟨mk [],nx,0,0,True,oo⟩ b=some o->o.aD (· < nx)∧ ∃ o0,H b=some o0∧bW φ φ o0 o:=λb o h=>by
 have:=kJ h
 cases this
theorem bV (hH: ∀ c o,H c=some o->c<96) (dc: ∀ c,c<128->(s.wr.testBit c=true↔c∈([]:List Nat))) (c:Nat) (o:ak) (h:H c=some o):after H s c=some o:=by
 unfold after
 rw [if_neg (λhh=>by have:=(dc c (by have:=hH c o h;omega)).1 hh;cases this)]
 exact h
theorem fh {a:Code} (hc:c= .seq a b) (h:a.wp P (Exit.then (b.wp P Q) Q) x w):c.wp P Q x w:=by
 subst hc;exact wp_seq h
theorem gk {id:Nat} (hc:c= .block id b) (h:b.wp P (Exit.inBlock id Q) x w):c.wp P Q x w:=by
 subst hc;exact wp_block h
theorem bR (dc: ∀ c,c<128->(s.wr.testBit c=true↔c∈wr)) {c:Nat} (hc:c<128) (h:c∈wr):after H s c=s.get c:=by
 unfold after
 rw [if_pos ((dc c hc).2 h)]
theorem bY (dc: ∀ c,c<128->(s.wr.testBit c=true↔c∈wr)) {c:Nat} (hc:c<128) (h:c ∉ wr):after H s c=H c:=by
 unfold after
 rw [if_neg λhh=>h ((dc c hc).1 hh)]
theorem dC {l:List (Nat×ak)} (hH: ∀ b o,H b=some o->b<nx∧o.aD (· < nx)) (h: ∀ p∈l,H p.1=some p.2):
  ∀ b o,St.get ⟨mk l,nx,0,0,True,oo⟩ b=some o->o.aD (· < nx)∧ ∃ o0,H b=some o0∧bW φ φ o0 o:=
 Uv hH λp hp=> .same (h p hp)
theorem lG {K:KC} {s:Qs} {j:Jq} {k:Nat} (hn:K.P.n<=4) (hj:kY K s j k): ∀ c o,b7 K s j c=some o->c<96∧o.aD (· < 96):=λc o h=>by
 rcases mC hn h with hb | ⟨u,hu,rfl⟩ | ⟨u,hu,rfl⟩ | ⟨u,hu,rfl⟩ | ⟨u,hu,rfl⟩
 ·refine ⟨by omega,?_⟩
  rw [dj hb] at h
  have ni:c=0∨c=1∨c=2∨c=3∨c=4∨c=5∨c=6∨c=7∨c=8∨c=9∨c=10∨c=11∨c=12∨c=13∨c=14∨c=15:=by omega
  rcases ni with rfl | rfl | rfl | rfl | rfl | rfl | rfl | rfl | rfl | rfl | rfl | rfl | rfl | rfl | rfl | rfl
  ·obtain rfl:=Option.some.inj h
   refine wO (by omega) (by omega) (by show 9<96;omega) (by show 7<96;omega) trivial (λu hu=> ?_) (λu hu=>trivial) ?_ trivial (λi=>trivial)
   ·unfold mK;split
    ·show 33+u<96;omega
    ·trivial
   ·unfold ju;split
    ·trivial
    ·show 8<96;omega
  ·obtain rfl:=Option.some.inj h
   exact zV (by omega) (by omega) (λu _=>trivial) (λu _=>jS (λv hv=>by omega) u)
  ·obtain rfl:=Option.some.inj h
   exact dK (by omega)
  ·obtain rfl:=Option.some.inj h
   exact gT
  ·obtain rfl:=Option.some.inj h
   exact ⟨by show 5<96;omega,trivial,trivial⟩
  ·obtain rfl:=Option.some.inj h
   exact λp hp=>(hj.mD p hp).mono λi hi=>by omega
  ·exact bJ (hj.oth _ _ h)
  ·obtain rfl:=Option.some.inj h
   exact bJ (ka K)
  ·replace h:(if j.evl=0 then none else some (ak.row true j.evs 48 (some 8)))=some o:=h
   split at h
   ·cases h
   ·obtain rfl:=Option.some.inj h
    exact bJ (pq hj.evs)
  ·obtain rfl:=Option.some.inj h
   exact ⟨by show 12<96;omega,trivial⟩
  ·obtain rfl:=Option.some.inj h
   exact λp hp=>by cases hp
  ·cases h
  ·obtain rfl:=Option.some.inj h
   exact bJ kH
  ·exact bJ (hj.oth _ _ h)
  ·exact bJ (hj.oth _ _ h)
  ·exact bJ (hj.oth _ _ h)
 ·refine ⟨by omega,?_⟩
  rw [oe (by omega)] at h
  split at h
  ·obtain rfl:=Option.some.inj h
   exact bJ (j9 K u)
  ·cases h
 ·refine ⟨by omega,?_⟩
  rw [vm (by omega),if_pos hu] at h
  unfold Uw at h
  cases hc:s.cur u with
  | none=>rw [hc] at h;cases h
  | some o2=>
   rw [hc] at h
   obtain rfl:=Option.some.inj h
   exact ve (by omega) (λ_ _ _=>by omega) (λ_=>by omega)
 ·refine ⟨by omega,?_⟩
  rw [qD (by omega),if_pos hu] at h
  cases hc:s.cur u with
  | none=>rw [hc] at h;cases h
  | some o2=>
   rw [hc] at h
   replace h:wG K.P j u o2.st=some o:=h
   unfold wG at h
   split at h
   ·obtain rfl:=Option.some.inj h
    exact dY
   ·obtain rfl:=Option.some.inj h
    exact dh (λ_=>by omega)
   ·cases h
 ·refine ⟨by omega,?_⟩
  rw [qE (by omega),if_pos hu] at h
  cases hc:s.cur u with
  | none=>rw [hc] at h;cases h
  | some o2=>
   rw [hc] at h
   replace h:wH K.P j u o2.st=some o:=h
   unfold wH at h
   split at h
   ·obtain rfl:=Option.some.inj h
    exact dY
   ·cases h
end
end Qk
end Go.Proofs.YtpkfimijnkkbjaaGreat
