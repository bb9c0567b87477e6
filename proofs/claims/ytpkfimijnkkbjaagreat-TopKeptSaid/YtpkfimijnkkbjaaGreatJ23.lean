/- pick.New: the line of any calls. -/
import Derived.Test.YtpkfimijnkkbjaaGreatJ22
set_option linter.unusedVariables false
namespace Go.Proofs.YtpkfimijnkkbjaaGreat
namespace Qk
open Ev Ct
open Go.IntKind (i64 u64)
open Go.Proofs.Tryz (prog)
section
variable {κ:Ev.dE}
def UE (n c i:Nat):Env:=[(0,.aa .i64 (n:Nat)),(6,.ptr 4 0),(25,.ae 7 6 0 0 c c),(26,.aa .i64 c),(27,.aa .i64 i)]
def Xq (n c:Nat) (i:Int):List (Option AV):=[some (.aa .i64 (n:Nat)),some (.ptr 4 0),some (.ae 7 6 0 0 c c),some (.aa .i64 c),some (.aa .i64 i)]
def LY (c:Code):Code:=cA 0 (aT 2 c)
def cellsOf (th kd a:Int):List AV:=[.aa .i64 th,.int .i64 0,.int .i64 kd,.aa .u64 a,.int .u64 0,.int .u64 0]
theorem Fi (n c:Nat):b6 [0,1,6] [96,97] (aP prog (aW prog bT 60) 59 100000 (cA 2 gY) (eG [.aa .i64 (n:Nat),.ae 7 6 0 0 c c] 0) ⟨mk [],96,0,0,True,[.br false,.br false,.br false]⟩)=
  some (.normal,[some (.aa .i64 (n:Nat)),some (.ae 7 6 0 0 c c),some (.ptr 97 0)],((True∧aq .lss (n:Nat) 1=false)∧aq .gtr (n:Nat) 16=false)∧aq .gtr c 1000=false,98,[96,97],[some (.map false []),some (.row false [.ed 96,.aa .i64 c] 113 none)]):=by kernel_rfl
theorem OB (n c:Nat):b6 [0,6,25,26,27] [] (aP prog (aW prog bT 60) 59 100000 (cA 0 (LY gY)) [(0,.aa .i64 (n:Nat)),(1,.ae 7 6 0 0 c c),(6,.ptr 4 0)] ⟨mk [],96,0,0,True,[]⟩)=
  some (.normal,[some (.aa .i64 (n:Nat)),some (.ptr 4 0),some (.ae 7 6 0 0 c c),some (.aa .i64 c),some (.int .i64 0)],True,96,[],[]):=by kernel_rfl
theorem OC (n c i:Nat):b6 [0,6,25,26,27] [] (aP prog (aW prog bT 60) 59 100000 (bK (LY gY)) (UE n c i) ⟨mk [],96,0,0,True,[.br false]⟩)=
  some (.exit 1,Xq n c i,True∧aq .lss i c=false,96,[],[]):=by kernel_rfl
theorem Kc (n c i:Nat) (calls:List AV) (lmap:List (Int×AV)) (th kd a left:Int):
  b6 [0,6,25,26,27] [5,98] (aP prog (aW prog bT 60) 59 100000 (bK (LY gY)) (UE n c i) ⟨mk [(7,.row true calls 42 (some 6)),(4,.row false [.ed 5,.aa .i64 left] 113 none),(5,.map true lmap)],96,0,0,True,[.br true,.val (cellsOf th kd a),.br false,.br false,.val []]⟩)=
  some (.normal,Xq n c (i64.wrap (i+1)),(((((((True∧aq .lss i c=true)∧0+c<=c)∧(0:Int)<=i∧(i:Int)<c)∧6=6∧ ∀ r:Nat,r<6->calls[(0+(i:Int).toNat)*6+r]?=(cellsOf th kd a)[r]?)∧aq .lss th 0=false)∧aq .geq th (n:Nat)=false)∧cR th lmap=none)∧true=true,99,[5,96,97,98],[some (.map true (eh th (.aF 98 1 0 0 1 1) lmap)),some (.row false [.aa .i64 i] 3 (some 1))]):=by kernel_rfl
theorem Kd (t:Nat) (ht:t<4) (n c i:Nat) (calls:List AV) (lmap:List (Int×AV)) (th kd a left:Int) (lc:Nat) (lst:List AV):
  b6 [0,6,25,26,27] [5,98] (aP prog (aW prog bT 60) 59 100000 (bK (LY gY)) (UE n c i) ⟨mk [(7,.row true calls 42 (some 6)),(4,.row false [.ed 5,.aa .i64 left] 113 none),(5,.map true lmap),(16+t,.row true lst 3 (some 1))],96,0,0,True,[.br true,.val (cellsOf th kd a),.br false,.br false,.val [.ae (16+t) 1 0 0 lc lc]]⟩)=
  some (.normal,Xq n c (i64.wrap (i+1)),((((((((True∧aq .lss i c=true)∧0+c<=c)∧(0:Int)<=i∧(i:Int)<c)∧6=6∧ ∀ r:Nat,r<6->calls[(0+(i:Int).toNat)*6+r]?=(cellsOf th kd a)[r]?)∧aq .lss th 0=false)∧aq .geq th (n:Nat)=false)∧cR th lmap=some (.ae (16+t) 1 0 0 lc lc))∧lc=lc∧lst.length=lc*1∧(lc+1)*8<=room∧lc+1<=maxLen)∧true=true,99,[5,16+t,96,97,98],[some (.map true (eh th (.ae 98 1 0 0 (lc+1) (lc+1)) lmap)),some (.row true (lst++[.aa .i64 i]) 3 (some 1))]):=
 match t,ht with
 | 0,_=>by kernel_rfl
 | 1,_=>by kernel_rfl
 | 2,_=>by kernel_rfl
 | 3,_=>by kernel_rfl
theorem OD:iD prog Tryz.f34.results.toList [] (aP prog (aW prog bT 60) 59 100000 (aT 0 (aT 2 gY)) [(6,.ptr 4 0)] ⟨mk [],96,0,0,True,[]⟩)=
  some ([.ptr 4 0,.int .i64 0],True,96,[],[]):=by kernel_rfl
def gD (cs:List (Nat×Bool×Nat)) (i t:Nat):List Nat:=(List.range i).filter λq=>match cs[q]? with | some c=>c.1==t | none=>false
theorem ke {cs:List (Nat×Bool×Nat)} {i:Nat} {c:Nat×Bool×Nat} (h:cs[i]?=some c) (t:Nat):gD cs (i+1) t=gD cs i t++if c.1=t then [i] else []:=by
 unfold gD
 rw [List.range_succ,List.filter_append]
 congr 1
 simp only [List.filter_cons,List.filter_nil,h]
 by_cases e:c.1=t
 ·simp [e]
 ·simp [e]
theorem DB {t:Int} {v:AV} {x:Int}: ∀ {l:List (Int×AV)},x∈(eh t v l).map (·.1)↔x=t∨x∈l.map (·.1)
 | []=>by simp [eh]
 | (y,u)::l=>by
  unfold eh
  by_cases h:t=y
  ·rw [decide_eq_true h];subst h;simp
  ·rw [decide_eq_false h]
   have:=DB (t:=t) (v:=v) (x:=x) (l:=l)
   simp only [List.map_cons,List.mem_cons,this]
   constructor
   ·rintro (h | h | h)
    ·exact .inr (.inl h)
    ·exact .inl h
    ·exact .inr (.inr h)
   ·rintro (h | h | h)
    ·exact .inr (.inl h)
    ·exact .inl h
    ·exact .inr (.inr h)
theorem vp {t:Int} {v:AV}: ∀ {l:List (Int×AV)},(l.map (·.1)).Nodup->((eh t v l).map (·.1)).Nodup
 | [],_=>by simp [eh]
 | (y,u)::l,h=>by
  rw [List.map_cons,List.nodup_cons] at h
  unfold eh
  by_cases e:t=y
  ·rw [decide_eq_true e];subst e
   exact List.nodup_cons.2 h
  ·rw [decide_eq_false e]
   refine List.nodup_cons.2 ⟨λhm=> ?_,vp h.2⟩
   rcases DB.1 hm with h1 | h1
   ·exact e h1.symm
   ·exact h.1 h1
theorem zY {t:Int} {v v':AV} {φ φ':bo} (hv:Jb1 φ v=Jb1 φ' v'): ∀ {l:List (Int×AV)},(l.map (·.1)).Nodup->(∀ p∈l,p.1≠t->Jb1 φ p.2=Jb1 φ' p.2)->(eh t v l).map (cq φ)=(eh t v' l).map (cq φ')
 | [],_,_=>by simp [eh,cq,hv]
 | (y,u)::l,h,ha=>by
  rw [List.map_cons,List.nodup_cons] at h
  unfold eh
  by_cases e:t=y
  ·rw [decide_eq_true e];subst e
   show cq φ _::l.map (cq φ)=cq φ' _::l.map (cq φ')
   have h1:l.map (cq φ)=l.map (cq φ'):=List.map_congr_left λp hp=>by
    unfold cq
    rw [ha p (by simp [hp]) λe=>h.1 (by rw [<- e];exact List.mem_map.2 ⟨p,hp,rfl⟩)]
   rw [h1]
   unfold cq
   rw [hv]
  ·rw [decide_eq_false e]
   show cq φ _::(eh t v l).map (cq φ)=cq φ' _::(eh t v' l).map (cq φ')
   rw [zY hv h.2 λp hp bq=>ha p (by simp [hp]) bq]
   unfold cq
   rw [ha (y,u) (by simp) λe2=>e e2.symm]
theorem kE {t:Int} {v:AV} {D:Int×AV->Prop} (hv:D (t,v)): ∀ {l:List (Int×AV)},(∀ p∈l,D p)-> ∀ p∈eh t v l,D p
 | [],_,p,hp=>by
  simp only [eh,List.mem_singleton] at hp
  rw [hp];exact hv
 | (y,u)::l,h,p,hp=>by
  unfold eh at hp
  by_cases e:t=y
  ·rw [decide_eq_true e] at hp;subst e
   rcases List.mem_cons.1 hp with rfl | hp
   ·exact hv
   ·exact h p (by simp [hp])
  ·rw [decide_eq_false e] at hp
   rcases List.mem_cons.1 hp with rfl | hp
   ·exact h _ (by simp)
   ·exact kE hv (λq hq=>h q (by simp [hq])) p hp
def tv (l:List Nat):List AV:=l.map λi=> .aa .i64 (i:Nat)
theorem qG (l:List Nat):(ak.row true (tv l) 3 (some 1)).aD (λ_=>False):=by
 show aR _ (tv l)
 rw [cS]
 intro v hv
 obtain ⟨i,_,rfl⟩:=List.mem_map.1 hv
 trivial
def Hn (H:Nat->Option ak) (n:Nat) (cs:List (Nat×Bool×Nat)) (i:Nat) (lm:List (Int×AV)) (b:Nat):Option ak:=
 if b=4 then some (.row false [.ed 5,.aa .i64 (cs.length:Nat)] 113 none)
 else if b=5 then some (.map true lm)
 else if 16<=b∧b<32 then (if b-16<n∧gD cs i (b-16)≠[] then some (.row true (tv (gD cs i (b-16))) 3 (some 1)) else none)
 else H b
structure uv (n:Nat) (cs:List (Nat×Bool×Nat)) (i:Nat) (lm:List (Int×AV)):Prop where
 at_: ∀ t,t<n->gD cs i t≠[]->cR (t:Int) lm=some (.ae (16+t) 1 0 0 (gD cs i t).length (gD cs i t).length)
 no: ∀ x:Int,(∀ t:Nat,t<n->gD cs i t≠[]->x≠t)->cR x lm=none
 all: ∀ p∈lm,∃ u:Nat,u<n∧p.1=u∧p.2.aD λi=>i=16+u
 nod:(lm.map (·.1)).Nodup
def DC (b:Nat):Prop:=b≠4∧b≠5∧ ¬ (16<=b∧b<32)
section
variable {H:Nat->Option ak} {n:Nat} {cs:List (Nat×Bool×Nat)} {i:Nat} {lm:List (Int×AV)} {b:Nat}
theorem BZ (h:DC b):Hn H n cs i lm b=H b:=by
 unfold Hn
 rw [if_neg h.1,if_neg h.2.1,if_neg h.2.2]
theorem B0 {t:Nat} (h:t<16):Hn H n cs i lm (16+t)=if t<n∧gD cs i t≠[] then some (.row true (tv (gD cs i t)) 3 (some 1)) else none:=by
 unfold Hn
 rw [if_neg (by omega),if_neg (by omega),if_pos (by omega),show 16+t-16=t by omega]
theorem py {o:ak} (hn:n<=4) (h:Hn H n cs i lm b=some o):b=4∨b=5∨(∃ t,t<n∧gD cs i t≠[]∧b=16+t∧o= .row true (tv (gD cs i t)) 3 (some 1))∨(DC b∧H b=some o):=by
 unfold Hn at h
 split at h
 ·exact .inl ‹_›
 split at h
 ·exact .inr (.inl ‹_›)
 split at h
 ·split at h
  ·rename_i h1 h2 h3 h4
   refine .inr (.inr (.inl ⟨b-16,h4.1,h4.2,by omega,(Option.some.inj h).symm⟩))
  ·cases h
 ·rename_i h1 h2 h3
  exact .inr (.inr (.inr ⟨⟨h1,h2,h3⟩,h⟩))
theorem lH (hn:n<=4) (bn: ∀ c o,H c=some o->c<96∧o.aD (· < 96)) (hl:uv n cs i lm): ∀ c o,Hn H n cs i lm c=some o->c<96∧o.aD (· < 96):=λc o h=>by
 rcases py hn h with rfl | rfl | ⟨t,ht,_,rfl,rfl⟩ | ⟨_,h⟩
 ·obtain rfl:=Option.some.inj h
  exact ⟨by omega,by show 5<96;omega,trivial,trivial⟩
 ·obtain rfl:=Option.some.inj h
  exact ⟨by omega,λp hp=>by
   obtain ⟨u,hu,_,h⟩:=hl.all p hp
   exact h.mono λi hi=>by omega⟩
 ·exact ⟨by omega,bJ (qG _)⟩
 ·exact bn c o h
end
def UF (κ:Ev.dE) (H:Nat->Option ak) (n:Nat) (cs:List (Nat×Bool×Nat)) (φ0:bo) (i:Nat) (a:Act) (w:World):Prop:=
 ∃ (φ:bo) (lm:List (Int×AV)),At κ (Hn H n cs i lm) 59 96 (UE n cs.length i) φ w a∧uv n cs i lm∧ ∀ b,DC b->b<96->φ b=φ0 b
section
variable {H:Nat->Option ak} {n:Nat} {cs:List (Nat×Bool×Nat)}
theorem tw {H' H2:Nat->Option ak} {nx i:Nat} {k:Int} {env:Env} {φ φ':bo} {w:World} {a:Act} {c:Nat} (bf:At κ H2 59 nx env φ w a) (df:[0,6,25,26,27].map env.look=Xq n c k) (hk:k=i) (bx:cz κ H' φ' w) (bn: ∀ c o,H' c=some o->c<96∧o.aD (· < 96)) (h4:φ' 4=φ 4) (h7:φ' 7=φ 7):At κ H' 59 96 (UE n c i) φ' w a:=by
 subst hk
 refine bf.Jb4 bx bn ?_
 exact ab ⟨_,ai df 0 rfl rfl,rfl,trivial⟩<|ab ⟨_,ai df 1 rfl rfl,by simp only [Jb1];rw [h4],by show 4<96;omega⟩<|ab ⟨_,ai df 2 rfl rfl,cI h7.symm,by show 7<96;omega⟩<|ab ⟨_,ai df 3 rfl rfl,rfl,trivial⟩<|ab ⟨_,ai df 4 rfl rfl,rfl,trivial⟩ aC
theorem nb {i:Nat} {c:Nat×Bool×Nat} (h:cs[i]?=some c): ∀ r,r<6->(cs.flatMap bj)[(0+(i:Int).toNat)*6+r]?=(cellsOf (c.1:Nat) (Om c.2.1) (c.2.2:Nat))[r]?:=λr hr=>by
 have hc: ∀ c,(bj c).length=6:=λc=>rfl
 have:=JY hc hr cs i
 rw [h] at this
 rw [show (0+(i:Int).toNat)*6+r=6*i+r by simp;omega]
 exact this
theorem Ke (hn:n<=4) {i t:Nat} {lm:List (Int×AV)} (ht:t<n) {c:Nat×Bool×Nat} (hc:cs[i]?=some c) (Gi:c.1=t) (hl:uv n cs i lm) {s:St} {v:AV} {y:Bool} {φ1:bo} {w:World}
  (ky: ∀ c o,H c=some o->c<96∧o.aD λi=>DC i∧i<96) (dc: ∀ b,b<96->b≠5->b≠16+t->after (Hn H n cs i lm) s b=Hn H n cs i lm b) (h5:after (Hn H n cs i lm) s 5=some (.map true (eh (t:Int) v lm))) (Y3:after (Hn H n cs i lm) s 98=some (.row y (tv (gD cs i t)++[.aa .i64 (i:Nat)]) 3 (some 1)))
  (hv: ∀ φ:bo,Jb1 φ v=Jb1 φ (.ae 98 1 0 0 ((gD cs i t).length+1) ((gD cs i t).length+1))) (bx:cz κ (after (Hn H n cs i lm) s) φ1 w):
  cz κ (Hn H n cs (i+1) (eh (t:Int) (.ae (16+t) 1 0 0 ((gD cs i t).length+1) ((gD cs i t).length+1)) lm)) (λb=>φ1 (if b=16+t then 98 else b)) w:=by
 have jq:=ke hc
 refine bx.iQ (λb=>if b=16+t then 98 else b) (λb d x y hb hd he=> ?_) (λb o' hb=> ?_)
 ·have lt: ∀ {b:Nat} {o:ak},Hn H n cs (i+1) (eh (t:Int) (.ae (16+t) 1 0 0 ((gD cs i t).length+1) ((gD cs i t).length+1)) lm) b=some o->b<96:=fun {b o} h=>by
   rcases py hn h with rfl | rfl | ⟨u,hu,_,rfl,_⟩ | ⟨_,h⟩
   ·omega
   ·omega
   ·omega
   ·exact (ky b o h).1
  have h1:=lt hb
  have h2:=lt hd
  have ny:(if b=16+t then 98 else b)=(if d=16+t then 98 else d):=he
  split at ny<;>split at ny<;>omega
 ·have small: ∀ i,i≠16+t->(λb=>φ1 (if b=16+t then 98 else b)) i=φ1 i:=λi hi=>by show φ1 (if i=16+t then 98 else i)=φ1 i;rw [if_neg hi]
  rcases py hn hb with rfl | rfl | ⟨u,hu,bq,rfl,rfl⟩ | ⟨hf,h⟩
  ·rw [if_neg (by omega),dc 4 (by omega) (by omega) (by omega)]
   obtain rfl:=Option.some.inj hb
   refine ⟨_,rfl,?_⟩
   exact bW.jt (D:=λi=>i=5) ⟨rfl,trivial,trivial⟩ λi hi=>by rw [hi];exact small 5 (by omega)
  ·rw [if_neg (by omega),h5]
   obtain rfl:=Option.some.inj hb
   refine ⟨_,rfl,?_⟩
   show (eh _ _ lm).map (cq φ1)=(eh _ _ lm).map (cq _)
   refine zY ?_ hl.nod λp hp bq=> ?_
   ·rw [hv]
    exact cI (by show φ1 98=φ1 (if 16+t=16+t then 98 else 16+t);rw [if_pos rfl])
   ·obtain ⟨u,_,h1,h2⟩:=hl.all p hp
    refine (dD (λi hi=>small i ?_) h2).symm
    show i≠16+t
    omega
  ·by_cases e:u=t
   ·subst e
    rw [if_pos rfl,Y3]
    refine ⟨_,rfl,?_⟩
    rw [jq,if_pos Gi]
    refine ⟨?_,rfl,rfl⟩
    unfold tv
    rw [List.map_append]
    have:=qG (gD cs i u++[i])
    unfold tv at this
    rw [List.map_append] at this
    exact cJ (D:=λ_=>False) (λ_ h=>h.elim) this
   ·have hs:gD cs (i+1) u=gD cs i u:=by rw [jq,if_neg (λh2=>e (h2.symm.trans Gi)),List.append_nil]
    rw [hs] at bq ⊢
    rw [if_neg (by omega),dc (16+u) (by omega) (by omega) (by omega),B0 (by omega),if_pos ⟨hu,bq⟩]
    exact ⟨_,rfl,bl (qG _)⟩
  ·obtain ⟨h1,h2⟩:=ky b o' h
   rw [if_neg (λe=>hf.2.2 (by omega)),dc b h1 (λe=>hf.2.1 e) (λe=>hf.2.2 (by omega)),BZ hf]
   exact ⟨_,h,bW.jt h2 λi hi=>small i (λe=>hi.1.2.2 (by omega))⟩
theorem DD (hn:n<=4) {i t:Nat} {lm:List (Int×AV)} (ht:t<n) {c:Nat×Bool×Nat} (hc:cs[i]?=some c) (Gi:c.1=t) (hl:uv n cs i lm):uv n cs (i+1) (eh (t:Int) (.ae (16+t) 1 0 0 ((gD cs i t).length+1) ((gD cs i t).length+1)) lm):=by
 have jq:=ke hc
 have hs: ∀ u,u≠t->gD cs (i+1) u=gD cs i u:=λu e=>by rw [jq,if_neg (λh2=>e (h2.symm.trans Gi)),List.append_nil]
 have ht1:gD cs (i+1) t=gD cs i t++[i]:=by rw [jq,if_pos Gi]
 refine ⟨λu hu bq=> ?_,λx hx=> ?_,kE ⟨t,ht,rfl,rfl⟩ hl.all,vp hl.nod⟩
 ·by_cases e:u=t
  ·subst e
   rw [tr,ht1,List.length_append]
   rfl
  ·rw [jm (by omega),hs u e]
   rw [hs u e] at bq
   exact hl.at_ u hu bq
 ·have hxt:x≠(t:Int):=hx t ht (by rw [ht1];simp)
  rw [jm hxt]
  refine hl.no x λu hu bq=> ?_
  by_cases e:u=t
  ·subst e;exact hxt
  ·exact hx u hu (by rw [hs u e];exact bq)
theorem RF (hn:1<=n∧n<=4) (ky: ∀ c o,H c=some o->c<96∧o.aD λi=>DC i∧i<96) (h7:H 7=some (.row true (cs.flatMap bj) 42 (some 6))) (jd: ∀ c∈cs,c.1<n) (dP:cs.length<=1000) {φ0:bo} {Q:Exit->Act->World->Prop}
  (hQ: ∀ a w,UF κ H n cs φ0 cs.length a w->Q (.exit 1) a w): ∀ (k i:Nat),i+k=cs.length-> ∀ a w,UF κ H n cs φ0 i a w->bh prog (bK (LY gY)) Q a w:=by
 have bn: ∀ c o,H c=some o->c<96∧o.aD (· < 96):=λc o h=>⟨(ky c o h).1,(ky c o h).2.mono λi hi=>hi.2⟩
 intro k
 induction k with
 | zero=>
  rintro i hi a w ⟨φ,lm,bf,hl,hφ⟩
  refine bh.of ?_
  have iS:i=cs.length:=by omega
  subst iS
  obtain ⟨env,s,cW,df,aQ,eP,dc,_⟩:=aE (OC n cs.length cs.length)
  have hP:s.pre:=by rw [aQ];exact ⟨True.intro,by simp [aq]⟩
  refine cN ((bE named (cj mixed) (sound named mixed bd 60) (nt:=59) 100000).1 _ _ _ _ _ _ cW) bf bA hP (K:=λa w=>Q (.exit 1) a w) (λφ' w' a' uF fN=> ?_) _ (λa w h=>h)
  exact hQ a' w' ⟨φ',lm,tw fN df rfl (fN.fit.bB (bV (λc o h=>(bf.ids c o h).1) dc)) (lH hn.2 bn hl) rfl rfl,hl,λb h1 h2=>(uF b h2).trans (hφ b h1 h2)⟩
 | succ k ih=>
  rintro i hi a w ⟨φ,lm,bf,hl,hφ⟩
  refine bh.of ?_
  have fQ:i<cs.length:=by omega
  have hc:cs[i]?=some (cs[i]'fQ):=List.getElem?_eq_getElem fQ
  generalize cs[i]'fQ=c at hc
  have Gi:c.1<n:=jd c (List.mem_of_getElem? hc)
  have hf7:DC 7:=⟨by omega,by omega,by omega⟩
  have hH7:Hn H n cs i lm 7=some (.row true (cs.flatMap bj) 42 (some 6)):=(BZ hf7).trans h7
  have iT:i64.wrap ((i:Int)+1)=((i+1:Nat):Int):=by rw [wrap64 (by omega) (by omega)];omega
  have XI:=nb hc
  by_cases bq:gD cs i c.1=[]
  ·have D0:cR (c.1:Int) lm=none:=hl.no _ λu hu hu2 e=>by
    have:c.1=u:=by omega
    subst this;exact hu2 bq
   obtain ⟨env,s,cW,df,aQ,eP,dc,aI⟩:=aE (Kc n cs.length i (cs.flatMap bj) lm (c.1:Nat) (Om c.2.1) (c.2.2:Nat) (cs.length:Nat))
   have hP:s.pre:=by
    rw [aQ]
    exact ⟨⟨⟨⟨⟨⟨⟨⟨True.intro,by simp [aq]<;>omega⟩,by omega⟩,by omega,by omega⟩,rfl,XI⟩,by simp [aq]<;>omega⟩,by simp [aq]<;>omega⟩,D0⟩,rfl⟩
   have Ai: ∀ p∈([(7,.row true (cs.flatMap bj) 42 (some 6)),(4,.row false [.ed 5,.aa .i64 (cs.length:Nat)] 113 none),(5,.map true lm)]:List (Nat×ak)),Hn H n cs i lm p.1=some p.2:=
    ab hH7<|ab rfl<|ab rfl aC
   refine cN ((bE named (cj mixed) (sound named mixed bd 60) (nt:=59) 100000).1 _ _ _ _ _ _ cW) bf (dC bf.ids Ai) hP (K:=λa w=>bh prog (bK (LY gY)) Q a w) (λφ1 w1 a1 fD bO=> ?_) _ (λa w h=>h)
   have qS:=DD hn.2 Gi hc rfl hl
   refine ih (i+1) (by omega) a1 w1 ⟨λb=>φ1 (if b=16+c.1 then 98 else b),_,tw bO df iT (Ke hn.2 Gi hc rfl hl ky (λb hb h5 vB=> ?_) ((bR dc (by omega) (by simp)).trans (ah aI 0 rfl rfl)) ((bR dc (by omega) (by simp)).trans ((ah aI 1 rfl rfl).trans (by rw [bq];rfl))) (λφ=> ?_) bO.fit) (lH hn.2 bn qS) ?_ ?_,qS,λb h1 h2=> ?_⟩
   ·exact bY dc (by omega) (by simp;omega)
   ·rw [bq];exact iE rfl
   ·show φ1 (if 4=16+c.1 then 98 else 4)=φ1 4;rw [if_neg (by omega)]
   ·show φ1 (if 7=16+c.1 then 98 else 7)=φ1 7;rw [if_neg (by omega)]
   ·show φ1 (if b=16+c.1 then 98 else b)=φ0 b
    rw [if_neg (λe=>h1.2.2 (by omega)),fD b (by show b<96;exact h2)]
    exact hφ b h1 h2
  ·have YF:=hl.at_ c.1 Gi bq
   obtain ⟨env,s,cW,df,aQ,eP,dc,aI⟩:=aE (Kd c.1 (by omega) n cs.length i (cs.flatMap bj) lm (c.1:Nat) (Om c.2.1) (c.2.2:Nat) (cs.length:Nat) (gD cs i c.1).length (tv (gD cs i c.1)))
   have hil:(gD cs i c.1).length<=1000:=by
    have:(gD cs i c.1).length<=(List.range i).length:=List.length_filter_le _ _
    rw [List.length_range] at this
    omega
   have hP:s.pre:=by
    rw [aQ]
    refine ⟨⟨⟨⟨⟨⟨⟨⟨⟨True.intro,by simp [aq]<;>omega⟩,by omega⟩,by omega,by omega⟩,rfl,XI⟩,by simp [aq]<;>omega⟩,by simp [aq]<;>omega⟩,YF⟩,⟨rfl,by unfold tv;simp,?_,?_⟩⟩,rfl⟩
    ·rw [kG];omega
    ·rw [gy];omega
   have Ai: ∀ p∈([(7,.row true (cs.flatMap bj) 42 (some 6)),(4,.row false [.ed 5,.aa .i64 (cs.length:Nat)] 113 none),(5,.map true lm),(16+c.1,.row true (tv (gD cs i c.1)) 3 (some 1))]:List (Nat×ak)),Hn H n cs i lm p.1=some p.2:=
    ab hH7<|ab rfl<|ab rfl<|ab (by rw [B0 (by omega),if_pos ⟨Gi,bq⟩]) aC
   refine cN ((bE named (cj mixed) (sound named mixed bd 60) (nt:=59) 100000).1 _ _ _ _ _ _ cW) bf (dC bf.ids Ai) hP (K:=λa w=>bh prog (bK (LY gY)) Q a w) (λφ1 w1 a1 fD bO=> ?_) _ (λa w h=>h)
   have qS:=DD hn.2 Gi hc rfl hl
   refine ih (i+1) (by omega) a1 w1 ⟨λb=>φ1 (if b=16+c.1 then 98 else b),_,tw bO df iT (Ke hn.2 Gi hc rfl hl ky (λb hb h5 vB=> ?_) ((bR dc (by omega) (by simp)).trans (ah aI 0 rfl rfl)) ((bR dc (by omega) (by simp)).trans (ah aI 1 rfl rfl)) (λφ=>rfl) bO.fit) (lH hn.2 bn qS) ?_ ?_,qS,λb h1 h2=> ?_⟩
   ·exact bY dc (by omega) (by simp;omega)
   ·show φ1 (if 4=16+c.1 then 98 else 4)=φ1 4;rw [if_neg (by omega)]
   ·show φ1 (if 7=16+c.1 then 98 else 7)=φ1 7;rw [if_neg (by omega)]
   ·show φ1 (if b=16+c.1 then 98 else b)=φ0 b
    rw [if_neg (λe=>h1.2.2 (by omega)),fD b (by show b<96;exact h2)]
    exact hφ b h1 h2
theorem PJ (hn:1<=n∧n<=4) (ky: ∀ c o,H c=some o->c<96∧o.aD λi=>DC i∧i<96) (h7:H 7=some (.row true (cs.flatMap bj) 42 (some 6))) (jd: ∀ c∈cs,c.1<n) (dP:cs.length<=1000) {φ:bo} {w:World} (bx:cz κ H φ w):
  Calls prog 34 (az φ [.aa .i64 (n:Nat),.ae 7 6 0 0 cs.length cs.length]).toArray w (λe w'=> ∃ (φ':bo) (lm:List (Int×AV)),e= .returned (Jb1 φ' (.eT [.ptr 4 0,.int .i64 0]))∧cz κ (Hn H n cs cs.length lm) φ' w'∧uv n cs cs.length lm∧ ∀ b,DC b->b<96->φ' b=φ b):=by
 have bn: ∀ c o,H c=some o->c<96∧o.aD (· < 96):=λc o h=>⟨(ky c o h).1,(ky c o h).2.mono λi hi=>hi.2⟩
 refine iY Tryz.func34 (c:=Tryz.f34.body.getD .skip) (by kernel_rfl) (by show 2<=Tryz.f34.ntmps;rw [Tryz.ntmps34];omega) bx bn ?_ (λa bf=> ?_)
 ·exact ⟨trivial,by show 7<96;omega,trivial⟩
 rw [Tryz.ntmps34] at bf
 obtain ⟨cH,s1,de,bt,cb,Jb8,cG,dT⟩:=aE (Fi n cs.length)
 have eg:s1.pre:=by rw [cb];exact ⟨⟨⟨True.intro,by simp [aq]<;>omega⟩,by simp [aq]<;>omega⟩,by simp [aq]<;>omega⟩
 refine cN (bX named mixed bd (nt:=59) 2 gY 100000 _ _ _ _ (by kernel_rfl) de) bf bA eg (λφ1 w1 a1 fD bO=> ?_) _ (λa w h=>h)
 have Lx:uv n cs 0 []:=⟨λt _ h=>absurd rfl h,λx _=>rfl,(λp hp=>by cases hp),List.nodup_nil⟩
 let φ2:bo:=λb=>φ1 (if b=4 then 97 else if b=5 then 96 else b)
 have AO:after H s1 97=some (.row false [.ed 96,.aa .i64 (cs.length:Nat)] 113 none):=(bR cG (by omega) (by simp)).trans (ah dT 1 rfl rfl)
 have S4:after H s1 96=some (.map false []):=(bR cG (by omega) (by simp)).trans (ah dT 0 rfl rfl)
 have ij: ∀ b,DC b->φ2 b=φ1 b:=λb hb=>by show φ1 (if b=4 then 97 else if b=5 then 96 else b)=φ1 b;rw [if_neg hb.1,if_neg hb.2.1]
 have tQ:cz κ (Hn H n cs 0 []) φ2 w1:=by
  refine bO.fit.iQ (λb=>if b=4 then 97 else if b=5 then 96 else b) (λb d x y hb hd he=> ?_) (λb o' hb=> ?_)
  ·have h1:=(lH hn.2 bn Lx b x hb).1
   have h2:=(lH hn.2 bn Lx d y hd).1
   have ny:(if b=4 then 97 else if b=5 then 96 else b)=(if d=4 then 97 else if d=5 then 96 else d):=he
   repeat' split at ny
   all_goals omega
  ·rcases py hn.2 hb with rfl | rfl | ⟨u,hu,bq,_,_⟩ | ⟨hf,h⟩
   ·obtain rfl:=Option.some.inj hb
    exact ⟨_,AO,by simp only [az,Jb1];rfl,rfl,rfl⟩
   ·obtain rfl:=Option.some.inj hb
    exact ⟨_,S4,rfl⟩
   ·exact absurd rfl bq
   ·obtain ⟨h1,h2⟩:=ky b o' h
    rw [if_neg hf.1,if_neg hf.2.1,bY cG (by omega) (by simp;omega)]
    exact ⟨_,h,bW.jt h2 λi hi=>ij i hi.1⟩
 have eM:At κ (Hn H n cs 0 []) 59 96 [(0,.aa .i64 (n:Nat)),(1,.ae 7 6 0 0 cs.length cs.length),(6,.ptr 4 0)] φ2 w1 a1:=by
  refine bO.Jb4 tQ (lH hn.2 bn Lx) ?_
  exact ab ⟨_,ai bt 0 rfl rfl,rfl,trivial⟩<|ab ⟨_,ai bt 1 rfl rfl,cI (ij 7 ⟨by omega,by omega,by omega⟩).symm,by show 7<96;omega⟩<|ab ⟨_,ai bt 2 rfl rfl,by simp only [Jb1];rfl,by show 4<96;omega⟩ aC
 refine fh (a:=LY gY) (b:=aT 0 (aT 2 gY)) (by kernel_rfl) ?_
 obtain ⟨Tb,s3,Cz,iL,tR,Tk,CD,_⟩:=aE (OB n cs.length)
 have S3:s3.pre:=by rw [tR];exact True.intro
 refine cN (bX named mixed bd (nt:=59) 0 (LY gY) 100000 _ _ _ _ (by kernel_rfl) Cz) eM bA S3 (λφ3 w3 a3 xz lh=> ?_) _ (λa w h=>h)
 refine gk (id:=1) (b:= .loop (bK (LY gY))) (by kernel_rfl) ?_
 refine bh.wp (RF (κ:=κ) hn ky h7 jd dP (φ0:=φ) (λa4 w4 h4=> ?_) cs.length 0 (by omega) a3 w3 ⟨φ3,[],?_,Lx,λb h1 h2=> ?_⟩)
 ·show (aT 0 (aT 2 gY)).wp prog _ a4 w4
  obtain ⟨φ4,lm,ja,qS,xI⟩:=h4
  obtain ⟨x5,CH,s5,VM,Ed,oC,LJ,kp,Lk,Cx,lZ,tW,Wr⟩:=iZ OD
  have Ax:VM.pre:=by rw [kp];exact True.intro
  have lP:At κ (Hn H n cs cs.length lm) 59 96 [(6,.ptr 4 0)] φ4 w4 a4:=ja.Jb4 ja.fit (lH hn.2 bn qS) (ab ⟨_,rfl,rfl,by show 4<96;omega⟩ aC)
  refine kZ named mixed bd oC lP bA (Lk Ax) (λφ5 w5 a5 xe iO Zw=> ?_)
  refine ⟨by rcases Ed with rfl | rfl<;>first | exact .inl rfl | exact .inr rfl,_,_,_,φ5,s5,VM,_,_,by rw [Tryz.ntmps34];exact iO,Zw,LJ,Ax,.inr ⟨by simp,rfl⟩,?_⟩
  exact ⟨φ5,lm,rfl,iO.fit.bB (bV (λc o h=>(ja.ids c o h).1) lZ),qS,λb h1 h2=>(xe b h2).trans (xI b h1 h2)⟩
 ·refine lh.Jb4 (lh.fit.bB (bV (λc o h=>(eM.ids c o h).1) CD)) (lH hn.2 bn Lx) ?_
  exact ab ⟨_,ai iL 0 rfl rfl,rfl,trivial⟩<|ab ⟨_,ai iL 1 rfl rfl,rfl,by show 4<96;omega⟩<|ab ⟨_,ai iL 2 rfl rfl,rfl,by show 7<96;omega⟩<|ab ⟨_,ai iL 3 rfl rfl,rfl,trivial⟩<|ab ⟨_,ai iL 4 rfl rfl,rfl,trivial⟩ aC
 ·rw [xz b h2,ij b h1,fD b h2]
end
end
section
variable {κ:Ev.dE} {P:Program}
variable {ops:Array Oper} {q r nt:Nat} {env cH:Env} {s s1:St} {H:Nat->Option ak} {φ:bo} {w:World} {a:Act} {Q:Exit->Act->World->Prop}
theorem jI {call:FuncId->List AV->St->Ev.eO AV} (hn:gF P) (jV:iv P call) {c:Code} {id:Nat} (hc:c= .region id ops false) (hr:ops.size=q+r)
  (cW:dI P call nt ops (ops.toList.take q) env s= .ok cH s1) (h:At κ H nt s.next env φ w a)
  (hs: ∀ c o,s.get c=some o->o.aD (· < s.next)∧ ∃ o0,H c=some o0∧bW φ φ o0 o) (hp:s1.pre) 
  (hK: ∀ φ1 w1 a1,(∀ i,i<s.next->φ1 i=φ i)->At κ (after H s1) nt s1.next cH φ1 w1 a1->wpOps P ops Q (List.range' q r) a1 w1):c.wp P Q a w:=by
 refine vh hc ?_
 have hl:(ops.toList.take q).length=q:=by rw [List.length_take,Array.length_toList];omega
 rw [show List.range ops.size=List.range' 0 (ops.toList.take q).length++List.range' q r by rw [hl,hr,List.range_eq_range'];have:=List.range'_append_1 (s:=0) (m:=q) (n:=r);rw [Nat.zero_add] at this;rw [this]]
 exact cN (Jc7 hn jV (nt:=nt) _ 0 _ _ _ _ cW (λj hj=>by rw [hl] at hj;rw [List.getElem?_take,if_pos hj,Nat.zero_add];simp)) h hs hp (K:=λa w=>wpOps P ops Q (List.range' q r) a w) hK _ (List.range' q r) (λa w h=>h)
theorem Jc0 {call:FuncId->List AV->St->Ev.eO AV} (hn:gF P) (jV:iv P call) (hr:ops.size=q+r)
  (cW:dI P call nt ops (ops.toList.drop q) env s= .ok cH s1) (h:At κ H nt s.next env φ w a)
  (hs: ∀ c o,s.get c=some o->o.aD (· < s.next)∧ ∃ o0,H c=some o0∧bW φ φ o0 o) (hp:s1.pre) 
  (hK: ∀ φ1 w1 a1,(∀ i,i<s.next->φ1 i=φ i)->At κ (after H s1) nt s1.next cH φ1 w1 a1->Q .normal a1 w1):wpOps P ops Q (List.range' q r) a w:=by
 have hl:(ops.toList.drop q).length=r:=by rw [List.length_drop,Array.length_toList];omega
 rw [show List.range' q r=List.range' q (ops.toList.drop q).length++[] by rw [hl,List.append_nil]]
 exact cN (Jc7 hn jV (nt:=nt) _ q _ _ _ _ cW (λj hj=>by rw [List.getElem?_drop];simp)) h hs hp (K:=λa w=>wpOps P ops Q [] a w) (λφ1 w1 a1 h1 h2=>hK φ1 w1 a1 h1 h2) _ [] (λa w h=>h)
theorem fC (q r:Nat):List.range' q (r+1)=q::List.range' (q+1) r:=by rw [List.range'_succ]
end
section
variable {κ:Ev.dE}
def LZ (c:Code):Code:=cA 0 (aT 1 c)
theorem UG (n c pl:Nat):b6 [0,1] [] (aP prog (aW prog bT 60) 32 100000 (cA 1 gW) (eG [.aa .i64 (n:Nat),.ae 7 6 0 0 c c,.ae 13 1 0 0 pl pl] 0) ⟨mk [],96,0,0,True,[.br false,.br false,.br false,.br false]⟩)=
  some (.normal,[some (.aa .i64 (n:Nat)),some (.ae 7 6 0 0 c c)],(((True∧aq .lss (n:Nat) 1=false)∧aq .gtr (n:Nat) 16=false)∧aq .gtr c 1000=false)∧aq .gtr pl 65536=false,96,[],[]):=by kernel_rfl
theorem UH (n c:Nat):iG [26,27] [] (dI prog (aW prog bT 60) 32 (cB (LZ gW)) ((cB (LZ gW)).toList.take 2) [(0,.aa .i64 (n:Nat)),(1,.ae 7 6 0 0 c c)] ⟨mk [],96,0,0,True,[]⟩)=
  some ([some (.aa .i64 (n:Nat)),some (.ae 7 6 0 0 c c)],True,96,[],[]):=by kernel_rfl
theorem UI:iG [8] [] (dI prog (aW prog bT 60) 32 (cB (LZ gW)) ((cB (LZ gW)).toList.drop 3) [(28,.eT [.ptr 4 0,.int .i64 0])] ⟨mk [],96,0,0,True,[]⟩)=
  some ([some (.int .i64 0)],True,96,[],[]):=by kernel_rfl
theorem UJ:iD prog Tryz.f25.results.toList [] (aP prog (aW prog bT 60) 32 100000 (aT 0 (aT 1 gW)) [(8,.int .i64 0)] ⟨mk [],96,0,0,True,[]⟩)=
  some ([.int .i64 0],True,96,[],[]):=by kernel_rfl
theorem B1:LZ gW= .region 5 (cB (LZ gW)) false∧(cB (LZ gW)).size=2+6:=⟨by kernel_rfl,by kernel_rfl⟩
theorem RG: ∃ r,(cB (LZ gW))[2]?=some r∧r.op= .call { callee:= .value (.func 34),args:= #[.tmp 26,.tmp 27],argTypes:= #[3,23] }∧r.guard=none∧r.dst=some 28:=⟨((cB (LZ gW))[2]?).getD default,by kernel_rfl,by kernel_rfl,by kernel_rfl,by kernel_rfl⟩
theorem Kf: ∃ fn,prog.funcs[34]?=some fn∧fn.body.isSome=true:=⟨_,Tryz.func34,by kernel_rfl⟩
def uw (H:Nat->Option ak):Prop:= ∀ c o,H c=some o->DC c∧c<96∧o.aD λi=>DC i∧i<96
section
variable {H:Nat->Option ak} {n:Nat} {cs:List (Nat×Bool×Nat)}
theorem uw.low (h:uw H): ∀ c o,H c=some o->c<96∧o.aD (· < 96):=λc o hc=>⟨(h c o hc).2.1,(h c o hc).2.2.mono λi hi=>hi.2⟩
theorem uw.two (h:uw H): ∀ c o,H c=some o->c<96∧o.aD λi=>DC i∧i<96:=λc o hc=>(h c o hc).2
theorem uw.in_ (h:uw H) {i:Nat} {lm:List (Int×AV)}: ∀ c o,H c=some o->Hn H n cs i lm c=some o:=λc o hc=>(BZ (h c o hc).1).trans hc
theorem OE (hn:1<=n∧n<=4) (ky:uw H) (h7:H 7=some (.row true (cs.flatMap bj) 42 (some 6))) (jd: ∀ c∈cs,c.1<n) (dP:cs.length<=1000) {pl:Nat} (SZ:pl<=65536) {φ:bo} {w:World} (bx:cz κ H φ w):
  Calls prog 25 (az φ [.aa .i64 (n:Nat),.ae 7 6 0 0 cs.length cs.length,.ae 13 1 0 0 pl pl]).toArray w (λe w'=> ∃ (φ':bo),e= .returned (.int .i64 0)∧cz κ H φ' w'∧ ∀ b,DC b->b<96->φ' b=φ b):=by
 have bn:=ky.low
 refine iY Tryz.func25 (c:=Tryz.f25.body.getD .skip) (by kernel_rfl) (by show 3<=Tryz.f25.ntmps;rw [Tryz.ntmps25];omega) bx bn ?_ (λa bf=> ?_)
 ·exact ⟨trivial,by show 7<96;omega,by show 13<96;omega,trivial⟩
 rw [Tryz.ntmps25] at bf
 obtain ⟨cH,s1,de,bt,cb,Jb8,cG,_⟩:=aE (UG n cs.length pl)
 have eg:s1.pre:=by rw [cb];exact ⟨⟨⟨⟨True.intro,by simp [aq]<;>omega⟩,by simp [aq]<;>omega⟩,by simp [aq]<;>omega⟩,by simp [aq]<;>omega⟩
 refine cN (bX named mixed bd (nt:=32) 1 gW 100000 _ _ _ _ (by kernel_rfl) de) bf bA eg (λφ1 w1 a1 fD bO=> ?_) _ (λa w h=>h)
 have ld:At κ H 32 96 [(0,.aa .i64 (n:Nat)),(1,.ae 7 6 0 0 cs.length cs.length)] φ1 w1 a1:=bO.Jb4 (bO.fit.bB (bV (λc o h=>(bf.ids c o h).1) cG)) bn
  (ab ⟨_,ai bt 0 rfl rfl,rfl,trivial⟩<|ab ⟨_,ai bt 1 rfl rfl,rfl,by show 7<96;omega⟩ aC)
 refine fh (a:=LZ gW) (b:=aT 0 (aT 1 gW)) (by kernel_rfl) ?_
 obtain ⟨xo,s2,xc,gZ,kn,Lg,xx,_⟩:=cV (UH n cs.length)
 have Pf:s2.pre:=by rw [kn];exact True.intro
 refine jI named (sound named mixed bd 60) B1.1 B1.2 xc ld bA Pf (λφ2 w2 a2 Gg eM=> ?_)
 have kj:At κ H 32 96 [(26,.aa .i64 (n:Nat)),(27,.ae 7 6 0 0 cs.length cs.length)] φ2 w2 a2:=eM.Jb4 (eM.fit.bB (bV (λc o h=>(bf.ids c o h).1) xx)) bn
  (ab ⟨_,ai gZ 0 rfl rfl,rfl,trivial⟩<|ab ⟨_,ai gZ 1 rfl rfl,rfl,by show 7<96;omega⟩ aC)
 rw [fC 2 5,wpOps_cons]
 obtain ⟨r,kO,kz,CA,CC⟩:=RG
 refine gz named Kf kO kz CA (avs:=[.aa .i64 (n:Nat),.ae 7 6 0 0 cs.length cs.length]) rfl kj (PJ hn ky.two h7 jd dP kj.fit) ?_
 rintro e w3 ⟨φ3,lm,rfl,nN,qS,xz⟩
 refine ⟨φ3,H,96,.eT [.ptr 4 0,.int .i64 0],[],_,rfl,Nat.le_refl _,(λt u hu=>by cases hu),nN.sub ky.in_,bn,(by unfold AV.aD;exact ⟨by show 4<96;omega,trivial,trivial⟩),by rw [CC];rfl,λa3 lh=> ?_⟩
 obtain ⟨Zl,s4,SK,FZ,K7,ZE,Th,_⟩:=cV UI
 have Yz:s4.pre:=by rw [K7];exact True.intro
 refine Jc0 named (sound named mixed bd 60) (q:=3) (r:=5) B1.2 SK lh bA Yz (λφ4 w4 a4 xI ja=> ?_)
 have lP:At κ H 32 96 [(8,.int .i64 0)] φ4 w4 a4:=ja.Jb4 (ja.fit.bB (bV (λc o h=>(bf.ids c o h).1) Th)) bn (ab ⟨_,ai FZ 0 rfl rfl,rfl,trivial⟩ aC)
 show (aT 0 (aT 1 gW)).wp prog _ a4 w4
 obtain ⟨x5,CH,s5,VM,Ed,oC,LJ,kp,Lk,Cx,lZ,tW,Wr⟩:=iZ UJ
 have Ax:VM.pre:=by rw [kp];exact True.intro
 refine kZ named mixed bd oC lP bA (Lk Ax) (λφ5 w5 a5 xe iO Zw=> ?_)
 refine ⟨by rcases Ed with rfl | rfl<;>first | exact .inl rfl | exact .inr rfl,_,_,_,φ5,s5,VM,_,_,by rw [Tryz.ntmps25];exact iO,Zw,LJ,Ax,.inl rfl,?_⟩
 exact ⟨φ5,rfl,iO.fit.bB (bV (λc o h=>(bf.ids c o h).1) lZ),λb h1 h2=>by rw [xe b h2,xI b h2,xz b h1 h2,Gg b h2,fD b h2]⟩
end
end
section
variable {κ:Ev.dE}
def L0 (c:Code):Code:=cA 0 (aT 2 c)
def Kg:ak:= .row false [.iface 162 (.ptr 12 0)] 107 (some 1)
theorem UK (n c lw:Nat) (ws:List AV):b6 [0,1,3,10] [97,98] (aP prog (aW prog bT 60) 39 100000 (cA 2 gX) (eG [.aa .i64 (n:Nat),.aF 9 1 0 0 1 1,.aL 11 0 lw lw,.ae 7 6 0 0 c c] 0) ⟨mk [(11,.row true ws 40 none)],96,0,0,True,[.br false,.br false]⟩)=
  some (.normal,[some (.aa .i64 (n:Nat)),some (.aF 9 1 0 0 1 1),some (.ae 7 6 0 0 c c),some (.ptr 98 0)],(((True∧aq .gtr lw 65536=false)∧True)∧0<lw∧lw*8<=room∧lw<=maxLen)∧0+lw*1<=ws.length,99,[96,97,98],[some (.row true ((ws.drop 0).take (lw*1)) 40 (some 1)),some (.row false [.ae 97 1 0 0 lw lw,.int .i64 0,.int .i64 0,.int .i64 0,.int .i64 0,.int .i64 0,.kx] 129 none)]):=by kernel_rfl
theorem UL (n c:Nat):iG [22,23,1,3,10] [] (dI prog (aW prog bT 60) 39 (cB (L0 gX)) ((cB (L0 gX)).toList.take 2) [(0,.aa .i64 (n:Nat)),(1,.aF 9 1 0 0 1 1),(3,.ae 7 6 0 0 c c),(10,.ptr 2 0)] ⟨mk [],96,0,0,True,[]⟩)=
  some ([some (.aa .i64 (n:Nat)),some (.ae 7 6 0 0 c c),some (.aF 9 1 0 0 1 1),some (.ae 7 6 0 0 c c),some (.ptr 2 0)],True,96,[],[]):=by kernel_rfl
theorem UM (c:Nat):iG [11,12,1,3,10] [] (dI prog (aW prog bT 60) 39 (cB (L0 gX)) ((cB (L0 gX)).toList.drop 3) [(24,.eT [.ptr 4 0,.int .i64 0]),(1,.aF 9 1 0 0 1 1),(3,.ae 7 6 0 0 c c),(10,.ptr 2 0)] ⟨mk [],96,0,0,True,[]⟩)=
  some ([some (.int .i64 0),some (.ptr 4 0),some (.aF 9 1 0 0 1 1),some (.ae 7 6 0 0 c c),some (.ptr 2 0)],True,96,[],[]):=by kernel_rfl
def Kh:ak:= .row false [.ptr 2 0,.int .i64 0,.int .i64 0,.int .i64 0,.int .i64 0,.int .i64 0,.int .i64 0,.int .i64 0,.int .i64 0,.int .i64 0,.int .i64 0,.int .i64 0,.int .i64 0,.int .i64 0,.int .i64 0,.int .i64 0,.int .i64 0,.int .i64 0,.au,.au,.au,.au,.au,.au,.au,.au,.au,.au,.au,.au,.au,.au,.au,.au,.ed 96] 92 none
def PL (c:Nat):ak:= .row false [.ptr 97 0,.aF 9 1 0 0 1 1,.ae 7 6 0 0 c c,.ptr 4 0,.int .i64 0,.aX,.int .i64 0,.aX,.int .i64 0,.aX,.int .i64 0,.aX,.int .i64 0,.aX,.int .i64 0,.aX,.int .i64 0,.aX,.int .i64 0,.aX,.int .i64 0,.aX,.int .i64 0,.aX,.int .i64 0,.aX,.int .i64 0,.aX,.int .i64 0,.aX,.int .i64 0,.aX,.int .i64 0,.aX,.int .i64 0,.aX,.int .i64 0,.au,.au,.int .i64 0,.int .i64 0,.int .i64 0,.int .i64 0,.int .i64 0,.int .i64 0,.int .i64 0] 83 none
theorem UN (c:Nat):iD prog Tryz.f27.results.toList [96,97,98] (aP prog (aW prog bT 60) 39 100000 (aT 0 (aT 2 gX)) [(11,.int .i64 0),(12,.ptr 4 0),(1,.aF 9 1 0 0 1 1),(3,.ae 7 6 0 0 c c),(10,.ptr 2 0)] ⟨mk [],96,0,0,True,[]⟩)=
  some ([.ptr 98 0,.int .i64 0],True,99,[96,97,98],[some (.map false []),some Kh,some (PL c)]):=by kernel_rfl
theorem B2:L0 gX= .region 4 (cB (L0 gX)) false∧(cB (L0 gX)).size=2+6:=⟨by kernel_rfl,by kernel_rfl⟩
theorem RH: ∃ r,(cB (L0 gX))[2]?=some r∧r.op= .call { callee:= .value (.func 34),args:= #[.tmp 22,.tmp 23],argTypes:= #[3,23] }∧r.guard=none∧r.dst=some 24:=⟨((cB (L0 gX))[2]?).getD default,by kernel_rfl,by kernel_rfl,by kernel_rfl,by kernel_rfl⟩
def OF (K:KC) (lm:List (Int×AV)) (O:Nat->Option ak):Jq:=
 { turn:=0,ats:=λ_=>0,cn:=λ_=>0,idle:=0,aA:=0,inv:=λ_=>0,af:=λ_=>false,c:=λ_=>0,evl:=0,evs:=[],own:=λ_=>(0,0),left:=(K.cs.length:Nat),lmap:=lm,jr:=λ_ _=>0,j2:=λ_ _=>0,j3:=λ_ _=>0,oth:=O }
section
variable {K:KC} {O:Nat->Option ak} {lm:List (Int×AV)}
theorem B3 (t:Nat):K.nc t=(gD K.cs K.cs.length t).length:=rfl
theorem Ki {t:Nat}:K.nc t≠0↔gD K.cs K.cs.length t≠[]:=by
 rw [B3]
 constructor
 ·intro h e;rw [e] at h;exact h rfl
 ·intro h e;exact h (List.length_eq_zero_iff.1 e)
theorem RI (hn:K.P.n<=4) (qS:uv K.P.n K.cs K.cs.length lm) (hO: ∀ b o,O b=some o->o.aD λ_=>False):kY K iA (OF K lm O) 0:=by
 refine ⟨⟨Int.le_refl _,Int.le_refl _⟩,?_,⟨rfl,(λv hv=>by cases hv),(λi hi=>absurd hi (Nat.not_lt_zero _)),(λi hi=>absurd hi (Nat.not_lt_zero _)),(λi _ hi=>absurd hi (Nat.not_lt_zero _)),λu hu h=>absurd rfl h⟩,λu hu bq=> ?_,λx hx=> ?_,λp hp=> ?_,hO⟩
 ·show 0=gU K.P.n λu=>0+0
  rw [n8];omega
 ·have:=qS.at_ u hu (Ki.1 bq)
  rw [<- B3] at this
  show cR (u:Int) lm=some (.ae (16+u) 1 0 (if 0=K.nc u then 0-1 else 0) (K.nc u-0) (K.nc u))
  rw [this,if_neg (λh=>bq h.symm)]
  rfl
 ·exact qS.no x λu hu bq=>hx u hu (Ki.2 bq)
 ·obtain ⟨u,hu,_,h⟩:=qS.all p hp
  exact h.mono λi hi=>by omega
def Kj (cs:List (Nat×Bool×Nat)) (ws:List AV) (q:ak) (O:Nat->Option ak) (b:Nat):Option ak:=
 if b=7 then some (.row true (cs.flatMap bj) 42 (some 6))
 else if b=9 then some Kg
 else if b=11 then some (.row true ws 40 none)
 else if b=12 then some q
 else if b=6∨(12<b∧b<16) then O b else none
def oq (P:cv) (cs:List (Nat×Bool×Nat)) (ws:List AV) (q:ak) (O:Nat->Option ak) (b:Nat):Option ak:=
 if b=2 then some (mR P λ_=>0)
 else if b=3 then some (Jb5 (aG P iA.M))
 else Kj cs ws q O b
theorem cE (cs:List (Nat×Bool×Nat)):(ak.row true (cs.flatMap bj) 42 (some 6)).aD λ_=>False:=by
 show aR _ (cs.flatMap bj)
 rw [cS]
 intro v hv
 obtain ⟨c,_,hv⟩:=List.mem_flatMap.1 hv
 unfold bj at hv
 simp only [List.mem_cons,List.not_mem_nil,or_false] at hv
 rcases hv with rfl | rfl | rfl | rfl | rfl | rfl<;>trivial
theorem nd {cs:List (Nat×Bool×Nat)} {ws:List AV} {q:ak} {b:Nat} {o:ak} (h:Kj cs ws q O b=some o):(b=7∧o= .row true (cs.flatMap bj) 42 (some 6))∨(b=9∧o=Kg)∨(b=11∧o= .row true ws 40 none)∨(b=12∧o=q)∨((b=6∨(12<b∧b<16))∧O b=some o):=by
 unfold Kj at h
 split at h
 ·exact .inl ⟨‹_›,(Option.some.inj h).symm⟩
 split at h
 ·exact .inr (.inl ⟨‹_›,(Option.some.inj h).symm⟩)
 split at h
 ·exact .inr (.inr (.inl ⟨‹_›,(Option.some.inj h).symm⟩))
 split at h
 ·exact .inr (.inr (.inr (.inl ⟨‹_›,(Option.some.inj h).symm⟩)))
 split at h
 ·exact .inr (.inr (.inr (.inr ⟨‹_›,h⟩)))
 ·cases h
theorem wS {cs:List (Nat×Bool×Nat)} {ws:List AV} {q:ak} (hw:aR (λ_=>False) ws) (hq:q.aD λ_=>False) (hO: ∀ b o,O b=some o->o.aD λ_=>False):uw (Kj cs ws q O):=λc o h=>by
 rcases nd h with ⟨rfl,rfl⟩ | ⟨rfl,rfl⟩ | ⟨rfl,rfl⟩ | ⟨rfl,rfl⟩ | ⟨hb,h⟩
 ·exact ⟨⟨by omega,by omega,by omega⟩,by omega,bJ (cE cs)⟩
 ·exact ⟨⟨by omega,by omega,by omega⟩,by omega,⟨⟨by omega,by omega,by omega⟩,by omega⟩,trivial⟩
 ·exact ⟨⟨by omega,by omega,by omega⟩,by omega,bJ hw⟩
 ·exact ⟨⟨by omega,by omega,by omega⟩,by omega,bJ hq⟩
 ·exact ⟨⟨by omega,by omega,by omega⟩,by omega,bJ (hO c o h)⟩
theorem Kk {P:cv} {cs:List (Nat×Bool×Nat)} {ws:List AV} {q:ak} (hw:aR (λ_=>False) ws) (hq:q.aD λ_=>False) (hO: ∀ b o,O b=some o->o.aD λ_=>False):uw (oq P cs ws q O):=λc o h=>by
 unfold oq at h
 split at h
 ·rename_i e;subst e
  obtain rfl:=Option.some.inj h
  exact ⟨⟨by omega,by omega,by omega⟩,by omega,dK ⟨⟨by omega,by omega,by omega⟩,by omega⟩⟩
 split at h
 ·rename_i e;subst e
  obtain rfl:=Option.some.inj h
  exact ⟨⟨by omega,by omega,by omega⟩,by omega,gT⟩
 ·exact wS hw hq hO c o h
theorem OG (hn:1<=K.P.n∧K.P.n<=4) (jd: ∀ c∈K.cs,c.1<K.P.n) (dP:K.cs.length<=1000) {ws:List AV} (hw:aR (λ_=>False) ws) (Ge:ws.length=sz K.P) (Jc1: ∀ φ φ':bo,az φ ws=az φ' (aG K.P iA.M)) (fy:sz K.P<=65536)
  (hO: ∀ b o,O b=some o->o.aD λ_=>False) {φ:bo} {w:World} (bx:cz κ (Kj K.cs ws (iq K.P (ct iA)) O) φ w):
  Calls prog 27 (az φ [.aa .i64 (K.P.n:Nat),.aF 9 1 0 0 1 1,.aL 11 0 (sz K.P) (sz K.P),.ae 7 6 0 0 K.cs.length K.cs.length]).toArray w (λe w'=> ∃ (φ':bo) (lm:List (Int×AV)),e= .returned (Jb1 φ' (.eT [.ptr 0 0,.int .i64 0]))∧cz κ (b7 K iA (OF K lm O)) φ' w'∧uv K.P.n K.cs K.cs.length lm∧ ∀ b,b=6∨b=7∨(12<b∧b<16)->φ' b=φ b):=by
 have SJ:0<sz K.P:=by unfold sz;omega
 have hq:(iq K.P (ct iA)).aD λ_=>False:=kH
 have ky:=wS (cs:=K.cs) hw hq hO
 have bn:=ky.low
 refine iY Tryz.func27 (c:=Tryz.f27.body.getD .skip) (by kernel_rfl) (by show 4<=Tryz.f27.ntmps;rw [Tryz.ntmps27];omega) bx bn ?_ (λa bf=> ?_)
 ·exact ⟨trivial,by show 9<96;omega,by show 11<96;omega,by show 7<96;omega,trivial⟩
 rw [Tryz.ntmps27] at bf
 obtain ⟨cH,s1,de,bt,cb,Jb8,cG,dT⟩:=aE (UK K.P.n K.cs.length (sz K.P) ws)
 have eg:s1.pre:=by
  rw [cb]
  refine ⟨⟨⟨⟨True.intro,by simp [aq]<;>omega⟩,True.intro⟩,SJ,?_,?_⟩,by omega⟩
  ·rw [kG];omega
  ·rw [gy];omega
 refine cN (bX named mixed bd (nt:=39) 2 gX 100000 _ _ _ _ (by kernel_rfl) de) bf (dC bn (ab (by rfl) aC)) eg (λφ1 w1 a1 fD bO=> ?_) _ (λa w h=>h)
 have PX:=Kk (P:=K.P) (cs:=K.cs) hw hq hO
 have Az:=PX.low
 let φ2:bo:=λb=>φ1 (if b=2 then 98 else if b=3 then 97 else b)
 have AO:after (Kj K.cs ws (iq K.P (ct iA)) O) s1 97=some (.row true ((ws.drop 0).take (sz K.P*1)) 40 (some 1)):=(bR cG (by omega) (by simp)).trans (ah dT 0 rfl rfl)
 have Y3:after (Kj K.cs ws (iq K.P (ct iA)) O) s1 98=some (.row false [.ae 97 1 0 0 (sz K.P) (sz K.P),.int .i64 0,.int .i64 0,.int .i64 0,.int .i64 0,.int .i64 0,.kx] 129 none):=(bR cG (by omega) (by simp)).trans (ah dT 1 rfl rfl)
 have ij: ∀ b,b≠2->b≠3->φ2 b=φ1 b:=λb h2 h3=>by show φ1 (if b=2 then 98 else if b=3 then 97 else b)=φ1 b;rw [if_neg h2,if_neg h3]
 have p3:φ1 97=φ2 3:=rfl
 have tQ:cz κ (oq K.P K.cs ws (iq K.P (ct iA)) O) φ2 w1:=by
  refine bO.fit.iQ (λb=>if b=2 then 98 else if b=3 then 97 else b) (λb d x y hb hd he=> ?_) (λb o' hb=> ?_)
  ·have h1:=(Az b x hb).1
   have h2:=(Az d y hd).1
   have ny:(if b=2 then 98 else if b=3 then 97 else b)=(if d=2 then 98 else if d=3 then 97 else d):=he
   repeat' split at ny
   all_goals omega
  ·unfold oq at hb
   split at hb
   ·rename_i e;subst e
    obtain rfl:=Option.some.inj hb
    refine ⟨_,Y3,?_,rfl,rfl⟩
    show az φ1 _=az φ2 _
    simp only [az,cI p3]
    rfl
   split at hb
   ·rename_i e;subst e
    obtain rfl:=Option.some.inj hb
    refine ⟨_,AO,?_,rfl,rfl⟩
    rw [List.drop_zero,Nat.mul_one,<- Ge,List.take_length]
    exact Jc1 φ1 _
   ·rename_i e2 e3
    obtain ⟨_,dA,cC⟩:=ky b o' hb
    have bq:o'.aD (λi=>i≠2∧i≠3):=by
     rcases nd hb with ⟨rfl,rfl⟩ | ⟨rfl,rfl⟩ | ⟨rfl,rfl⟩ | ⟨rfl,rfl⟩ | ⟨_,h⟩
     ·exact bJ (cE _)
     ·exact ⟨⟨by omega,by omega⟩,trivial⟩
     ·exact bJ hw
     ·exact bJ hq
     ·exact bJ (hO _ _ h)
    rw [if_neg e2,if_neg e3,bY cG (by omega) (by simp;omega)]
    exact ⟨_,hb,bW.jt bq λi hi=>ij i hi.1 hi.2⟩
 have eM:At κ (oq K.P K.cs ws (iq K.P (ct iA)) O) 39 96 [(0,.aa .i64 (K.P.n:Nat)),(1,.aF 9 1 0 0 1 1),(3,.ae 7 6 0 0 K.cs.length K.cs.length),(10,.ptr 2 0)] φ2 w1 a1:=by
  refine bO.Jb4 tQ Az ?_
  exact ab ⟨_,ai bt 0 rfl rfl,rfl,trivial⟩<|ab ⟨_,ai bt 1 rfl rfl,iE (ij 9 (by omega) (by omega)).symm,by show 9<96;omega⟩<|ab ⟨_,ai bt 2 rfl rfl,cI (ij 7 (by omega) (by omega)).symm,by show 7<96;omega⟩<|ab ⟨_,ai bt 3 rfl rfl,by simp only [Jb1];rfl,by show 2<96;omega⟩ aC
 refine fh (a:=L0 gX) (b:=aT 0 (aT 2 gX)) (by kernel_rfl) ?_
 obtain ⟨Tb,s3,Cz,iL,tR,Tk,CD,_⟩:=cV (UL K.P.n K.cs.length)
 have S3:s3.pre:=by rw [tR];exact True.intro
 refine jI named (sound named mixed bd 60) B2.1 B2.2 Cz eM bA S3 (λφ3 w3 a3 xz lh=> ?_)
 have pK:At κ (oq K.P K.cs ws (iq K.P (ct iA)) O) 39 96 [(22,.aa .i64 (K.P.n:Nat)),(23,.ae 7 6 0 0 K.cs.length K.cs.length),(1,.aF 9 1 0 0 1 1),(3,.ae 7 6 0 0 K.cs.length K.cs.length),(10,.ptr 2 0)] φ3 w3 a3:=lh.Jb4 (lh.fit.bB (bV (λc o h=>(eM.ids c o h).1) CD)) Az
  (ab ⟨_,ai iL 0 rfl rfl,rfl,trivial⟩<|ab ⟨_,ai iL 1 rfl rfl,rfl,by show 7<96;omega⟩<|ab ⟨_,ai iL 2 rfl rfl,rfl,by show 9<96;omega⟩<|ab ⟨_,ai iL 3 rfl rfl,rfl,by show 7<96;omega⟩<|ab ⟨_,ai iL 4 rfl rfl,rfl,by show 2<96;omega⟩ aC)
 rw [fC 2 5,wpOps_cons]
 obtain ⟨r,kO,kz,CA,CC⟩:=RH
 refine gz named Kf kO kz CA (avs:=[.aa .i64 (K.P.n:Nat),.ae 7 6 0 0 K.cs.length K.cs.length]) rfl pK (PJ (H:=oq K.P K.cs ws (iq K.P (ct iA)) O) hn PX.two rfl jd dP pK.fit) ?_
 rintro e w4 ⟨φ4,lm,rfl,Al,qS,xI⟩
 have hf: ∀ b,b<16->b≠4->b≠5->φ4 b=φ3 b:=λb h1 h2 h3=>xI b ⟨h2,h3,by omega⟩ (by omega)
 have Qe:=lH (n:=K.P.n) (cs:=K.cs) (i:=K.cs.length) hn.2 Az qS
 refine ⟨φ4,_,96,.eT [.ptr 4 0,.int .i64 0],[(1,.aF 9 1 0 0 1 1),(3,.ae 7 6 0 0 K.cs.length K.cs.length),(10,.ptr 2 0)],_,rfl,Nat.le_refl _,(λt u hu=> ?_),Al,Qe,(by unfold AV.aD;exact ⟨by show 4<96;omega,trivial,trivial⟩),by rw [CC];rfl,λa4 ja=> ?_⟩
 ·have hm:=gh hu
  simp only [List.mem_cons,List.not_mem_nil,or_false,Prod.mk.injEq] at hm
  rcases hm with ⟨rfl,rfl⟩ | ⟨rfl,rfl⟩ | ⟨rfl,rfl⟩
  ·exact ⟨rfl,iE (hf 9 (by omega) (by omega) (by omega))⟩
  ·exact ⟨rfl,cI (hf 7 (by omega) (by omega) (by omega))⟩
  ·exact ⟨rfl,by simp only [Jb1,hf 2 (by omega) (by omega) (by omega)]⟩
 obtain ⟨CH,s5,oC,gK,kp,Cx,lZ,_⟩:=cV (UM K.cs.length)
 have Ax:s5.pre:=by rw [kp];exact True.intro
 refine Jc0 named (sound named mixed bd 60) (q:=3) (r:=5) B2.2 oC ja bA Ax (λφ5 w5 a5 xe iO=> ?_)
 have mQ:At κ (Hn (oq K.P K.cs ws (iq K.P (ct iA)) O) K.P.n K.cs K.cs.length lm) 39 96 [(11,.int .i64 0),(12,.ptr 4 0),(1,.aF 9 1 0 0 1 1),(3,.ae 7 6 0 0 K.cs.length K.cs.length),(10,.ptr 2 0)] φ5 w5 a5:=iO.Jb4 (iO.fit.bB (bV (λc o h=>(ja.ids c o h).1) lZ)) Qe
  (ab ⟨_,ai gK 0 rfl rfl,rfl,trivial⟩<|ab ⟨_,ai gK 1 rfl rfl,rfl,by show 4<96;omega⟩<|ab ⟨_,ai gK 2 rfl rfl,rfl,by show 9<96;omega⟩<|ab ⟨_,ai gK 3 rfl rfl,rfl,by show 7<96;omega⟩<|ab ⟨_,ai gK 4 rfl rfl,rfl,by show 2<96;omega⟩ aC)
 show (aT 0 (aT 2 gX)).wp prog _ a5 w5
 obtain ⟨x6,OY,s6,VN,LC,xn,Li,pI,Lm,O9,nC,ou,Jag⟩:=iZ (UN K.cs.length)
 have LB:VN.pre:=by rw [pI];exact True.intro
 refine kZ named mixed bd xn mQ bA (Lm LB) (λφ6 w6 a6 P2 ub W6=> ?_)
 refine ⟨by rcases LC with rfl | rfl<;>first | exact .inl rfl | exact .inr rfl,_,_,_,φ6,s6,VN,_,_,by rw [Tryz.ntmps27];exact ub,W6,Li,LB,.inr ⟨by simp,rfl⟩,?_⟩
 let φ7:bo:=λb=>φ6 (if b=0 then 98 else if b=1 then 97 else if b=10 then 96 else b)
 have Sy: ∀ b,b≠0->b≠1->b≠10->φ7 b=φ6 b:=λb h0 h1 kN=>by show φ6 (if b=0 then 98 else if b=1 then 97 else if b=10 then 96 else b)=φ6 b;rw [if_neg h0,if_neg h1,if_neg kN]
 have XB:=RI hn.2 qS hO
 have ko:=lG hn.2 XB
 refine ⟨φ7,lm,rfl,?_,qS,λb hb=> ?_⟩
 ·have TB:after (Hn (oq K.P K.cs ws (iq K.P (ct iA)) O) K.P.n K.cs K.cs.length lm) s6 96=some (.map false []):=(bR nC (by omega) (by simp)).trans (ah ou 0 rfl rfl)
  have VA:after (Hn (oq K.P K.cs ws (iq K.P (ct iA)) O) K.P.n K.cs K.cs.length lm) s6 97=some Kh:=(bR nC (by omega) (by simp)).trans (ah ou 1 rfl rfl)
  have g98:after (Hn (oq K.P K.cs ws (iq K.P (ct iA)) O) K.P.n K.cs K.cs.length lm) s6 98=some (PL K.cs.length):=(bR nC (by omega) (by simp)).trans (ah ou 2 rfl rfl)
  have old: ∀ b,b<96->after (Hn (oq K.P K.cs ws (iq K.P (ct iA)) O) K.P.n K.cs K.cs.length lm) s6 b=Hn (oq K.P K.cs ws (iq K.P (ct iA)) O) K.P.n K.cs K.cs.length lm b:=λb hb=>bY nC (by omega) (by simp;omega)
  refine ub.fit.iQ (λb=>if b=0 then 98 else if b=1 then 97 else if b=10 then 96 else b) (λb d x y hb hd he=> ?_) (λb o' hb=> ?_)
  ·have h1:=(ko b x hb).1
   have h2:=(ko d y hd).1
   have ny:(if b=0 then 98 else if b=1 then 97 else if b=10 then 96 else b)=(if d=0 then 98 else if d=1 then 97 else if d=10 then 96 else d):=he
   repeat' split at ny
   all_goals omega
  ·have bB: ∀ o,b<96->b≠0->b≠1->b≠10->Hn (oq K.P K.cs ws (iq K.P (ct iA)) O) K.P.n K.cs K.cs.length lm b=some o->o'=o->o.aD (λi=>i≠0∧i≠1∧i≠10)-> ∃ o,after (Hn (oq K.P K.cs ws (iq K.P (ct iA)) O) K.P.n K.cs K.cs.length lm) s6 (if b=0 then 98 else if b=1 then 97 else if b=10 then 96 else b)=some o∧bW φ6 φ7 o o':=λo dA h0 h1 kN hh he cC=>by
    rw [if_neg h0,if_neg h1,if_neg kN,old b dA,he]
    exact ⟨o,hh,bW.jt cC λi hi=>Sy i hi.1 hi.2.1 hi.2.2⟩
   have t3: ∀ {o:ak},o.aD (λ_=>False)->o.aD (λi=>i≠0∧i≠1∧i≠10):=λh=>bJ h
   rcases mC hn.2 hb with hb16 | ⟨u,hu,rfl⟩ | ⟨u,hu,rfl⟩ | ⟨u,hu,rfl⟩ | ⟨u,hu,rfl⟩
   ·rw [dj hb16] at hb
    have ni:b=0∨b=1∨b=2∨b=3∨b=4∨b=5∨b=6∨b=7∨b=8∨b=9∨b=10∨b=11∨b=12∨b=13∨b=14∨b=15:=by omega
    rcases ni with rfl | rfl | rfl | rfl | rfl | rfl | rfl | rfl | rfl | rfl | rfl | rfl | rfl | rfl | rfl | rfl
    ·obtain rfl:=Option.some.inj hb
     refine ⟨_,g98,?_,rfl,rfl⟩
     rfl
    ·obtain rfl:=Option.some.inj hb
     refine ⟨_,VA,?_,rfl,rfl⟩
     rfl
    ·obtain rfl:=Option.some.inj hb
     exact bB _ (by omega) (by omega) (by omega) (by omega) rfl rfl (dK ⟨by omega,by omega,by omega⟩)
    ·obtain rfl:=Option.some.inj hb
     exact bB _ (by omega) (by omega) (by omega) (by omega) rfl rfl gT
    ·obtain rfl:=Option.some.inj hb
     exact bB _ (by omega) (by omega) (by omega) (by omega) rfl rfl ⟨⟨by omega,by omega,by omega⟩,trivial,trivial⟩
    ·obtain rfl:=Option.some.inj hb
     refine bB _ (by omega) (by omega) (by omega) (by omega) rfl rfl (λp hp=> ?_)
     obtain ⟨u,hu,_,h⟩:=qS.all p hp
     exact h.mono λi hi=>by omega
    ·exact bB o' (by omega) (by omega) (by omega) (by omega) hb rfl (t3 (hO _ _ hb))
    ·obtain rfl:=Option.some.inj hb
     exact bB _ (by omega) (by omega) (by omega) (by omega) rfl rfl (t3 (cE _))
    ·cases hb
    ·obtain rfl:=Option.some.inj hb
     exact bB _ (by omega) (by omega) (by omega) (by omega) rfl rfl ⟨⟨by omega,by omega,by omega⟩,trivial⟩
    ·obtain rfl:=Option.some.inj hb
     exact ⟨_,TB,rfl⟩
    ·cases hb
    ·obtain rfl:=Option.some.inj hb
     exact bB _ (by omega) (by omega) (by omega) (by omega) rfl rfl (t3 hq)
    ·exact bB o' (by omega) (by omega) (by omega) (by omega) hb rfl (t3 (hO _ _ hb))
    ·exact bB o' (by omega) (by omega) (by omega) (by omega) hb rfl (t3 (hO _ _ hb))
    ·exact bB o' (by omega) (by omega) (by omega) (by omega) hb rfl (t3 (hO _ _ hb))
   ·rw [oe (by omega)] at hb
    split at hb
    ·rename_i h
     obtain rfl:=Option.some.inj hb
     exact bB _ (by omega) (by omega) (by omega) (by omega) (by rw [B0 (by omega),if_pos ⟨h.1,Ki.1 h.2⟩];rfl) rfl (t3 (j9 K u))
    ·cases hb
   ·rw [vm (by omega),if_pos hu] at hb;cases hb
   ·rw [qD (by omega),if_pos hu] at hb;cases hb
   ·rw [qE (by omega),if_pos hu] at hb;cases hb
 ·have oE:b<16∧b≠0∧b≠1∧b≠2∧b≠3∧b≠4∧b≠5∧b≠10:=by omega
  rw [Sy b (by omega) (by omega) (by omega),P2 b (by show b<96;omega),xe b (by show b<96;omega),hf b (by omega) (by omega) (by omega),xz b (by show b<96;omega),ij b (by omega) (by omega),fD b (by show b<96;omega)]
end
end
end Qk
end Go.Proofs.YtpkfimijnkkbjaaGreat
