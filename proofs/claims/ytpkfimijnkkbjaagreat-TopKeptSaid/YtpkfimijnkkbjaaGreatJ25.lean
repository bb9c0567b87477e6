/- lives() is known: wherever it is called, it answers true and leaves all as it was. -/
import Derived.Test.YtpkfimijnkkbjaaGreatJ24
set_option linter.unusedVariables false
namespace Go.Proofs.YtpkfimijnkkbjaaGreat
namespace Ev
open Go.Proofs.Tryz (prog)
def ba:kP:=λf=>match Nat.beq f 7 with
 | true=>some λargs s=>match args with
  | []=> .ok (.bool true) s
  | _=> .fail []
 | false=>none
theorem bL:eu prog ba:=by
 intro f g hg args s v s' h
 unfold ba at hg
 split at hg
 ·rename_i hf
  have hf':=Nat.eq_of_beq_eq_true hf
  subst hf'
  cases hg
  cases args with
  | nil=>
   cases h
   have hq:=bC.refl s
   refine ⟨⟨_,Tryz.func7,by kernel_rfl⟩,_,_,hq.sp,hq.ids λD _ _ _=>trivial,λφ w hp hf ho cF=> ?_⟩
   refine (Ep w).mono ?_
   rintro e w' ⟨rfl,h1,h2,h3⟩
   exact ⟨φ,rfl,λ_ _=>rfl,λb o hb=>hb.elim,λb c hb=>hb.elim,λb hb=>hb.elim,λr hr _=>h1 r hr,h2,h3⟩
  | cons x l=>cases h
 ·cases hg
end Ev
end Go.Proofs.YtpkfimijnkkbjaaGreat
namespace Go.Proofs.YtpkfimijnkkbjaaGreat
namespace Qk
open Ev Ct
open Go.IntKind (i64 u64)
open Go.Proofs.Tryz (prog)
def P5 (k:Nat) (c:Code):Code:=cA 0 (aT k c)
theorem RZ (q0 q1 q2:Int) (al ao ac pl po pc:Nat):
  b6 [1,2,3] [96] (aP prog (aW prog ba 60) 299 100000 (cA 1 aB) (eG [.agg [.aa .i64 q0,.aa .i64 q1,.aa .i64 q2],.aL 40 ao al ac,.aL 41 po pl pc] 0) ⟨mk [],96,0,0,True,[.br false,.br false,.br false,.br false,.br false,.br false,.br false,.br false]⟩)=
  some (.normal,[some (.aL 40 ao al ac),some (.aL 41 po pl pc),some (.ptr 96 0)],(((((((True∧aq .lss q0 (1:Int)=false)∧aq .gtr q0 (3:Int)=false)∧aq .lss q1 (1:Int)=false)∧aq .gtr q1 (32:Int)=false)∧aq .lss q2 (0:Int)=false)∧aq .gtr q2 (3:Int)=false)∧aq .gtr (al:Int) (16:Int)=false)∧aq .gtr (pl:Int) (2000:Int)=false,97,[96],[some (.row false [.aa .i64 q0,.aa .i64 q1,.aa .i64 q2] 52 none)]):=by kernel_rfl
theorem R3 (q0 q1 q2:Int) (al ao ac:Nat):
  b6 [1,2,3] [96] (aP prog (aW prog ba 60) 299 100000 (cA 1 aB) (eG [.agg [.aa .i64 q0,.aa .i64 q1,.aa .i64 q2],.aL 40 ao al ac,.au] 0) ⟨mk [],96,0,0,True,[.br false,.br false,.br false,.br false,.br false,.br false,.br false]⟩)=
  some (.normal,[some (.aL 40 ao al ac),some .au,some (.ptr 96 0)],((((((True∧aq .lss q0 (1:Int)=false)∧aq .gtr q0 (3:Int)=false)∧aq .lss q1 (1:Int)=false)∧aq .gtr q1 (32:Int)=false)∧aq .lss q2 (0:Int)=false)∧aq .gtr q2 (3:Int)=false)∧aq .gtr (al:Int) (16:Int)=false,97,[96],[some (.row false [.aa .i64 q0,.aa .i64 q1,.aa .i64 q2] 52 none)]):=by kernel_rfl
theorem R4 (q0 q1 q2:Int) (pl po pc:Nat):
  b6 [1,2,3] [96] (aP prog (aW prog ba 60) 299 100000 (cA 1 aB) (eG [.agg [.aa .i64 q0,.aa .i64 q1,.aa .i64 q2],.au,.aL 41 po pl pc] 0) ⟨mk [],96,0,0,True,[.br false,.br false,.br false,.br false,.br false,.br false,.br false]⟩)=
  some (.normal,[some .au,some (.aL 41 po pl pc),some (.ptr 96 0)],((((((True∧aq .lss q0 (1:Int)=false)∧aq .gtr q0 (3:Int)=false)∧aq .lss q1 (1:Int)=false)∧aq .gtr q1 (32:Int)=false)∧aq .lss q2 (0:Int)=false)∧aq .gtr q2 (3:Int)=false)∧aq .gtr (pl:Int) (2000:Int)=false,97,[96],[some (.row false [.aa .i64 q0,.aa .i64 q1,.aa .i64 q2] 52 none)]):=by kernel_rfl
theorem R5 (q0 q1 q2:Int):
  b6 [1,2,3] [96] (aP prog (aW prog ba 60) 299 100000 (cA 1 aB) (eG [.agg [.aa .i64 q0,.aa .i64 q1,.aa .i64 q2],.au,.au] 0) ⟨mk [],96,0,0,True,[.br false,.br false,.br false,.br false,.br false,.br false]⟩)=
  some (.normal,[some .au,some .au,some (.ptr 96 0)],(((((True∧aq .lss q0 (1:Int)=false)∧aq .gtr q0 (3:Int)=false)∧aq .lss q1 (1:Int)=false)∧aq .gtr q1 (32:Int)=false)∧aq .lss q2 (0:Int)=false)∧aq .gtr q2 (3:Int)=false,97,[96],[some (.row false [.aa .i64 q0,.aa .i64 q1,.aa .i64 q2] 52 none)]):=by kernel_rfl
theorem X8 (pa pk:AV) (q0 q1 q2:Int):
  b6 [1,2,3,7] [96,97,98,99] (aP prog (aW prog ba 60) 299 100000 (P5 1 aB) ([(1,pa),(2,pk),(3,.ptr 12 0)]) ⟨mk [(12,.row false [.aa .i64 q0,.aa .i64 q1,.aa .i64 q2] 52 none)],96,0,0,True,[]⟩)=
  some (.normal,[some pa,some pk,some (.ptr 12 0),some (.ptr 97 0)],True∧true=true,98,[96,97],[some (.row false [.int .i64 8,.aa .i64 q1,.aa .i64 q2] 39 none),some (.row false [.aa .i64 (i64.wrap (q0+(1:Int))),.slice 96 0 1 1,.au,.au] 26 none),none,none]):=by kernel_rfl
theorem Kr (pk:AV) (al ao ac:Nat):
  b6 [1,2,3,7,72,73] [] (aP prog (aW prog ba 60) 299 100000 (cA 0 (P5 2 aB)) ([(1,.aL 40 ao al ac),(2,pk),(3,.ptr 12 0),(7,.ptr 14 0)]) ⟨mk [],96,0,0,True,[]⟩)=
  some (.normal,[some (.aL 40 ao al ac),some pk,some (.ptr 12 0),some (.ptr 14 0),some (.aa .i64 (al:Int)),some (.int .i64 0)],True,96,[],[]):=by kernel_rfl
theorem Fm (pk:AV):
  b6 [1,2,3,7,72,73] [] (aP prog (aW prog ba 60) 299 100000 (cA 0 (P5 2 aB)) ([(1,.au),(2,pk),(3,.ptr 12 0),(7,.ptr 14 0)]) ⟨mk [],96,0,0,True,[]⟩)=
  some (.normal,[some .au,some pk,some (.ptr 12 0),some (.ptr 14 0),some (.int .i64 0),some (.int .i64 0)],True,96,[],[]):=by kernel_rfl
theorem Cb (pk:AV) (nn:Int) (ty:Nat) (q0 q1 q2:Int) (al ao ac ix:Nat) (x:Int) (xf:List AV):
  b6 [1,2,3,7,72,73] [14,40,96,97,98,99,100] (aP prog (aW prog ba 60) 299 100000 (bK (P5 2 aB)) ([(1,.aL 40 ao al ac),(2,pk),(3,.ptr 12 0),(7,.ptr 14 0),(72,.aa .i64 al),(73,.aa .i64 ix)]) ⟨mk [(12,.row false [.aa .i64 q0,.aa .i64 q1,.aa .i64 q2] 52 none),(14,.row false [.aa .i64 nn,.slice 1 0 1 1,.au,.au] 26 none),(40,.row true xf ty (some 0))],96,0,0,True,[.br true,.val [.aa .u8 x],.val [.aa .u8 x]]⟩)=
  some (.normal,[some (.aL 40 ao al ac),some pk,some (.ptr 12 0),some (.ptr 14 0),some (.aa .i64 (al:Int)),some (.aa .i64 (i64.wrap ((ix:Int)+(1:Int))))],((((((((True∧aq .lss (ix:Int) (al:Int)=true)∧(0:Int)<=(ix:Int)∧(ix:Int)<(al:Int))∧1=1∧ ∀ (i:Nat),i<(1:Nat)->xf[ao+(ix:Int).toNat*1+i]?=[.aa .u8 x][i]?)∧(q0 != (0:Int))=true)∧(0:Int)<=(ix:Int)∧(ix:Int)<(al:Int))∧1=1∧ ∀ (i:Nat),i<(1:Nat)->xf[ao+(ix:Int).toNat*1+i]?=[.aa .u8 x][i]?)∧true=true)∧true=true)∧true=true,98,[14,96,97],[some (.row false [.aa .i64 nn,.slice 1 0 1 1,.aF 97 6 0 0 1 1,.au] 26 none),some (.row true xf ty (some 0)),some (.row false [.aa .i64 ((i64.wrap x).tmod q0),.int .i64 0,.aa .i64 ((i64.wrap ((i64.wrap x).tdiv (16:Int))).tmod (2:Int)),.aa .u64 (u64.wrap (ix:Int)),.int .u64 0,.int .u64 0] 42 none),some (.row false [.aa .i64 ((i64.wrap x).tmod q0),.int .i64 0,.aa .i64 ((i64.wrap ((i64.wrap x).tdiv (16:Int))).tmod (2:Int)),.aa .u64 (u64.wrap (ix:Int)),.int .u64 0,.int .u64 0] 42 (some 6)),none,none,none]):=by kernel_rfl
theorem Fp (pk:AV) (nn:Int) (ty:Nat) (q0 q1 q2:Int) (al ao ac ix:Nat) (x:Int) (xf calls:List AV) (c:Nat):
  b6 [1,2,3,7,72,73] [14,7,40,96,97,98,99,100] (aP prog (aW prog ba 60) 299 100000 (bK (P5 2 aB)) ([(1,.aL 40 ao al ac),(2,pk),(3,.ptr 12 0),(7,.ptr 14 0),(72,.aa .i64 al),(73,.aa .i64 ix)]) ⟨mk [(12,.row false [.aa .i64 q0,.aa .i64 q1,.aa .i64 q2] 52 none),(14,.row false [.aa .i64 nn,.slice 1 0 1 1,.ae 7 6 0 0 c c,.au] 26 none),(7,.row true calls 42 (some 6)),(40,.row true xf ty (some 0))],96,0,0,True,[.br true,.val [.aa .u8 x],.val [.aa .u8 x]]⟩)=
  some (.normal,[some (.aL 40 ao al ac),some pk,some (.ptr 12 0),some (.ptr 14 0),some (.aa .i64 (al:Int)),some (.aa .i64 (i64.wrap ((ix:Int)+(1:Int))))],(((((((((True∧aq .lss (ix:Int) (al:Int)=true)∧(0:Int)<=(ix:Int)∧(ix:Int)<(al:Int))∧1=1∧ ∀ (i:Nat),i<(1:Nat)->xf[ao+(ix:Int).toNat*1+i]?=[.aa .u8 x][i]?)∧(q0 != (0:Int))=true)∧(0:Int)<=(ix:Int)∧(ix:Int)<(al:Int))∧1=1∧ ∀ (i:Nat),i<(1:Nat)->xf[ao+(ix:Int).toNat*1+i]?=[.aa .u8 x][i]?)∧true=true)∧true=true)∧c=c∧calls.length=c*6∧(c+1)*48<=room∧c+1<=maxLen)∧true=true,98,[7,14,96,97],[some (.row false [.aa .i64 nn,.slice 1 0 1 1,.ae 97 6 0 0 (c+1) (c+1),.au] 26 none),none,some (.row true xf ty (some 0)),some (.row false [.aa .i64 ((i64.wrap x).tmod q0),.int .i64 0,.aa .i64 ((i64.wrap ((i64.wrap x).tdiv (16:Int))).tmod (2:Int)),.aa .u64 (u64.wrap (ix:Int)),.int .u64 0,.int .u64 0] 42 none),some (.row true (calls++[.aa .i64 ((i64.wrap x).tmod q0),.int .i64 (0:Int),.aa .i64 ((i64.wrap ((i64.wrap x).tdiv (16:Int))).tmod (2:Int)),.aa .u64 (u64.wrap (ix:Int)),.int .u64 (0:Int),.int .u64 (0:Int)]) 42 (some 6)),none,none,none]):=by kernel_rfl
theorem Vb (pk:AV) (nn:Int) (c:Nat):
  b6 [2,3,7,9] [] (aP prog (aW prog ba 60) 299 100000 (cA 0 (aT 0 (aT 2 aB))) ([(2,pk),(3,.ptr 12 0),(7,.ptr 14 0)]) ⟨mk [(14,.row false [.aa .i64 nn,.slice 1 0 1 1,.ae 7 6 0 0 c c,.au] 26 none)],96,0,0,True,[]⟩)=
  some (.normal,[some pk,some (.ptr 12 0),some (.ptr 14 0),some (.aa .i64 (c:Int))],True,96,[],[]):=by kernel_rfl
theorem R6 (pk:AV) (nn:Int):
  b6 [2,3,7,9] [] (aP prog (aW prog ba 60) 299 100000 (cA 0 (aT 0 (aT 2 aB))) ([(2,pk),(3,.ptr 12 0),(7,.ptr 14 0)]) ⟨mk [(14,.row false [.aa .i64 nn,.slice 1 0 1 1,.au,.au] 26 none)],96,0,0,True,[]⟩)=
  some (.normal,[some pk,some (.ptr 12 0),some (.ptr 14 0),some (.int .i64 0)],True,96,[],[]):=by kernel_rfl
theorem Ks (pk:AV) (own:Nat):
  b6 [2,3,7,9,104,105] [] (aP prog (aW prog ba 60) 299 100000 (cA 0 (P5 4 aB)) ([(2,pk),(3,.ptr 12 0),(7,.ptr 14 0),(9,.aa .i64 own)]) ⟨mk [],96,0,0,True,[]⟩)=
  some (.normal,[some pk,some (.ptr 12 0),some (.ptr 14 0),some (.aa .i64 (own:Int)),some (.aa .i64 (i64.wrap ((own:Int)+(1:Int)))),some (.int .i64 0)],True∧true=true,96,[],[]):=by kernel_rfl
theorem Kt (pk:AV) (ix own pn:Nat):
  b6 [2,3,7,9,104,105] [] (aP prog (aW prog ba 60) 299 100000 (bK (P5 4 aB)) ([(2,pk),(3,.ptr 12 0),(7,.ptr 14 0),(9,.aa .i64 own),(104,.aa .i64 pn),(105,.aa .i64 ix)]) ⟨mk [],96,0,0,True,[.br false]⟩)=
  some (.exit 2,[some pk,some (.ptr 12 0),some (.ptr 14 0),some (.aa .i64 (own:Int)),some (.aa .i64 (pn:Int)),some (.aa .i64 (ix:Int))],True∧aq .lss (ix:Int) (pn:Int)=false,96,[],[]):=by kernel_rfl
theorem Cc (pk:AV) (nn q0 q1 q2:Int) (ix own pn:Nat):
  b6 [2,3,7,9,104,105] [14,96,97,98] (aP prog (aW prog ba 60) 299 100000 (bK (P5 4 aB)) ([(2,pk),(3,.ptr 12 0),(7,.ptr 14 0),(9,.aa .i64 own),(104,.aa .i64 pn),(105,.aa .i64 ix)]) ⟨mk [(12,.row false [.aa .i64 q0,.aa .i64 q1,.aa .i64 q2] 52 none),(14,.row false [.aa .i64 nn,.slice 1 0 1 1,.au,.au] 26 none)],96,0,0,True,[.br true]⟩)=
  some (.normal,[some pk,some (.ptr 12 0),some (.ptr 14 0),some (.aa .i64 (own:Int)),some (.aa .i64 (pn:Int)),some (.aa .i64 (i64.wrap ((ix:Int)+(1:Int))))],(True∧aq .lss (ix:Int) (pn:Int)=true)∧true=true,98,[14,96,97],[some (.row false [.aa .i64 nn,.slice 1 0 1 1,.aF 97 6 0 0 1 1,.au] 26 none),some (.row false [.aa .i64 q0,.int .i64 0,.int .i64 1,.int .u64 0,.int .u64 0,.int .u64 0] 42 none),some (.row false [.aa .i64 q0,.int .i64 0,.int .i64 1,.int .u64 0,.int .u64 0,.int .u64 0] 42 (some 6)),none]):=by kernel_rfl
theorem Fq (pk:AV) (nn q0 q1 q2:Int) (ix:Nat) (calls:List AV) (own c pn:Nat):
  b6 [2,3,7,9,104,105] [14,7,96,97,98] (aP prog (aW prog ba 60) 299 100000 (bK (P5 4 aB)) ([(2,pk),(3,.ptr 12 0),(7,.ptr 14 0),(9,.aa .i64 own),(104,.aa .i64 pn),(105,.aa .i64 ix)]) ⟨mk [(12,.row false [.aa .i64 q0,.aa .i64 q1,.aa .i64 q2] 52 none),(14,.row false [.aa .i64 nn,.slice 1 0 1 1,.ae 7 6 0 0 c c,.au] 26 none),(7,.row true calls 42 (some 6))],96,0,0,True,[.br true]⟩)=
  some (.normal,[some pk,some (.ptr 12 0),some (.ptr 14 0),some (.aa .i64 (own:Int)),some (.aa .i64 (pn:Int)),some (.aa .i64 (i64.wrap ((ix:Int)+(1:Int))))],((True∧aq .lss (ix:Int) (pn:Int)=true)∧c=c∧calls.length=c*6∧(c+1)*48<=room∧c+1<=maxLen)∧true=true,98,[7,14,96,97],[some (.row false [.aa .i64 nn,.slice 1 0 1 1,.ae 97 6 0 0 (c+1) (c+1),.au] 26 none),none,some (.row false [.aa .i64 q0,.int .i64 0,.int .i64 1,.int .u64 0,.int .u64 0,.int .u64 0] 42 none),some (.row true (calls++[.aa .i64 q0,.int .i64 (0:Int),.int .i64 (1:Int),.int .u64 (0:Int),.int .u64 (0:Int),.int .u64 (0:Int)]) 42 (some 6)),none]):=by kernel_rfl
theorem Ku (pl po pc own:Nat):
  b6 [2,3,7,9,117,118] [] (aP prog (aW prog ba 60) 299 100000 (cA 0 (P5 5 aB)) ([(2,.aL 41 po pl pc),(3,.ptr 12 0),(7,.ptr 14 0),(9,.aa .i64 own)]) ⟨mk [],96,0,0,True,[]⟩)=
  some (.normal,[some (.aL 41 po pl pc),some (.ptr 12 0),some (.ptr 14 0),some (.aa .i64 (own:Int)),some (.aa .i64 (pl:Int)),some (.int .i64 0)],True,96,[],[]):=by kernel_rfl
theorem Fs (own:Nat):
  b6 [2,3,7,9,117,118] [] (aP prog (aW prog ba 60) 299 100000 (cA 0 (P5 5 aB)) ([(2,.au),(3,.ptr 12 0),(7,.ptr 14 0),(9,.aa .i64 own)]) ⟨mk [],96,0,0,True,[]⟩)=
  some (.normal,[some .au,some (.ptr 12 0),some (.ptr 14 0),some (.aa .i64 (own:Int)),some (.int .i64 0),some (.int .i64 0)],True,96,[],[]):=by kernel_rfl
theorem Kv (ty:Nat) (q0 q1 q2:Int) (pl po pc ix:Nat) (x:Int) (Mf:List AV) (own:Nat):
  b6 [2,3,7,9,117,118] [] (aP prog (aW prog ba 60) 299 100000 (bK (P5 5 aB)) ([(2,.aL 41 po pl pc),(3,.ptr 12 0),(7,.ptr 14 0),(9,.aa .i64 own),(117,.aa .i64 pl),(118,.aa .i64 ix)]) ⟨mk [(12,.row false [.aa .i64 q0,.aa .i64 q1,.aa .i64 q2] 52 none),(41,.row true Mf ty (some 0))],96,0,0,True,[.br true,.val [.aa .i64 x],.br false]⟩)=
  some (.normal,[some (.aL 41 po pl pc),some (.ptr 12 0),some (.ptr 14 0),some (.aa .i64 (own:Int)),some (.aa .i64 (pl:Int)),some (.aa .i64 (i64.wrap ((ix:Int)+(1:Int))))],((((True∧aq .lss (ix:Int) (pl:Int)=true)∧(0:Int)<=(ix:Int)∧(ix:Int)<(pl:Int))∧1=1∧ ∀ (i:Nat),i<(1:Nat)->Mf[po+(ix:Int).toNat*1+i]?=[.aa .i64 x][i]?)∧aq .lss x q0=false)∧true=true,96,[],[]):=by kernel_rfl
theorem Cd (nn:Int) (ty:Nat) (q0 q1 q2:Int) (pl po pc ix:Nat) (x:Int) (Mf:List AV) (own c:Nat):
  b6 [2,3,7,9,117,118] [14,96,97,98] (aP prog (aW prog ba 60) 299 100000 (bK (P5 5 aB)) ([(2,.aL 41 po pl pc),(3,.ptr 12 0),(7,.ptr 14 0),(9,.aa .i64 own),(117,.aa .i64 pl),(118,.aa .i64 ix)]) ⟨mk [(12,.row false [.aa .i64 q0,.aa .i64 q1,.aa .i64 q2] 52 none),(14,.row false [.aa .i64 nn,.slice 1 0 1 1,.ae 7 6 0 0 c c,.au] 26 none),(41,.row true Mf ty (some 0))],96,0,0,True,[.br true,.val [.aa .i64 x],.br true,.val [.aa .i64 x]]⟩)=
  some (.normal,[some (.aL 41 po pl pc),some (.ptr 12 0),some (.ptr 14 0),some (.aa .i64 (own:Int)),some (.aa .i64 (pl:Int)),some (.aa .i64 (i64.wrap ((ix:Int)+(1:Int))))],((((((True∧aq .lss (ix:Int) (pl:Int)=true)∧(0:Int)<=(ix:Int)∧(ix:Int)<(pl:Int))∧1=1∧ ∀ (i:Nat),i<(1:Nat)->Mf[po+(ix:Int).toNat*1+i]?=[.aa .i64 x][i]?)∧aq .lss x q0=true)∧(0:Int)<=(ix:Int)∧(ix:Int)<(pl:Int))∧1=1∧ ∀ (i:Nat),i<(1:Nat)->Mf[po+(ix:Int).toNat*1+i]?=[.aa .i64 x][i]?)∧true=true,98,[14,96,97],[some (.row false [.aa .i64 nn,.slice 1 0 1 1,.ae 7 6 0 0 c c,.aF 97 1 0 0 1 1] 26 none),some (.row false [.aa .i64 x] 3 none),some (.row false [.aa .i64 x] 3 (some 1)),none]):=by kernel_rfl
theorem Ft (nn:Int) (ty:Nat) (q0 q1 q2:Int) (pl po pc ix:Nat) (x:Int) (Mf ps:List AV) (own c pn:Nat):
  b6 [2,3,7,9,117,118] [14,13,96,97,98] (aP prog (aW prog ba 60) 299 100000 (bK (P5 5 aB)) ([(2,.aL 41 po pl pc),(3,.ptr 12 0),(7,.ptr 14 0),(9,.aa .i64 own),(117,.aa .i64 pl),(118,.aa .i64 ix)]) ⟨mk [(12,.row false [.aa .i64 q0,.aa .i64 q1,.aa .i64 q2] 52 none),(14,.row false [.aa .i64 nn,.slice 1 0 1 1,.ae 7 6 0 0 c c,.ae 13 1 0 0 pn pn] 26 none),(13,.row true ps 3 (some 1)),(41,.row true Mf ty (some 0))],96,0,0,True,[.br true,.val [.aa .i64 x],.br true,.val [.aa .i64 x]]⟩)=
  some (.normal,[some (.aL 41 po pl pc),some (.ptr 12 0),some (.ptr 14 0),some (.aa .i64 (own:Int)),some (.aa .i64 (pl:Int)),some (.aa .i64 (i64.wrap ((ix:Int)+(1:Int))))],(((((((True∧aq .lss (ix:Int) (pl:Int)=true)∧(0:Int)<=(ix:Int)∧(ix:Int)<(pl:Int))∧1=1∧ ∀ (i:Nat),i<(1:Nat)->Mf[po+(ix:Int).toNat*1+i]?=[.aa .i64 x][i]?)∧aq .lss x q0=true)∧(0:Int)<=(ix:Int)∧(ix:Int)<(pl:Int))∧1=1∧ ∀ (i:Nat),i<(1:Nat)->Mf[po+(ix:Int).toNat*1+i]?=[.aa .i64 x][i]?)∧pn=pn∧ps.length=pn*1∧(pn+1)*8<=room∧pn+1<=maxLen)∧true=true,98,[13,14,96,97],[some (.row false [.aa .i64 nn,.slice 1 0 1 1,.ae 7 6 0 0 c c,.ae 97 1 0 0 (pn+1) (pn+1)] 26 none),none,some (.row false [.aa .i64 x] 3 none),some (.row true (ps++[.aa .i64 x]) 3 (some 1)),none]):=by kernel_rfl
theorem OK (nn q0 q1 q2 x:Int) (calls:List AV) (own c:Nat):
  b6 [3,7,9,11] [] (aP prog (aW prog ba 60) 299 100000 ((P5 6 aB)) ([(3,.ptr 12 0),(7,.ptr 14 0),(9,.aa .i64 own)]) ⟨mk [(1,.row false [.int .i64 8,.aa .i64 q1,.aa .i64 q2] 39 none),(12,.row false [.aa .i64 q0,.aa .i64 q1,.aa .i64 q2] 52 none),(14,.row false [.aa .i64 nn,.slice 1 0 1 1,.ae 7 6 0 0 c c,.au] 26 none),(7,.row true calls 42 (some 6))],96,0,0,True,[.val [.aa .i64 x,.int .i64 (0:Int),.int .i64 (1:Int),.aa .u64 (0:Int),.int .u64 (0:Int),.int .u64 (0:Int)]]⟩)=
  some (.normal,[some (.ptr 12 0),some (.ptr 14 0),some (.aa .i64 (own:Int)),some (.aa .i64 (i64.wrap (i64.wrap (i64.wrap (i64.wrap (i64.wrap (i64.wrap (nn+(1:Int))*i64.wrap (i64.wrap ((15:Int)*i64.wrap (i64.wrap (i64.wrap ((2:Int)*nn)*nn)+(8:Int)))+(1:Int)))+q1)+i64.wrap ((14:Int)*q2))+nn)+(14:Int))))],(((((((((((((((((((((((((((((((((((((((((True∧(0:Nat)+c<=c)∧(0:Int)<=(own:Int)∧(own:Int)<(c:Int))∧6=6∧ ∀ (i:Nat),i<6->calls[((0:Nat)+(own:Int).toNat)*(6:Nat)+i]?=[.aa .i64 x,.int .i64 (0:Int),.int .i64 (1:Int),.aa .u64 (0:Int),.int .u64 (0:Int),.int .u64 (0:Int)][i]?)∧true=true)∧true=true)∧true=true)∧true=true)∧true=true)∧true=true)∧true=true)∧true=true)∧true=true)∧true=true)∧true=true)∧true=true)∧true=true)∧true=true)∧true=true)∧true=true)∧true=true)∧true=true)∧true=true)∧true=true)∧true=true)∧true=true)∧true=true)∧true=true)∧true=true)∧true=true)∧true=true)∧true=true)∧true=true)∧true=true)∧true=true)∧true=true)∧true=true)∧true=true)∧true=true)∧true=true)∧true=true)∧true=true)∧true=true,103,[96,97,98,99,100,101,102],[]):=by kernel_rfl
theorem OL (nn q0 q1 q2 x:Int) (calls:List AV) (own c pn:Nat):
  b6 [3,7,9,11] [] (aP prog (aW prog ba 60) 299 100000 ((P5 6 aB)) ([(3,.ptr 12 0),(7,.ptr 14 0),(9,.aa .i64 own)]) ⟨mk [(1,.row false [.int .i64 8,.aa .i64 q1,.aa .i64 q2] 39 none),(12,.row false [.aa .i64 q0,.aa .i64 q1,.aa .i64 q2] 52 none),(14,.row false [.aa .i64 nn,.slice 1 0 1 1,.ae 7 6 0 0 c c,.ae 13 1 0 0 pn pn] 26 none),(7,.row true calls 42 (some 6))],96,0,0,True,[.val [.aa .i64 x,.int .i64 (0:Int),.int .i64 (1:Int),.aa .u64 (0:Int),.int .u64 (0:Int),.int .u64 (0:Int)]]⟩)=
  some (.normal,[some (.ptr 12 0),some (.ptr 14 0),some (.aa .i64 (own:Int)),some (.aa .i64 (i64.wrap (i64.wrap (i64.wrap (i64.wrap (i64.wrap (i64.wrap (nn+(1:Int))*i64.wrap (i64.wrap ((15:Int)*i64.wrap (i64.wrap (i64.wrap ((2:Int)*nn)*nn)+(8:Int)))+(1:Int)))+q1)+i64.wrap ((14:Int)*q2))+nn)+(14:Int))))],(((((((((((((((((((((((((((((((((((((((((True∧(0:Nat)+c<=c)∧(0:Int)<=(own:Int)∧(own:Int)<(c:Int))∧6=6∧ ∀ (i:Nat),i<6->calls[((0:Nat)+(own:Int).toNat)*(6:Nat)+i]?=[.aa .i64 x,.int .i64 (0:Int),.int .i64 (1:Int),.aa .u64 (0:Int),.int .u64 (0:Int),.int .u64 (0:Int)][i]?)∧true=true)∧true=true)∧true=true)∧true=true)∧true=true)∧true=true)∧true=true)∧true=true)∧true=true)∧true=true)∧true=true)∧true=true)∧true=true)∧true=true)∧true=true)∧true=true)∧true=true)∧true=true)∧true=true)∧true=true)∧true=true)∧true=true)∧true=true)∧true=true)∧true=true)∧true=true)∧true=true)∧true=true)∧true=true)∧true=true)∧true=true)∧true=true)∧true=true)∧true=true)∧true=true)∧true=true)∧true=true)∧true=true)∧true=true,103,[96,97,98,99,100,101,102],[]):=by kernel_rfl
end Qk
end Go.Proofs.YtpkfimijnkkbjaaGreat
namespace Go.Proofs.YtpkfimijnkkbjaaGreat
namespace Ev
section
variable {κ:dE} {P:Program}
variable {H Ro:Nat->Option ak} {c:Nat} {o:ak}
structure Xr (κ:dE) (Ro:Nat->Option ak) (φ:bo) (w:World):Prop where
 holds: ∀ c o,Ro c=some o->cf φ c o w
 inj: ∀ b c x y,Ro b=some x->Ro c=some y->(φ b).dp=(φ c).dp->b=c
 low: ∀ c o,Ro c=some o->(φ c).dp<κ.mark
def F6 (H Ro:Nat->Option ak) (c:Nat):Option ak:=match H c with
 | some o=>some o
 | none=>Ro c
theorem iH (h:H c=some o):F6 H Ro c=some o:=by unfold F6;rw [h]
theorem tE (h:F6 H Ro c=some o):H c=some o∨(H c=none∧Ro c=some o):=by
 unfold F6 at h
 cases hc:H c with
 | some x=>rw [hc] at h;exact .inl h
 | none=>rw [hc] at h;exact .inr ⟨rfl,h⟩
theorem tF {s s':St} {env cm:Env} {nt:Nat} {T:(Act->World->Prop)->Act->World->Prop} (hd:fE s s' env cm nt T) {φ:bo} {w:World} {a:Act} (h:At κ H nt s.next env φ w a)
  (rz:Xr κ Ro φ w) (Tc: ∀ c o,Ro c=some o->c<s.next∧o.aD (· < s.next)∧s'.wr.testBit c=false)
  (hs: ∀ c o,s.get c=some o->o.aD (· < s.next)∧ ∃ o0,F6 H Ro c=some o0∧bW φ φ o0 o) (hp:s'.pre) {K:Act->World->Prop}
  (hK: ∀ φ' w' a',(∀ i,i<s.next->φ' i=φ i)->At κ (after H s') nt s'.next cm φ' w' a'->K a' w'):T K a w:=by
 let κ0:dE:=⟨0,κ.yM⟩
 have LL:cz κ0 (F6 H Ro) φ w:=by
  refine ⟨λc o hc=> ?_,λb c x y hb hc he=> ?_,λ_ _ _=>Nat.zero_le _,λr hr=>absurd hr (Nat.not_lt_zero _),Nat.zero_le _,h.fit.env⟩
  ·rcases tE hc with h1 | ⟨_,h1⟩
   ·exact h.fit.holds c o h1
   ·exact rz.holds c o h1
  ·rcases tE hb with h1 | ⟨_,h1⟩<;>rcases tE hc with h2 | ⟨_,h2⟩
   ·exact h.fit.inj b c x y h1 h2 he
   ·have:=h.fit.base b x h1;have:=rz.low c y h2;omega
   ·have:=rz.low b x h1;have:=h.fit.base c y h2;omega
   ·exact rz.inj b c x y h1 h2 he
 have Qb: ∀ c o,F6 H Ro c=some o->c<s.next∧o.aD (· < s.next):=λc o hc=>by
  rcases tE hc with h1 | ⟨_,h1⟩
  ·exact h.ids c o h1
  ·exact ⟨(Tc c o h1).1,(Tc c o h1).2.1⟩
 obtain ⟨R,W,sp,ids,nX⟩:=hd
 have tY:Fits s R φ w:=⟨λb o _ hg=>by
   obtain ⟨_,o0,h2,h3⟩:=hs b o hg
   exact (LL.holds b o0 h2).same rfl h3,λb c _ _ ki gN he=>by
   obtain ⟨x,hx⟩:=aZ ki
   obtain ⟨_,x0,Jc4,_⟩:=hs b x hx
   obtain ⟨y,hy⟩:=aZ gN
   obtain ⟨_,y0,L9,_⟩:=hs c y hy
   exact LL.inj b c x0 y0 Jc4 L9 he⟩
 have K5:l9 s R:=λb o _ hg=>by
  obtain ⟨h1,o0,h2,_⟩:=hs b o hg
  exact ⟨(Qb b o0 h2).1,h1⟩
 refine nX φ w a K hp h.size h.fR tY K5 h.all λφ' w' a' hm fy YE he=> ?_
 obtain ⟨k1,k2,k3,k4⟩:=vg sp ids hp hm LL Qb hs (λD D' hD he t u hu=>(he t u hu).mono hD) h.all
 have YO: ∀ c,s'.wr.testBit c=true->Ro c=none:=λc hc=>by
  cases hr:Ro c with
  | none=>rfl
  | some o=>have:=(Tc c o hr).2.2;rw [hc] at this;cases this
 have YL: ∀ c o,s'.wr.testBit c=true->s.get c=some o-> ∃ x,H c=some x:=λc o hc hg=>by
  obtain ⟨_,x0,Jc4,_⟩:=hs c o hg
  rcases tE Jc4 with h1 | ⟨_,h1⟩
  ·exact ⟨_,h1⟩
  ·rw [YO c hc] at h1;cases h1
 have up: ∀ c o,after H s' c=some o->after (F6 H Ro) s' c=some o:=λc o hc=>by
  unfold after at hc ⊢
  split at hc
  ·rename_i hw;rw [if_pos hw];exact hc
  ·rename_i hw;rw [if_neg hw];exact iH hc
 have nj: ∀ i,i<s.next->i<s'.next:=λi hi=>Nat.lt_of_lt_of_le hi sp.next
 refine hK φ' w' a' k1 ⟨⟨λc o hc=>k2.holds c o (up c o hc),λb c x y hb hc he=>k2.inj b c x y (up b x hb) (up c y hc) he,λc o hc=> ?_,λr hr=> ?_,Nat.le_trans h.fit.size hm.size,hm.kept.1.trans h.fit.env.1,hm.kept.2.trans h.fit.env.2⟩,λc o hc=>k3 c o (up c o hc),he,k4,fy,by rw [YE];exact h.defers⟩
 ·unfold after at hc
  split at hc
  ·rename_i Jc1
   by_cases hW:W c
   ·rcases hm.source c hW (by rw [hc];simp) with h1 | ⟨d,hd,pO,h1⟩
    ·exact Nat.le_trans h.fit.size h1
    ·obtain ⟨x,hx⟩:=aZ pO
     obtain ⟨x0,Jc4⟩:=YL d x (sp.wr d hd) hx
     rw [h1];exact h.fit.base d x0 Jc4
   ·rw [sp.same c hW] at hc
    obtain ⟨x0,Jc4⟩:=YL c o Jc1 hc
    rw [k1 c (h.ids c x0 Jc4).1];exact h.fit.base c x0 Jc4
  ·rw [k1 c (h.ids c o hc).1];exact h.fit.base c o hc
 ·rw [hm.frame r (Nat.lt_of_lt_of_le hr h.fit.size) λc hc gN=> ?_]
  ·exact h.fit.old r hr
  ·obtain ⟨x,hx⟩:=aZ gN
   obtain ⟨x0,Jc4⟩:=YL c x (sp.wr c hc) hx
   have:=h.fit.base c x0 Jc4
   omega
end
section
variable {κ:dE}
theorem Kw (u:Value): ∃ v:AV,v.aD (λ_=>False)∧(∀ φ:bo,Jb1 φ v=u)∧ ∀ k n,u= .int k n->v= .aa k n:=by
 match u with
 | .int k n=>exact ⟨.aa k n,trivial,λ_=>rfl,λk' n' h=>by cases h;rfl⟩
 | .agg cs=>
  have h: ∀ l:List Value,(∀ x∈l,x∈cs.toList)-> ∃ m:List AV,aR (λ_=>False) m∧ ∀ φ:bo,az φ m=l:=by
   intro l
   induction l with
   | nil=>exact λ_=>⟨[],trivial,λ_=>rfl⟩
   | cons x l ih=>
    intro hx
    obtain ⟨m,h1,h2⟩:=ih λy hy=>hx y (by simp [hy])
    have xh:x∈cs:=by simpa using hx x (by simp)
    have:SizeOf.sizeOf x<SizeOf.sizeOf (Value.agg cs):=by have:=Array.sizeOf_lt_of_mem xh;simp;omega
    obtain ⟨v,g1,g2,_⟩:=Kw x
    exact ⟨v::m,⟨g1,h1⟩,λφ=>by unfold az;rw [g2,h2]⟩
  obtain ⟨m,h1,h2⟩:=h cs.toList λ_ h=>h
  exact ⟨.agg m,by unfold AV.aD;exact h1,λφ=>by unfold Jb1;rw [h2],λk n h=>by cases h⟩
 | .tuple cs=>
  have h: ∀ l:List Value,(∀ x∈l,x∈cs.toList)-> ∃ m:List AV,aR (λ_=>False) m∧ ∀ φ:bo,az φ m=l:=by
   intro l
   induction l with
   | nil=>exact λ_=>⟨[],trivial,λ_=>rfl⟩
   | cons x l ih=>
    intro hx
    obtain ⟨m,h1,h2⟩:=ih λy hy=>hx y (by simp [hy])
    have xh:x∈cs:=by simpa using hx x (by simp)
    have:SizeOf.sizeOf x<SizeOf.sizeOf (Value.tuple cs):=by have:=Array.sizeOf_lt_of_mem xh;simp;omega
    obtain ⟨v,g1,g2,_⟩:=Kw x
    exact ⟨v::m,⟨g1,h1⟩,λφ=>by unfold az;rw [g2,h2]⟩
  obtain ⟨m,h1,h2⟩:=h cs.toList λ_ h=>h
  exact ⟨.eT m,by unfold AV.aD;exact h1,λφ=>by unfold Jb1;rw [h2],λk n h=>by cases h⟩
 | .bool b=>exact ⟨.cQ (.bool b),trivial,λ_=>rfl,λk n h=>by cases h⟩
 | .float a b=>exact ⟨.cQ (.float a b),trivial,λ_=>rfl,λk n h=>by cases h⟩
 | .complex a b c=>exact ⟨.cQ (.complex a b c),trivial,λ_=>rfl,λk n h=>by cases h⟩
 | .string a=>exact ⟨.cQ (.string a),trivial,λ_=>rfl,λk n h=>by cases h⟩
 | .pointer a=>exact ⟨.cQ (.pointer a),trivial,λ_=>rfl,λk n h=>by cases h⟩
 | .slice a b c=>exact ⟨.cQ (.slice a b c),trivial,λ_=>rfl,λk n h=>by cases h⟩
 | .map a=>exact ⟨.cQ (.map a),trivial,λ_=>rfl,λk n h=>by cases h⟩
 | .chan a=>exact ⟨.cQ (.chan a),trivial,λ_=>rfl,λk n h=>by cases h⟩
 | .func a b c=>exact ⟨.cQ (.func a b c),trivial,λ_=>rfl,λk n h=>by cases h⟩
 | .nilFunc=>exact ⟨.cQ .nilFunc,trivial,λ_=>rfl,λk n h=>by cases h⟩
 | .iface a b=>exact ⟨.cQ (.iface a b),trivial,λ_=>rfl,λk n h=>by cases h⟩
 | .nilIface=>exact ⟨.cQ .nilIface,trivial,λ_=>rfl,λk n h=>by cases h⟩
termination_by SizeOf.sizeOf u
theorem Kx: ∀ l:List Value,∃ m:List AV,aR (λ_=>False) m∧(∀ φ:bo,az φ m=l)∧ ∀ (i:Nat) k n,l[i]?=some (.int k n)->m[i]?=some (.aa k n)
 | []=>⟨[],trivial,λ_=>rfl,λi k n h=>by cases h⟩
 | x::l=>by
  obtain ⟨m,h1,h2,h3⟩:=Kx l
  obtain ⟨v,g1,g2,g3⟩:=Kw x
  refine ⟨v::m,⟨g1,h1⟩,λφ=>by unfold az;rw [g2,h2],λi k n h=> ?_⟩
  cases i with
  | zero=>
   simp only [List.getElem?_cons_zero,Option.some.injEq] at h ⊢
   exact g3 k n h
  | succ i=>
   simp only [List.getElem?_cons_succ] at h ⊢
   exact h3 i k n h
def L6 (c0:Nat) (l:List AV) (t:TypeId) (b:Nat):Option ak:=if b=c0 then some (.row true l t (some 0)) else none
theorem DJ {k:IntKind} {a:Option Addr} {zs:List Int} (hk:κ.mark=κ.yM.heap.size) (hz:Jb9 k κ.yM a zs) (bq:zs≠[]):
  ∃ (dp off:Nat) (l:List AV) (t:TypeId),a=some ⟨dp,off,none⟩∧aR (λ_=>False) l∧(∀ i,i<zs.length->l[off+i]?=some (.aa k (nth zs i)))∧
   ∀ (c0:Nat) (φ:bo) (H:Nat->Option ak) (ψ:bo) (w:World),cz κ H ψ w->φ c0=⟨dp,0⟩->Xr κ (L6 c0 l t) φ w:=by
 rcases hz with hz | ⟨b,off,ha,hc⟩
 ·exact absurd hz bq
 have fj:0<zs.length:=List.length_pos_iff.2 bq
 have hb: ∃ c t fz,κ.yM.heap[b]?=some (.cells c t fz):=by
  have h0:=hc 0 fj
  unfold World.cell? at h0
  split at h0
  ·rename_i c t fz h
   exact ⟨c,t,fz,h⟩
  ·cases h0
 obtain ⟨c,t,fz,gm⟩:=hb
 obtain ⟨m,h1,h2,h3⟩:=Kx c.toList
 refine ⟨b,off,m,t,ha,h1,λi hi=>h3 _ _ _ ?_,λc0 φ H ψ w bx hφ=> ?_⟩
 ·have h0:=hc i hi
  simp only [World.cell?,gm] at h0
  simpa using h0
 ·have dA:b<κ.mark:=by rw [hk];exact (Array.getElem?_eq_some_iff.1 gm).1
  refine ⟨λx o hx=> ?_,λx y u v hx hy _=> ?_,λx o hx=> ?_⟩
  ·unfold L6 at hx
   split at hx
   ·rename_i e;subst e
    obtain rfl:=Option.some.inj hx
    refine ⟨fz,?_⟩
    rw [hφ]
    show w.heap[b]?=_
    rw [bx.old b dA,gm,h2]
   ·cases hx
  ·unfold L6 at hx hy
   split at hx
   ·split at hy
    ·rename_i e1 e2;rw [e1,e2]
    ·cases hy
   ·cases hx
  ·unfold L6 at hx
   split at hx
   ·rename_i e;subst e
    rw [hφ];exact dA
   ·cases hx
end
end Ev
end Go.Proofs.YtpkfimijnkkbjaaGreat
namespace Go.Proofs.YtpkfimijnkkbjaaGreat
namespace Qk
open Ev Ct
open Go.IntKind (i64 u64)
open Go.Proofs.Tryz (prog)
section
variable {κ:Ev.dE}
def AL (cs:List (Nat×Bool×Nat)):AV:=if cs=[] then .au else .ae 7 6 0 0 cs.length cs.length
def db (P:cv) (cs:List (Nat×Bool×Nat)) (pv:AV):ak:= .row false [.aa .i64 (P.n:Nat),.slice 1 0 1 1,AL cs,pv] 26 none
def Fu (P:cv):ak:= .row false [.aa .i64 ((P.n-1:Nat):Int),.aa .i64 (P.k:Nat),.aa .i64 (P.att:Nat)] 52 none
def H5 (P:cv) (cs:List (Nat×Bool×Nat)) (pv:AV) (own:Option ak) (b:Nat):Option ak:=
 if b=1 then some (nf P)
 else if b=7 then (if cs=[] then none else some (.row true (cs.flatMap bj) 42 (some 6)))
 else if b=12 then some (Fu P)
 else if b=13 then own
 else if b=14 then some (db P cs pv) else none
section
variable {P:cv} {cs:List (Nat×Bool×Nat)} {pv:AV} {own:Option ak}
theorem iI {b:Nat} {o:ak} (h:H5 P cs pv own b=some o):(b=1∧o=nf P)∨(b=7∧cs≠[]∧o= .row true (cs.flatMap bj) 42 (some 6))∨(b=12∧o=Fu P)∨(b=13∧own=some o)∨(b=14∧o=db P cs pv):=by
 unfold H5 at h
 split at h
 ·exact .inl ⟨‹_›,(Option.some.inj h).symm⟩
 split at h
 ·split at h
  ·cases h
  ·rename_i _ h7 bq
   exact .inr (.inl ⟨h7,bq,(Option.some.inj h).symm⟩)
 split at h
 ·exact .inr (.inr (.inl ⟨‹_›,(Option.some.inj h).symm⟩))
 split at h
 ·exact .inr (.inr (.inr (.inl ⟨‹_›,h⟩)))
 split at h
 ·exact .inr (.inr (.inr (.inr ⟨‹_›,(Option.some.inj h).symm⟩)))
 ·cases h
theorem wU {D:Nat->Prop} (h:D 7):(AL cs).aD D:=by
 unfold AL;split
 ·trivial
 ·exact h
theorem eL (tZ:pv.aD (· < 96)) (ho: ∀ o,own=some o->o.aD λ_=>False): ∀ c o,H5 P cs pv own c=some o->c<96∧o.aD (· < 96):=λc o h=>by
 rcases iI h with ⟨rfl,rfl⟩ | ⟨rfl,_,rfl⟩ | ⟨rfl,rfl⟩ | ⟨rfl,h⟩ | ⟨rfl,rfl⟩
 ·exact ⟨by omega,trivial,trivial,trivial,trivial⟩
 ·exact ⟨by omega,bJ (cE cs)⟩
 ·exact ⟨by omega,trivial,trivial,trivial,trivial⟩
 ·exact ⟨by omega,bJ (ho o h)⟩
 ·exact ⟨by omega,trivial,by show 1<96;omega,wU (by omega),tZ,trivial⟩
theorem wV {b:Nat} {o:ak} (ho: ∀ o,own=some o->o.aD λ_=>False) (fJ:b≠14) (h:H5 P cs pv own b=some o):o.aD λ_=>False:=by
 rcases iI h with ⟨rfl,rfl⟩ | ⟨rfl,_,rfl⟩ | ⟨rfl,rfl⟩ | ⟨rfl,h⟩ | ⟨rfl,rfl⟩
 ·exact ⟨trivial,trivial,trivial,trivial⟩
 ·exact cE cs
 ·exact ⟨trivial,trivial,trivial,trivial⟩
 ·exact ho o h
 ·exact absurd rfl fJ
theorem DK {b:Nat} {o:ak} (h:H5 P cs pv own b=some o):b<15:=by
 rcases iI h with ⟨rfl,_⟩ | ⟨rfl,_⟩ | ⟨rfl,_⟩ | ⟨rfl,_⟩ | ⟨rfl,_⟩<;>omega
theorem wX {cs':List (Nat×Bool×Nat)} {pv':AV} {own':Option ak} {τ:Nat} (hτ:τ=7∨τ=13) {s:St} {φ1:bo} {w:World} {D5 FY:ak} (ho: ∀ o,own=some o->o.aD λ_=>False)
  (dc: ∀ b,b<96->b≠τ->b≠14->after (H5 P cs pv own) s b=H5 P cs pv own b) (AO:after (H5 P cs pv own) s 97=some D5) (fJ:after (H5 P cs pv own) s 14=some FY)
  (FN: ∀ o',H5 P cs' pv' own' τ=some o'->bW φ1 (λb=>φ1 (if b=τ then 97 else b)) D5 o') (tT: ∀ b,b≠τ->b≠14->H5 P cs' pv' own' b=H5 P cs pv own b) (hsc:bW φ1 (λb=>φ1 (if b=τ then 97 else b)) FY (db P cs' pv'))
  (bx:cz κ (after (H5 P cs pv own) s) φ1 w):cz κ (H5 P cs' pv' own') (λb=>φ1 (if b=τ then 97 else b)) w:=by
 refine bx.iQ (λb=>if b=τ then 97 else b) (λb d x y hb hd he=> ?_) (λb o' hb=> ?_)
 ·have h1:=DK hb
  have h2:=DK hd
  have ny:(if b=τ then 97 else b)=(if d=τ then 97 else d):=he
  split at ny<;>split at ny<;>omega
 ·by_cases e:b=τ
  ·subst e
   rw [if_pos rfl,AO]
   exact ⟨_,rfl,FN o' hb⟩
  ·rw [if_neg e]
   by_cases e2:b=14
   ·subst e2
    rw [fJ]
    rcases iI hb with ⟨h,_⟩ | ⟨h,_⟩ | ⟨h,_⟩ | ⟨h,_⟩ | ⟨_,rfl⟩
    ·omega
    ·omega
    ·omega
    ·omega
    ·exact ⟨_,rfl,hsc⟩
   ·have dA:=DK hb
    rw [tT b e e2] at hb
    rw [dc b (by omega) e e2]
    exact ⟨_,hb,bl (wV ho e2 hb)⟩
end
def sa (q i:Nat) (x:Int):Nat×Bool×Nat:=(x.toNat%q,decide (x.toNat/16%2=1),i)
def jv (q:Nat) (zs:List Int) (i:Nat):List (Nat×Bool×Nat):=(List.range i).map λj=>sa q j (nth zs j)
theorem tG (q:Nat) (zs:List Int) (i:Nat):jv q zs (i+1)=jv q zs i++[sa q i (nth zs i)]:=by
 unfold jv;rw [List.range_succ,List.map_append];rfl
theorem jc (q:Nat) (zs:List Int) (i:Nat):(jv q zs i).length=i:=by simp [jv]
def X9 (aV pk:AV) (al i:Nat):Env:=[(1,aV),(2,pk),(3,.ptr 12 0),(7,.ptr 14 0),(72,.aa .i64 al),(73,.aa .i64 i)]
def Fv (κ:Ev.dE) (P:cv) (aV pk:AV) (zs:List Int) (φ0:bo) (i:Nat) (a:Act) (w:World):Prop:=
 ∃ φ:bo,At κ (H5 P (jv (P.n-1) zs i) .au none) 299 96 (X9 aV pk zs.length i) φ w a∧φ 40=φ0 40∧φ 41=φ0 41
theorem DL {q i:Nat} {x:Int} (hq:1<=q∧q<=3) (hx:0<=x∧x<=255) (hi:i<=1000) (φ φ':bo):az φ [.aa .i64 ((i64.wrap x).tmod (q:Int)),.int .i64 0,.aa .i64 ((i64.wrap ((i64.wrap x).tdiv 16)).tmod 2),.aa .u64 (u64.wrap (i:Int)),.int .u64 0,.int .u64 0]=az φ' (bj (sa q i x)):=by
 obtain ⟨y,rfl⟩: ∃ y:Nat,x=y:=⟨x.toNat,by omega⟩
 have h1:(i64.wrap (y:Int)).tmod (q:Int)=((y%q:Nat):Int):=by
  rw [wrap64 (by omega) (by omega),Int.tmod_eq_emod_of_nonneg (by omega)];omega
 have h2:(i64.wrap ((i64.wrap (y:Int)).tdiv 16)).tmod 2=Om (decide (y/16%2=1)):=by
  rw [wrap64 (x:=(y:Int)) (by omega) (by omega),Int.tdiv_eq_ediv_of_nonneg (by omega),wrap64 (by omega) (by omega),Int.tmod_eq_emod_of_nonneg (by omega)]
  by_cases e:y/16%2=1
  ·rw [decide_eq_true e]
   show _=(1:Int)
   omega
  ·rw [decide_eq_false e]
   show _=(0:Int)
   omega
 have h3:u64.wrap (i:Int)=(i:Nat):=PG (by omega) (by omega)
 rw [h1,h2,h3]
 rfl
theorem vu {cs:List (Nat×Bool×Nat)} {c:Nat×Bool×Nat}:(cs++[c]).flatMap bj=cs.flatMap bj++bj c:=by simp
section
variable {P:cv} {aV pk:AV} {zs:List Int}
theorem zZ {H Ro:Nat->Option ak} {φ:bo} {l:List (Nat×ak)} {nx:Nat} {oo:List CL} (h: ∀ p∈l,F6 H Ro p.1=some p.2∧p.2.aD (· < nx)):
  ∀ b o,St.get ⟨mk l,nx,0,0,True,oo⟩ b=some o->o.aD (· < nx)∧ ∃ o0,F6 H Ro b=some o0∧bW φ φ o0 o:=λb o hb=>by
 obtain ⟨h1,h2⟩:=h _ (kJ hb)
 exact ⟨h2,o,h1,bW.refl _ _⟩
theorem tH {c0:Nat} (h0:c0<96) {l:List AV} {t:TypeId} (hl:aR (λ_=>False) l) {s':St} {wr:List Nat} (dc: ∀ c,c<128->(s'.wr.testBit c=true↔c∈wr)) (hn:c0 ∉ wr): ∀ c o,L6 c0 l t c=some o->c<96∧o.aD (· < 96)∧s'.wr.testBit c=false:=λc o h=>by
 unfold L6 at h
 split at h
 ·rename_i e;subst e
  obtain rfl:=Option.some.inj h
  refine ⟨h0,(aR.mono (λ_ h=>h.elim) hl:aR (· < 96) l),?_⟩
  cases hb:s'.wr.testBit c with
  | false=>rfl
  | true=>exact absurd ((dc c (by omega)).1 hb) hn
 ·cases h
theorem DM (aV pk:AV) (al i:Nat):b6 [1,2,3,7,72,73] [] (aP prog (aW prog ba 60) 299 100000 (bK (P5 2 aB)) (X9 aV pk al i) ⟨mk [],96,0,0,True,[.br false]⟩)=
  some (.exit 0,[some aV,some pk,some (.ptr 12 0),some (.ptr 14 0),some (.aa .i64 (al:Nat)),some (.aa .i64 (i:Nat))],True∧aq .lss i al=false,96,[],[]):=by kernel_rfl
theorem tI {H H':Nat->Option ak} {nx i:Nat} {k:Int} {env:Env} {φ φ':bo} {w:World} {a:Act} {al:Nat} (bf:At κ H 299 nx env φ w a) (df:[1,2,3,7,72,73].map env.look=[some aV,some pk,some (.ptr 12 0),some (.ptr 14 0),some (.aa .i64 al),some (.aa .i64 k)]) (hk:k=i) (bx:cz κ H' φ' w) (bn: ∀ c o,H' c=some o->c<96∧o.aD (· < 96))
  (ha:aV.aD (· < 96)) (hp:pk.aD (· < 96)) (ca:Jb1 φ aV=Jb1 φ' aV) (cp:Jb1 φ pk=Jb1 φ' pk) (js:φ' 12=φ 12) (fJ:φ' 14=φ 14):At κ H' 299 96 (X9 aV pk al i) φ' w a:=by
 subst hk
 refine bf.Jb4 bx bn ?_
 exact ab ⟨_,ai df 0 rfl rfl,ca,ha⟩<|ab ⟨_,ai df 1 rfl rfl,cp,hp⟩<|ab ⟨_,ai df 2 rfl rfl,by simp only [Jb1];rw [js],by show 12<96;omega⟩<|ab ⟨_,ai df 3 rfl rfl,by simp only [Jb1];rw [fJ],by show 14<96;omega⟩<|ab ⟨_,ai df 4 rfl rfl,rfl,trivial⟩<|ab ⟨_,ai df 5 rfl rfl,rfl,trivial⟩ aC
theorem R7 (hP:2<=P.n∧P.n<=4) (hk:κ.mark=κ.yM.heap.size) (hz:zs.length<=1000) (Td: ∀ i,i<zs.length->0<=nth zs i∧nth zs i<=255) {off cap:Nat} {φ0:bo} (hp: ∃ D:Nat->Prop,pk.aD D∧ ∀ i,D i->i=41)
  {l:List AV} {t:TypeId} (hl:aR (λ_=>False) l) (gm: ∀ i,i<zs.length->l[off+i]?=some (.aa .u8 (nth zs i))) (rz: ∀ (φ:bo) (H:Nat->Option ak) (ψ:bo) (w:World),cz κ H ψ w->φ 40=φ0 40->Xr κ (L6 40 l t) φ w)
  {Q:Exit->Act->World->Prop} (hQ: ∀ a w,Fv κ P (.aL 40 off zs.length cap) pk zs φ0 zs.length a w->Q (.exit 0) a w): ∀ (k i:Nat),i+k=zs.length-> ∀ a w,Fv κ P (.aL 40 off zs.length cap) pk zs φ0 i a w->bh prog (bK (P5 2 aB)) Q a w:=by
 obtain ⟨D,Jb0,hD⟩:=hp
 have nL:pk.aD (· < 96):=Jb0.mono λi hi=>by rw [hD i hi];omega
 have bn: ∀ i,∀ c o,H5 P (jv (P.n-1) zs i) .au none c=some o->c<96∧o.aD (· < 96):=λi=>eL trivial (λo h=>by cases h)
 intro k
 induction k with
 | zero=>
  rintro i hi a w ⟨φ,bf,Lb,rA⟩
  refine bh.of ?_
  have iS:i=zs.length:=by omega
  subst iS
  obtain ⟨env,s,cW,df,aQ,eP,dc,_⟩:=aE (DM (.aL 40 off zs.length cap) pk zs.length zs.length)
  have eg:s.pre:=by rw [aQ];exact ⟨True.intro,by simp [aq]⟩
  refine cN ((bE named (cj mixed) (sound named mixed bL 60) (nt:=299) 100000).1 _ _ _ _ _ _ cW) bf bA eg (K:=λa w=>Q (.exit 0) a w) (λφ' w' a' uF fN=> ?_) _ (λa w h=>h)
  exact hQ a' w' ⟨φ',tI fN df rfl (fN.fit.bB (bV (λc o h=>(bf.ids c o h).1) dc)) (bn _) (by show 40<96;omega) nL rfl rfl rfl rfl,(uF 40 (by show 40<96;omega)).trans Lb,(uF 41 (by show 41<96;omega)).trans rA⟩
 | succ k ih=>
  rintro i hi a w ⟨φ,bf,Lb,rA⟩
  refine bh.of ?_
  have fQ:i<zs.length:=by omega
  obtain ⟨x0,W3⟩:=Td i fQ
  have hx: ∀ r:Nat,r<1->l[off+(i:Int).toNat*1+r]?=[AV.aa .u8 (nth zs i)][r]?:=λr hr=>by
   obtain rfl:r=0:=by omega
   rw [show off+(i:Int).toNat*1+0=off+i by simp]
   exact gm i fQ
  have iT:i64.wrap ((i:Int)+1)=((i+1:Nat):Int):=by rw [wrap64 (by omega) (by omega)];omega
  have lX:1<=P.n-1∧P.n-1<=3:=by omega
  have QA:((((P.n-1:Nat):Int)) != (0:Int))=true:=by simp;omega
  have hr:=rz φ _ φ w bf.fit Lb
  have WD:(db P (jv (P.n-1) zs i) .au).aD (· < 96):=⟨trivial,by show 1<96;omega,wU (by omega),trivial,trivial⟩
  have QG:F6 (H5 P (jv (P.n-1) zs i) .au none) (L6 40 l t) 40=some (.row true l t (some 0)):=rfl
  have F3:(ak.row true l t (some 0)).aD (· < 96):=aR.mono (λ_ h=>h.elim) hl
  have hold: ∀ (s:St) (wr:List Nat),(∀ c,c<128->(s.wr.testBit c=true↔c∈wr))-> ∀ b,b<96->b ∉ wr->after (H5 P (jv (P.n-1) zs i) .au none) s b=H5 P (jv (P.n-1) zs i) .au none b:=λs wr dc b hb hn=>bY dc (by omega) hn
  have fin: ∀ (φ1:bo) (w1:World) (a1:Act) (s:St) (env:Env) (D5:ak) (CV:AV) (y:Bool),(∀ b,b<96->φ1 b=φ b)->At κ (after (H5 P (jv (P.n-1) zs i) .au none) s) 299 s.next env φ1 w1 a1->[1,2,3,7,72,73].map env.look=[some (.aL 40 off zs.length cap),some pk,some (.ptr 12 0),some (.ptr 14 0),some (.aa .i64 (zs.length:Int)),some (.aa .i64 (i64.wrap ((i:Int)+1)))]->
    (∀ b,b<96->b≠7->b≠14->after (H5 P (jv (P.n-1) zs i) .au none) s b=H5 P (jv (P.n-1) zs i) .au none b)->after (H5 P (jv (P.n-1) zs i) .au none) s 97=some D5->after (H5 P (jv (P.n-1) zs i) .au none) s 14=some (.row y [.aa .i64 (P.n:Nat),.slice 1 0 1 1,CV,.au] 26 none)->
    (∀ φ φ':bo,bW φ φ' D5 (.row true ((jv (P.n-1) zs (i+1)).flatMap bj) 42 (some 6)))->(∀ φ:bo,Jb1 φ CV=Jb1 φ (.ae 97 6 0 0 (i+1) (i+1)))->bh prog (bK (P5 2 aB)) Q a1 w1:=λφ1 w1 a1 s env D5 CV y fD bO df dc AO fJ tT ZU=>by
   have jd:jv (P.n-1) zs (i+1)≠[]:=by rw [tG];simp
   have bx:=wX (cs':=jv (P.n-1) zs (i+1)) (pv':= .au) (own':=none) (.inl rfl) (λo h=>by cases h) dc AO fJ (λo' Mk=>by
     rcases iI Mk with ⟨h,_⟩ | ⟨_,_,rfl⟩ | ⟨h,_⟩ | ⟨h,_⟩ | ⟨h,_⟩
     ·omega
     ·exact tT _ _
     ·omega
     ·omega
     ·omega) (λb h7 fJ=>by
     unfold H5
     rw [if_neg h7,if_neg h7,if_neg fJ,if_neg fJ]) (by
     refine ⟨?_,rfl,rfl⟩
     unfold AL
     rw [if_neg jd,jc]
     have e1:Jb1 φ1 CV=Jb1 (λb=>φ1 (if b=7 then 97 else b)) (.ae 7 6 0 0 (i+1) (i+1)):=by rw [ZU];exact cI rfl
     simp only [az]
     rw [e1]
     rfl) bO.fit
   refine ih (i+1) (by omega) a1 w1 ⟨λb=>φ1 (if b=7 then 97 else b),tI bO df iT bx (bn _) (by show 40<96;omega) nL rfl ?_ rfl rfl,?_,?_⟩
   ·exact dD (D:=D) (λi hi=>by rw [hD i hi];rfl) Jb0
   ·show φ1 40=φ0 40;rw [fD 40 (by omega),Lb]
   ·show φ1 41=φ0 41;rw [fD 41 (by omega),rA]
  by_cases h0:i=0
  ·subst h0
   obtain ⟨env,s,cW,df,aQ,eP,dc,aI⟩:=aE (Cb pk (P.n:Int) t ((P.n-1:Nat):Int) (P.k:Int) (P.att:Int) zs.length off cap 0 (nth zs 0) l)
   have eg:s.pre:=by
    rw [aQ]
    exact ⟨⟨⟨⟨⟨⟨⟨⟨⟨True.intro,by simp [aq]<;>omega⟩,by omega,by omega⟩,rfl,hx⟩,QA⟩,by omega,by omega⟩,rfl,hx⟩,rfl⟩,rfl⟩,rfl⟩
   refine tF ((bE named (cj mixed) (sound named mixed bL 60) (nt:=299) 100000).1 _ _ _ _ _ _ cW) bf hr (tH (by omega) hl dc (by simp)) (zZ (ab ⟨rfl,trivial,trivial,trivial,trivial⟩<|ab ⟨rfl,WD⟩<|ab ⟨QG,F3⟩ aC)) eg (K:=λa w=>bh prog (bK (P5 2 aB)) Q a w) (λφ1 w1 a1 fD bO=> ?_) _ (λa w h=>h)
   refine fin φ1 w1 a1 s env _ (.aF 97 6 0 0 1 1) false fD bO df (λb hb h7 fJ=>hold s _ dc b hb (by simp;omega)) ((bR dc (by omega) (by simp)).trans (ah aI 3 rfl rfl)) ((bR dc (by omega) (by simp)).trans (ah aI 0 rfl rfl)) (λφ φ'=>⟨?_,rfl,rfl⟩) (λφ=>iE rfl)
   rw [tG]
   exact DL lX ⟨x0,W3⟩ (by omega) φ φ'
  ·have jd:jv (P.n-1) zs i≠[]:=λe=>h0 (by rw [<- jc (P.n-1) zs i,e];rfl)
   have h7:H5 P (jv (P.n-1) zs i) .au none 7=some (.row true ((jv (P.n-1) zs i).flatMap bj) 42 (some 6)):=by
    unfold H5
    rw [if_neg (by omega),if_pos rfl,if_neg jd]
   have fJ:H5 P (jv (P.n-1) zs i) .au none 14=some (.row false [.aa .i64 (P.n:Nat),.slice 1 0 1 1,.ae 7 6 0 0 i i,.au] 26 none):=by
    show some (db P _ _)=_
    unfold db AL
    rw [if_neg jd,jc]
   have jV:((jv (P.n-1) zs i).flatMap bj).length=i*6:=by
    rw [List.length_flatMap]
    have:((jv (P.n-1) zs i).map λc=>(bj c).length)=List.replicate (jv (P.n-1) zs i).length 6:=List.eq_replicate_iff.2 ⟨by simp,λb hb=>by obtain ⟨c,_,rfl⟩:=List.mem_map.1 hb;rfl⟩
    rw [this,List.sum_replicate_nat,jc]
   obtain ⟨env,s,cW,df,aQ,eP,dc,aI⟩:=aE (Fp pk (P.n:Int) t ((P.n-1:Nat):Int) (P.k:Int) (P.att:Int) zs.length off cap i (nth zs i) l ((jv (P.n-1) zs i).flatMap bj) i)
   have eg:s.pre:=by
    rw [aQ]
    exact ⟨⟨⟨⟨⟨⟨⟨⟨⟨⟨True.intro,by simp [aq]<;>omega⟩,by omega,by omega⟩,rfl,hx⟩,QA⟩,by omega,by omega⟩,rfl,hx⟩,rfl⟩,rfl⟩,rfl,jV,by rw [kG];omega,by rw [gy];omega⟩,rfl⟩
   refine tF ((bE named (cj mixed) (sound named mixed bL 60) (nt:=299) 100000).1 _ _ _ _ _ _ cW) bf hr (tH (by omega) hl dc (by simp)) (zZ (ab ⟨rfl,trivial,trivial,trivial,trivial⟩<|ab ⟨iH fJ,trivial,by show 1<96;omega,by show 7<96;omega,trivial,trivial⟩<|ab ⟨iH h7,bJ (cE _)⟩<|ab ⟨QG,F3⟩ aC)) eg (K:=λa w=>bh prog (bK (P5 2 aB)) Q a w) (λφ1 w1 a1 fD bO=> ?_) _ (λa w h=>h)
   refine fin φ1 w1 a1 s env _ (.ae 97 6 0 0 (i+1) (i+1)) false fD bO df (λb hb h7 fJ=>hold s _ dc b hb (by simp;omega)) ((bR dc (by omega) (by simp)).trans (ah aI 4 rfl rfl)) ((bR dc (by omega) (by simp)).trans (ah aI 0 rfl rfl)) (λφ φ'=>⟨?_,rfl,rfl⟩) (λφ=>rfl)
   rw [tG,vu,bZ,bZ]
   have e1:az φ ((jv (P.n-1) zs i).flatMap bj)=az φ' ((jv (P.n-1) zs i).flatMap bj):=(cJ (D:=λ_=>False) (λ_ h=>h.elim) (cE _)).symm
   exact Eq.trans (congrArg (· ++az φ _) e1) (congrArg (az φ' ((jv (P.n-1) zs i).flatMap bj)++ ·) (DL lX ⟨x0,W3⟩ (by omega) φ φ'))
end
end
section
variable {κ:Ev.dE}
def nI (c1:List (Nat×Bool×Nat)) (q i:Nat):List (Nat×Bool×Nat):=c1++List.replicate i (q,true,0)
theorem tJ (c1:List (Nat×Bool×Nat)) (q i:Nat):nI c1 q (i+1)=nI c1 q i++[(q,true,0)]:=by
 unfold nI;rw [List.replicate_succ',List.append_assoc]
theorem wY (c1:List (Nat×Bool×Nat)) (q i:Nat):(nI c1 q i).length=c1.length+i:=by simp [nI]
def E52 (pk:AV) (own pn i:Nat):Env:=[(2,pk),(3,.ptr 12 0),(7,.ptr 14 0),(9,.aa .i64 own),(104,.aa .i64 pn),(105,.aa .i64 i)]
def Vc (κ:Ev.dE) (P:cv) (pk:AV) (c1:List (Nat×Bool×Nat)) (φ0:bo) (i:Nat) (a:Act) (w:World):Prop:=
 ∃ φ:bo,At κ (H5 P (nI c1 (P.n-1) i) .au none) 299 96 (E52 pk c1.length (c1.length+1) i) φ w a∧φ 41=φ0 41
theorem Vd (cs:List (Nat×Bool×Nat)):(cs.flatMap bj).length=cs.length*6:=by
 rw [List.length_flatMap]
 have:(cs.map λc=>(bj c).length)=List.replicate cs.length 6:=List.eq_replicate_iff.2 ⟨by simp,λb hb=>by obtain ⟨c,_,rfl⟩:=List.mem_map.1 hb;rfl⟩
 rw [this,List.sum_replicate_nat]
theorem Ky {cs:List (Nat×Bool×Nat)} {c:Nat×Bool×Nat} {r:List AV} (φ φ':bo) (h:az φ r=az φ' (bj c)):az φ (cs.flatMap bj++r)=az φ' ((cs++[c]).flatMap bj):=by
 rw [vu,bZ,bZ]
 have e1:az φ (cs.flatMap bj)=az φ' (cs.flatMap bj):=(cJ (D:=λ_=>False) (λ_ h=>h.elim) (cE _)).symm
 exact Eq.trans (congrArg (· ++az φ _) e1) (congrArg (az φ' (cs.flatMap bj)++ ·) h)
section
variable {P:cv} {pk:AV} {c1:List (Nat×Bool×Nat)}
theorem z0 {H H':Nat->Option ak} {nx i:Nat} {k:Int} {env:Env} {φ φ':bo} {w:World} {a:Act} {own pn:Nat} (bf:At κ H 299 nx env φ w a) (df:[2,3,7,9,104,105].map env.look=[some pk,some (.ptr 12 0),some (.ptr 14 0),some (.aa .i64 (own:Nat)),some (.aa .i64 (pn:Nat)),some (.aa .i64 k)]) (hk:k=i) (bx:cz κ H' φ' w) (bn: ∀ c o,H' c=some o->c<96∧o.aD (· < 96))
  (hp:pk.aD (· < 96)) (cp:Jb1 φ pk=Jb1 φ' pk) (js:φ' 12=φ 12) (fJ:φ' 14=φ 14):At κ H' 299 96 (E52 pk own pn i) φ' w a:=by
 subst hk
 refine bf.Jb4 bx bn ?_
 exact ab ⟨_,ai df 0 rfl rfl,cp,hp⟩<|ab ⟨_,ai df 1 rfl rfl,by simp only [Jb1];rw [js],by show 12<96;omega⟩<|ab ⟨_,ai df 2 rfl rfl,by simp only [Jb1];rw [fJ],by show 14<96;omega⟩<|ab ⟨_,ai df 3 rfl rfl,rfl,trivial⟩<|ab ⟨_,ai df 4 rfl rfl,rfl,trivial⟩<|ab ⟨_,ai df 5 rfl rfl,rfl,trivial⟩ aC
theorem R9 (hP:2<=P.n∧P.n<=4) (VD:c1.length<=1000) {φ0:bo} (hp: ∃ D:Nat->Prop,pk.aD D∧ ∀ i,D i->i=41)
  {Q:Exit->Act->World->Prop} (hQ: ∀ a w,Vc κ P pk c1 φ0 (c1.length+1) a w->Q (.exit 2) a w): ∀ (k i:Nat),i+k=c1.length+1-> ∀ a w,Vc κ P pk c1 φ0 i a w->bh prog (bK (P5 4 aB)) Q a w:=by
 obtain ⟨D,Jb0,hD⟩:=hp
 have nL:pk.aD (· < 96):=Jb0.mono λi hi=>by rw [hD i hi];omega
 have bn: ∀ i,∀ c o,H5 P (nI c1 (P.n-1) i) .au none c=some o->c<96∧o.aD (· < 96):=λi=>eL trivial (λo h=>by cases h)
 intro k
 induction k with
 | zero=>
  rintro i hi a w ⟨φ,bf,rA⟩
  refine bh.of ?_
  have iS:i=c1.length+1:=by omega
  subst iS
  obtain ⟨env,s,cW,df,aQ,eP,dc,_⟩:=aE (Kt pk (c1.length+1) c1.length (c1.length+1))
  have eg:s.pre:=by rw [aQ];exact ⟨True.intro,by simp [aq]⟩
  refine cN ((bE named (cj mixed) (sound named mixed bL 60) (nt:=299) 100000).1 _ _ _ _ _ _ cW) bf bA eg (K:=λa w=>Q (.exit 2) a w) (λφ' w' a' uF fN=> ?_) _ (λa w h=>h)
  exact hQ a' w' ⟨φ',z0 fN df rfl (fN.fit.bB (bV (λc o h=>(bf.ids c o h).1) dc)) (bn _) nL rfl rfl rfl,(uF 41 (by show 41<96;omega)).trans rA⟩
 | succ k ih=>
  rintro i hi a w ⟨φ,bf,rA⟩
  refine bh.of ?_
  have iT:i64.wrap ((i:Int)+1)=((i+1:Nat):Int):=by rw [wrap64 (by omega) (by omega)];omega
  have dP:(nI c1 (P.n-1) i).length=c1.length+i:=wY _ _ _
  have js:H5 P (nI c1 (P.n-1) i) .au none 12=some (.row false [.aa .i64 ((P.n-1:Nat):Int),.aa .i64 (P.k:Nat),.aa .i64 (P.att:Nat)] 52 none):=rfl
  have fin: ∀ (φ1:bo) (w1:World) (a1:Act) (s:St) (env:Env) (D5:ak) (CV:AV) (y:Bool),(∀ b,b<96->φ1 b=φ b)->At κ (after (H5 P (nI c1 (P.n-1) i) .au none) s) 299 s.next env φ1 w1 a1->[2,3,7,9,104,105].map env.look=[some pk,some (.ptr 12 0),some (.ptr 14 0),some (.aa .i64 (c1.length:Nat)),some (.aa .i64 ((c1.length+1:Nat):Int)),some (.aa .i64 (i64.wrap ((i:Int)+1)))]->
    (∀ b,b<96->b≠7->b≠14->after (H5 P (nI c1 (P.n-1) i) .au none) s b=H5 P (nI c1 (P.n-1) i) .au none b)->after (H5 P (nI c1 (P.n-1) i) .au none) s 97=some D5->after (H5 P (nI c1 (P.n-1) i) .au none) s 14=some (.row y [.aa .i64 (P.n:Nat),.slice 1 0 1 1,CV,.au] 26 none)->
    (∀ φ φ':bo,bW φ φ' D5 (.row true ((nI c1 (P.n-1) (i+1)).flatMap bj) 42 (some 6)))->(∀ φ:bo,Jb1 φ CV=Jb1 φ (.ae 97 6 0 0 (c1.length+i+1) (c1.length+i+1)))->bh prog (bK (P5 4 aB)) Q a1 w1:=λφ1 w1 a1 s env D5 CV y fD bO df dc AO fJ tT ZU=>by
   have jd:nI c1 (P.n-1) (i+1)≠[]:=by rw [tJ];simp
   have bx:=wX (cs':=nI c1 (P.n-1) (i+1)) (pv':= .au) (own':=none) (.inl rfl) (λo h=>by cases h) dc AO fJ (λo' Mk=>by
     rcases iI Mk with ⟨h,_⟩ | ⟨_,_,rfl⟩ | ⟨h,_⟩ | ⟨h,_⟩ | ⟨h,_⟩
     ·omega
     ·exact tT _ _
     ·omega
     ·omega
     ·omega) (λb h7 fJ=>by
     unfold H5
     rw [if_neg h7,if_neg h7,if_neg fJ,if_neg fJ]) (by
     refine ⟨?_,rfl,rfl⟩
     unfold AL
     rw [if_neg jd,wY]
     have e1:Jb1 φ1 CV=Jb1 (λb=>φ1 (if b=7 then 97 else b)) (.ae 7 6 0 0 (c1.length+(i+1)) (c1.length+(i+1))):=by rw [ZU];exact cI rfl
     simp only [az]
     rw [e1]
     rfl) bO.fit
   refine ih (i+1) (by omega) a1 w1 ⟨λb=>φ1 (if b=7 then 97 else b),z0 bO df iT bx (bn _) nL ?_ rfl rfl,?_⟩
   ·exact dD (D:=D) (λi hi=>by rw [hD i hi];rfl) Jb0
   ·show φ1 41=φ0 41;rw [fD 41 (by omega),rA]
  by_cases h0:nI c1 (P.n-1) i=[]
  ·have TG:c1.length+i=0:=by rw [<- dP,h0];rfl
   have fJ:H5 P (nI c1 (P.n-1) i) .au none 14=some (.row false [.aa .i64 (P.n:Nat),.slice 1 0 1 1,.au,.au] 26 none):=by
    show some (db P _ _)=_
    unfold db AL
    rw [if_pos h0]
   obtain ⟨env,s,cW,df,aQ,eP,dc,aI⟩:=aE (Cc pk (P.n:Int) ((P.n-1:Nat):Int) (P.k:Int) (P.att:Int) i c1.length (c1.length+1))
   have eg:s.pre:=by rw [aQ];exact ⟨⟨True.intro,by simp [aq]<;>omega⟩,rfl⟩
   refine cN ((bE named (cj mixed) (sound named mixed bL 60) (nt:=299) 100000).1 _ _ _ _ _ _ cW) bf (dC bf.ids (ab js<|ab fJ aC)) eg (K:=λa w=>bh prog (bK (P5 4 aB)) Q a w) (λφ1 w1 a1 fD bO=> ?_) _ (λa w h=>h)
   refine fin φ1 w1 a1 s env _ (.aF 97 6 0 0 1 1) false fD bO df (λb hb h7 fJ=>bY dc (by omega) (by simp;omega)) ((bR dc (by omega) (by simp)).trans (ah aI 2 rfl rfl)) ((bR dc (by omega) (by simp)).trans (ah aI 0 rfl rfl)) (λφ φ'=>⟨?_,rfl,rfl⟩) (λφ=>by rw [TG];exact iE rfl)
   rw [tJ,h0]
   rfl
  ·have h7:H5 P (nI c1 (P.n-1) i) .au none 7=some (.row true ((nI c1 (P.n-1) i).flatMap bj) 42 (some 6)):=by
    unfold H5
    rw [if_neg (by omega),if_pos rfl,if_neg h0]
   have fJ:H5 P (nI c1 (P.n-1) i) .au none 14=some (.row false [.aa .i64 (P.n:Nat),.slice 1 0 1 1,.ae 7 6 0 0 (c1.length+i) (c1.length+i),.au] 26 none):=by
    show some (db P _ _)=_
    unfold db AL
    rw [if_neg h0,dP]
   have jV:((nI c1 (P.n-1) i).flatMap bj).length=(c1.length+i)*6:=by rw [Vd,dP]
   obtain ⟨env,s,cW,df,aQ,eP,dc,aI⟩:=aE (Fq pk (P.n:Int) ((P.n-1:Nat):Int) (P.k:Int) (P.att:Int) i ((nI c1 (P.n-1) i).flatMap bj) c1.length (c1.length+i) (c1.length+1))
   have eg:s.pre:=by
    rw [aQ]
    exact ⟨⟨⟨True.intro,by simp [aq]<;>omega⟩,rfl,jV,by rw [kG];omega,by rw [gy];omega⟩,rfl⟩
   refine cN ((bE named (cj mixed) (sound named mixed bL 60) (nt:=299) 100000).1 _ _ _ _ _ _ cW) bf (dC bf.ids (ab js<|ab fJ<|ab h7 aC)) eg (K:=λa w=>bh prog (bK (P5 4 aB)) Q a w) (λφ1 w1 a1 fD bO=> ?_) _ (λa w h=>h)
   refine fin φ1 w1 a1 s env _ (.ae 97 6 0 0 (c1.length+i+1) (c1.length+i+1)) false fD bO df (λb hb h7 fJ=>bY dc (by omega) (by simp;omega)) ((bR dc (by omega) (by simp)).trans (ah aI 3 rfl rfl)) ((bR dc (by omega) (by simp)).trans (ah aI 0 rfl rfl)) (λφ φ'=>⟨?_,rfl,rfl⟩) (λφ=>rfl)
   rw [tJ]
   exact Ky φ φ' rfl
end
end
end Qk
end Go.Proofs.YtpkfimijnkkbjaaGreat
