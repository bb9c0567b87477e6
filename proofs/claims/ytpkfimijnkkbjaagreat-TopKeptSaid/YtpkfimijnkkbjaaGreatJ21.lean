/- The heap behind a pick where the operation goes on. -/
import Derived.Test.YtpkfimijnkkbjaaGreatJ20
set_option linter.unusedVariables false
namespace Go.Proofs.YtpkfimijnkkbjaaGreat
namespace Qk
open Ev Ct
section
variable {κ:Ev.dE}
variable {t c en on a a2 b mu mkn:Nat} {tch:Bool}
def Xp (j:Jq) (t:Nat) (φ1:bo) (tU:Int) (at' evl':Nat) (L8:List AV) (inv':Nat->Int) (rI:Nat->Bool) (c':Nat->Int) (own':Nat->Nat×Nat) (jn j2 j3:Nat->Int):Jq:=
 { j with turn:=(t:Nat),ats:=bm j.ats t at',aA:=tU,inv:=inv',af:=rI,c:=c',evl:=evl',evs:=L8.map (Ct.kept φ1),own:=own',jr:=bm j.jr t jn,j2:=bm j.j2 t j2,j3:=bm j.j3 t j3 }
def fB (t en on a a2 b mu mkn c:Nat):Nat:=if c=8 then en else if c=33+t then on else if c=65+t then a else if c=81+t then a2 else if c=24+t then b else if c=49+mu then mkn else c
def iF (t:Nat) (tch:Bool) (c:Nat):Bool:=jb t c||c==16+t||(tch&&(c==7||c==9))
theorem mE (hc:iF t tch c=true):c=0∨c=1∨c=2∨c=3∨c=4∨c=5∨c=8∨c=12∨c=33+t∨c=65+t∨c=81+t∨c=16+t∨(tch=true∧(c=7∨c=9)):=by
 unfold iF jb at hc
 simp only [Bool.or_eq_true,Bool.and_eq_true,beq_iff_eq] at hc
 rcases hc with (((((((((((h | h) | h) | h) | h) | h) | h) | h) | h) | h) | h) | h) | ⟨h1,h⟩
 all_goals first
  | exact .inl h
  | exact .inr (.inl h)
  | exact .inr (.inr (.inl h))
  | exact .inr (.inr (.inr (.inl h)))
  | exact .inr (.inr (.inr (.inr (.inl h))))
  | exact .inr (.inr (.inr (.inr (.inr (.inl h)))))
  | exact .inr (.inr (.inr (.inr (.inr (.inr (.inl h))))))
  | exact .inr (.inr (.inr (.inr (.inr (.inr (.inr (.inl h)))))))
  | exact .inr (.inr (.inr (.inr (.inr (.inr (.inr (.inr (.inl h))))))))
  | exact .inr (.inr (.inr (.inr (.inr (.inr (.inr (.inr (.inr (.inl h)))))))))
  | exact .inr (.inr (.inr (.inr (.inr (.inr (.inr (.inr (.inr (.inr (.inl h))))))))))
  | exact .inr (.inr (.inr (.inr (.inr (.inr (.inr (.inr (.inr (.inr (.inr (.inl h)))))))))))
  | exact .inr (.inr (.inr (.inr (.inr (.inr (.inr (.inr (.inr (.inr (.inr (.inr ⟨h1,h⟩)))))))))))
theorem zT (ht:t<4) (lN:(en=8∧on=32∧(a=64∨a=100)∧(a2=80∨a2=100))∨(en=98∧on=100∧(a=64∨a=105)∧(a2=80∨a2=105))) (bq:a≠a2) (Pc:mu<4∨mu=1000) (hc:iF t tch c=true):
  (if fB t en on a a2 b mu mkn c=en then 8 else if fB t en on a a2 b mu mkn c=on then 33+t else if fB t en on a a2 b mu mkn c=a then 65+t else if fB t en on a a2 b mu mkn c=a2 then 81+t else fB t en on a a2 b mu mkn c)=c:=by
 have small: ∀ c,c<20->c≠8->fB t en on a a2 b mu mkn c=c:=λc h h8=>by
  unfold fB;rw [if_neg h8,if_neg (by omega),if_neg (by omega),if_neg (by omega),if_neg (by omega),if_neg (by omega)]
 have bB: ∀ c,c<20->c≠8->(if c=en then 8 else if c=on then 33+t else if c=a then 65+t else if c=a2 then 81+t else c)=c:=λc h h8=>by
  rw [if_neg (by omega),if_neg (by omega),if_neg (by omega),if_neg (by omega)]
 have e8:fB t en on a a2 b mu mkn 8=en:=if_pos rfl
 have ZM:fB t en on a a2 b mu mkn (33+t)=on:=by unfold fB;rw [if_neg (by omega),if_pos rfl]
 have YZ:fB t en on a a2 b mu mkn (65+t)=a:=by unfold fB;rw [if_neg (by omega),if_neg (by omega),if_pos rfl]
 have ZK:fB t en on a a2 b mu mkn (81+t)=a2:=by unfold fB;rw [if_neg (by omega),if_neg (by omega),if_neg (by omega),if_pos rfl]
 rcases mE hc with h | h | h | h | h | h | h | h | h | h | h | h | ⟨_,h | h⟩
 all_goals subst h
 ·rw [small 0 (by omega) (by omega)];exact bB 0 (by omega) (by omega)
 ·rw [small 1 (by omega) (by omega)];exact bB 1 (by omega) (by omega)
 ·rw [small 2 (by omega) (by omega)];exact bB 2 (by omega) (by omega)
 ·rw [small 3 (by omega) (by omega)];exact bB 3 (by omega) (by omega)
 ·rw [small 4 (by omega) (by omega)];exact bB 4 (by omega) (by omega)
 ·rw [small 5 (by omega) (by omega)];exact bB 5 (by omega) (by omega)
 ·rw [e8,if_pos rfl]
 ·rw [small 12 (by omega) (by omega)];exact bB 12 (by omega) (by omega)
 ·rw [ZM,if_neg (by omega),if_pos rfl]
 ·rw [YZ,if_neg (by omega),if_neg (by omega),if_pos rfl]
 ·rw [ZK,if_neg (by omega),if_neg (by omega),if_neg (by omega),if_pos rfl]
 ·rw [small (16+t) (by omega) (by omega)];exact bB (16+t) (by omega) (by omega)
 ·rw [small 7 (by omega) (by omega)];exact bB 7 (by omega) (by omega)
 ·rw [small 9 (by omega) (by omega)];exact bB 9 (by omega) (by omega)
theorem Dz {K : KC} {s : Qs} {j : Jq} {φ φ1 : bo} {w' : World} {ρ : Nat -> Nat} {Aq fk : Nat -> Option ak} (hn : K.P.n <= 4) (ht : t < K.P.n)
    (hQ : ∀ (H' : Nat -> Option ak) (φ' : bo) (src : Nat -> Nat ⊕ Nat), (∀ c o', H' c = some o' -> match src c with
          | .inl d => φ' c = φ d ∧ (∀ b x, Aq b = some x -> ρ b ≠ d) ∧ ∃ o, b7 K s j d = some o ∧ bW φ φ' o o'
          | .inr d => φ' c = φ1 d ∧ ∃ o, fk d = some o ∧ bW φ1 φ' o o') ->
        (∀ b c x y, H' b = some x -> H' c = some y -> src b = src c -> b = c) -> cz κ H' φ' w')
    (fD : ∀ i, i < 96 -> i ≠ 32 -> i ≠ 64 -> i ≠ 80 -> i ≠ 48 -> φ1 i = φ i) (Wg : ∀ b x, Aq b = some x -> iF t tch (ρ b) = true)
    (lN : (en = 8 ∧ on = 32 ∧ (a = 64 ∨ a = 100) ∧ (a2 = 80 ∨ a2 = 100)) ∨ (en = 98 ∧ on = 100 ∧ (a = 64 ∨ a = 105) ∧ (a2 = 80 ∨ a2 = 105))) (bq : a ≠ a2) (Pc : mu < 4 ∨ mu = 1000)
    {at' evl' : Nat} {A E : AV} {tU : Int} {K9 marks' : Nat -> AV} {inv' : Nat -> Int} {rI : Nat -> Bool} {c' : Nat -> Int} {M' : Mm} {L8 : List AV} {y y8 : Bool} {VI : ak} {look' : Nat -> Nat} {o' : Op} {jn j2 j3 : Nat -> Int} {outs : List (Nat × ak)} {own' : Nat -> Nat × Nat}
    (r0 : fk 0 = some (.row y (PK wF (Fa K) (.int .i64 (t : Nat)) (bm (mK s) t (.iface 283 (.ptr on 0))) (bm (λu => .aa .i64 (j.ats u : Nat)) t A) E .au (λi => .aa .i64 (j.cn i)) j.idle) 83 none))
    (hA : ∀ φ, Jb1 φ A = .int .i64 (at' : Nat)) (hE : ∀ φ, Jb1 φ E = Jb1 φ (.ae en 8 0 0 evl' evl')) (oB : evl' ≠ 0)
    (r1 : fk 1 = some (wW tU K9 marks')) (hinv : ∀ u, u < 16 -> ∀ φ, Jb1 φ (K9 u) = .int .i64 (inv' u))
    (HM : ∀ u, u < 16 -> marks' u = match decide (u < 4) && rI u with | true => .aF (if u = mu then mkn else 49 + u) 1 0 0 1 1 | false => .au)
    (r2 : fk 2 = some (mR K.P c')) (r3 : fk 3 = some (Jb5 (aG K.P M'))) (r4 : fk 4 = some (.row false [.ed 5, .aa .i64 j.left] 113 none)) (r5 : fk 5 = some (.map true j.lmap)) (qS : ∀ p ∈ j.lmap, p.2.aD λi => 16 <= i ∧ i < 20)
    (r16 : fk (16 + t) = some (.row true (K.lst t) 3 (some 1))) (r8 : fk en = some (.row y8 L8 48 (some 8))) (AE : ∀ v ∈ L8, v.flat = true)
    (r12 : fk 12 = some VI) (Te : ∀ φ φ', bW φ φ' VI (iq K.P (λu => .aa .i64 (look' u : Nat)))) (ron : fk on = some (bp t a b jn o')) (Av : Dy K.P a a2 j2 j3 outs o'.st) (Lt : ∀ p ∈ outs, fk p.1 = some p.2)
    (r79 : tch = true -> fk 7 = some (.row true K.calls 42 (some 6)) ∧ fk 9 = some (.row false [.iface 162 (.ptr 12 0)] 107 (some 1))) (nz : ∀ b o, j.oth b = some o -> o.aD λ_ => False) :
    ∃ φ' : bo, (∀ i, i = 0 ∨ i = 6 ∨ i = 7 ∨ (12 < i ∧ i < 16) -> φ' i = φ i) ∧ cz κ (b7 K { s with M := M', cur := Jb2 s.cur t (some o'), look := look' } (Xp j t φ1 tU at' evl' L8 inv' rI c' own' jn j2 j3)) φ' w' := by
  let s' : Qs := { s with M := M', cur := Jb2 s.cur t (some o'), look := look' }
  let j' : Jq := Xp j t φ1 tU at' evl' L8 inv' rI c' own' jn j2 j3
  let φ' : bo := λc => φ1 (fB t en on a a2 b mu mkn c)
  have plain : ∀ c, c ≠ 8 -> c ≠ 33 + t -> c ≠ 65 + t -> c ≠ 81 + t -> c ≠ 24 + t -> c ≠ 49 + mu -> φ' c = φ1 c := λc h1 h2 h3 h4 h5 h6 => by
    show φ1 (fB t en on a a2 b mu mkn c) = _
    unfold fB; rw [if_neg h1, if_neg h2, if_neg h3, if_neg h4, if_neg h5, if_neg h6]
  have old : ∀ c, c < 96 -> c ≠ 8 -> c ≠ 33 + t -> c ≠ 65 + t -> c ≠ 81 + t -> c ≠ 24 + t -> c ≠ 49 + mu -> c ≠ 32 -> c ≠ 64 -> c ≠ 80 -> c ≠ 48 -> φ' c = φ c := λc h0 h1 h2 h3 h4 h5 h6 h7 h8 h9 kN => (plain c h1 h2 h3 h4 h5 h6).trans (fD c h0 h7 h8 h9 kN)
  have p8 : φ' 8 = φ1 en := by show φ1 (fB t en on a a2 b mu mkn 8) = _; unfold fB; rw [if_pos rfl]
  have p33 : φ' (33 + t) = φ1 on := by show φ1 (fB t en on a a2 b mu mkn (33 + t)) = _; unfold fB; rw [if_neg (by omega), if_pos rfl]
  have p65 : φ' (65 + t) = φ1 a := by show φ1 (fB t en on a a2 b mu mkn (65 + t)) = _; unfold fB; rw [if_neg (by omega), if_neg (by omega), if_pos rfl]
  have p81 : φ' (81 + t) = φ1 a2 := by show φ1 (fB t en on a a2 b mu mkn (81 + t)) = _; unfold fB; rw [if_neg (by omega), if_neg (by omega), if_neg (by omega), if_pos rfl]
  have p24 : φ' (24 + t) = φ1 b := by show φ1 (fB t en on a a2 b mu mkn (24 + t)) = _; unfold fB; rw [if_neg (by omega), if_neg (by omega), if_neg (by omega), if_neg (by omega), if_pos rfl]
  have pm : mu < 4 -> φ' (49 + mu) = φ1 mkn := λh => by show φ1 (fB t en on a a2 b mu mkn (49 + mu)) = _; unfold fB; rw [if_neg (by omega), if_neg (by omega), if_neg (by omega), if_neg (by omega), if_neg (by omega), if_pos rfl]
  have nw : BQ t s s' j j' := ⟨λu hu => aJ hu, λu hu => by show bm j.jr t jn u = _; rw [cu, if_neg hu], λu hu => by show bm j.j2 t j2 u = _; rw [cu, if_neg hu], λu hu => by show bm j.j3 t j3 u = _; rw [cu, if_neg hu], rfl⟩
  have dU : s'.cur t = some o' := aM
  refine ⟨φ', λi hi => old i (by omega) (by omega) (by omega) (by omega) (by omega) (by omega) (by omega) (by omega) (by omega) (by omega) (by omega), tq (H := b7 K s j) (τ := fB t en on a a2 b mu mkn) (L := iF t tch) hQ Wg ?_ ?_ ?_⟩
  ·
    intro x z ox oz hx hz hLx hLz he
    have h1 := zT (b := b) (mkn := mkn) (by omega) lN bq Pc hLx
    have h2 := zT (b := b) (mkn := mkn) (by omega) lN bq Pc hLz
    rw [he] at h1
    exact h1.symm.trans h2
  ·
    intro c o1 hL hc
    have hL := mE hL
    have tt : ∀ c, c ≠ 8 -> c ≠ 33 + t -> c ≠ 65 + t -> c ≠ 81 + t -> c ≠ 24 + t -> c ≠ 49 + mu -> fB t en on a a2 b mu mkn c = c := λc h1 h2 h3 h4 h5 h6 => by
      unfold fB; rw [if_neg h1, if_neg h2, if_neg h3, if_neg h4, if_neg h5, if_neg h6]
    refine ⟨rfl, ?_⟩
    have small : ∀ i, i < 8 ∨ i = 9 ∨ i = 10 ∨ i = 12 ∨ (16 <= i ∧ i < 20) -> φ' i = φ1 i := λi hi => plain i (by omega) (by omega) (by omega) (by omega) (by omega) (by omega)
    rcases hL with rfl | rfl | rfl | rfl | rfl | rfl | rfl | rfl | rfl | rfl | rfl | rfl | ⟨htc, rfl | rfl⟩
    ·
      rw [tt 0 (by omega) (by omega) (by omega) (by omega) (by omega) (by omega)]
      refine ⟨_, r0, ?_⟩
      rw [dj (by omega)] at hc
      obtain rfl := Option.some.inj hc
      refine wJ (small 1 (by omega)) (small 4 (by omega)) (iE (small 9 (by omega)).symm) (cI (small 7 (by omega)).symm) rfl (λu hu => ?_) (λu hu => ?_) ?_ rfl (λi => rfl)
      · rw [cu]
        unfold mK
        by_cases e : u = t
        · subst e
          rw [if_pos rfl, dU, decide_eq_true (show u < 4 by omega)]
          simp only [Option.isSome, Bool.and_true, Jb1, p33]
        · rw [if_neg e, nw.cur u e]
          split
          · rename_i h
            have h4 : u < 4 := by simp only [Bool.and_eq_true, decide_eq_true_eq] at h; exact h.1
            simp only [Jb1]
            rw [plain (33 + u) (by omega) (by omega) (by omega) (by omega) (by omega) (by omega)]
          · rfl
      · show Jb1 φ1 (bm (λu => .aa .i64 (j.ats u : Nat)) t A u) = .int .i64 ((bm j.ats t at' u : Nat) : Int)
        rw [cu, cu]
        split
        · exact hA φ1
        · rfl
      · rw [hE φ1]
        show _ = Jb1 φ' (if evl' = 0 then .au else .ae 8 8 0 0 evl' evl')
        rw [if_neg oB]
        exact cI p8.symm
    ·
      rw [tt 1 (by omega) (by omega) (by omega) (by omega) (by omega) (by omega)]
      refine ⟨_, r1, ?_⟩
      rw [dj (by omega)] at hc
      obtain rfl := Option.some.inj hc
      refine Du (small 2 (by omega)) (small 10 (by omega)) (λu hu => hinv u hu φ1) (λu hu => ?_)
      rw [HM u hu]
      show _ = Jb1 φ' (match decide (u < 4) && rI u with | true => .aF (49 + u) 1 0 0 1 1 | false => .au)
      split
      · rename_i h
        have h4 : u < 4 := by simp only [Bool.and_eq_true, decide_eq_true_eq] at h; exact h.1
        refine iE ?_
        by_cases e : u = mu
        · subst e; rw [if_pos rfl, pm h4]
        · rw [if_neg e, plain (49 + u) (by omega) (by omega) (by omega) (by omega) (by omega) (by omega)]
      · rfl
    · rw [tt 2 (by omega) (by omega) (by omega) (by omega) (by omega) (by omega)]
      refine ⟨_, r2, ?_⟩
      rw [dj (by omega)] at hc
      obtain rfl := Option.some.inj hc
      exact pj (dK (D := λi => i = 3) rfl) (λi hi => by rw [hi]; exact small 3 (by omega))
    · rw [tt 3 (by omega) (by omega) (by omega) (by omega) (by omega) (by omega)]
      refine ⟨_, r3, ?_⟩
      rw [dj (by omega)] at hc
      obtain rfl := Option.some.inj hc
      exact bl gT
    · rw [tt 4 (by omega) (by omega) (by omega) (by omega) (by omega) (by omega)]
      refine ⟨_, r4, ?_⟩
      rw [dj (by omega)] at hc
      obtain rfl := Option.some.inj hc
      exact ⟨by simp only [az, Jb1, small 5 (by omega)]; rfl, rfl, rfl⟩
    · rw [tt 5 (by omega) (by omega) (by omega) (by omega) (by omega) (by omega)]
      refine ⟨_, r5, ?_⟩
      rw [dj (by omega)] at hc
      obtain rfl := Option.some.inj hc
      exact pj (o := .map true j.lmap) (D := λi => 16 <= i ∧ i < 20) qS (λi hi => small i (by omega))
    ·
      have e8 : fB t en on a a2 b mu mkn 8 = en := if_pos rfl
      rw [e8]
      refine ⟨_, r8, ?_⟩
      rw [dj (by omega)] at hc
      replace hc : (if evl' = 0 then none else some (ak.row true (L8.map (Ct.kept φ1)) 48 (some 8))) = some o1 := hc
      rw [if_neg oB] at hc
      obtain rfl := Option.some.inj hc
      exact ⟨(tp AE).symm, rfl, rfl⟩
    · rw [tt 12 (by omega) (by omega) (by omega) (by omega) (by omega) (by omega)]
      refine ⟨_, r12, ?_⟩
      rw [dj (by omega)] at hc
      obtain rfl := Option.some.inj hc
      exact Te _ _
    ·
      have ZM : fB t en on a a2 b mu mkn (33 + t) = on := by unfold fB; rw [if_neg (by omega), if_pos rfl]
      rw [ZM]
      refine ⟨_, ron, ?_⟩
      rw [vm (by omega), if_pos ht] at hc
      replace hc : (s'.cur t).map (λo => bp t (65 + t) (24 + t) (bm j.jr t jn t) o) = some o1 := hc
      rw [dU, cu, if_pos rfl] at hc
      obtain rfl := Option.some.inj hc
      exact wL (small 12 (by omega)) (λ_ => p65) (λ_ => p24)
    ·
      have YZ : fB t en on a a2 b mu mkn (65 + t) = a := by unfold fB; rw [if_neg (by omega), if_neg (by omega), if_pos rfl]
      rw [YZ]
      rw [qD (by omega), if_pos ht, dU] at hc
      replace hc : wG K.P j' t o'.st = some o1 := hc
      revert Av hc
      cases o'.st with
      | sub x f =>
        cases x with
        | fn q =>
          intro Av hc
          have hc : some (bk K.P (bm j.j2 t j2 t) q) = some o1 := hc
          rw [cu, if_pos rfl] at hc
          obtain rfl := Option.some.inj hc
          exact ⟨_, Lt _ Av, bl m9⟩
        | hp take u ph q =>
          intro Av hc
          have hc : some (aY K.P (81 + t) (bm j.j2 t j2 t) take u ph q) = some o1 := hc
          rw [cu, if_pos rfl] at hc
          obtain rfl := Option.some.inj hc
          exact ⟨_, Lt _ Av.1, wM (λ_ => p81)⟩
      | _ => exact λ_ hc => by cases hc
    · have ZK : fB t en on a a2 b mu mkn (81 + t) = a2 := by unfold fB; rw [if_neg (by omega), if_neg (by omega), if_neg (by omega), if_pos rfl]
      rw [ZK]
      rw [qE (by omega), if_pos ht, dU] at hc
      replace hc : wH K.P j' t o'.st = some o1 := hc
      revert Av hc
      cases o'.st with
      | sub x f =>
        cases x with
        | fn q => exact λ_ hc => by cases hc
        | hp take u ph q =>
          cases q with
          | sub f2 ov =>
            intro Av hc
            have hc : some (bk K.P (bm j.j3 t j3 t) f2) = some o1 := hc
            rw [cu, if_pos rfl] at hc
            obtain rfl := Option.some.inj hc
            exact ⟨_, Lt _ (Av.2 _ _ rfl), bl m9⟩
          | _ => exact λ_ hc => by cases hc
      | _ => exact λ_ hc => by cases hc
    · rw [tt (16 + t) (by omega) (by omega) (by omega) (by omega) (by omega) (by omega)]
      refine ⟨_, r16, ?_⟩
      rw [oe (by omega)] at hc
      split at hc
      · obtain rfl := Option.some.inj hc
        exact bl (j9 K t)
      · cases hc
    · rw [tt 7 (by omega) (by omega) (by omega) (by omega) (by omega) (by omega)]
      refine ⟨_, (r79 htc).1, ?_⟩
      rw [dj (by omega)] at hc
      obtain rfl := Option.some.inj hc
      exact bl (ka K)
    · rw [tt 9 (by omega) (by omega) (by omega) (by omega) (by omega) (by omega)]
      refine ⟨_, (r79 htc).2, ?_⟩
      rw [dj (by omega)] at hc
      obtain rfl := Option.some.inj hc
      exact ⟨by simp only [az, Jb1, small 12 (by omega)], rfl, rfl⟩
  ·
    intro c o1 hL hc
    have Tq : jb t c = false := by
      simp only [iF, Bool.or_eq_false_iff] at hL
      exact hL.1.1
    obtain ⟨h1, h2⟩ := zS (φ := φ) (φ' := φ') hn nw nz Tq hc (old 12 (by omega) (by omega) (by omega) (by omega) (by omega) (by omega) (by omega) (by omega) (by omega) (by omega) (by omega)) (λu hu bq => ⟨old (65 + u) (by omega) (by omega) (by omega) (by omega) (by omega) (by omega) (by omega) (by omega) (by omega) (by omega) (by omega), old (81 + u) (by omega) (by omega) (by omega) (by omega) (by omega) (by omega) (by omega) (by omega) (by omega) (by omega) (by omega), old (24 + u) (by omega) (by omega) (by omega) (by omega) (by omega) (by omega) (by omega) (by omega) (by omega) (by omega) (by omega)⟩)
    refine ⟨?_, h1, h2⟩
    simp only [jb, Bool.or_eq_false_iff, beq_eq_false_iff_ne, ne_eq] at Tq
    rcases mC hn hc with hb | ⟨u, hu, rfl⟩ | ⟨u, hu, rfl⟩ | ⟨u, hu, rfl⟩ | ⟨u, hu, rfl⟩
    all_goals exact old _ (by omega) (by omega) (by omega) (by omega) (by omega) (by omega) (by omega) (by omega) (by omega) (by omega) (by omega)
end
section
variable {κ:Ev.dE}
theorem tr {k:Int} {v:AV}: ∀ {l:List (Int×AV)},cR k (eh k v l)=some v
 | []=>by simp [eh,cR]
 | (x,u)::l=>by
  unfold eh
  by_cases h:k=x
  ·rw [decide_eq_true h];simp [cR]
  ·rw [decide_eq_false h]
   show (match decide (k=x) with | true=>some u | false=>cR k (eh k v l))=_
   rw [decide_eq_false h];exact tr
theorem jm {k k':Int} {v:AV} (hk:k'≠k): ∀ {l:List (Int×AV)},cR k' (eh k v l)=cR k' l
 | []=>by simp [eh,cR,hk]
 | (x,u)::l=>by
  unfold eh
  by_cases h:k=x
  ·rw [decide_eq_true h]
   subst h
   simp [cR,hk]
  ·rw [decide_eq_false h]
   show (match decide (k'=x) with | true=>some u | false=>cR k' (eh k v l))=(match decide (k'=x) with | true=>some u | false=>cR k' l)
   rw [jm hk]
def pt (t p n:Nat):AV:= .ae (16+t) 1 p (if p=n then p-1 else 0) (n-p) n
theorem Fe {φ φ':bo} {t p n:Nat} (hp:p<n) (h:φ (16+t)=φ' (16+t)):Jb1 φ (.ae (16+t) 1 (p+1) p (n-p-1) n)=Jb1 φ' (pt t (p+1) n):=by
 unfold pt
 by_cases e:p+1=n
 ·rw [if_pos e,show p+1-1=p by omega,show n-p-1=n-(p+1) by omega]
  exact cI h
 ·rw [if_neg e,show n-p-1=n-(p+1) by omega]
  simp only [Jb1,h]
  have e1: ¬ ((φ' (16+t)).fr=0∧p+1=n):=λhh=>e hh.2
  rw [if_neg e1,if_neg e1]
def Ry (j:Jq) (t:Nat) (φ1:bo) (tU:Int) (L8:List AV) (rI:Nat->Bool) (c':Nat->Int) (left':Int) (Wi:List (Int×AV)):Jq:=
 { j with turn:=(t:Nat),aA:=tU,af:=rI,c:=c',evs:=L8.map (Ct.kept φ1),left:=left',lmap:=Wi }
theorem J3 {K : KC} {s : Qs} {j : Jq} {t : Nat} {φ φ1 : bo} {w' : World} {ρ : Nat -> Nat} {Aq fk : Nat -> Option ak} {mu mkn : Nat} (hn : K.P.n <= 4) (ht : t < K.P.n)
    (hQ : ∀ (H' : Nat -> Option ak) (φ' : bo) (src : Nat -> Nat ⊕ Nat), (∀ c o', H' c = some o' -> match src c with
          | .inl d => φ' c = φ d ∧ (∀ b x, Aq b = some x -> ρ b ≠ d) ∧ ∃ o, b7 K s j d = some o ∧ bW φ φ' o o'
          | .inr d => φ' c = φ1 d ∧ ∃ o, fk d = some o ∧ bW φ1 φ' o o') ->
        (∀ b c x y, H' b = some x -> H' c = some y -> src b = src c -> b = c) -> cz κ H' φ' w')
    (fD : ∀ i, i < 96 -> i ≠ 32 -> i ≠ 64 -> i ≠ 80 -> i ≠ 48 -> φ1 i = φ i) (Wg : ∀ b x, Aq b = some x -> iF t false (ρ b) = true) (Pc : mu < 4 ∨ mu = 1000) (fj : s.pos t < K.nc t)
    {tU left' : Int} {K9 marks' : Nat -> AV} {rI : Nat -> Bool} {c' : Nat -> Int} {M' : Mm} {L8 : List AV} {y y8 : Bool} {VI : ak} {out' : Nat -> Nat -> Nat × Nat}
    (r0 : fk 0 = some (.row y (PK wF (Fa K) (.int .i64 (t : Nat)) (bm (mK s) t .aX) (bm (λu => .aa .i64 (j.ats u : Nat)) t (.aa .i64 (j.ats t : Nat))) (.ae 8 8 0 0 j.evl j.evl) .au (λi => .aa .i64 (j.cn i)) j.idle) 83 none)) (oB : j.evl ≠ 0)
    (r1 : fk 1 = some (wW tU K9 marks')) (hinv : ∀ u, u < 16 -> ∀ φ, Jb1 φ (K9 u) = .int .i64 (j.inv u))
    (HM : ∀ u, u < 16 -> marks' u = match decide (u < 4) && rI u with | true => .aF (if u = mu then mkn else 49 + u) 1 0 0 1 1 | false => .au)
    (r2 : fk 2 = some (mR K.P c')) (r3 : fk 3 = some (Jb5 (aG K.P M'))) (r4 : fk 4 = some (.row false [.ed 5, .aa .i64 left'] 113 none)) (r5 : fk 5 = some (.map true (eh (t : Int) (.ae (16 + t) 1 (s.pos t + 1) (s.pos t) (K.nc t - s.pos t - 1) (K.nc t)) j.lmap))) (qS : ∀ p ∈ j.lmap, p.2.aD λi => 16 <= i ∧ i < 20)
    (r16 : fk (16 + t) = some (.row true (K.lst t) 3 (some 1))) (r8 : fk 8 = some (.row y8 L8 48 (some 8))) (AE : ∀ v ∈ L8, v.flat = true)
    (r12 : fk 12 = some VI) (Te : ∀ φ φ', bW φ φ' VI (iq K.P (ct s))) (nz : ∀ b o, j.oth b = some o -> o.aD λ_ => False) :
    ∃ φ' : bo, (∀ i, i = 0 ∨ i = 6 ∨ i = 7 ∨ (12 < i ∧ i < 16) -> φ' i = φ i) ∧ cz κ (b7 K { M := M', pos := Jb2 s.pos t (s.pos t + 1), cur := Jb2 s.cur t none, look := s.look, out := out' } (Ry j t φ1 tU L8 rI c' left' (eh (t : Int) (pt t (s.pos t + 1) (K.nc t)) j.lmap))) φ' w' := by
  let s' : Qs := { M := M', pos := Jb2 s.pos t (s.pos t + 1), cur := Jb2 s.cur t none, look := s.look, out := out' }
  let j' : Jq := Ry j t φ1 tU L8 rI c' left' (eh (t : Int) (pt t (s.pos t + 1) (K.nc t)) j.lmap)
  let φ' : bo := λc => φ1 (if c = 49 + mu then mkn else c)
  have plain : ∀ c, c ≠ 49 + mu -> φ' c = φ1 c := λc h => by
    show φ1 (if c = 49 + mu then mkn else c) = _
    rw [if_neg h]
  have old : ∀ c, c < 96 -> c ≠ 49 + mu -> c ≠ 32 -> c ≠ 64 -> c ≠ 80 -> c ≠ 48 -> φ' c = φ c := λc h0 h6 h7 h8 h9 kN => (plain c h6).trans (fD c h0 h7 h8 h9 kN)
  have pm : φ' (49 + mu) = φ1 mkn := by show φ1 (if 49 + mu = 49 + mu then mkn else 49 + mu) = _; rw [if_pos rfl]
  have nw : BQ t s s' j j' := ⟨λu hu => aJ hu, λu hu => rfl, λu hu => rfl, λu hu => rfl, rfl⟩
  have dU : s'.cur t = none := aM
  refine ⟨φ', λi hi => old i (by omega) (by omega) (by omega) (by omega) (by omega) (by omega), tq (H := b7 K s j) (τ := λc => c) (L := iF t false) hQ Wg (λb c x y _ _ _ _ h => h) ?_ ?_⟩
  · intro c o1 hL hc
    have small : ∀ i, i < 20 -> φ' i = φ1 i := λi hi => plain i (by omega)
    rcases mE hL with rfl | rfl | rfl | rfl | rfl | rfl | rfl | rfl | rfl | rfl | rfl | rfl | ⟨h, _⟩
    · refine ⟨small 0 (by omega), _, r0, ?_⟩
      rw [dj (by omega)] at hc
      obtain rfl := Option.some.inj hc
      refine wJ (small 1 (by omega)) (small 4 (by omega)) (iE (small 9 (by omega)).symm) (cI (small 7 (by omega)).symm) rfl (λu hu => ?_) (λu hu => ?_) ?_ rfl (λi => rfl)
      · rw [cu]
        unfold mK
        by_cases e : u = t
        · subst e
          rw [if_pos rfl, dU]
          simp only [Option.isSome, Bool.and_false]
          rfl
        · rw [if_neg e, nw.cur u e]
          split
          · rename_i h
            have h4 : u < 4 := by simp only [Bool.and_eq_true, decide_eq_true_eq] at h; exact h.1
            simp only [Jb1]
            rw [plain (33 + u) (by omega)]
          · rfl
      · show Jb1 φ1 (bm (λu => .aa .i64 (j.ats u : Nat)) t (.aa .i64 (j.ats t : Nat)) u) = .int .i64 ((j.ats u : Nat) : Int)
        rw [cu]
        split
        · rename_i e; rw [e]; rfl
        · rfl
      · show _ = Jb1 φ' (if j.evl = 0 then .au else .ae 8 8 0 0 j.evl j.evl)
        rw [if_neg oB]
        exact cI (small 8 (by omega)).symm
    · refine ⟨small 1 (by omega), _, r1, ?_⟩
      rw [dj (by omega)] at hc
      obtain rfl := Option.some.inj hc
      refine Du (small 2 (by omega)) (small 10 (by omega)) (λu hu => hinv u hu φ1) (λu hu => ?_)
      rw [HM u hu]
      show _ = Jb1 φ' (match decide (u < 4) && rI u with | true => .aF (49 + u) 1 0 0 1 1 | false => .au)
      split
      · refine iE ?_
        by_cases e : u = mu
        · subst e; rw [if_pos rfl, pm]
        · rw [if_neg e, plain (49 + u) (by omega)]
      · rfl
    · refine ⟨small 2 (by omega), _, r2, ?_⟩
      rw [dj (by omega)] at hc
      obtain rfl := Option.some.inj hc
      exact pj (dK (D := λi => i = 3) rfl) (λi hi => by rw [hi]; exact small 3 (by omega))
    · refine ⟨small 3 (by omega), _, r3, ?_⟩
      rw [dj (by omega)] at hc
      obtain rfl := Option.some.inj hc
      exact bl gT
    · refine ⟨small 4 (by omega), _, r4, ?_⟩
      rw [dj (by omega)] at hc
      obtain rfl := Option.some.inj hc
      exact ⟨by simp only [az, Jb1, small 5 (by omega)]; rfl, rfl, rfl⟩
    · refine ⟨small 5 (by omega), _, r5, ?_⟩
      rw [dj (by omega)] at hc
      obtain rfl := Option.some.inj hc
      show (eh _ _ j.lmap).map (cq φ1) = (eh _ _ j.lmap).map (cq φ')
      rw [rS, rS, Fe fj (small (16 + t) (by omega)).symm]
      congr 1
      refine List.map_congr_left λp hp => ?_
      unfold cq
      rw [dD (D := λi => 16 <= i ∧ i < 20) (λi hi => small i (by omega)) (qS p hp)]
    · refine ⟨small 8 (by omega), _, r8, ?_⟩
      rw [dj (by omega)] at hc
      replace hc : (if j.evl = 0 then none else some (ak.row true (L8.map (Ct.kept φ1)) 48 (some 8))) = some o1 := hc
      rw [if_neg oB] at hc
      obtain rfl := Option.some.inj hc
      exact ⟨(tp AE).symm, rfl, rfl⟩
    · refine ⟨small 12 (by omega), _, r12, ?_⟩
      rw [dj (by omega)] at hc
      obtain rfl := Option.some.inj hc
      exact Te _ _
    · rw [vm (by omega), if_pos ht] at hc
      replace hc : (s'.cur t).map (λo => bp t (65 + t) (24 + t) (j.jr t) o) = some o1 := hc
      rw [dU] at hc
      cases hc
    · rw [qD (by omega), if_pos ht, dU] at hc
      cases hc
    · rw [qE (by omega), if_pos ht, dU] at hc
      cases hc
    · refine ⟨small (16 + t) (by omega), _, r16, ?_⟩
      rw [oe (by omega)] at hc
      split at hc
      · obtain rfl := Option.some.inj hc
        exact bl (j9 K t)
      · cases hc
    · cases h
  · intro c o1 hL hc
    have Tq : jb t c = false := by
      simp only [iF, Bool.or_eq_false_iff] at hL
      exact hL.1.1
    obtain ⟨h1, h2⟩ := zS (φ := φ) (φ' := φ') hn nw nz Tq hc (old 12 (by omega) (by omega) (by omega) (by omega) (by omega) (by omega)) (λu hu bq => ⟨old (65 + u) (by omega) (by omega) (by omega) (by omega) (by omega) (by omega), old (81 + u) (by omega) (by omega) (by omega) (by omega) (by omega) (by omega), old (24 + u) (by omega) (by omega) (by omega) (by omega) (by omega) (by omega)⟩)
    refine ⟨?_, h1, h2⟩
    simp only [jb, Bool.or_eq_false_iff, beq_eq_false_iff_ne, ne_eq] at Tq
    rcases mC hn hc with hb | ⟨u, hu, rfl⟩ | ⟨u, hu, rfl⟩ | ⟨u, hu, rfl⟩ | ⟨u, hu, rfl⟩
    all_goals exact old _ (by omega) (by omega) (by omega) (by omega) (by omega) (by omega)
end
open Go.IntKind (i64 u64)
theorem dk {φ:bo} {l:List AV} {i:Nat} {k:IntKind} {n:Int} (h:l[i]?=some (.aa k n)):(l.map (Ct.kept φ))[i]?=some (.aa k n):=by rw [List.getElem?_map,h];rfl
theorem kept_get' {φ:bo} {l:List AV} {i:Nat} {k:IntKind} {n:Int} (h:l[i]?=some (.int k n)):(l.map (Ct.kept φ))[i]?=some (.aa k n):=by rw [List.getElem?_map,h];rfl
theorem ts {φ:bo} {l:List AV}: ∀ v∈l.map (Ct.kept φ),v.flat=true∧v.aD (λ_=>False):=λv hv=>by
 obtain ⟨u,_,rfl⟩:=List.mem_map.1 hv
 exact ⟨E8 u,E7 u⟩
theorem na {s:Qs} {u:Nat} {o:Op} (h:s.cur u=some o):busy s u=1:=by unfold busy;rw [h]
theorem oh {s s':Qs} {u:Nat} (h:s'.cur u=s.cur u):busy s u=busy s' u:=by unfold busy;rw [h]
theorem vn {s:Qs} {u:Nat} (h:s.cur u=none):busy s u=0:=by unfold busy;rw [h]
section
variable {K:KC} {s:Qs} {j:Jq} {k t:Nat} {φ1:bo} {o o':Op} {M':Mm}
theorem Rz (hj:kY K s j k) (ht:t<K.P.n) (dU:s.cur t=some o) (hk:k<=1000000) {L8:List AV} {stp:Int} (hL:EvT j.evs L8 (j.ats t) stp) {rI:Nat->Bool} {c' jn j2 j3:Nat->Int}:
  kY K { s with M:=M',cur:=Jb2 s.cur t (some o'),look:=s.look } (Xp j t φ1 (i64.wrap (j.aA+1)) (j.ats t) j.evl L8 j.inv rI c' j.own jn j2 j3) (k+1):=by
 obtain ⟨n1,n2⟩:=hj.aA
 have hE:=hj.evs
 have bq:s.cur t≠none:=by rw [dU];simp
 have O4: ∀ u,Jb2 s.cur t (some o') u≠none↔s.cur u≠none:=λu=>by
  by_cases e:u=t
  ·subst e;rw [aM];simp [dU]
  ·rw [aJ e]
 have ZY:bm j.ats t (j.ats t)=j.ats:=jR rfl
 refine ⟨?_,?_,⟨?_,ts,λi hi=> ?_,λi hi=> ?_,hE.inj,λu hu hc=> ?_⟩,hj.lm,hj.TL,hj.mD,hj.oth⟩
 ·show 0<=i64.wrap (j.aA+1)∧i64.wrap (j.aA+1)<=((k+1:Nat):Int)
  rw [nH (by omega) (by omega)];omega
 ·show j.evl=_
  rw [hj.evl]
  refine j6 _ λu hu=> ?_
  show s.pos u+busy s u=s.pos u+busy _ u
  congr 1
  by_cases e:u=t
  ·subst e
   rw [na dU]
   exact (na (o:=o') aM).symm
  ·exact oh (aJ e)
 ·show (L8.map _).length=8*j.evl
  rw [List.length_map,hL.len,hE.len]
 ·obtain ⟨r,FK,err,val,h0,h2,h3,h4,h5,h6⟩:=hE.ev i hi
  have ge: ∀ x,x≠8*j.ats t+3->L8[x]?=j.evs[x]?:=hL.oth
  have La: ∃ Sw,L8[8*i+3]?=some (.aa .i64 Sw):=by
   by_cases e:i=j.ats t
   ·subst e;exact ⟨_,hL.at_⟩
   ·exact ⟨FK,by rw [ge _ (by omega)];exact h3⟩
  obtain ⟨Sw,La⟩:=La
  exact ⟨r,Sw,err,val,dk (by rw [ge _ (by omega)];exact h0),dk (by rw [ge _ (by omega)];exact h2),dk La,dk (by rw [ge _ (by omega)];exact h4),dk (by rw [ge _ (by omega)];exact h5),h6⟩
 ·obtain ⟨q1,q2⟩:=hE.own i hi
  exact ⟨q1,q2.imp id λ⟨a,b⟩=>⟨a,(O4 _).2 b⟩⟩
 ·have:=hE.ats u hu ((O4 u).1 hc)
  show bm j.ats t (j.ats t) u<j.evl∧j.own (bm j.ats t (j.ats t) u)=_
  rw [ZY];exact this
theorem Ot (hn:K.P.n<=4) (hj:kY K s j k) (ht:t<K.P.n) (dU:s.cur t=some o) (hk:k<=1000000) (fj:s.pos t<K.nc t) {L8:List AV} {stp:Int} (hL:On j.evs L8 (j.ats t) stp j.aA (o'.err:Int) (o'.val:Int)) {rI:Nat->Bool} {c':Nat->Int} {left':Int}:
  kY K { M:=M',pos:=Jb2 s.pos t (s.pos t+1),cur:=Jb2 s.cur t none,look:=s.look,out:=Jb2 s.out t (Jb2 (s.out t) (s.pos t) (o'.err,o'.val)) } (Ry j t φ1 (i64.wrap (j.aA+1)) L8 rI c' left' (eh (t:Int) (pt t (s.pos t+1) (K.nc t)) j.lmap)) (k+1):=by
 obtain ⟨n1,n2⟩:=hj.aA
 have hE:=hj.evs
 have bq:s.cur t≠none:=by rw [dU];simp
 obtain ⟨at1,TN⟩:=hE.ats t ht bq
 have xj:i64.wrap (j.aA+1)=j.aA+1:=nH (by omega) (by omega)
 have pos': ∀ u,Jb2 s.pos t (s.pos t+1) u=if u=t then s.pos t+1 else s.pos u:=λu=>by rw [wb]
 refine ⟨?_,?_,⟨?_,ts,λi hi=> ?_,λi hi=> ?_,hE.inj,λu hu hc=> ?_⟩,λu hu hc=> ?_,λx hx=> ?_,?_,hj.oth⟩
 ·show 0<=i64.wrap (j.aA+1)∧i64.wrap (j.aA+1)<=((k+1:Nat):Int)
  rw [xj];omega
 ·show j.evl=_
  rw [hj.evl]
  refine j6 _ λu hu=> ?_
  show s.pos u+busy s u=Jb2 s.pos t (s.pos t+1) u+busy _ u
  by_cases e:u=t
  ·subst e
   rw [na dU,aM]
   have:busy { M:=M',pos:=Jb2 s.pos u (s.pos u+1),cur:=Jb2 s.cur u none,look:=s.look,out:=Jb2 s.out u (Jb2 (s.out u) (s.pos u) (o'.err,o'.val)) } u=0:=vn aM
   rw [this]
  ·rw [aJ e]
   congr 1
   exact oh (aJ e)
 ·show (L8.map _).length=8*j.evl
  rw [List.length_map,hL.len,hE.len]
 ·obtain ⟨r,FK,err,val,h0,h2,h3,h4,h5,h6⟩:=hE.ev i hi
  have ge: ∀ x,x<8*j.ats t+2∨8*j.ats t+8<=x->L8[x]?=j.evs[x]?:=hL.oth
  by_cases e:i=j.ats t
  ·subst e
   refine ⟨_,_,_,_,dk (by rw [ge _ (by omega)];exact h0),dk hL.j8,dk hL.stp,dk hL.err,dk hL.val,λ_=> ?_⟩
   rw [xj]
   refine ⟨by omega,?_,?_⟩
   ·show _=((Jb2 s.out t (Jb2 (s.out t) (s.pos t) (o'.err,o'.val)) (j.own (j.ats t)).1 (j.own (j.ats t)).2).1:Int)
    rw [TN]
    show _=((Jb2 s.out t _ t (s.pos t)).1:Int)
    rw [aM,aM]
   ·show _=((Jb2 s.out t (Jb2 (s.out t) (s.pos t) (o'.err,o'.val)) (j.own (j.ats t)).1 (j.own (j.ats t)).2).2:Int)
    rw [TN]
    show _=((Jb2 s.out t _ t (s.pos t)).2:Int)
    rw [aM,aM]
  ·refine ⟨r,FK,err,val,dk (by rw [ge _ (by omega)];exact h0),dk (by rw [ge _ (by omega)];exact h2),dk (by rw [ge _ (by omega)];exact h3),dk (by rw [ge _ (by omega)];exact h4),dk (by rw [ge _ (by omega)];exact h5),λdA=> ?_⟩
   have ZQ:j.own i≠(t,s.pos t):=λh=>e (hE.inj i _ hi at1 (h.trans TN.symm))
   replace dA:(j.own i).2<Jb2 s.pos t (s.pos t+1) (j.own i).1:=dA
   rw [pos'] at dA
   show r≠0∧err=((Jb2 s.out t (Jb2 (s.out t) (s.pos t) (o'.err,o'.val)) (j.own i).1 (j.own i).2).1:Int)∧val=((Jb2 s.out t (Jb2 (s.out t) (s.pos t) (o'.err,o'.val)) (j.own i).1 (j.own i).2).2:Int)
   by_cases ht2:(j.own i).1=t
   ·rw [if_pos ht2] at dA
    have hp:(j.own i).2≠s.pos t:=λh=>ZQ (Prod.ext ht2 h)
    have:=h6 (by rw [ht2];omega)
    rw [ht2] at this ⊢
    rw [aM,aJ hp];exact this
   ·rw [if_neg ht2] at dA
    rw [aJ ht2];exact h6 dA
 ·obtain ⟨q1,q2⟩:=hE.own i hi
  refine ⟨q1,?_⟩
  show (j.own i).2<Jb2 s.pos t (s.pos t+1) (j.own i).1∨((j.own i).2=Jb2 s.pos t (s.pos t+1) (j.own i).1∧Jb2 s.cur t none (j.own i).1≠none)
  rw [pos']
  by_cases ht2:(j.own i).1=t
  ·rw [if_pos ht2]
   rw [ht2] at q2
   exact .inl (by rcases q2 with h | ⟨h,_⟩<;>omega)
  ·rw [if_neg ht2,aJ ht2];exact q2
 ·have hut:u≠t:=λe=>hc (by rw [e];exact aM)
  replace hc:Jb2 s.cur t none u≠none:=hc
  rw [aJ hut] at hc
  have:=hE.ats u hu hc
  show j.ats u<j.evl∧j.own (j.ats u)=(u,Jb2 s.pos t (s.pos t+1) u)
  rw [aJ hut];exact this
 ·show cR (u:Int) (eh (t:Int) (pt t (s.pos t+1) (K.nc t)) j.lmap)=some (pt u (Jb2 s.pos t (s.pos t+1) u) (K.nc u))
  by_cases e:u=t
  ·subst e;rw [tr,aM]
  ·rw [jm (by omega),aJ e];exact hj.lm u hu hc
 ·show cR x (eh (t:Int) (pt t (s.pos t+1) (K.nc t)) j.lmap)=none
  rw [jm (hx t ht (by omega))];exact hj.TL x hx
 ·exact sB (D:=λi=>16<=i∧i<20) (v:=pt t (s.pos t+1) (K.nc t)) ⟨by omega,by omega⟩ hj.mD
theorem Ff (hn:K.P.n<=4) (hj:kY K s j k) (ht:t<K.P.n) (dU:s.cur t=none) (hk:k<=1000000) {L8:List AV} (hL:X1 j.evs L8 j.evl (K.at_ t (s.pos t))) {rI:Nat->Bool} {c' jn j2 j3 inv':Nat->Int} {look':Nat->Nat}:
  kY K { s with M:=M',cur:=Jb2 s.cur t (some o'),look:=look' } (Xp j t φ1 (i64.wrap (j.aA+1)) j.evl (j.evl+1) L8 inv' rI c' (Jb2 j.own j.evl (t,s.pos t)) jn j2 j3) (k+1):=by
 obtain ⟨n1,n2⟩:=hj.aA
 have hE:=hj.evs
 have xj:i64.wrap (j.aA+1)=j.aA+1:=nH (by omega) (by omega)
 have O4: ∀ u,s.cur u≠none->Jb2 s.cur t (some o') u≠none:=λu h=>by
  by_cases e:u=t
  ·subst e;rw [aM];simp
  ·rw [aJ e];exact h
 have WC: ∀ i,i<j.evl->j.own i≠(t,s.pos t):=λi hi h=>by
  obtain ⟨_,q⟩:=hE.own i hi
  rw [h] at q
  rcases q with q | ⟨_,q⟩
  ·exact absurd q (Nat.lt_irrefl _)
  ·exact q dU
 refine ⟨?_,?_,⟨?_,ts,λi hi=> ?_,λi hi=> ?_,λi x hi hx h=> ?_,λu hu hc=> ?_⟩,hj.lm,hj.TL,hj.mD,hj.oth⟩
 ·show 0<=i64.wrap (j.aA+1)∧i64.wrap (j.aA+1)<=((k+1:Nat):Int)
  rw [xj];omega
 ·show j.evl+1=_
  rw [hj.evl]
  have h1:=zo (λu=>s.pos u+busy s u) t (s.pos t+1) K.P.n ht
  have h2:gU K.P.n (bm (λu=>s.pos u+busy s u) t (s.pos t+1))=gU K.P.n (λu=>s.pos u+busy { s with M:=M',cur:=Jb2 s.cur t (some o'),look:=look' } u):=j6 _ λu hu=>by
   rw [cu]
   by_cases e:u=t
   ·subst e
    rw [if_pos rfl]
    have:busy { s with M:=M',cur:=Jb2 s.cur u (some o'),look:=look' } u=1:=na (o:=o') aM
    rw [this]
   ·rw [if_neg e]
    congr 1
    exact oh (aJ e)
  have h3:s.pos t+busy s t=s.pos t:=by rw [vn dU];rfl
  rw [h2] at h1
  have xE:gU K.P.n (λu=>s.pos u+busy { s with M:=M',cur:=Jb2 s.cur t (some o'),look:=look' } u)+(s.pos t+busy s t)=gU K.P.n (λu=>s.pos u+busy s u)+(s.pos t+1):=h1
  rw [h3] at xE
  show _=gU K.P.n (λu=>s.pos u+busy { s with M:=M',cur:=Jb2 s.cur t (some o'),look:=look' } u)
  omega
 ·show (L8.map _).length=8*(j.evl+1)
  rw [List.length_map,hL.len]
 ·replace hi:i<j.evl+1:=hi
  show ∃ (r stp err val:Int),(L8.map (Ct.kept φ1))[8*i]?=some (.aa .i64 (K.at_ (Jb2 j.own j.evl (t,s.pos t) i).1 (Jb2 j.own j.evl (t,s.pos t) i).2:Nat))∧(L8.map (Ct.kept φ1))[8*i+2]?=some (.aa .i64 r)∧(L8.map (Ct.kept φ1))[8*i+3]?=some (.aa .i64 stp)∧
   (L8.map (Ct.kept φ1))[8*i+4]?=some (.aa .i64 err)∧(L8.map (Ct.kept φ1))[8*i+5]?=some (.aa .u64 val)∧((Jb2 j.own j.evl (t,s.pos t) i).2<s.pos (Jb2 j.own j.evl (t,s.pos t) i).1->r≠0∧err=((s.out (Jb2 j.own j.evl (t,s.pos t) i).1 (Jb2 j.own j.evl (t,s.pos t) i).2).1:Nat)∧val=((s.out (Jb2 j.own j.evl (t,s.pos t) i).1 (Jb2 j.own j.evl (t,s.pos t) i).2).2:Nat))
  by_cases e:i=j.evl
  ·subst e
   rw [aM]
   obtain ⟨x,hx⟩:=hL.stp
   exact ⟨0,x,0,0,dk hL.call,kept_get' hL.j8,kept_get' hx,kept_get' hL.err,kept_get' hL.val,λh=>absurd h (Nat.lt_irrefl _)⟩
  ·rw [aJ e]
   obtain ⟨r,FK,err,val,h0,h2,h3,h4,h5,h6⟩:=hE.ev i (by omega)
   exact ⟨r,FK,err,val,dk (by rw [hL.oth _ (by omega)];exact h0),dk (by rw [hL.oth _ (by omega)];exact h2),dk (by rw [hL.oth _ (by omega)];exact h3),dk (by rw [hL.oth _ (by omega)];exact h4),dk (by rw [hL.oth _ (by omega)];exact h5),h6⟩
 ·replace hi:i<j.evl+1:=hi
  show (Jb2 j.own j.evl (t,s.pos t) i).1<K.P.n∧((Jb2 j.own j.evl (t,s.pos t) i).2<s.pos (Jb2 j.own j.evl (t,s.pos t) i).1∨((Jb2 j.own j.evl (t,s.pos t) i).2=s.pos (Jb2 j.own j.evl (t,s.pos t) i).1∧Jb2 s.cur t (some o') (Jb2 j.own j.evl (t,s.pos t) i).1≠none))
  by_cases e:i=j.evl
  ·subst e
   rw [aM]
   exact ⟨ht,.inr ⟨rfl,by show Jb2 s.cur t (some o') t≠none;rw [aM];simp⟩⟩
  ·rw [aJ e]
   obtain ⟨q1,q2⟩:=hE.own i (by omega)
   exact ⟨q1,q2.imp id λ⟨a,b⟩=>⟨a,O4 _ b⟩⟩
 ·replace hi:i<j.evl+1:=hi
  replace hx:x<j.evl+1:=hx
  replace h:Jb2 j.own j.evl (t,s.pos t) i=Jb2 j.own j.evl (t,s.pos t) x:=h
  by_cases e:i=j.evl<;>by_cases e2:x=j.evl
  ·rw [e,e2]
  ·rw [e,aM,aJ e2] at h;exact absurd h.symm (WC x (by omega))
  ·rw [e2,aM,aJ e] at h;exact absurd h (WC i (by omega))
  ·rw [aJ e,aJ e2] at h;exact hE.inj i x (by omega) (by omega) h
 ·show bm j.ats t j.evl u<j.evl+1∧Jb2 j.own j.evl (t,s.pos t) (bm j.ats t j.evl u)=(u,s.pos u)
  rw [cu]
  by_cases e:u=t
  ·subst e;rw [if_pos rfl,aM];exact ⟨by omega,rfl⟩
  ·rw [if_neg e]
   replace hc:Jb2 s.cur t (some o') u≠none:=hc
   rw [aJ e] at hc
   obtain ⟨q1,q2⟩:=hE.ats u hu hc
   rw [aJ (by omega)];exact ⟨by omega,q2⟩
end
section
variable {κ:Ev.dE}
def zU (κ:Ev.dE) (K:KC) (k:Nat) (φ:bo) (oth:Nat->Option ak) (s':Qs):Ending->World->Prop:=λe w'=>
 ∃ (φ':bo) (j':Jq) (b:Bool),e= .returned (.bool b)∧(∀ i,i=0∨i=6∨i=7∨(12<i∧i<16)->φ' i=φ i)∧cz κ (b7 K s' j') φ' w'∧kY K s' j' (k+1)∧j'.oth=oth
def fX (t i:Nat):Nat:=if i=32 then 33+t else if i=64 then 65+t else if i=80 then 81+t else if i=48 then 24+t else i
theorem mF {t i:Nat} (h1:i≠32) (h2:i≠64) (h3:i≠80) (h4:i≠48):fX t i=i:=by unfold fX;rw [if_neg h1,if_neg h2,if_neg h3,if_neg h4]
theorem BR {t:Nat}:fX t 32=33+t:=if_pos rfl
theorem BS {t:Nat}:fX t 64=65+t:=by unfold fX;rw [if_neg (by omega),if_pos rfl]
theorem BT {t:Nat}:fX t 80=81+t:=by unfold fX;rw [if_neg (by omega),if_neg (by omega),if_pos rfl]
theorem RA {t:Nat}:fX t 48=24+t:=by unfold fX;rw [if_neg (by omega),if_neg (by omega),if_neg (by omega),if_pos rfl]
theorem wO {D:Nat->Prop} {ob cl turn E wd:AV} {m a cn:Nat->AV} {idle:Int} (h1:D 1) (h4:D 4) (YU:ob.aD D) (jV:cl.aD D) (ht:turn.aD D) (hm: ∀ u,u<16->(m u).aD D) (ha: ∀ u,u<16->(a u).aD D) (hE:E.aD D) (Gc:wd.aD D) (AS: ∀ i,(cn i).aD D):
  (ak.row false (PK ob cl turn m a E wd cn idle) 83 none).aD D:=by
 show aR D _
 unfold PK
 exact all_append (all_append ⟨h1,YU,jV,h4,ht,trivial⟩ (E9 hm ha)) ⟨hE,Gc,AS 0,AS 1,AS 2,AS 3,AS 4,AS 5,trivial,trivial⟩
theorem zV {D:Nat->Prop} {aA:Int} {inv af:Nat->AV} (h2:D 2) (kN:D 10) (hi: ∀ u,u<16->(inv u).aD D) (hm: ∀ u,u<16->(af u).aD D):(wW aA inv af).aD D:=by
 show aR D (WL aA inv af)
 unfold WL
 exact all_append (all_append (all_append ⟨h2,trivial,trivial⟩ (jl hi)) (jl hm)) ⟨kN,trivial⟩
theorem jS {D:Nat->Prop} {j:Jq} (h: ∀ u,u<4->D (49+u)) (u:Nat):(dB j u).aD D:=by
 unfold dB
 split
 ·rename_i hh
  have h4:u<4:=by simp only [Bool.and_eq_true,decide_eq_true_eq] at hh;exact hh.1
  exact h u h4
 ·trivial
theorem kH {P:cv} {s:Qs}:(iq P (ct s)).aD (λ_=>False):=by
 show aR _ ([AV.aa .i64 0,.aa .i64 (P.n:Nat),.aa .i64 (P.k:Nat),.aa .i64 (P.att:Nat)]++cP (ct s))
 exact all_append ⟨trivial,trivial,trivial,trivial,trivial⟩ (jl λu _=>trivial)
theorem bJ {D:Nat->Prop} {o:ak} (h:o.aD (λ_=>False)):o.aD D:=h.mono λ_ h=>h.elim
def mG (H:Nat->Option ak) (φ:bo) (ρ:Nat->Nat) (p:Nat×ak):Prop:=p.1<96∧p.2.aD (· < 96)∧ ∃ o0,H (ρ p.1)=some o0∧bW φ (λi=>φ (ρ i)) o0 p.2
theorem jo {H:Nat->Option ak} {φ:bo} {t c:Nat} {o:ak} {D:Nat->Prop} (h:H c=some o) (hc:c<32) (ho:o.aD D) (hD: ∀ i,D i->i<32∨(49<=i∧i<64)):mG H φ (fX t) (c,o):=
 ⟨by show c<96;omega,ho.mono λi hi=>by have:=hD i hi;omega,o,by show H (fX t c)=_;rw [mF (by omega) (by omega) (by omega) (by omega)];exact h,pj ho λi hi=>by
  have:=hD i hi
  show φ (fX t i)=φ i
  rw [mF (by omega) (by omega) (by omega) (by omega)]⟩
section
variable {K:KC} {s:Qs} {j:Jq} {k t:Nat} {φ:bo} {o:Op}
def rq (K:KC) (s:Qs) (j:Jq) (t:Nat) (o:Op):List (Nat×ak):=
 [(0,.row false (PK wF (Fa K) (.aa .i64 j.turn) (bm (mK s) t (.iface 283 (.ptr 32 0))) (bm (λu=> .aa .i64 (j.ats u:Nat)) t (.aa .i64 (j.ats t:Nat))) (.ae 8 8 0 0 j.evl j.evl) .au (λi=> .aa .i64 (j.cn i)) j.idle) 83 none),(1,wW j.aA (λu=> .aa .i64 (j.inv u)) (dB j)),(2,mR K.P j.c),(3,Jb5 (aG K.P s.M)),(4,.row false [.ed 5,.aa .i64 j.left] 113 none),(5,.map true j.lmap),(16+t,.row true (K.lst t) 3 (some 1)),(8,.row true j.evs 48 (some 8)),(12,iq K.P (ct s)),(32,bp t 64 48 (j.jr t) o)]
theorem Fg (hn:K.P.n<=4) (ht:t<K.P.n) (dU:s.cur t=some o) (Mn:K.nc t≠0) (hj:kY K s j k) (oB:j.evl≠0): ∀ p∈rq K s j t o++iX K.P (j.j2 t) (j.j3 t) o.st,mG (b7 K s j) φ (fX t) p:=by
 have eN: ∀ c o1,c<16->Fb K s j c=some o1->b7 K s j c=some o1:=λc o1 hc h=>by rw [dj hc];exact h
 have LM: ∀ p∈iX K.P (j.j2 t) (j.j3 t) o.st,mG (b7 K s j) φ (fX t) p:=by
  have WH: ∀ o1,wG K.P j t o.st=some o1->b7 K s j (fX t 64)=some o1:=λo1 h=>by
   rw [BS,qD (by omega),if_pos ht,dU];exact h
  have ZW: ∀ o1,wH K.P j t o.st=some o1->b7 K s j (fX t 80)=some o1:=λo1 h=>by
   rw [BT,qE (by omega),if_pos ht,dU];exact h
  revert WH ZW
  cases o.st with
  | sub x f=>
   cases x with
   | fn q=>
    intro WH _ p hp
    have hp:p∈[(64,bk K.P (j.j2 t) q)]:=hp
    simp only [List.mem_singleton] at hp
    subst hp
    exact ⟨by show 64<96;omega,dY,_,WH _ rfl,bl m9⟩
   | hp take u ph q=>
    intro WH ZW
    have fI:mG (b7 K s j) φ (fX t) (64,aY K.P 80 (j.j2 t) take u ph q):=⟨by show 64<96;omega,dh (λ_=>by show 80<96;omega),_,WH _ rfl,wM (λ_=>by show φ (fX t 80)=_;rw [BT])⟩
    cases q with
    | sub f2 ov=>
     intro p hp
     have hp:p∈[(64,aY K.P 80 (j.j2 t) take u ph (.sub f2 ov)),(80,bk K.P (j.j3 t) f2)]:=hp
     simp only [List.mem_cons,List.not_mem_nil,or_false] at hp
     rcases hp with rfl | rfl
     ·exact fI
     ·exact ⟨by show 80<96;omega,dY,_,ZW _ rfl,bl m9⟩
    | _=>
     intro p hp
     replace hp:=List.mem_singleton.1 hp
     subst hp
     exact fI
  | _=>exact λ_ _ p hp=>by cases hp
 have Ls: ∀ p∈rq K s j t o,mG (b7 K s j) φ (fX t) p:=by
  refine ab ?_<|ab ?_<|ab ?_<|ab ?_<|ab ?_<|ab ?_<|ab ?_<|ab ?_<|ab ?_<|ab ?_ aC
  ·refine ⟨by show 0<96;omega,wO (by omega) (by omega) (by show 9<96;omega) (by show 7<96;omega) trivial (λu hu=> ?_) (λu hu=> ?_) (by show 8<96;omega) trivial (λi=>trivial),Xo K s j,eN 0 _ (by omega) rfl,?_⟩
   ·rw [cu]
    split
    ·show 32<96;omega
    ·unfold mK;split
     ·show 33+u<96;omega
     ·trivial
   ·rw [cu];split<;>trivial
   ·refine wJ rfl rfl rfl rfl rfl (λu hu=> ?_) (λu hu=> ?_) ?_ rfl (λi=>rfl)
    ·rw [cu]
     unfold mK
     by_cases e:u=t
     ·subst e
      rw [if_pos rfl,dU,decide_eq_true (show u<4 by omega)]
      simp only [Option.isSome,Bool.and_true,Jb1,BR]
     ·rw [if_neg e]
      split
      ·rename_i h
       have h4:u<4:=by simp only [Bool.and_eq_true,decide_eq_true_eq] at h;exact h.1
       simp only [Jb1]
       rw [mF (by omega) (by omega) (by omega) (by omega)]
      ·rfl
    ·rw [cu]
     split
     ·rename_i e;rw [e];rfl
     ·rfl
    ·show Jb1 φ (if j.evl=0 then .au else .ae 8 8 0 0 j.evl j.evl)=_
     rw [if_neg oB]
     exact cI rfl
  ·exact jo (D:=λi=>i=2∨i=10∨(49<=i∧i<53)) (eN 1 _ (by omega) rfl) (by omega) (zV (.inl rfl) (.inr (.inl rfl)) (λu _=>trivial) (λu _=>jS (λv hv=>by show _∨_∨_;omega) u)) (λi hi=>by omega)
  ·exact jo (D:=λi=>i=3) (eN 2 _ (by omega) rfl) (by omega) (dK rfl) (λi hi=>by omega)
  ·exact jo (D:=λ_=>False) (eN 3 _ (by omega) rfl) (by omega) gT (λi hi=>hi.elim)
  ·exact jo (D:=λi=>i=5) (eN 4 _ (by omega) rfl) (by omega) ⟨rfl,trivial,trivial⟩ (λi hi=>by omega)
  ·exact jo (D:=λi=>16<=i∧i<20) (eN 5 _ (by omega) rfl) (by omega) hj.mD (λi hi=>by omega)
  ·exact jo (D:=λ_=>False) (by rw [oe (by omega),if_pos ⟨ht,Mn⟩]) (by omega) (j9 K t) (λi hi=>hi.elim)
  ·exact jo (D:=λ_=>False) (eN 8 _ (by omega) (if_neg oB)) (by omega) (pq hj.evs) (λi hi=>hi.elim)
  ·exact jo (D:=λ_=>False) (eN 12 _ (by omega) rfl) (by omega) kH (λi hi=>hi.elim)
  ·refine ⟨by show 32<96;omega,ve (by omega) (λ_ _ _=>by omega) (λ_=>by omega),bp t (65+t) (24+t) (j.jr t) o,?_,wL rfl (λ_=>by show φ (fX t 64)=_;rw [BS]) (λ_=>by show φ (fX t 48)=_;rw [RA])⟩
   show b7 K s j (fX t 32)=_
   rw [BR,vm (by omega),if_pos ht]
   unfold Uw
   rw [dU];rfl
 intro p hp
 exact (List.mem_append.1 hp).elim (Ls p) (LM p)
theorem Jc5 (P:cv) (j2 j3:Nat->Int) (st:Os):iX P j2 j3 st=[]∨(∃ x,iX P j2 j3 st=[(64,x)])∨ ∃ x z,iX P j2 j3 st=[(64,x),(80,z)]:=by
 cases st with
 | sub x f=>
  cases x with
  | fn q=>exact .inr (.inl ⟨_,rfl⟩)
  | hp take u ph q=>
   cases q with
   | sub f2 ov=>exact .inr (.inr ⟨_,_,rfl⟩)
   | _=>exact .inr (.inl ⟨_,rfl⟩)
 | _=>exact .inl rfl
theorem DA (P:cv) (j2 j3:Nat->Int) (st:Os): ∀ x∈iX P j2 j3 st,x.1=64∨x.1=80:=by
 rcases Jc5 P j2 j3 st with h | ⟨x,h⟩ | ⟨x,z,h⟩
 ·rw [h];exact aC
 ·rw [h];exact ab (.inl rfl) aC
 ·rw [h];exact ab (.inl rfl) (ab (.inr rfl) aC)
theorem BU: ∀ p∈rq K s j t o++iX K.P (j.j2 t) (j.j3 t) o.st,p.1=0∨p.1=1∨p.1=2∨p.1=3∨p.1=4∨p.1=5∨p.1=16+t∨p.1=8∨p.1=12∨p.1=32∨p.1=64∨p.1=80:=by
 intro p hp
 rcases List.mem_append.1 hp with hp | hp
 ·simp only [rq,List.mem_cons,List.not_mem_nil,or_false] at hp
  rcases hp with rfl | rfl | rfl | rfl | rfl | rfl | rfl | rfl | rfl | rfl<;>omega
 ·have:=DA _ _ _ _ p hp;omega
end
end
section
open Go.Proofs.Tryz (prog)
variable {κ:Ev.dE}
theorem BV (K:KC) {t p:Nat} (h:p<K.nc t):(K.lst t)[p]?=some (.aa .i64 (K.at_ t p:Nat)):=by
 unfold KC.lst KC.at_
 have h':p<(K.ix t).length:=h
 rw [List.getElem?_map,List.getElem?_eq_getElem h'];rfl
theorem Ou {t:Nat} (ht:t<4) {b c:Nat} (hb:b<32∨b=32∨b=64∨b=80) (hc:c<32∨c=32∨c=64∨c=80) (h:fX t b=fX t c):b=c:=by
 unfold fX at h
 repeat' split at h
 all_goals omega
theorem vo {t b:Nat} (hb:b=0∨b=1∨b=2∨b=3∨b=4∨b=5∨b=16+t∨b=8∨b=12∨b=32∨b=64∨b=80) (ht:t<4):iF t false (fX t b)=true:=by
 have key: ∀ c,c=0∨c=1∨c=2∨c=3∨c=4∨c=5∨c=8∨c=12∨c=33+t∨c=65+t∨c=81+t∨c=16+t->iF t false c=true:=λc hc=>by
  unfold iF jb
  simp only [Bool.or_eq_true,beq_iff_eq,Bool.false_and]
  rcases hc with h | h | h | h | h | h | h | h | h | h | h | h<;>simp [h]
 rcases hb with h | h | h | h | h | h | h | h | h | h | h | h
 ·subst h;exact key _ (.inl rfl)
 ·subst h;exact key _ (.inr (.inl rfl))
 ·subst h;exact key _ (.inr (.inr (.inl rfl)))
 ·subst h;exact key _ (.inr (.inr (.inr (.inl rfl))))
 ·subst h;exact key _ (.inr (.inr (.inr (.inr (.inl rfl)))))
 ·subst h;exact key _ (.inr (.inr (.inr (.inr (.inr (.inl rfl))))))
 ·rw [h,mF (by omega) (by omega) (by omega) (by omega)];exact key _ (by omega)
 ·subst h;exact key _ (by rw [mF (by omega) (by omega) (by omega) (by omega)];omega)
 ·subst h;exact key _ (by rw [mF (by omega) (by omega) (by omega) (by omega)];omega)
 ·subst h;rw [BR];exact key _ (by omega)
 ·subst h;rw [BS];exact key _ (by omega)
 ·subst h;rw [BT];exact key _ (by omega)
theorem zW {P:cv} {j:Jq} {marks':Nat->AV} (hn:P.n<=4) (h:marks'=dB j∨ ∃ u,u<P.n∧marks'=Jb2 (dB j) u eV):
  ∃ (mu:Nat) (rI:Nat->Bool),(mu<4∨mu=1000)∧(∀ u,u<16->marks' u=match decide (u<4)&&rI u with | true=> .aF (if u=mu then 98 else 49+u) 1 0 0 1 1 | false=> .au):=by
 rcases h with rfl | ⟨u,hu,rfl⟩
 ·refine ⟨1000,j.af,.inr rfl,λv hv=> ?_⟩
  unfold dB
  split
  ·rename_i hh;rw [hh];show _=AV.aF (if v=1000 then 98 else 49+v) 1 0 0 1 1;rw [if_neg (by omega)]
  ·rename_i hh;rw [hh]
 ·refine ⟨u,Jb2 j.af u true,.inl (by omega),λv hv=> ?_⟩
  by_cases e:v=u
  ·subst e
   rw [aM,aM,decide_eq_true (show v<4 by omega)]
   simp [eV]
  ·rw [aJ e,aJ e]
   unfold dB
   split
   ·rename_i hh;rw [hh];show _=AV.aF (if v=u then 98 else 49+v) 1 0 0 1 1;rw [if_neg e]
   ·rename_i hh;rw [hh]
theorem RB {P:cv} {j:Jq} {marks':Nat->AV} {t:Nat} (ht:t<P.n) (h:marks'=dB j∨ ∃ u,u<P.n∧marks'=Jb2 (dB j) u eV):(∃ m2,marks'=bm m2 t .au)∨ ∃ m2 mb,marks'=bm m2 t (.aF mb 1 0 0 1 1):=by
 have key:marks' t= .au∨ ∃ mb,marks' t= .aF mb 1 0 0 1 1:=by
  have mk:dB j t= .au∨ ∃ mb,dB j t= .aF mb 1 0 0 1 1:=by
   unfold dB
   split
   ·exact .inr ⟨_,rfl⟩
   ·exact .inl rfl
  rcases h with rfl | ⟨u,hu,rfl⟩
  ·exact mk
  ·by_cases e:t=u
   ·subst e;rw [aM];exact .inr ⟨98,rfl⟩
   ·rw [aJ e];exact mk
 rcases key with h | ⟨mb,h⟩
 ·exact .inl ⟨marks',(jR h).symm⟩
 ·exact .inr ⟨marks',mb,(jR h).symm⟩
section
variable {K:KC} {s:Qs} {j:Jq} {k t b:Nat} {φ:bo} {w:World} {o:Op}
theorem Ov (hP:PB K.P) (iN:K.P.n<=4) (hb:b<524288) (bi:BI K.P b s.M) (ht:t<K.P.n) (dU:s.cur t=some o) (hc:m6 K.P b t o) (tb:pL K.P s.M t o) (hj:kY K s j k) (hk:k<=1000000) (fj:s.pos t<K.nc t) (bx:cz κ (b7 K s j) φ w):
  Calls prog 22 #[Jb1 φ (.ptr 0 0),.int .i64 (t:Int)] w (zU κ K k φ j.oth (s.step K.P K.V K.kd t)):=by
 have xj:s.aA K.V K.kd t=o:=by unfold Qs.aA;rw [dU];rfl
 have tX:s.look' K.P t=s.look:=by unfold Qs.look';rw [dU];rfl
 have Mn:K.nc t≠0:=by omega
 have hE:=hj.evs
 obtain ⟨at1,TN⟩:=hE.ats t ht (by rw [dU];simp)
 have oB:j.evl≠0:=by omega
 obtain ⟨_,stp,_,_,_,_,FO,_⟩:=hE.ev _ at1
 have lg:=hj.lm t ht Mn
 rw [if_neg (by omega)] at lg
 have hW: ∀ aA,(wW aA (λu=> .aa .i64 (j.inv u)) (dB j)).aD (λi=>i<96∧i≠64):=λaA=>zV (by omega) (by omega) (λu _=>trivial) (λu _=>jS (λv hv=>by omega) u)
 have YX: ∀ x∈iX K.P (j.j2 t) (j.j3 t) o.st,x.1<96:=λx hx=>by have:=DA _ _ _ _ x hx;omega
 obtain ⟨c',row',subs',marks',aN,hp,ho,lN⟩:=Dk (Ji hP iN hb bi hc tb (j.jr t) (j.j2 t) (j.j3 t) (ct s) (i64.wrap (j.aA+1)) (λu=> .aa .i64 (j.inv u)) (dB j) j.c ((hW _).mono λi hi=>hi.2)) YX (bJ kH) ((hW _).mono λi hi=>hi.1)
 have ij:=gu dx (l:=[(231,_)]) (λx hx=>by
  simp only [List.mem_cons,List.not_mem_nil,or_false] at hx
  subst hx;exact hp)
 obtain ⟨mu,rI,Pc,AU⟩:=zW iN ho.mark
 have et:az (λi=>φ (fX t i)) [.ptr 0 0,.int .i64 (t:Int)]=[Jb1 φ (.ptr 0 0),.int .i64 (t:Int)]:=by
  simp only [az,Jb1];rw [mF (by omega) (by omega) (by omega) (by omega)]
 have vC: ∀ oo c o1,St.get ⟨mk (rq K s j t o++iX K.P (j.j2 t) (j.j3 t) o.st),96,0,0,True,oo⟩ c=some o1->c<96∧o1.aD (· < 96)∧ ∃ o0,b7 K s j (fX t c)=some o0∧bW φ (λi=>φ (fX t i)) o0 o1:=λoo c o1 h=>Fg iN ht dU Mn hj oB _ (kJ h)
 have qU: ∀ oo c o1,St.get ⟨mk (rq K s j t o++iX K.P (j.j2 t) (j.j3 t) o.st),96,0,0,True,oo⟩ c=some o1->c=0∨c=1∨c=2∨c=3∨c=4∨c=5∨c=16+t∨c=8∨c=12∨c=32∨c=64∨c=80:=λoo c o1 h=>BU _ (kJ h)
 have QC: ∀ oo b c x y,St.get ⟨mk (rq K s j t o++iX K.P (j.j2 t) (j.j3 t) o.st),96,0,0,True,oo⟩ b=some x->St.get ⟨mk (rq K s j t o++iX K.P (j.j2 t) (j.j3 t) o.st),96,0,0,True,oo⟩ c=some y->fX t b=fX t c->b=c:=λoo b c x y hb hc h=>Ou (by omega) (by have:=qU oo b x hb;omega) (by have:=qU oo c y hc;omega) h
 have fD: ∀ (φ1:bo) (nx:Nat),(∀ i,¬ (96<=i∧i<nx)->φ1 i=φ (fX t i))-> ∀ i,i<96->i≠32->i≠64->i≠80->i≠48->φ1 i=φ i:=λφ1 nx hA i h0 h1 h2 h3 h4=>by
  rw [hA i (by omega),mF h1 h2 h3 h4]
 cases hd:(aj K.P s.M t o).2.2 with
 | false=>
  rw [hd] at hp ho ij
  have AR:s.step K.P K.V K.kd t={ s with M:=(aj K.P s.M t o).1,cur:=Jb2 s.cur t (some (aj K.P s.M t o).2.1),look:=s.look }:=by
   unfold Qs.step
   rw [xj,tX]
   revert hd
   generalize aj K.P s.M t o=r
   obtain ⟨M',o',b⟩:=r
   intro hd
   cases hd
   rfl
  rw [AR]
  obtain ⟨oo,s1,cW,aQ,eP,oy⟩:=Rx (by omega) (ob:=wF) (cl:=Fa K) (turn:= .aa .i64 j.turn) (m:=mK s) (ats:=λu=> .aa .i64 (j.ats u:Nat)) (at_:=j.ats t) (wd:= .au) (cn:=λi=> .aa .i64 (j.cn i)) (idle:=j.idle) (aA:=j.aA) (inv:=λu=> .aa .i64 (j.inv u)) (af:=dB j) (marks2:=marks') (evl:=j.evl) (evs:=j.evs) (left:=j.left) (lmap:=j.lmap) (lst:=K.lst t) (lk:=s.pos t) (ll:=K.nc t-s.pos t) (lt:=K.nc t) (call:=(K.at_ t (s.pos t):Nat)) (stp:=stp) (xr:=bp t 64 48 (j.jr t) o) (yr:=row') (xm:=mR K.P j.c) (ym:=mR K.P c') (xs:=Jb5 (aG K.P s.M)) (ys:=Jb5 (aG K.P (aj K.P s.M t o).1)) (xq:=iq K.P (ct s)) (Jc5 K.P (j.j2 t) (j.j3 t) o.st) lN ho.aN lg (by omega) (by omega) (BV K fj) at1 hE.len FO
  have kf:=rZ named mixed ij cW aQ bx (fX t) (vC oo) (QC oo) (by exact ⟨by show 0<96;omega,trivial,trivial⟩)
  rw [et] at kf
  refine kf.mono ?_
  rintro e w' ⟨φ1,rfl,hA,_,_,hQ⟩
  have hA: ∀ i,¬ (96<=i∧i<102)->φ1 i=φ (fX t i):=λi hi=>hA i (by rw [eP];exact hi)
  obtain ⟨a,a2,bb,jn,j2,j3,fI,hbb,ha,Ee,bq,kr⟩:=ho.names
  subst fI
  have hout: ∀ p∈subs'++aN,s1.get p.1=some p.2:=λp hp=>oy p (by
   rw [List.append_assoc];exact List.mem_append.2 (.inr hp))
  have row: ∀ (i:Nat) (p:Nat×ak),[(0,ak.row false (PK wF (Fa K) (.int .i64 (t:Nat)) (bm (mK s) t (.iface 283 (.ptr 32 0))) (bm (λu=> .aa .i64 (j.ats u:Nat)) t (.aa .i64 (j.ats t:Nat))) (.ae 8 8 0 0 j.evl j.evl) .au (λi=> .aa .i64 (j.cn i)) j.idle) 83 none),(1,wW (i64.wrap (j.aA+1)) (λu=> .aa .i64 (j.inv u)) marks'),(2,mR K.P c'),(3,Jb5 (aG K.P (aj K.P s.M t o).1)),(4,.row false [.ed 5,.aa .i64 j.left] 113 none),(5,.map true j.lmap),(16+t,.row true (K.lst t) 3 (some 1)),(8,.row true (ta j.evs (j.ats t:Nat) stp) 48 (some 8)),(12,iq K.P (ct s)),(32,bp t a bb jn (aj K.P s.M t o).2.1)][i]?=some p->s1.get p.1=some p.2:=λi p h=>oy p (List.mem_append.2 (.inl (List.mem_append.2 (.inl (List.mem_of_getElem? h)))))
  obtain ⟨φ',h1,h2⟩:=Dz (en:=8) (on:=32) (b:=bb) (mkn:=98) (tch:=false) (at':=j.ats t) (evl':=j.evl) (A:= .aa .i64 (j.ats t:Nat)) (E:= .ae 8 8 0 0 j.evl j.evl) (inv':=j.inv) (look':=s.look) (own':=j.own) iN ht hQ (fD φ1 102 hA) (λb x h=>vo (qU oo b x h) (by omega)) (.inl ⟨rfl,rfl,ha,Ee⟩) bq Pc (row 0 _ rfl) (λφ=>rfl) (λφ=>rfl) oB (row 1 _ rfl) (λu _ φ=>rfl) AU (row 2 _ rfl) (row 3 _ rfl) (row 4 _ rfl) (row 5 _ rfl) hj.mD (row 6 _ rfl) (row 7 _ rfl) (zR λv hv=>(hE.all v hv).1) (row 8 _ rfl) (λφ φ'=>bl kH) (row 9 _ rfl) kr hout (λh=>by cases h) hj.oth
  exact ⟨φ',_,false,rfl,h1,h2,Rz hj ht dU hk (evT (by have:=hE.len;omega)),rfl⟩
 | true=>
  rw [hd] at hp ho ij
  have AR:s.step K.P K.V K.kd t={ M:=(aj K.P s.M t o).1,pos:=Jb2 s.pos t (s.pos t+1),cur:=Jb2 s.cur t none,look:=s.look,out:=Jb2 s.out t (Jb2 (s.out t) (s.pos t) ((aj K.P s.M t o).2.1.err,(aj K.P s.M t o).2.1.val)) }:=by
   unfold Qs.step
   rw [xj,tX]
   revert hd
   generalize aj K.P s.M t o=r
   obtain ⟨M',o',b⟩:=r
   intro hd
   cases hd
   rfl
  rw [AR]
  obtain ⟨lQ,pc,fo,m1,f1,l1,w1,y1,wh,key,fI,LP⟩:=ho.fin rfl
  subst lQ fI
  have Wm:(∃ kb,key= .slice kb 0 1 1)∨(key= .au∧((∃ m2,marks'=bm m2 t .au)∨ ∃ m2 mb,marks'=bm m2 t (.aF mb 1 0 0 1 1))):=by
   rcases LP with h | h
   ·exact .inr ⟨h,RB ht ho.mark⟩
   ·exact .inl h
  obtain ⟨oo,s1,nx,lL,cW,aQ,eP,Lg,hD,oy⟩:=Oq (by omega) (ob:=wF) (cl:=Fa K) (turn:= .aa .i64 j.turn) (m:=mK s) (ats:=λu=> .aa .i64 (j.ats u:Nat)) (at_:=j.ats t) (wd:= .au) (cn:=λi=> .aa .i64 (j.cn i)) (idle:=j.idle) (aA:=j.aA) (inv:=λu=> .aa .i64 (j.inv u)) (af:=dB j) (evl:=j.evl) (evs:=j.evs) (left:=j.left) (lmap:=j.lmap) (lst:=K.lst t) (lk:=s.pos t) (ll:=K.nc t-s.pos t) (lt:=K.nc t) (call:=(K.at_ t (s.pos t):Nat)) (stp:=stp) (xr:=bp t 64 48 (j.jr t) o) (xm:=mR K.P j.c) (ym:=mR K.P c') (xs:=Jb5 (aG K.P s.M)) (ys:=Jb5 (aG K.P (aj K.P s.M t o).1)) (xq:=iq K.P (ct s)) (marks':=marks') (err:=((aj K.P s.M t o).2.1.err:Nat)) (val:=((aj K.P s.M t o).2.1.val:Nat)) (Jc5 K.P (j.j2 t) (j.j3 t) o.st) lN Wm lg (by omega) (by omega) (BV K fj) at1 hE.len FO
  have kf:=rZ named mixed ij cW aQ bx (fX t) (vC oo) (QC oo) (by exact ⟨by show 0<96;omega,trivial,trivial⟩)
  rw [et] at kf
  refine kf.mono ?_
  rintro e w' ⟨φ1,rfl,hA,_,_,hQ⟩
  have hA: ∀ i,¬ (96<=i∧i<nx)->φ1 i=φ (fX t i):=λi hi=>hA i (by rw [eP];exact hi)
  have row: ∀ (i:Nat) (p:Nat×ak),[(0,ak.row false (PK wF (Fa K) (.int .i64 (t:Nat)) (bm (mK s) t .aX) (bm (λu=> .aa .i64 (j.ats u:Nat)) t (.aa .i64 (j.ats t:Nat))) (.ae 8 8 0 0 j.evl j.evl) .au (λi=> .aa .i64 (j.cn i)) j.idle) 83 none),(1,wW (i64.wrap (j.aA+1)) (λu=> .aa .i64 (j.inv u)) marks'),(2,mR K.P c'),(3,Jb5 (aG K.P (aj K.P s.M t o).1)),(4,.row false [.ed 5,.aa .i64 (i64.wrap (j.left-1))] 113 none),(5,.map true (eh (t:Int) (.ae (16+t) 1 (s.pos t+1) (s.pos t) (K.nc t-s.pos t-1) (K.nc t)) j.lmap)),(16+t,.row true (K.lst t) 3 (some 1)),(8,.row true lL 48 (some 8)),(12,iq K.P (ct s))][i]?=some p->s1.get p.1=some p.2:=λi p h=>oy p (List.mem_of_getElem? h)
  obtain ⟨φ',h1,h2⟩:=J3 (mkn:=98) (left':=i64.wrap (j.left-1)) (out':=Jb2 s.out t (Jb2 (s.out t) (s.pos t) ((aj K.P s.M t o).2.1.err,(aj K.P s.M t o).2.1.val))) iN ht hQ (fD φ1 nx hA) (λb x h=>vo (qU oo b x h) (by omega)) Pc fj (row 0 _ rfl) oB (row 1 _ rfl) (λu _ φ=>rfl) AU (row 2 _ rfl) (row 3 _ rfl) (row 4 _ rfl) (row 5 _ rfl) hj.mD (row 6 _ rfl) (row 7 _ rfl) (hD.flat λv hv=>(hE.all v hv).1) (row 8 _ rfl) (λφ φ'=>bl kH) hj.oth
  exact ⟨φ',_,true,rfl,h1,h2,Ot iN hj ht dU hk fj hD,rfl⟩
end
end
end Qk
end Go.Proofs.YtpkfimijnkkbjaaGreat
