/-
  The heap of the counting play, by names, at any time: 0 the player, 1 its world, 2 the memory, 3 words, 4 the line, 5 its map, 7 calls, 8 events, 9 objects, 10 traces, 11 ticks, 12 the log's object, 13 to 15 the caller's, 16.. lists, 32.. machines, 64.. replicas, 80.. their states.
  What lies in the counting play's heap, and what is known of the parts that nobody counts.
-/
import Derived.Test.YtpkfimijnkkbjaaGreatJ14
import Derived.Test.YtpkfimijnkkbjaaGreatJ15
set_option linter.unusedVariables false
namespace Go.Proofs.YtpkfimijnkkbjaaGreat
namespace Ct
open Ev

def pairs (m at' : Nat → AV) : List AV := (List.range 16).flatMap fun u => [m u, at' u]
def sixteen (f : Nat → AV) : List AV := (List.range 16).map f
def PL' (cl turn : AV) (m at' : Nat → AV) (evs : AV) (wd : AV) (cn : Nat → AV) (idle : Int) : List AV :=
  [.ptr 1 0, .oslice 9 1 0 0 3 3, cl, .ptr 4 0, turn] ++ pairs m at' ++ [evs, wd, cn 0, cn 1, cn 2, cn 3, cn 4, cn 5, .sint .i64 idle]
def PL (nc : Nat) (turn : AV) (m at' : Nat → AV) (evs : AV) (wd : AV) (cn : Nat → AV) (idle : Int) : List AV := PL' (.soslice 7 6 0 0 nc nc) turn m at' evs wd cn idle
/-- The calls, if there are any. -/
def clOf (n many : Nat) : AV := if many = 0 then .nils else .soslice 7 6 0 0 (3 * n * many) (3 * n * many)
def WL (now : Int) (inv marks : Nat → AV) : List AV := [.ptr 2 0, .sint .i64 now] ++ sixteen inv ++ sixteen marks ++ [.mapv 10]
def ML (lw cw : Nat) (cnt : Nat → Int) : List AV := [.soslice 3 1 0 0 lw cw, .sint .i64 (cnt 0), .sint .i64 (cnt 1), .sint .i64 (cnt 2), .sint .i64 (cnt 3), .sint .i64 (cnt 4), .nilf]
def OL (n : Int) : List AV := [.iface 140 (.agg [.int .i64 0, .sint .i64 n]), .iface 143 (.agg [.sint .i64 n]), .iface 160 (.ptr 12 0)]
def UL (n : Int) (own : Nat → AV) : List AV := [.sint .i64 (n + 1), .sint .i64 n, .int .i64 1, .int .i64 64] ++ sixteen own
def RL (ann app : Int) (st : AV) (last : Nat → Int) : List AV := [.sint .u64 ann, .sint .i64 app, st] ++ sixteen fun u => .sint .u64 (last u)

/-- The word of an announcement. -/
def pk (o : Nat × Nat) : Nat := 4294967297 + 1099511627776 * o.1 + 17592186044416 * o.2

/-- Some bits of a word, its number, and an operation's word, as the code reckons them. -/
def fld (y a b : Int) : Int := IntKind.u64.wrap (↑(BitVec.ofInt IntKind.u64.bits (y.fdiv ((2 : Int) ^ Min.min (Int.toNat a) IntKind.u64.bits)) &&& BitVec.ofInt IntKind.u64.bits (IntKind.u64.wrap (IntKind.u64.wrap ((1 : Int) * (2 : Int) ^ Min.min (Int.toNat b) IntKind.u64.bits) - (1 : Int)))).toNat : Int)
def num (y : Int) : Int := y.fdiv ((2 : Int) ^ Min.min (Int.toNat (44 : Int)) IntKind.u64.bits)
def pack (t : Nat) (ann : Int) : Int := IntKind.u64.wrap (↑(BitVec.ofInt IntKind.u64.bits (IntKind.u64.wrap (↑(BitVec.ofInt IntKind.u64.bits (IntKind.u64.wrap (↑(BitVec.ofInt IntKind.u64.bits (1 : Int) ||| BitVec.ofInt IntKind.u64.bits (IntKind.u64.wrap (IntKind.u64.wrap (1 : Int) * (2 : Int) ^ Min.min (Int.toNat (32 : Int)) IntKind.u64.bits))).toNat : Int)) ||| BitVec.ofInt IntKind.u64.bits (IntKind.u64.wrap (IntKind.u64.wrap (↑t : Int) * (2 : Int) ^ Min.min (Int.toNat (40 : Int)) IntKind.u64.bits))).toNat : Int)) ||| BitVec.ofInt IntKind.u64.bits (IntKind.u64.wrap (IntKind.u64.wrap (ann + (1 : Int)) * (2 : Int) ^ Min.min (Int.toNat (44 : Int)) IntKind.u64.bits))).toNat : Int)

/-- What nobody counts. -/
structure Jk where
  turn : Int
  ats : Nat → Nat
  cn : Nat → Int
  idle : Int
  now : Int
  inv : Nat → Int
  marks : Nat → Bool
  cnt : Nat → Int
  evl : Nat
  evs : List AV
  left : Int
  lmap : List (Int × AV)
  tr : Bool
  trmap : List (Int × AV)
  was : List Int
  ans : Nat → Nat → Int
  off : Nat → Int
  sv : Nat → Int
  oth : Nat → Option AObj

def markOf (j : Jk) (u : Nat) : AV := match j.marks u with
  | true => .oslice (48 + u) 1 0 0 1 1
  | false => .nils
def mOf (c : Cf) (u : Nat) : AV := match c.mode u with
  | .none => .nili
  | .tallied _ => .iface 231 (.ptr (32 + u) 0)
  | .act _ _ => .iface 279 (.ptr (32 + u) 0)
def machOf (n : Nat) (c : Cf) (j : Jk) (u : Nat) : Option AObj := match c.mode u with
  | .none => none
  | .tallied v => some (.row false [.int .i64 0, .sint .i64 n, .int .i64 u, .sint .u64 v, .bool true] 233 none)
  | .act pc _ => some (.row false [.ptr 12 0, .ptr (64 + u) 0, .int .i64 u, .int .i64 pc, .sint .u64 (pk (u, c.ann u)), .sint .u64 (j.off u), .sint .i64 (j.ans u 0), .sint .u64 (j.ans u 1), .nils, .nils] 282 none)
def tal (c : Cf) (u : Nat) : Nat := (c.fin u + 2) / 3
def wordAt (n : Nat) (c : Cf) (i : Nat) : Nat :=
  if i < n then tal c i
  else if i = n then sumN n fun u => (c.fin u + 1) / 3
  else if i < 2 * n + 1 then (if c.ann (i - n - 1) = 0 then 0 else pk (i - n - 1, c.ann (i - n - 1)))
  else match c.log[i - (2 * n + 1)]? with
    | some o => pk o
    | none => 0
def wordsOf (n : Nat) (c : Cf) : List AV := (List.range (2 * n + 65)).map fun i => .sint .u64 (wordAt n c i : Int)
def ownOf (n : Nat) (u : Nat) : AV := if u < n then .ptr (64 + u) 0 else .nilp
def lastOf (c : Cf) (u w : Nat) : Int := (cntw w (c.log.take (c.app u)) : Nat)
def evsOf (j : Jk) : AV := if j.evl = 0 then .nils else .soslice 8 8 0 0 j.evl j.evl

def callCells (u q : Nat) : List AV := match q with
  | 0 => [.int .i64 u, .int .i64 0, .int .i64 0, .int .u64 0, .int .u64 0, .int .u64 0]
  | 1 => [.int .i64 u, .int .i64 1, .int .i64 2, .int .u64 0, .int .u64 0, .int .u64 0]
  | _ => [.int .i64 u, .int .i64 2, .int .i64 1, .int .u64 1, .int .u64 0, .int .u64 0]
def callsOf (n many : Nat) : List AV := (List.range (3 * n * many)).flatMap fun i => callCells (i / 3 % n) (i % 3)
/-- Which call a thread's k-th one is. -/
def callIx (n u k : Nat) : Nat := 3 * (k / 3 * n + u) + k % 3
def lstOf (n many u : Nat) : List AV := (List.range (3 * many)).map fun k => .sint .i64 (callIx n u k : Nat)

def fixed (n many : Nat) (c : Cf) (j : Jk) : Nat → Option AObj
  | 0 => some (.row false (PL' (clOf n many) (.sint .i64 j.turn) (mOf c) (fun u => .sint .i64 (j.ats u : Int)) (evsOf j) .nils (fun i => .sint .i64 (j.cn i)) j.idle) 83 none)
  | 1 => some (.row false (WL j.now (fun u => .sint .i64 (j.inv u)) (markOf j)) 92 none)
  | 2 => some (.row false (ML (2 * n + 65) (2 * n + 65) j.cnt) 129 none)
  | 3 => some (.row true (wordsOf n c) 40 (some 1))
  | 4 => some (.row false [.mapv 5, .sint .i64 j.left] 113 none)
  | 5 => some (.map true j.lmap)
  | 6 => j.oth 6
  | 7 => if many = 0 then none else some (.row true (callsOf n many) 42 (some 6))
  | 8 => if j.evl = 0 then none else some (.row true j.evs 48 (some 8))
  | 9 => some (.row false (OL n) 107 (some 1))
  | 10 => some (.map true j.trmap)
  | 11 => if j.tr then some (.row true (j.was.map fun x => .sint .i64 x) 3 (some 1)) else none
  | 12 => some (.row false (UL n (ownOf n)) 182 none)
  | 13 => j.oth 13
  | 14 => j.oth 14
  | 15 => j.oth 15
  | _ => none
def heap (n many : Nat) (c : Cf) (j : Jk) (b : Nat) : Option AObj :=
  if b < 16 then fixed n many c j b
  else if b < 32 then (if b - 16 < n ∧ many ≠ 0 then some (.row true (lstOf n many (b - 16)) 3 (some 1)) else none)
  else if b < 48 then (if b - 32 < n then machOf n c j (b - 32) else none)
  else if b < 64 then none
  else if b < 80 then (if b - 64 < n then some (.row false (RL (c.ann (b - 64) : Nat) (c.app (b - 64) : Nat) (.oslice (80 + (b - 64)) 1 0 0 1 1) (lastOf c (b - 64))) 188 none) else none)
  else if b < 96 then (if b - 80 < n then some (.row false [.sint .u64 (j.sv (b - 80))] 40 (some 1)) else none)
  else none
end Ct
end Go.Proofs.YtpkfimijnkkbjaaGreat

namespace Go.Proofs.YtpkfimijnkkbjaaGreat
namespace Ct
open Ev

variable {κ : Keep}

/-- A cell that is only kept: names become values. -/
def kept (φ : Phi) : AV → AV
  | .int k n => .sint k n
  | .sint k n => .sint k n
  | .nils => .nils
  | .opq v => .opq v
  | v => .opq (conc φ v)
theorem one_of_flat {φ : Phi} {v : AV} (h : v.flat = true) : (conc φ v).oneCell' = true := by
  cases v <;> first | rfl | (cases h; done) | skip
  · rename_i v
    unfold conc
    split
    · assumption
    · rfl
theorem conc_kept {φ φ' : Phi} {v : AV} (h : v.flat = true) : conc φ' (kept φ v) = conc φ v := by
  have h1 := one_of_flat (φ := φ) h
  have h2 : ∀ u : Value, u.oneCell' = true → conc φ' (.opq u) = u := fun u hu => by unfold conc; exact if_pos hu
  cases v <;> first | rfl | exact h2 _ h1
theorem kept_none {φ : Phi} (v : AV) : (kept φ v).All (fun _ => False) := by
  cases v <;> simp [kept, AV.All]
theorem kept_flat {φ : Phi} (v : AV) : (kept φ v).flat = true := by
  cases v <;> rfl
theorem concL_kept {φ φ' : Phi} {l : List AV} (h : ∀ v ∈ l, v.flat = true) : concL φ' (l.map (kept φ)) = concL φ l := by
  rw [concL_eq, concL_eq, List.map_map]
  exact List.map_congr_left fun v hv => conc_kept (h v hv)

/-- The events' cells: each event's steps are there, and it has responded or it may be open. -/
structure EvsOk (l : List AV) (k : Nat) (may : Nat → Prop) : Prop where
  len : l.length = 8 * k
  stp : ∀ i, i < k → ∃ s, l[8 * i + 3]? = some (.sint .i64 s)
  rsp : ∀ i, i < k → ∃ r, l[8 * i + 2]? = some (.sint .i64 r) ∧ (r ≠ 0 ∨ may i)
  all : ∀ v ∈ l, v.flat = true ∧ v.All (fun _ => False)

/-- What holds of the parts that nobody counts. -/
structure JOk (n many : Nat) (c : Cf) (j : Jk) (k : Nat) : Prop where
  now : 0 ≤ j.now ∧ j.now ≤ k
  evl : j.evl = sumN n fun u => c.fin u + (c.mode u).busy
  evs : EvsOk j.evs j.evl fun i => ∃ u, u < n ∧ (c.mode u).busy = 1 ∧ j.ats u = i
  ats : ∀ u, u < n → (c.mode u).busy = 1 → j.ats u < j.evl
  lm : many ≠ 0 → ∀ u, u < n → findM (u : Int) j.lmap = some (.soslice (16 + u) 1 (c.fin u) (if c.fin u = 3 * many then c.fin u - 1 else 0) (3 * many - c.fin u) (3 * many))
  lm0 : ∀ x : Int, (many = 0 ∨ ∀ u : Nat, u < n → x ≠ u) → findM x j.lmap = none
  lmall : ∀ p ∈ j.lmap, p.2.All fun i => 16 ≤ i ∧ i < 32
  tr0 : j.tr = false → j.trmap = []
  tr1 : j.tr = true → j.trmap = [(0, .soslice 11 1 0 0 j.was.length j.was.length)]
  was : j.was.length ≤ sumN n fun u => (c.fin u + 2) / 3
  off : ∀ u o, u < n → c.mode u = .act 3 o → j.off u = (pk o : Int)
  mark : ∀ u v, u < n → c.mode u = .tallied v → j.marks u = false
  oth : ∀ b o, j.oth b = some o → o.All fun _ => False

theorem heap_fix {n many : Nat} {c : Cf} {j : Jk} {b : Nat} (h : b < 16) : heap n many c j b = fixed n many c j b := by unfold heap; rw [if_pos h]
theorem heap_lst {n many : Nat} {c : Cf} {j : Jk} {u : Nat} (h : u < 16) : heap n many c j (16 + u) = if u < n ∧ many ≠ 0 then some (.row true (lstOf n many u) 3 (some 1)) else none := by
  unfold heap; rw [if_neg (by omega), if_pos (by omega), show 16 + u - 16 = u by omega]
theorem heap_mach {n many : Nat} {c : Cf} {j : Jk} {u : Nat} (h : u < 16) : heap n many c j (32 + u) = if u < n then machOf n c j u else none := by
  unfold heap; rw [if_neg (by omega), if_neg (by omega), if_pos (by omega), show 32 + u - 32 = u by omega]
theorem heap_rep {n many : Nat} {c : Cf} {j : Jk} {u : Nat} (h : u < 16) : heap n many c j (64 + u) = if u < n then some (.row false (RL (c.ann u : Nat) (c.app u : Nat) (.oslice (80 + u) 1 0 0 1 1) (lastOf c u)) 188 none) else none := by
  unfold heap; rw [if_neg (by omega), if_neg (by omega), if_neg (by omega), if_neg (by omega), if_pos (by omega), show 64 + u - 64 = u by omega]
theorem heap_sv {n many : Nat} {c : Cf} {j : Jk} {u : Nat} (h : u < 16) : heap n many c j (80 + u) = if u < n then some (.row false [.sint .u64 (j.sv u)] 40 (some 1)) else none := by
  unfold heap; rw [if_neg (by omega), if_neg (by omega), if_neg (by omega), if_neg (by omega), if_neg (by omega), if_pos (by omega), show 80 + u - 80 = u by omega]
/-- The names that a block has in it. -/
def Men (b i : Nat) : Prop := i < 96 ∧ (b ≠ 0 → i ≠ 8 ∧ ¬ (32 ≤ i ∧ i < 48)) ∧ (b ≠ 1 → ¬ (48 ≤ i ∧ i < 64)) ∧ (b ≠ 10 → i ≠ 11) ∧ (80 ≤ i → b + 16 = i)
theorem calls_all {D : Nat → Prop} (n many : Nat) : AllL D (callsOf n many) := by
  rw [allL_iff]
  intro v hv
  obtain ⟨i, _, h⟩ := List.mem_flatMap.1 hv
  unfold callCells at h
  split at h <;> (simp only [List.mem_cons, List.not_mem_nil, or_false] at h; rcases h with h | h | h | h | h | h <;> (subst h; trivial))
theorem ints_all {D : Nat → Prop} {α : Type} (l : List α) (k : IntKind) (f : α → Int) : AllL D (l.map fun x => .sint k (f x)) := by
  rw [allL_iff]
  intro v hv
  obtain ⟨_, _, h⟩ := List.mem_map.1 hv
  subst h; trivial
theorem all_append {D : Nat → Prop} {l m : List AV} (h : AllL D l) (h' : AllL D m) : AllL D (l ++ m) := allL_append.2 ⟨h, h'⟩
theorem sixteen_all {D : Nat → Prop} {f : Nat → AV} (h : ∀ u, u < 16 → (f u).All D) : AllL D (sixteen f) := by
  rw [allL_iff]
  intro v hv
  obtain ⟨u, hu, h1⟩ := List.mem_map.1 hv
  subst h1; exact h u (List.mem_range.1 hu)
theorem pairs_all {D : Nat → Prop} {f g : Nat → AV} (h : ∀ u, u < 16 → (f u).All D) (h' : ∀ u, u < 16 → (g u).All D) : AllL D (pairs f g) := by
  rw [allL_iff]
  intro v hv
  obtain ⟨u, hu, h1⟩ := List.mem_flatMap.1 hv
  simp only [List.mem_cons, List.not_mem_nil, or_false] at h1
  rcases h1 with rfl | rfl
  · exact h u (List.mem_range.1 hu)
  · exact h' u (List.mem_range.1 hu)
theorem mOf_all {D : Nat → Prop} (c : Cf) {u : Nat} (h : D (32 + u)) : (mOf c u).All D := by
  unfold mOf; split <;> first | trivial | exact h
theorem mach_all {n : Nat} {c : Cf} {j : Jk} {u : Nat} {o : AObj} (h : machOf n c j u = some o) : o.All fun i => i = 12 ∨ i = 64 + u := by
  unfold machOf at h
  split at h
  · cases h
  · cases h; simp [AObj.All, AllL, AV.All]
  · cases h; simp [AObj.All, AllL, AV.All]
theorem own_all {D : Nat → Prop} {n u : Nat} (h : D (64 + u)) : (ownOf n u).All D := by
  unfold ownOf; split <;> first | exact h | trivial
theorem heap_all {n many : Nat} {c : Cf} {j : Jk} {k b : Nat} {o : AObj} (hj : JOk n many c j k) (h : heap n many c j b = some o) : b < 96 ∧ o.All (Men b) := by
  unfold heap at h
  split at h
  · rename_i hb
    refine ⟨by omega, ?_⟩
    unfold fixed at h
    split at h
    · cases h
      refine all_append (all_append ?_ (pairs_all (fun u hu => mOf_all c ?_) fun u hu => trivial)) ?_
      · have hcl : (clOf n many).All (Men 0) := by
          unfold clOf; split
          · trivial
          · show Men 0 7; simp [Men]
        simp only [AllL]
        exact ⟨by simp [AV.All, Men], by simp [AV.All, Men], hcl, by simp [AV.All, Men], trivial, trivial⟩
      · simp only [Men]; omega
      · refine ⟨?_, trivial, trivial, trivial, trivial, trivial, trivial, trivial, trivial, trivial⟩
        unfold evsOf; split
        · trivial
        · show Men 0 8; simp only [Men]; omega
    · cases h
      refine all_append (all_append (all_append ?_ (sixteen_all fun u hu => trivial)) (sixteen_all fun u hu => ?_)) ?_
      · simp [AllL, AV.All, Men]
      · unfold markOf; split
        · show Men 1 (48 + u); simp only [Men]; omega
        · trivial
      · simp [AllL, AV.All, Men]
    · cases h; simp [AObj.All, ML, AllL, AV.All, Men]
    · cases h; exact ints_all _ _ _
    · cases h; simp [AObj.All, AllL, AV.All, Men]
    · cases h; exact fun p hp => (hj.lmall p hp).mono fun i hi => by simp only [Men]; omega
    · exact (hj.oth _ _ h).mono fun i hi => hi.elim
    · split at h
      · cases h
      · cases h; exact calls_all n many
    · split at h
      · cases h
      · cases h; exact allL_iff.2 fun v hv => (hj.evs.all v hv).2.mono fun i hi => hi.elim
    · cases h; simp [AObj.All, OL, AllL, AV.All, Men]
    · cases h
      intro p hp
      cases ht : j.tr with
      | false => rw [hj.tr0 ht] at hp; cases hp
      | true =>
        rw [hj.tr1 ht] at hp
        simp only [List.mem_singleton] at hp
        subst hp
        show Men 10 11; simp only [Men]; omega
    · split at h
      · cases h; exact ints_all _ _ _
      · cases h
    · cases h
      refine all_append ?_ (sixteen_all fun u hu => own_all ?_)
      · simp only [AllL, AV.All, and_self]
      · simp only [Men]; omega
    · exact (hj.oth _ _ h).mono fun i hi => hi.elim
    · exact (hj.oth _ _ h).mono fun i hi => hi.elim
    · exact (hj.oth _ _ h).mono fun i hi => hi.elim
    · cases h
  · split at h
    · split at h
      · cases h; exact ⟨by omega, ints_all _ _ _⟩
      · cases h
    · split at h
      · split at h
        · exact ⟨by omega, (mach_all h).mono fun i hi => by simp only [Men]; omega⟩
        · cases h
      · split at h
        · cases h
        · split at h
          · split at h
            · cases h
              refine ⟨by omega, all_append ?_ (sixteen_all fun u hu => trivial)⟩
              simp only [AllL, AV.All, Men, true_and, and_true]; omega
            · cases h
          · split at h
            · split at h
              · cases h; exact ⟨by omega, trivial, trivial⟩
              · cases h
            · cases h

/-- Which threads' parts are as they were. -/
structure Agree (n t : Nat) (c c' : Cf) (j j' : Jk) : Prop where
  mode : ∀ u, u ≠ t → c'.mode u = c.mode u
  fin : ∀ u, u ≠ t → c'.fin u = c.fin u
  app : ∀ u, u ≠ t → c'.app u = c.app u
  log : ∀ u, u < n → u ≠ t → c'.log.take (c.app u) = c.log.take (c.app u)
  off : ∀ u, u ≠ t → j'.off u = j.off u
  ans : ∀ u, u ≠ t → j'.ans u = j.ans u
  sv : ∀ u, u ≠ t → j'.sv u = j.sv u
  oth : j'.oth = j.oth
theorem Agree.away {n many t : Nat} {c c' : Cf} {j j' : Jk} (h : Agree n t c c' j j') (ht : t < 16) {b : Nat} (hb : b ≠ 0 ∧ b ≠ 1 ∧ b ≠ 2 ∧ b ≠ 3 ∧ b ≠ 4 ∧ b ≠ 5 ∧ b ≠ 8 ∧ b ≠ 10 ∧ b ≠ 11 ∧ b ≠ 32 + t ∧ b ≠ 64 + t ∧ b ≠ 80 + t) :
    heap n many c' j' b = heap n many c j b := by
  have hann : ∀ u, u ≠ t → c'.ann u = c.ann u := fun u h2 => by unfold Cf.ann; rw [h.fin u h2, h.mode u h2]
  unfold heap
  split
  · unfold fixed
    split <;> first | rfl | omega | (rw [h.oth]; done) | skip
  · split
    · rfl
    · split
      · split
        · rename_i h1 h2 h3 h4
          unfold machOf
          rw [h.mode _ (by omega), hann _ (by omega), h.off _ (by omega), h.ans _ (by omega)]
        · rfl
      · split
        · rfl
        · split
          · split
            · rename_i h1 h2 h3 h4 h5 h6
              have hl : lastOf c' (b - 64) = lastOf c (b - 64) := by
                funext w; unfold lastOf; rw [h.app _ (by omega), h.log _ h6 (by omega)]
              rw [hann _ (by omega), h.app _ (by omega), hl]
            · rfl
          · split
            · split
              · rename_i h1 h2 h3 h4 h5 h6 h7
                rw [h.sv _ (by omega)]
              · rfl
            · rfl
/-- A run has come from one heap to another one. -/
theorem arrive {n many t : Nat} {c c' : Cf} {j j' : Jk} {k : Nat} {s : St} {φ : Phi} {w : World} {WR : List Nat} {ρ : Nat → Nat} (hj : JOk n many c j k) (hag : Agree n t c c' j j') (ht : t < 16)
    (hwr : ∀ b, b < 128 → (s.wr.testBit b = true ↔ b ∈ WR)) (hW : ∀ b, b ∈ WR → b < 128 ∧ (b < 96 → b = 0 ∨ b = 1 ∨ b = 2 ∨ b = 3 ∨ b = 4 ∨ b = 5 ∨ b = 8 ∨ b = 10 ∨ b = 11 ∨ b = 32 + t ∨ b = 64 + t ∨ b = 80 + t))
    (hfit : FitH κ (after (heap n many c j) s) φ w)
    (hρ : ∀ b, b < 96 → ρ b = b ∨ (96 ≤ ρ b ∧ ρ b < 128 ∧ (b = 8 ∨ b = 11 ∨ (48 ≤ b ∧ b < 64) ∨ b = 32 + t ∨ b = 80 + t)))
    (hin : ∀ b d, b < 96 → d < 96 → ρ b = ρ d → b = d)
    (hC : ∀ b, b = 0 ∨ b = 1 ∨ b = 2 ∨ b = 3 ∨ b = 4 ∨ b = 5 ∨ b = 8 ∨ b = 10 ∨ b = 11 ∨ b = 32 + t ∨ b = 64 + t ∨ b = 80 + t → ∀ o', heap n many c' j' b = some o' →
      (∃ o, s.get (ρ b) = some o ∧ ρ b ∈ WR ∧ Same φ (fun i => φ (ρ i)) o o') ∨ (∃ o, heap n many c j b = some o ∧ b ∉ WR ∧ ρ b = b ∧ Same φ (fun i => φ (ρ i)) o o')) :
    FitH κ (heap n many c' j') (fun i => φ (ρ i)) w := by
  have hlt : ∀ {b : Nat} {o : AObj}, heap n many c' j' b = some o → b < 96 := fun {b o} h => by
    unfold heap at h
    by_cases hb : b < 96
    · exact hb
    · rw [if_neg (by omega), if_neg (by omega), if_neg (by omega), if_neg (by omega), if_neg (by omega), if_neg (by omega)] at h; cases h
  refine hfit.moved ρ (fun b d x y hb hd he => hin b d (hlt hb) (hlt hd) he) fun b o' hb => ?_
  have hb96 := hlt hb
  have keep : ∀ o, heap n many c j b = some o → b ∉ WR → ρ b = b → after (heap n many c j) s (ρ b) = some o := fun o ho hn he => by
    unfold after
    rw [he, if_neg (fun hh => hn ((hwr b (by omega)).1 hh)), ho]
  by_cases hc : b = 0 ∨ b = 1 ∨ b = 2 ∨ b = 3 ∨ b = 4 ∨ b = 5 ∨ b = 8 ∨ b = 10 ∨ b = 11 ∨ b = 32 + t ∨ b = 64 + t ∨ b = 80 + t
  · rcases hC b hc o' hb with ⟨o, h1, h2, h3⟩ | ⟨o, h1, h2, h3, h4⟩
    · refine ⟨o, ?_, h3⟩
      unfold after
      rw [if_pos ((hwr _ (hW _ h2).1).2 h2), h1]
    · exact ⟨o, keep o h1 h2 h3, h4⟩
  · rw [hag.away ht (by omega)] at hb
    have hnw : b ∉ WR := fun hh => by have := (hW b hh).2 hb96; omega
    by_cases hm : 48 ≤ b ∧ b < 64
    · exfalso
      unfold heap at hb
      rw [if_neg (by omega), if_neg (by omega), if_neg (by omega), if_pos (by omega)] at hb
      cases hb
    have hρb : ρ b = b := by
      rcases hρ b hb96 with h | h
      · exact h
      · omega
    refine ⟨o', keep o' hb hnw hρb, Same.of_all (heap_all hj hb).2 fun i hi => ?_⟩
    have : ρ i = i := by
      obtain ⟨m1, m2, m3, m4, m5⟩ := hi
      rcases hρ i m1 with h | ⟨_, _, h⟩
      · exact h
      · have := m2 (by omega); have := m3 (by omega); have := m4 (by omega)
        by_cases h80 : 80 ≤ i
        · have := m5 h80; omega
        · omega
    simp only [this]
end Ct
end Go.Proofs.YtpkfimijnkkbjaaGreat
