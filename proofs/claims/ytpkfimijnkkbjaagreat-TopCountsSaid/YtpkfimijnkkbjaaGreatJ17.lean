/-
  Small laws for the steps of the counting play.
  The play that is known: lives() answers true, in any memory, whatever order its regions draw.
-/
import Derived.Test.YtpkfimijnkkbjaaGreatJ16
import Derived.Test.YtpkfimijnkkbjaaGreatJ13
import Derived.Test.YtpkfimijnkkbjaaGreatProg
import Derived.KernelRfl
set_option linter.unusedVariables false
namespace Go.Proofs.YtpkfimijnkkbjaaGreat
namespace Ct
open Ev

theorem fld_thread : ∀ w, w < 6 → ∀ m, m < 7 → fld (pk (w, m) : Nat) 40 4 = (w : Int) := by decide +kernel
theorem fld_kind : ∀ w, w < 6 → ∀ m, m < 7 → fld (pk (w, m) : Nat) 32 8 = 1 := by decide +kernel
theorem num_pk : ∀ w, w < 6 → ∀ m, m < 7 → num (pk (w, m) : Nat) = (m : Int) := by decide +kernel
theorem pack_pk : ∀ t, t < 6 → ∀ m, m < 6 → pack t (m : Nat) = (pk (t, m + 1) : Nat) := by decide +kernel
theorem pk_pos (o : Nat × Nat) : 0 < pk o := by unfold pk; omega
theorem pk_inj {o o' : Nat × Nat} (h1 : o.1 < 6) (h2 : o'.1 < 6) (h : pk o = pk o') : o = o' := by
  unfold pk at h
  have e1 : o.1 = o'.1 := by omega
  have e2 : o.2 = o'.2 := by omega
  exact Prod.ext e1 e2
theorem pk_lt {o : Nat × Nat} (h1 : o.1 < 6) (h2 : o.2 < 7) : (pk o : Int) < 2 ^ 60 := by unfold pk; omega

theorem wrap64 {x : Int} (h : -9223372036854775808 ≤ x) (h' : x < 9223372036854775808) : IntKind.i64.wrap x = x := by
  rw [IntKind.wrap_i64]; omega
theorem wrapU {x : Int} (h : 0 ≤ x) (h' : x < 18446744073709551616) : IntKind.u64.wrap x = x := by
  rw [IntKind.wrap_u64]; omega

/-- A load of one cell. -/
theorem load1 {l : List AV} {i k : Nat} {v : AV} (h : l[k]? = some v) (e : i = k) : ∀ j : Nat, j < 1 → l[i + j]? = [v][j]? := fun j hj => by
  have : j = 0 := by omega
  subst this; subst e; simpa using h

theorem load0 {l : List AV} {v : AV} (h : l[0]? = some v) : ∀ j : Nat, j < 1 → l[j]? = [v][j]? := fun j hj => by
  have : j = 0 := by omega
  subst this; simpa using h

/-- A block as the heap has it and as a run takes it. -/
def Like (o : Option AObj) (o' : AObj) : Prop := ∃ x, o = some x ∧ (x = o' ∨ ∃ s s' l t q, x = .row s l t q ∧ o' = .row s' l t q)
theorem Like.same {o : Option AObj} {o' : AObj} (h : o = some o') : Like o o' := ⟨o', h, .inl rfl⟩
theorem Like.rows {o : Option AObj} {s s' : Bool} {l : List AV} {t : TypeId} {q : Option Nat} (h : o = some (.row s l t q)) : Like o (.row s' l t q) := ⟨_, h, .inr ⟨s, s', l, t, q, rfl, rfl⟩⟩
theorem hs_of {H : Nat → Option AObj} {φ : Phi} {l : List (Nat × AObj)} {nx : Nat} {oo : List Ans} (hH : ∀ b o, H b = some o → b < nx ∧ o.All (· < nx)) (h : ∀ p ∈ l, Like (H p.1) p.2) :
    ∀ b o, St.get ⟨mk l, nx, 0, 0, True, oo⟩ b = some o → o.All (· < nx) ∧ ∃ o0, H b = some o0 ∧ Same φ φ o0 o := by
  intro b o hb
  obtain ⟨x, hx, hs⟩ := h _ (get_mk hb)
  have h1 := (hH b x hx).2
  rcases hs with rfl | ⟨s, s', l, t, q, rfl, rfl⟩
  · exact ⟨h1, _, hx, Same.refl _ _⟩
  · exact ⟨h1, _, hx, rfl, rfl, rfl⟩
theorem heap_ok {n many : Nat} {c : Cf} {j : Jk} {k : Nat} (hj : JOk n many c j k) : ∀ b o, heap n many c j b = some o → b < 96 ∧ o.All (· < 96) := fun b o h => by
  obtain ⟨h1, h2⟩ := heap_all hj h
  exact ⟨h1, h2.mono fun i hi => hi.1⟩
theorem cons_all {α : Type} {p : α → Prop} {a : α} {l : List α} (h : p a) (h' : ∀ x ∈ l, p x) : ∀ x ∈ a :: l, p x := fun x hx => by
  rcases List.mem_cons.1 hx with rfl | hx
  · exact h
  · exact h' x hx
theorem nil_all {α : Type} {p : α → Prop} : ∀ x ∈ ([] : List α), p x := fun x hx => by cases hx
theorem updA_self {α : Type} {f : Nat → α} {t : Nat} {v : α} (h : f t = v) : updA f t v = f := by
  funext u; rw [updA_eq]; split
  · rename_i e; rw [e, h]
  · rfl

/-- The names that a way moves. -/
def rh (t w e k m s x i : Nat) : Nat := if i = 8 then e else if i = 11 then k else if i = 32 + t then m else if i = 80 + t then s else if i = 48 + w then x else i
section
variable {t w e k m s x : Nat}
theorem rh8 : rh t w e k m s x 8 = e := by simp [rh]
theorem rh11 : rh t w e k m s x 11 = k := by simp [rh]
theorem rh32 : rh t w e k m s x (32 + t) = m := by unfold rh; rw [if_neg (by omega), if_neg (by omega), if_pos rfl]
theorem rh80 (h : t < 16) : rh t w e k m s x (80 + t) = s := by unfold rh; rw [if_neg (by omega), if_neg (by omega), if_neg (by omega), if_pos rfl]
theorem rh48 (h : t < 16) (h' : w < 16) : rh t w e k m s x (48 + w) = x := by unfold rh; rw [if_neg (by omega), if_neg (by omega), if_neg (by omega), if_neg (by omega), if_pos rfl]
theorem rh_id {i : Nat} (h8 : i ≠ 8) (h11 : i ≠ 11) (h32 : i ≠ 32 + t) (h80 : i ≠ 80 + t) (h48 : i ≠ 48 + w) : rh t w e k m s x i = i := by unfold rh; rw [if_neg h8, if_neg h11, if_neg h32, if_neg h80, if_neg h48]
theorem rh_lt {i : Nat} (h : i < 8 ∨ i = 9 ∨ i = 10 ∨ (11 < i ∧ i < 32) ∨ (64 ≤ i ∧ i < 80)) (ht : t < 16) (hw : w < 16) : rh t w e k m s x i = i := rh_id (by omega) (by omega) (by omega) (by omega) (by omega)
theorem rh_mach {u : Nat} (hu : u < 16) (hw : w < 16) (h : u ≠ t) (ht : t < 16) : rh t w e k m s x (32 + u) = 32 + u := rh_id (by omega) (by omega) (by omega) (by omega) (by omega)
theorem rh_sv {u : Nat} (h : u ≠ t) (hw : w < 16) (ht : t < 16) : rh t w e k m s x (80 + u) = 80 + u := rh_id (by omega) (by omega) (by omega) (by omega) (by omega)
theorem rh_mark {u : Nat} (hu : u < 16) (ht : t < 16) (h : u ≠ w) : rh t w e k m s x (48 + u) = 48 + u := rh_id (by omega) (by omega) (by omega) (by omega) (by omega)
theorem rh_ok (ht : t < 16) (hw : w < 16) (he : e = 8 ∨ (96 ≤ e ∧ e < 128)) (hk : k = 11 ∨ (96 ≤ k ∧ k < 128)) (hm : m = 32 + t ∨ (96 ≤ m ∧ m < 128)) (hs : s = 80 + t ∨ (96 ≤ s ∧ s < 128)) (hx : x = 48 + w ∨ (96 ≤ x ∧ x < 128)) :
    ∀ b, b < 96 → rh t w e k m s x b = b ∨ (96 ≤ rh t w e k m s x b ∧ rh t w e k m s x b < 128 ∧ (b = 8 ∨ b = 11 ∨ (48 ≤ b ∧ b < 64) ∨ b = 32 + t ∨ b = 80 + t)) := by
  intro b hb
  unfold rh
  repeat' split
  all_goals omega
theorem rh_inj (ht : t < 16) (hw : w < 16) (he : e = 8 ∨ (96 ≤ e ∧ e < 128)) (hk : k = 11 ∨ (96 ≤ k ∧ k < 128)) (hm : m = 32 + t ∨ (96 ≤ m ∧ m < 128)) (hs : s = 80 + t ∨ (96 ≤ s ∧ s < 128)) (hx : x = 48 + w ∨ (96 ≤ x ∧ x < 128))
    (hne : e ≠ k ∧ e ≠ m ∧ e ≠ s ∧ e ≠ x ∧ k ≠ m ∧ k ≠ s ∧ k ≠ x ∧ m ≠ s ∧ m ≠ x ∧ s ≠ x) : ∀ b d, b < 96 → d < 96 → rh t w e k m s x b = rh t w e k m s x d → b = d := by
  intro b d hb hd h
  obtain ⟨n1, n2, n3, n4, n5, n6, n7, n8, n9, n10⟩ := hne
  have key : ∀ b, b < 96 → (if rh t w e k m s x b = e then 8 else if rh t w e k m s x b = k then 11 else if rh t w e k m s x b = m then 32 + t else if rh t w e k m s x b = s then 80 + t else if rh t w e k m s x b = x then 48 + w else rh t w e k m s x b) = b := by
    intro b hb
    by_cases h1 : b = 8
    · subst h1; rw [rh8, if_pos rfl]
    by_cases h2 : b = 11
    · subst h2; rw [rh11, if_neg (Ne.symm n1), if_pos rfl]
    by_cases h3 : b = 32 + t
    · subst h3; rw [rh32, if_neg (Ne.symm n2), if_neg (Ne.symm n5), if_pos rfl]
    by_cases h4 : b = 80 + t
    · subst h4; rw [rh80 ht, if_neg (Ne.symm n3), if_neg (Ne.symm n6), if_neg (Ne.symm n8), if_pos rfl]
    by_cases h5 : b = 48 + w
    · subst h5; rw [rh48 ht hw, if_neg (Ne.symm n4), if_neg (Ne.symm n7), if_neg (Ne.symm n9), if_neg (Ne.symm n10), if_pos rfl]
    rw [rh_id h1 h2 h3 h4 h5]
    clear h n1 n2 n3 n4 n5 n6 n7 n8 n9 n10
    rw [if_neg (by omega), if_neg (by omega), if_neg (by omega), if_neg (by omega), if_neg (by omega)]
  rw [← key b hb, ← key d hd, h]
end

/- Rows under other names. -/
theorem conc_int {φ : Phi} {k : IntKind} {x : Int} : conc φ (.int k x) = .int k x := rfl
theorem conc_os {φ φ' : Phi} {b b' sz k j len tot : Nat} (h : φ b = φ' b') : conc φ (.oslice b sz k j len tot) = conc φ' (.oslice b' sz k j len tot) := by
  unfold conc
  exact congrArg (fun s : Slot => Value.slice (some ⟨s.blk, if s.slack = 0 ∧ k = tot then j * sz else k * sz, none⟩) len (tot - k + s.slack)) h
theorem conc_sos {φ φ' : Phi} {b b' sz k j len tot : Nat} (h : φ b = φ' b') : conc φ (.soslice b sz k j len tot) = conc φ' (.soslice b' sz k j len tot) := by
  unfold conc
  exact congrArg (fun s : Slot => Value.slice (some ⟨s.blk, if s.slack = 0 ∧ k = tot then j * sz else k * sz, none⟩) len (tot - k + s.slack)) h
theorem sixteen_same {φ φ' : Phi} {f g : Nat → AV} (h : ∀ u, u < 16 → conc φ (f u) = conc φ' (g u)) : concL φ (sixteen f) = concL φ' (sixteen g) := by
  rw [concL_eq, concL_eq]
  unfold sixteen
  rw [List.map_map, List.map_map]
  exact List.map_congr_left fun u hu => h u (List.mem_range.1 hu)
theorem flatMap_congr {α β : Type} {l : List α} {f g : α → List β} (h : ∀ a ∈ l, f a = g a) : l.flatMap f = l.flatMap g := by
  induction l with
  | nil => rfl
  | cons a l ih => rw [List.flatMap_cons, List.flatMap_cons, h a (by simp), ih fun b hb => h b (by simp [hb])]
theorem pairs_same {φ φ' : Phi} {f g f' g' : Nat → AV} (h : ∀ u, u < 16 → conc φ (f u) = conc φ' (f' u)) (h' : ∀ u, u < 16 → conc φ (g u) = conc φ' (g' u)) : concL φ (pairs f g) = concL φ' (pairs f' g') := by
  rw [concL_eq, concL_eq]
  unfold pairs
  rw [List.map_flatMap, List.map_flatMap]
  exact flatMap_congr fun u hu => by
    have hu := List.mem_range.1 hu
    simp only [List.map_cons, List.map_nil, h u hu, h' u hu]
theorem pl_same {φ φ' : Phi} {nc : Nat} {t : Nat} {c c' : Cf} {turn turn' X E E' : AV} {ats : Nat → Nat} {A : AV} {a' : Nat} {cn : Nat → AV} {idle : Int} {s s' : Bool} (h1 : φ' 1 = φ 1) (h9 : φ' 9 = φ 9) (h7 : φ' 7 = φ 7) (h4 : φ' 4 = φ 4)
    (hmode : ∀ u, u ≠ t → c'.mode u = c.mode u) (hφ : ∀ u, u < 16 → u ≠ t → φ' (32 + u) = φ (32 + u)) (hX : conc φ X = conc φ' (mOf c' t)) (hA : conc φ A = .int .i64 (a' : Int)) (hE : conc φ E = conc φ' E') (hturn : conc φ turn = conc φ' turn')
    (hcn : ∀ φ φ' i, conc φ (cn i) = conc φ' (cn i)) :
    Same φ φ' (.row s (PL nc turn (updA (mOf c) t X) (updA (fun u => .sint .i64 (ats u : Int)) t A) E .nils cn idle) 83 none) (.row s' (PL nc turn' (mOf c') (fun u => .sint .i64 ((updA ats t a' u : Nat) : Int)) E' .nils cn idle) 83 none) := by
  refine ⟨?_, rfl, rfl⟩
  unfold PL PL'
  rw [concL_append, concL_append, concL_append, concL_append]
  have hp : concL φ (pairs (updA (mOf c) t X) (updA (fun u => .sint .i64 (ats u : Int)) t A)) = concL φ' (pairs (mOf c') (fun u => .sint .i64 ((updA ats t a' u : Nat) : Int))) := by
    refine pairs_same (fun u hu => ?_) (fun u hu => ?_)
    · rw [updA_eq]
      split
      · rename_i e; rw [e, hX]
      · rename_i e
        have hm := hmode u e
        unfold mOf
        rw [hm]
        split
        · rfl
        · simp only [conc]; rw [hφ u hu e]
        · simp only [conc]; rw [hφ u hu e]
    · rw [updA_eq, updA_eq]
      split
      · exact hA
      · rfl
  rw [hp]
  congr 1
  · congr 1
    simp only [concL, conc, h1, h9, h7, h4, hturn]
  · simp only [concL, hE, hcn φ φ']
    rfl
theorem wl_same {φ φ' : Phi} {now : Int} {inv inv' mk mk' : Nat → AV} {s s' : Bool} (h2 : φ' 2 = φ 2) (h10 : φ' 10 = φ 10) (hi : ∀ u, u < 16 → conc φ (inv u) = conc φ' (inv' u)) (hm : ∀ u, u < 16 → conc φ (mk u) = conc φ' (mk' u)) :
    Same φ φ' (.row s (WL now inv mk) 92 none) (.row s' (WL now inv' mk') 92 none) := by
  refine ⟨?_, rfl, rfl⟩
  unfold WL
  rw [concL_append, concL_append, concL_append, concL_append, concL_append, concL_append, sixteen_same hi, sixteen_same hm]
  simp only [concL, conc, h2, h10]
theorem ints_same {φ φ' : Phi} {α : Type} (l : List α) (k : IntKind) (f : α → Int) : concL φ (l.map fun x => .sint k (f x)) = concL φ' (l.map fun x => .sint k (f x)) := by
  rw [concL_eq, concL_eq, List.map_map, List.map_map]; rfl

theorem words_len (n : Nat) (c : Cf) : (wordsOf n c).length = 2 * n + 65 := by simp [wordsOf]
theorem words_get {n : Nat} {c : Cf} {i : Nat} (h : i < 2 * n + 65) : (wordsOf n c)[i]? = some (.sint .u64 (wordAt n c i : Nat)) := by
  unfold wordsOf
  rw [List.getElem?_map, List.getElem?_range h]; rfl
theorem words_set {n : Nat} {c c' : Cf} {i : Nat} {v : Int} (hi : i < 2 * n + 65) (hv : v = (wordAt n c' i : Nat)) (h : ∀ k, k < 2 * n + 65 → k ≠ i → wordAt n c' k = wordAt n c k) : (wordsOf n c).set i (.sint .u64 v) = wordsOf n c' := by
  refine List.ext_getElem? fun k => ?_
  rw [List.getElem?_set]
  by_cases hk : k < 2 * n + 65
  · rw [words_get hk, words_get hk, words_len]
    split
    · rename_i e; subst e; rw [hv]
    · rename_i e; rw [h k hk (fun e' => e e'.symm)]
  · rw [if_neg (by omega), List.getElem?_eq_none (by rw [words_len]; omega), List.getElem?_eq_none (by rw [words_len]; omega)]
theorem flat6 {α : Type} {f : α → List AV} (hf : ∀ a, (f a).length = 6) {r : Nat} (hr : r < 6) : ∀ (l : List α) (i : Nat), (l.flatMap f)[6 * i + r]? = (l[i]?).bind fun a => (f a)[r]?
  | [], i => by simp
  | a :: l, 0 => by
    rw [List.flatMap_cons, List.getElem?_append_left (by rw [hf]; omega)]
    simp
  | a :: l, i + 1 => by
    rw [List.flatMap_cons, List.getElem?_append_right (by rw [hf]; omega), hf, show 6 * (i + 1) + r - 6 = 6 * i + r by omega, flat6 hf hr l i]
    simp
theorem callIx_lt {n many u k : Nat} (hu : u < n) (hk : k < 3 * many) : callIx n u k < 3 * n * many := by
  unfold callIx
  have h1 : k / 3 + 1 ≤ many := by omega
  have h2 : (k / 3 + 1) * n ≤ many * n := Nat.mul_le_mul_right n h1
  rw [Nat.add_mul, Nat.one_mul] at h2
  rw [Nat.mul_assoc, Nat.mul_comm n many]
  omega
theorem calls_get {n many u k r : Nat} (hu : u < n) (hk : k < 3 * many) (hr : r < 6) : (callsOf n many)[6 * callIx n u k + r]? = (callCells u (k % 3))[r]? := by
  have hc : ∀ i, (callCells (i / 3 % n) (i % 3)).length = 6 := fun i => by unfold callCells; split <;> rfl
  unfold callsOf
  rw [flat6 hc hr, List.getElem?_range (callIx_lt hu hk)]
  show (callCells (callIx n u k / 3 % n) (callIx n u k % 3))[r]? = _
  have e1 : callIx n u k % 3 = k % 3 := by unfold callIx; omega
  have e2 : callIx n u k / 3 % n = u := by
    have : callIx n u k / 3 = k / 3 * n + u := by unfold callIx; omega
    rw [this, Nat.mul_comm, Nat.mul_add_mod, Nat.mod_eq_of_lt hu]
  rw [e1, e2]
theorem load6 {l m : List AV} {i k : Nat} (h : ∀ r, r < 6 → l[k + r]? = m[r]?) (e : i = k) : ∀ j : Nat, j < 6 → l[i + j]? = m[j]? := fun j hj => by
  subst e; exact h j hj
theorem room_eq : room = 140737488355328 := rfl
theorem maxLen_eq : Go.maxLen = 9223372036854775807 := by decide
theorem lst_get {n many u k : Nat} (h : k < 3 * many) : (lstOf n many u)[k]? = some (.sint .i64 (callIx n u k : Nat)) := by
  unfold lstOf
  rw [List.getElem?_map, List.getElem?_range h]; rfl

section
variable {a b : Int} {st : AV} {last : Nat → Int}
theorem rl_len : (RL a b st last).length = 19 := rfl
theorem rl0 : (RL a b st last)[0]? = some (.sint .u64 a) := rfl
theorem rl1 : (RL a b st last)[1]? = some (.sint .i64 b) := rfl
theorem rl2 : (RL a b st last)[2]? = some st := rfl
theorem rl3 {w : Nat} (h : w < 16) : (RL a b st last)[3 + w]? = some (.sint .u64 (last w)) := by
  unfold RL sixteen
  rw [List.getElem?_append_right (by simp), show 3 + w - [AV.sint .u64 a, .sint .i64 b, st].length = w by simp, List.getElem?_map, List.getElem?_range h]; rfl
theorem rl_set {w : Nat} {x : Int} (h : w < 16) : (RL a b st last).set (3 + w) (.sint .u64 x) = RL a b st (updA last w x) := by
  refine List.ext_getElem? fun k => ?_
  rw [List.getElem?_set]
  by_cases hk : 3 ≤ k ∧ k < 19
  · obtain ⟨u, rfl⟩ : ∃ u, k = 3 + u := ⟨k - 3, by omega⟩
    rw [rl3 (by omega), rl3 (by omega), rl_len, updA_eq]
    by_cases e : u = w
    · subst e; simp; omega
    · rw [if_neg (by omega), if_neg e]
  · rw [if_neg (by omega)]
    by_cases h3 : k < 3
    · match k, h3 with
      | 0, _ => rfl
      | 1, _ => rfl
      | 2, _ => rfl
    · rw [List.getElem?_eq_none (by rw [rl_len]; omega), List.getElem?_eq_none (by rw [rl_len]; omega)]
theorem rl_set1 {x : Int} : (RL a b st last).set 1 (.sint .i64 x) = RL a x st last := rfl
theorem rl_set2 {x : AV} : (RL a b st last).set 2 x = RL a b x last := rfl
end
section
variable {now : Int} {inv mk : Nat → AV}
theorem wl_len : (WL now inv mk).length = 35 := rfl
theorem wl0 : (WL now inv mk)[0]? = some (.ptr 2 0) := rfl
theorem wl1 : (WL now inv mk)[1]? = some (.sint .i64 now) := rfl
theorem wl_set1 {x : Int} : (WL now inv mk).set 1 (.sint .i64 x) = WL x inv mk := rfl
theorem wl_m {w : Nat} (h : w < 16) : (WL now inv mk)[18 + w]? = some (mk w) := by
  unfold WL sixteen
  rw [List.getElem?_append_left (by simp; omega), List.getElem?_append_right (by simp), show 18 + w - ([AV.ptr 2 0, AV.sint IntKind.i64 now] ++ List.map inv (List.range 16)).length = w by simp, List.getElem?_map, List.getElem?_range h]; rfl
theorem wl_mu {w : Nat} {v : AV} (h : w < 16) : (WL now inv (updA mk w v))[18 + w]? = some v := by
  rw [wl_m h, updA_eq, if_pos rfl]
theorem wl_set {w : Nat} {v : AV} (h : w < 16) : (WL now inv mk).set (18 + w) v = WL now inv (updA mk w v) := by
  refine List.ext_getElem? fun k => ?_
  rw [List.getElem?_set]
  by_cases hk : 18 ≤ k ∧ k < 34
  · obtain ⟨u, rfl⟩ : ∃ u, k = 18 + u := ⟨k - 18, by omega⟩
    rw [wl_m (by omega), wl_m (by omega), wl_len, updA_eq]
    by_cases e : u = w
    · subst e; simp; omega
    · rw [if_neg (by omega), if_neg e]
  · rw [if_neg (by omega)]
    by_cases h3 : k < 18
    · have : ∀ mk : Nat → AV, (WL now inv mk)[k]? = ([AV.ptr 2 0, AV.sint IntKind.i64 now] ++ sixteen inv)[k]? := fun mk => by
        unfold WL
        rw [List.append_assoc, List.getElem?_append_left]
        simp [sixteen]; omega
      rw [this, this]
    · have : ∀ mk : Nat → AV, (WL now inv mk)[k]? = [AV.mapv 10][k - 34]? := fun mk => by
        unfold WL
        rw [List.getElem?_append_right (by simp [sixteen]; omega)]
        congr 1
      rw [this, this]
end
theorem EvsOk.of {L : List AV} {k : Nat} {may : Nat → Prop} {φ : Phi} (len : L.length = 8 * k) (stp : ∀ i, i < k → ∃ s, L[8 * i + 3]? = some (.sint .i64 s) ∨ L[8 * i + 3]? = some (.int .i64 s))
    (rsp : ∀ i, i < k → ∃ r, (L[8 * i + 2]? = some (.sint .i64 r) ∨ L[8 * i + 2]? = some (.int .i64 r)) ∧ (r ≠ 0 ∨ may i)) : EvsOk (L.map (kept φ)) k may := by
  refine ⟨by simpa using len, fun i hi => ?_, fun i hi => ?_, fun v hv => ?_⟩
  · obtain ⟨s, h | h⟩ := stp i hi <;> exact ⟨s, by rw [List.getElem?_map, h]; rfl⟩
  · obtain ⟨r, h | h, h2⟩ := rsp i hi <;> exact ⟨r, by rw [List.getElem?_map, h]; rfl, h2⟩
  · obtain ⟨u, _, rfl⟩ := List.mem_map.1 hv
    exact ⟨kept_flat u, kept_none u⟩
theorem flat_set {l : List AV} {i : Nat} {v : AV} (h : ∀ u ∈ l, u.flat = true) (hv : v.flat = true) : ∀ u ∈ l.set i v, u.flat = true := fun u hu => by
  rcases List.mem_or_eq_of_mem_set hu with h1 | h1
  · exact h u h1
  · rw [h1]; exact hv
theorem flat_mid {l m : List AV} {i k : Nat} (h : ∀ u ∈ l, u.flat = true) (hm : ∀ u ∈ m, u.flat = true) : ∀ u ∈ l.take i ++ m ++ l.drop k, u.flat = true := fun u hu => by
  rcases List.mem_append.1 hu with h1 | h1
  · rcases List.mem_append.1 h1 with h1 | h1
    · exact h u (List.mem_of_mem_take h1)
    · exact hm u h1
  · exact h u (List.mem_of_mem_drop h1)
theorem flat_app {l m : List AV} (h : ∀ u ∈ l, u.flat = true) (hm : ∀ u ∈ m, u.flat = true) : ∀ u ∈ l ++ m, u.flat = true := fun u hu => by
  rcases List.mem_append.1 hu with h1 | h1
  · exact h u h1
  · exact hm u h1
/-- What is put into the middle of a row. -/
theorem mid_get {l m : List AV} {o k : Nat} (ho : o + m.length ≤ l.length) (hk : k < o ∨ o + m.length ≤ k) : (l.take o ++ m ++ l.drop (o + m.length))[k]? = l[k]? := by
  rcases hk with h | h
  · rw [List.getElem?_append_left (by simp; omega), List.getElem?_append_left (by simp; omega), List.getElem?_take, if_pos h]
  · rw [List.getElem?_append_right (by simp; omega), List.getElem?_drop]
    congr 1
    simp only [List.length_append, List.length_take]
    omega
theorem mid_len {l m : List AV} {o : Nat} (ho : o + m.length ≤ l.length) : (l.take o ++ m ++ l.drop (o + m.length)).length = l.length := by
  simp only [List.length_append, List.length_take, List.length_drop]; omega
end Ct
end Go.Proofs.YtpkfimijnkkbjaaGreat

namespace Go.Proofs.YtpkfimijnkkbjaaGreat
namespace Ev

theorem named : Named Tryz.prog := by
  have h : (Tryz.prog.funcs.toList.all fun fn => !(fn.name == "runtime.NumGoroutine")) = true := by kernel_rfl
  intro f fn hf
  have := List.all_eq_true.1 h fn (List.mem_of_getElem? (by simpa using hf))
  simpa using this
theorem mixed : Tryz.prog.follows .mixedOrders = true := by kernel_rfl

def Res.yes : Res AV → Prop
  | .ok (.bool true) s => s.pre
  | _ => False
theorem lives_yes : Res.yes (evFn Tryz.prog noSums 60 7 [] st0) = True := by kernel_rfl

/-- A function without blocks of its own, from an empty heap. -/
theorem calls_yes {f : FuncId} {d : Nat} (h : Res.yes (evFn Tryz.prog noSums d f [] st0)) (w : World) :
    Calls Tryz.prog f #[] w fun e w' => e = .returned (.bool true) ∧ (∀ r, r < w.heap.size → w'.heap[r]? = w.heap[r]?) ∧ w.heap.size ≤ w'.heap.size ∧ w'.os = w.os ∧ w'.output = w.output := by
  unfold Res.yes at h
  split at h
  · rename_i s hs
    obtain ⟨_, R, W, sp, _, sem⟩ := sound named mixed noSums_ok d f [] st0 (.bool true) s hs
    have g0 : ∀ b, st0.get b = none := fun b => rfl
    refine (sem (fun _ => ⟨0, 0⟩) w h ⟨fun b o _ hg => (by rw [g0] at hg; cases hg), fun b c _ _ hg => absurd (g0 b) hg⟩ (fun b o _ hg => (by rw [g0] at hg; cases hg)) trivial).mono ?_
    rintro e w' ⟨φ', rfl, hm⟩
    exact ⟨rfl, fun r hr => hm.frame r hr fun c _ hg => absurd (g0 c) hg, hm.size, hm.kept⟩
  · exact h.elim
theorem lives_any (w : World) : Calls Tryz.prog 7 #[] w fun e w' => e = .returned (.bool true) ∧ (∀ r, r < w.heap.size → w'.heap[r]? = w.heap[r]?) ∧ w.heap.size ≤ w'.heap.size ∧ w'.os = w.os ∧ w'.output = w.output :=
  calls_yes (by rw [lives_yes]; trivial) w
end Ev
#print axioms Ev.lives_any
end Go.Proofs.YtpkfimijnkkbjaaGreat
