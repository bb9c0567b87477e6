/-
  Ways through Player.Pick, printed by uni.py from what the kernel reckoned: adder0.
  The step of the counting play in which an adder is added to (printed by gen_cts3.py).
-/
import Derived.Test.YtpkfimijnkkbjaaGreatJ16
import Derived.Test.YtpkfimijnkkbjaaGreatProg
import Derived.KernelRfl
import Derived.Test.YtpkfimijnkkbjaaGreatJ34
set_option linter.unusedVariables false
namespace Go.Proofs.YtpkfimijnkkbjaaGreat
namespace Ct
open Ev
theorem way_adder0 (t : Nat) (ht : t < 6) (nc : Nat) (turn : AV) (m : Nat→AV) (ats : Nat→AV) (at1 : Int) (wd : AV) (cn : Nat→AV) (idle : Int) (now : Int) (inv : Nat→AV) (marks : Nat→AV) (lw : Nat) (cnt : Nat→Int) (n : Int) (words : List AV) (evl : Nat) (evs : List AV) (left : Int) (lmap : List (Int × AV)) (lst : List AV) (calls : List AV) (lk : Nat) (ll : Nat) (lt : Nat) (call : Int) (old : Int) :
    view [0, 1, 2, 3, 4, 5, 8, 98] (evFn Tryz.prog noSums 60 22 [.ptr 0 0, .int .i64 t] ⟨(mk [(0, .row false (PL nc turn (updA m t (.nili)) (updA ats t (.sint .i64 at1)) (.soslice 8 8 0 0 evl evl) wd cn idle) 83 none), (1, .row false (WL now inv (updA marks t (marks t))) 92 none), (2, .row false (ML lw lw cnt) 129 none), (3, .row true words 40 (some 1)), (4, .row false [.mapv 5, .sint .i64 left] 113 none), (5, .map true lmap), ((16 + t), .row true lst 3 (some 1)), (8, .row true evs 48 (some 8)), (9, .row false (OL n) 107 (some 1)), (7, .row true calls 42 (some 6))]), 96, 0, 0, True, [.val [AV.soslice ((16 + t) : Nat) (1 : Nat) lk (0 : Nat) ll lt], .br false, .val [AV.soslice ((16 + t) : Nat) (1 : Nat) lk (0 : Nat) ll lt], .val [AV.sint .i64 call], .val [AV.int .i64 (↑t : Int), AV.int .i64 (1 : Int), AV.int .i64 (2 : Int), AV.int .u64 (0 : Int), AV.int .u64 (0 : Int), AV.int .u64 (0 : Int)], .br false, .br false, .val [AV.sint .u64 old], .val [AV.sint .u64 old], .val [AV.sint .u64 old], .val [AV.int .i64 (0 : Int)], .val [AV.nils], .val [AV.nils], .val [AV.soslice ((16 + t) : Nat) (1 : Nat) lk (0 : Nat) ll lt], .br false, .val [AV.soslice ((16 + t) : Nat) (1 : Nat) lk (0 : Nat) ll lt], .val [AV.sint .i64 call], .val [AV.soslice ((16 + t) : Nat) (1 : Nat) lk (0 : Nat) ll lt]]⟩) =
    some (AV.bool true, (((((((((((((((((((((((((((((((((((((((((((True ∧ findM (↑t : Int) lmap = some (AV.soslice (16 + t) 1 lk 0 ll lt)) ∧ cmpI .eql (↑ll : Int) (0 : Int) = false) ∧ findM (↑t : Int) lmap = some (AV.soslice (16 + t) 1 lk 0 ll lt)) ∧ lk + ll ≤ lt) ∧ (0 : Int) ≤ (0 : Int) ∧ (0 : Int) < (↑ll : Int)) ∧ 1 = 1 ∧ ∀ (i : Nat), i < (1 : Nat) → lst[(lk + Int.toNat (0 : Int)) * (1 : Nat) + i]? = [AV.sint .i64 call][i]?) ∧ true = true) ∧ (0 : Nat) + nc ≤ nc) ∧ (0 : Int) ≤ call ∧ call < (↑nc : Int)) ∧ 6 = 6 ∧ ∀ (i : Nat), i < (6 : Nat) → calls[((0 : Nat) + call.toNat) * (6 : Nat) + i]? = [AV.int .i64 (↑t : Int), AV.int .i64 (1 : Int), AV.int .i64 (2 : Int), AV.int .u64 (0 : Int), AV.int .u64 (0 : Int), AV.int .u64 (0 : Int)][i]?) ∧ evl = evl ∧ evs.length = evl * (8 : Nat) ∧ (evl + (0 + (1 : Nat))) * 96 ≤ room ∧ evl + (0 + (1 : Nat)) ≤ maxLen) ∧ cmpI .lss n (0 : Int) = false) ∧ cmpI .geq n (↑lw : Int) = false) ∧ true = true) ∧ (0 : Nat) + lw ≤ lw) ∧ (0 : Int) ≤ n ∧ n < (↑lw : Int)) ∧ 1 = 1 ∧ ∀ (i : Nat), i < (1 : Nat) → words[((0 : Nat) + n.toNat) * (1 : Nat) + i]? = [AV.sint .u64 old][i]?) ∧ (0 : Nat) + lw ≤ lw) ∧ (0 : Int) ≤ n ∧ n < (↑lw : Int)) ∧ 1 = 1 ∧ ∀ (i : Nat), i < (1 : Nat) → words[((0 : Nat) + n.toNat) * (1 : Nat) + i]? = [AV.sint .u64 old][i]?) ∧ 1 = 1 ∧ ∀ (i : Nat), i < (1 : Nat) → words[((0 : Nat) + n.toNat) * (1 : Nat) + i]? = [AV.sint .u64 old][i]?) ∧ true = true) ∧ ((0 : Nat) + n.toNat) * (1 : Nat) < words.length) ∧ (0 : Nat) + (evl + (0 + (1 : Nat))) ≤ evl + (0 + (1 : Nat))) ∧ (0 : Int) ≤ (↑evl : Int) ∧ (↑evl : Int) < (↑(evl + (0 + (1 : Nat))) : Int)) ∧ 1 = 1 ∧ ∀ (i : Nat), i < (1 : Nat) → (evs ++ [AV.sint .i64 call, AV.sint .i64 (IntKind.i64.wrap (now + (1 : Int))), AV.int .i64 (0 : Int), AV.int .i64 (0 : Int), AV.int .i64 (0 : Int), AV.int .u64 (0 : Int), AV.nils, AV.nils])[((0 : Nat) + (↑evl : Int).toNat) * (8 : Nat) + (2 + (1 : Nat)) + i]? = [AV.int .i64 (0 : Int)][i]?) ∧ ((0 : Nat) + (↑evl : Int).toNat) * (8 : Nat) + (2 + (1 : Nat)) < (evs ++ [AV.sint .i64 call, AV.sint .i64 (IntKind.i64.wrap (now + (1 : Int))), AV.int .i64 (0 : Int), AV.int .i64 (0 : Int), AV.int .i64 (0 : Int), AV.int .u64 (0 : Int), AV.nils, AV.nils]).length) ∧ ((0 : Nat) + (↑evl : Int).toNat) * (8 : Nat) + (3 + (1 : Nat)) + (AV.agg [AV.int .i64 (0 : Int), AV.sint .u64 old, AV.nils]).cells.length ≤ ((evs ++ [AV.sint .i64 call, AV.sint .i64 (IntKind.i64.wrap (now + (1 : Int))), AV.int .i64 (0 : Int), AV.int .i64 (0 : Int), AV.int .i64 (0 : Int), AV.int .u64 (0 : Int), AV.nils, AV.nils]).set (((0 : Nat) + (↑evl : Int).toNat) * (8 : Nat) + (2 + (1 : Nat))) (AV.int .i64 (IntKind.i64.wrap ((0 : Int) + (1 : Int))))).length) ∧ ((0 : Nat) + (↑evl : Int).toNat) * (8 : Nat) + (6 + (1 : Nat)) < (List.take (((0 : Nat) + (↑evl : Int).toNat) * (8 : Nat) + (3 + (1 : Nat))) ((evs ++ [AV.sint .i64 call, AV.sint .i64 (IntKind.i64.wrap (now + (1 : Int))), AV.int .i64 (0 : Int), AV.int .i64 (0 : Int), AV.int .i64 (0 : Int), AV.int .u64 (0 : Int), AV.nils, AV.nils]).set (((0 : Nat) + (↑evl : Int).toNat) * (8 : Nat) + (2 + (1 : Nat))) (AV.int .i64 (IntKind.i64.wrap ((0 : Int) + (1 : Int))))) ++ (AV.agg [AV.int .i64 (0 : Int), AV.sint .u64 old, AV.nils]).cells ++ List.drop (((0 : Nat) + (↑evl : Int).toNat) * (8 : Nat) + (3 + (1 : Nat)) + (AV.agg [AV.int .i64 (0 : Int), AV.sint .u64 old, AV.nils]).cells.length) ((evs ++ [AV.sint .i64 call, AV.sint .i64 (IntKind.i64.wrap (now + (1 : Int))), AV.int .i64 (0 : Int), AV.int .i64 (0 : Int), AV.int .i64 (0 : Int), AV.int .u64 (0 : Int), AV.nils, AV.nils]).set (((0 : Nat) + (↑evl : Int).toNat) * (8 : Nat) + (2 + (1 : Nat))) (AV.int .i64 (IntKind.i64.wrap ((0 : Int) + (1 : Int)))))).length) ∧ ((0 : Nat) + (↑evl : Int).toNat) * (8 : Nat) + (1 + (1 : Nat)) < ((List.take (((0 : Nat) + (↑evl : Int).toNat) * (8 : Nat) + (3 + (1 : Nat))) ((evs ++ [AV.sint .i64 call, AV.sint .i64 (IntKind.i64.wrap (now + (1 : Int))), AV.int .i64 (0 : Int), AV.int .i64 (0 : Int), AV.int .i64 (0 : Int), AV.int .u64 (0 : Int), AV.nils, AV.nils]).set (((0 : Nat) + (↑evl : Int).toNat) * (8 : Nat) + (2 + (1 : Nat))) (AV.int .i64 (IntKind.i64.wrap ((0 : Int) + (1 : Int))))) ++ (AV.agg [AV.int .i64 (0 : Int), AV.sint .u64 old, AV.nils]).cells ++ List.drop (((0 : Nat) + (↑evl : Int).toNat) * (8 : Nat) + (3 + (1 : Nat)) + (AV.agg [AV.int .i64 (0 : Int), AV.sint .u64 old, AV.nils]).cells.length) ((evs ++ [AV.sint .i64 call, AV.sint .i64 (IntKind.i64.wrap (now + (1 : Int))), AV.int .i64 (0 : Int), AV.int .i64 (0 : Int), AV.int .i64 (0 : Int), AV.int .u64 (0 : Int), AV.nils, AV.nils]).set (((0 : Nat) + (↑evl : Int).toNat) * (8 : Nat) + (2 + (1 : Nat))) (AV.int .i64 (IntKind.i64.wrap ((0 : Int) + (1 : Int)))))).set (((0 : Nat) + (↑evl : Int).toNat) * (8 : Nat) + (6 + (1 : Nat))) AV.nils).length) ∧ 1 = 1 ∧ ∀ (i : Nat), i < (1 : Nat) → (((List.take (((0 : Nat) + (↑evl : Int).toNat) * (8 : Nat) + (3 + (1 : Nat))) ((evs ++ [AV.sint .i64 call, AV.sint .i64 (IntKind.i64.wrap (now + (1 : Int))), AV.int .i64 (0 : Int), AV.int .i64 (0 : Int), AV.int .i64 (0 : Int), AV.int .u64 (0 : Int), AV.nils, AV.nils]).set (((0 : Nat) + (↑evl : Int).toNat) * (8 : Nat) + (2 + (1 : Nat))) (AV.int .i64 (IntKind.i64.wrap ((0 : Int) + (1 : Int))))) ++ (AV.agg [AV.int .i64 (0 : Int), AV.sint .u64 old, AV.nils]).cells ++ List.drop (((0 : Nat) + (↑evl : Int).toNat) * (8 : Nat) + (3 + (1 : Nat)) + (AV.agg [AV.int .i64 (0 : Int), AV.sint .u64 old, AV.nils]).cells.length) ((evs ++ [AV.sint .i64 call, AV.sint .i64 (IntKind.i64.wrap (now + (1 : Int))), AV.int .i64 (0 : Int), AV.int .i64 (0 : Int), AV.int .i64 (0 : Int), AV.int .u64 (0 : Int), AV.nils, AV.nils]).set (((0 : Nat) + (↑evl : Int).toNat) * (8 : Nat) + (2 + (1 : Nat))) (AV.int .i64 (IntKind.i64.wrap ((0 : Int) + (1 : Int)))))).set (((0 : Nat) + (↑evl : Int).toNat) * (8 : Nat) + (6 + (1 : Nat))) AV.nils).set (((0 : Nat) + (↑evl : Int).toNat) * (8 : Nat) + (1 + (1 : Nat))) (AV.sint .i64 (IntKind.i64.wrap (now + (1 : Int)))))[((0 : Nat) + (↑evl : Int).toNat) * (8 : Nat) + (6 + (1 : Nat)) + i]? = [AV.nils][i]?) ∧ ((0 : Nat) + (↑evl : Int).toNat) * (8 : Nat) + (6 + (1 : Nat)) < (((List.take (((0 : Nat) + (↑evl : Int).toNat) * (8 : Nat) + (3 + (1 : Nat))) ((evs ++ [AV.sint .i64 call, AV.sint .i64 (IntKind.i64.wrap (now + (1 : Int))), AV.int .i64 (0 : Int), AV.int .i64 (0 : Int), AV.int .i64 (0 : Int), AV.int .u64 (0 : Int), AV.nils, AV.nils]).set (((0 : Nat) + (↑evl : Int).toNat) * (8 : Nat) + (2 + (1 : Nat))) (AV.int .i64 (IntKind.i64.wrap ((0 : Int) + (1 : Int))))) ++ (AV.agg [AV.int .i64 (0 : Int), AV.sint .u64 old, AV.nils]).cells ++ List.drop (((0 : Nat) + (↑evl : Int).toNat) * (8 : Nat) + (3 + (1 : Nat)) + (AV.agg [AV.int .i64 (0 : Int), AV.sint .u64 old, AV.nils]).cells.length) ((evs ++ [AV.sint .i64 call, AV.sint .i64 (IntKind.i64.wrap (now + (1 : Int))), AV.int .i64 (0 : Int), AV.int .i64 (0 : Int), AV.int .i64 (0 : Int), AV.int .u64 (0 : Int), AV.nils, AV.nils]).set (((0 : Nat) + (↑evl : Int).toNat) * (8 : Nat) + (2 + (1 : Nat))) (AV.int .i64 (IntKind.i64.wrap ((0 : Int) + (1 : Int)))))).set (((0 : Nat) + (↑evl : Int).toNat) * (8 : Nat) + (6 + (1 : Nat))) AV.nils).set (((0 : Nat) + (↑evl : Int).toNat) * (8 : Nat) + (1 + (1 : Nat))) (AV.sint .i64 (IntKind.i64.wrap (now + (1 : Int))))).length) ∧ 1 = 1 ∧ ∀ (i : Nat), i < (1 : Nat) → ((((List.take (((0 : Nat) + (↑evl : Int).toNat) * (8 : Nat) + (3 + (1 : Nat))) ((evs ++ [AV.sint .i64 call, AV.sint .i64 (IntKind.i64.wrap (now + (1 : Int))), AV.int .i64 (0 : Int), AV.int .i64 (0 : Int), AV.int .i64 (0 : Int), AV.int .u64 (0 : Int), AV.nils, AV.nils]).set (((0 : Nat) + (↑evl : Int).toNat) * (8 : Nat) + (2 + (1 : Nat))) (AV.int .i64 (IntKind.i64.wrap ((0 : Int) + (1 : Int))))) ++ (AV.agg [AV.int .i64 (0 : Int), AV.sint .u64 old, AV.nils]).cells ++ List.drop (((0 : Nat) + (↑evl : Int).toNat) * (8 : Nat) + (3 + (1 : Nat)) + (AV.agg [AV.int .i64 (0 : Int), AV.sint .u64 old, AV.nils]).cells.length) ((evs ++ [AV.sint .i64 call, AV.sint .i64 (IntKind.i64.wrap (now + (1 : Int))), AV.int .i64 (0 : Int), AV.int .i64 (0 : Int), AV.int .i64 (0 : Int), AV.int .u64 (0 : Int), AV.nils, AV.nils]).set (((0 : Nat) + (↑evl : Int).toNat) * (8 : Nat) + (2 + (1 : Nat))) (AV.int .i64 (IntKind.i64.wrap ((0 : Int) + (1 : Int)))))).set (((0 : Nat) + (↑evl : Int).toNat) * (8 : Nat) + (6 + (1 : Nat))) AV.nils).set (((0 : Nat) + (↑evl : Int).toNat) * (8 : Nat) + (1 + (1 : Nat))) (AV.sint .i64 (IntKind.i64.wrap (now + (1 : Int))))).set (((0 : Nat) + (↑evl : Int).toNat) * (8 : Nat) + (6 + (1 : Nat))) AV.nils)[((0 : Nat) + (↑evl : Int).toNat) * (8 : Nat) + (6 + (1 : Nat)) + i]? = [AV.nils][i]?) ∧ true = true) ∧ ((0 : Nat) + (↑evl : Int).toNat) * (8 : Nat) + (6 + (1 : Nat)) < ((((List.take (((0 : Nat) + (↑evl : Int).toNat) * (8 : Nat) + (3 + (1 : Nat))) ((evs ++ [AV.sint .i64 call, AV.sint .i64 (IntKind.i64.wrap (now + (1 : Int))), AV.int .i64 (0 : Int), AV.int .i64 (0 : Int), AV.int .i64 (0 : Int), AV.int .u64 (0 : Int), AV.nils, AV.nils]).set (((0 : Nat) + (↑evl : Int).toNat) * (8 : Nat) + (2 + (1 : Nat))) (AV.int .i64 (IntKind.i64.wrap ((0 : Int) + (1 : Int))))) ++ (AV.agg [AV.int .i64 (0 : Int), AV.sint .u64 old, AV.nils]).cells ++ List.drop (((0 : Nat) + (↑evl : Int).toNat) * (8 : Nat) + (3 + (1 : Nat)) + (AV.agg [AV.int .i64 (0 : Int), AV.sint .u64 old, AV.nils]).cells.length) ((evs ++ [AV.sint .i64 call, AV.sint .i64 (IntKind.i64.wrap (now + (1 : Int))), AV.int .i64 (0 : Int), AV.int .i64 (0 : Int), AV.int .i64 (0 : Int), AV.int .u64 (0 : Int), AV.nils, AV.nils]).set (((0 : Nat) + (↑evl : Int).toNat) * (8 : Nat) + (2 + (1 : Nat))) (AV.int .i64 (IntKind.i64.wrap ((0 : Int) + (1 : Int)))))).set (((0 : Nat) + (↑evl : Int).toNat) * (8 : Nat) + (6 + (1 : Nat))) AV.nils).set (((0 : Nat) + (↑evl : Int).toNat) * (8 : Nat) + (1 + (1 : Nat))) (AV.sint .i64 (IntKind.i64.wrap (now + (1 : Int))))).set (((0 : Nat) + (↑evl : Int).toNat) * (8 : Nat) + (6 + (1 : Nat))) AV.nils).length) ∧ findM (↑t : Int) lmap = some (AV.soslice (16 + t) 1 lk 0 ll lt)) ∧ cmpI .eql (↑ll : Int) (0 : Int) = false) ∧ findM (↑t : Int) lmap = some (AV.soslice (16 + t) 1 lk 0 ll lt)) ∧ lk + ll ≤ lt) ∧ (0 : Int) ≤ (0 : Int) ∧ (0 : Int) < (↑ll : Int)) ∧ 1 = 1 ∧ ∀ (i : Nat), i < (1 : Nat) → lst[(lk + Int.toNat (0 : Int)) * (1 : Nat) + i]? = [AV.sint .i64 call][i]?) ∧ findM (↑t : Int) lmap = some (AV.soslice (16 + t) 1 lk 0 ll lt)) ∧ (1 : Nat) ≤ 1 ∧ 1 ≤ ll ∧ lk + ll ≤ lt) ∧ true = true, 108, [0, 1, 2, 3, 4, 5, 8, 96, 97, 98, 99, 100, 101, 102, 103, 104, 105, 106, 107], [some (.row false (PL nc (AV.int .i64 (Int.ofNat t)) (updA m t (AV.nili)) (updA ats t (AV.sint .i64 (↑evl : Int))) (AV.soslice 98 8 0 0 (evl + (0 + (1 : Nat))) (evl + (0 + (1 : Nat)))) (wd) cn idle) 83 none), some (.row false (WL (IntKind.i64.wrap (now + (1 : Int))) (updA inv t (AV.sint .i64 (IntKind.i64.wrap (now + (1 : Int))))) (updA marks t (AV.nils))) 92 none), some (.row false [AV.soslice 3 1 0 0 lw lw, AV.sint .i64 (cnt (0 : Nat)), AV.sint .i64 (cnt (1 : Nat)), AV.sint .i64 (cnt (2 : Nat)), AV.sint .i64 (IntKind.i64.wrap (cnt (3 : Nat) + (1 : Int))), AV.sint .i64 (cnt (4 : Nat)), AV.nilf] 129 none), some (.row true (words.set (((0 : Nat) + n.toNat) * (1 : Nat)) (AV.sint .u64 (IntKind.u64.wrap (old + (1 : Int))))) 40 (some 1)), some (.row false [AV.mapv 5, AV.sint .i64 (IntKind.i64.wrap (left - (1 : Int)))] 113 none), some (.map true (putM (↑t : Int) (AV.soslice ((16 + t) : Nat) (1 : Nat) (lk + 1) lk (ll - 1) lt) lmap)), none, some (.row true (((((List.take (((0 : Nat) + (↑evl : Int).toNat) * (8 : Nat) + (3 + (1 : Nat))) ((evs ++ [AV.sint .i64 call, AV.sint .i64 (IntKind.i64.wrap (now + (1 : Int))), AV.int .i64 (0 : Int), AV.int .i64 (0 : Int), AV.int .i64 (0 : Int), AV.int .u64 (0 : Int), AV.nils, AV.nils]).set (((0 : Nat) + (↑evl : Int).toNat) * (8 : Nat) + (2 + (1 : Nat))) (AV.int .i64 (IntKind.i64.wrap ((0 : Int) + (1 : Int))))) ++ (AV.agg [AV.int .i64 (0 : Int), AV.sint .u64 old, AV.nils]).cells ++ List.drop (((0 : Nat) + (↑evl : Int).toNat) * (8 : Nat) + (3 + (1 : Nat)) + (AV.agg [AV.int .i64 (0 : Int), AV.sint .u64 old, AV.nils]).cells.length) ((evs ++ [AV.sint .i64 call, AV.sint .i64 (IntKind.i64.wrap (now + (1 : Int))), AV.int .i64 (0 : Int), AV.int .i64 (0 : Int), AV.int .i64 (0 : Int), AV.int .u64 (0 : Int), AV.nils, AV.nils]).set (((0 : Nat) + (↑evl : Int).toNat) * (8 : Nat) + (2 + (1 : Nat))) (AV.int .i64 (IntKind.i64.wrap ((0 : Int) + (1 : Int)))))).set (((0 : Nat) + (↑evl : Int).toNat) * (8 : Nat) + (6 + (1 : Nat))) AV.nils).set (((0 : Nat) + (↑evl : Int).toNat) * (8 : Nat) + (1 + (1 : Nat))) (AV.sint .i64 (IntKind.i64.wrap (now + (1 : Int))))).set (((0 : Nat) + (↑evl : Int).toNat) * (8 : Nat) + (6 + (1 : Nat))) AV.nils).set (((0 : Nat) + (↑evl : Int).toNat) * (8 : Nat) + (6 + (1 : Nat))) (AV.slice 107 (0 : Nat) (1 : Nat) (1 : Nat))) 48 (some 8))]) :=
  match t, ht with
  | 0, _ => by kernel_rfl
  | 1, _ => by kernel_rfl
  | 2, _ => by kernel_rfl
  | 3, _ => by kernel_rfl
  | 4, _ => by kernel_rfl
  | 5, _ => by kernel_rfl
end Ct
end Go.Proofs.YtpkfimijnkkbjaaGreat

namespace Go.Proofs.YtpkfimijnkkbjaaGreat
namespace Ct
open Ev

variable {κ : Keep}

set_option maxHeartbeats 1600000 in
theorem step_adder0 {n many k : Nat} {c : Cf} {j : Jk} {φ : Phi} {w : World} {t : Nat} (hn : n ≤ 6) (hm : many ≤ 5) (ht : t < n) (hok : Ok n many c) (hj : JOk n many c j k) (hk : k ≤ 1000000) (hfit : FitH κ (heap n many c j) φ w)
    (hmode : c.mode t = .none) (hq : c.fin t % 3 = 1) (hlt : c.fin t < 3 * many) :
    Calls Tryz.prog 22 #[conc φ (.ptr 0 0), .int .i64 (t : Int)] w (Goes κ n many k φ j.oth { c with mode := updA c.mode t .none, fin := updA c.fin t (c.fin t + 1) }) := by
  have hfin : c.fin t % 3 = 1 := hq
  have hb0 : (c.mode t).busy = 0 := by rw [hmode]; rfl
  have hlen := hj.evs.len
  have hevl := busy_le hn hm hok
  rw [← hj.evl] at hevl
  have hlog := log_le hn hm hok
  have happle := hok.app t ht
  have hmany : many ≠ 0 := by omega
  have hlm := hj.lm hmany t ht
  rw [if_neg (by omega)] at hlm
  have hnow := hj.now
  have hlst := lst_get (n := n) (many := many) (u := t) (k := c.fin t) (by omega)
  have hcix := callIx_lt (n := n) (many := many) ht hlt
  have hcall : ∀ r, r < 6 → (callsOf n many)[callIx n t (c.fin t) * 6 + r]? = (callCells t 1)[r]? := fun r hr => by
    rw [Nat.mul_comm, calls_get ht hlt hr, hfin]
  have hwl := words_len n c
  have hmo : mOf c t = .nili := by unfold mOf; rw [hmode]
  have hev0 : j.evl ≠ 0 := by
    have h1 := hj.evl
    have h2 := sumN_ge (f := fun u => c.fin u + (c.mode u).busy) ht
    omega
  have hE : evsOf j = .soslice 8 8 0 0 j.evl j.evl := by unfold evsOf; rw [if_neg hev0]
  have happ : ∀ m : List AV, (j.evs ++ m)[j.evl * 8 + 3]? = m[3]? := fun m => by rw [List.getElem?_append_right (by omega), show j.evl * 8 + 3 - j.evs.length = 3 by omega]
  have hw1 := words_get (n := n) (c := c) (i := n) (by omega)
  have hold : wordAt n c n ≤ 30 := by
    unfold wordAt
    rw [if_neg (by omega), if_pos rfl]
    refine Nat.le_trans (sumN_le n (g := fun _ => 5) fun u hu => ?_) ?_
    · have := hok.fin u hu; omega
    · rw [sumN_const]; omega
  have hfm := hlst
  have hwf := hlst
  have hev := way_adder0 t (by omega) (nc := 3 * n * many) (turn := .sint .i64 j.turn) (m := mOf c) (ats := fun u => .sint .i64 (j.ats u : Int)) (at1 := (j.ats t : Int)) (wd := .nils) (cn := fun i => .sint .i64 (j.cn i)) (idle := j.idle) (now := j.now) (inv := fun u => .sint .i64 (j.inv u)) (marks := markOf j) (lw := 2 * n + 65) (cnt := j.cnt) (n := (n : Int)) (words := wordsOf n c) (evl := j.evl) (evs := j.evs) (left := j.left) (lmap := j.lmap) (lst := lstOf n many t) (calls := callsOf n many) (lk := c.fin t) (ll := 3 * many - c.fin t) (lt := 3 * many) (call := ((callIx n t (c.fin t) : Nat) : Int)) (old := ((wordAt n c n : Nat) : Int))
  obtain ⟨s, hs, hpre, hnx', hwr, hrows⟩ := view_some hev
  have hP : s.pre := by
    rw [hpre]
    clear hev hpre hrows hs
    simp (disch := omega) only [wrap64, Nat.reduceAdd, Nat.zero_add, Nat.add_zero, Nat.mul_one, Int.toNat_natCast, room_eq, maxLen_eq]
    repeat' apply And.intro
    all_goals first
      | exact True.intro
      | exact Eq.refl true
      | exact hlm
      | omega
      | exact load1 hlst (by omega)
      | exact load1 hw1 (by omega)
      | exact load1 hstp (by omega)
      | exact load1 rl1 (by omega)
      | exact load6 hcall (by omega)
      | exact load1 ((happ _).trans rfl) (by omega)
      | exact hfm
      | exact fun v hv => hwf v (List.mem_of_mem_drop (List.mem_of_mem_take hv))
      | (simp only [List.length_set, List.length_append, List.length_take, List.length_drop, List.length_replicate, List.length_map, AV.cells, List.length_cons, List.length_nil]; omega)
      | exact load1 (get_self (by simp only [List.length_set, List.length_append, List.length_take, List.length_drop, List.length_replicate, List.length_map, AV.cells, List.length_cons, List.length_nil]; omega)) (by omega)
      | exact load1 (get_ne_self (by simp only [List.length_set, List.length_append, List.length_take, List.length_drop, List.length_replicate, List.length_map, AV.cells, List.length_cons, List.length_nil]; omega) (by omega)) (by omega)
      | (simp only [cmpI, decide_eq_true_eq, decide_eq_false_iff_not, beq_iff_eq, beq_eq_false_iff_ne, bne_iff_ne, bne_eq_false_iff_eq] <;> omega)
  refine (fit_call named mixed noSums_ok hs hP hfit (heap_ok hj) (hs_of (heap_ok hj) ?_) (by simp [AllL, AV.All])).mono ?_
  · rw [updA_self hmo, updA_self (f := fun u => AV.sint .i64 (j.ats u : Int)) (t := t) rfl, updA_self (f := markOf j) (t := t) rfl]
    exact cons_all (.same (heap0 hmany hE)) <| cons_all (.same heap1) <| cons_all (.same heap2) <| cons_all (.same heap3) <| cons_all (.same heap4) <| cons_all (.same heap5) <| cons_all (.same (heap16 ht hn hmany)) <| cons_all (.same (heap8 hev0)) <| cons_all (.same heap9) <| cons_all (.same (heap7 hmany)) <| nil_all
  · rintro e' w' ⟨φ1, rfl, hφ, hfit', _⟩
    have hnw : IntKind.i64.wrap (j.now + 1) = j.now + 1 := wrap64 (by omega) (by omega)
    have h8 := get_of_names hrows 7 rfl rfl
    rw [hnw] at h8
    have h3 := get_of_names hrows 3 rfl rfl
    rw [show ((0 : Nat) + (n : Int).toNat) * (1 : Nat) = n by omega, wrapU (by omega) (by omega), words_adder hmode hq ht] at h3
    have hflat0 : ∀ v ∈ j.evs ++ [AV.sint .i64 ((callIx n t (c.fin t) : Nat) : Int), AV.sint .i64 (j.now + 1), AV.int .i64 (0 : Int), AV.int .i64 (0 : Int), AV.int .i64 (0 : Int), AV.int .u64 (0 : Int), AV.nils, AV.nils], v.flat = true := flat_app (fun v hv => (hj.evs.all v hv).1) (by simp [AV.flat])
    have hM : ∀ L, s.get 98 = some (.row true L 48 (some 8)) → Mid (j.evs ++ [AV.sint .i64 ((callIx n t (c.fin t) : Nat) : Int), AV.sint .i64 (j.now + 1), AV.int .i64 (0 : Int), AV.int .i64 (0 : Int), AV.int .i64 (0 : Int), AV.int .u64 (0 : Int), AV.nils, AV.nils]) (((0 : Nat) + (j.evl : Int).toNat) * (8 : Nat)) (.int .i64 (IntKind.i64.wrap ((0 : Int) + (1 : Int)))) (.sint .i64 (j.now + 1)) L := fun L hL => by
      have := Option.some.inj (hL.symm.trans h8)
      injection this with _ this
      subst this
      exact .key (.key (.resp (.key (.cells (.start (by simp; omega) hflat0 (r := .int .i64 0) (by rw [List.getElem?_append_right (by omega), show ((0 : Nat) + (j.evl : Int).toNat) * (8 : Nat) + 2 - j.evs.length = 2 by omega]; rfl) rfl) rfl (by simp [AV.cells, AV.flat])) rfl) rfl) rfl) rfl
    refine arr_fin hn ht hmany hlt (by omega) (by rw [hmode]; rfl) hj hk hφ (e := 98) (kk := 11) (by intro b hb; simp only [List.mem_cons, List.not_mem_nil, or_false] at hb; omega) ⟨by simp, by simp, by simp, by simp, by simp, by simp, by simp⟩ (.inr rfl) (.inl rfl) hwr hfit' (turn' := (t : Int)) rfl (cnt := fun i => match i with | 3 => IntKind.i64.wrap (j.cnt 3 + 1) | i => j.cnt i) (inv' := updA j.inv t (IntKind.i64.wrap (j.now + 1))) (a' := j.evl) (evl' := j.evl + 1) (tr' := j.tr) (was' := j.was)
      (get_of_names hrows 0 rfl rfl) (fun _ => rfl) rfl (by omega) (get_of_names hrows 1 rfl rfl) (fun φ u => by rw [updA_eq, updA_eq]; split <;> rfl) (get_of_names hrows 2 rfl rfl) h3 (get_of_names hrows 4 rfl rfl) (get_of_names hrows 5 rfl rfl) h8 (hM _ h8).flat ?_ (by rw [hb0])
      (.inl ⟨by simp, rfl, rfl, rfl, rfl⟩) ?_
    · refine (hM _ h8).done (may := fun i => ∃ u, u < n ∧ (c.mode u).busy = 1 ∧ j.ats u = i) (at1 := j.evl) (by omega) (by omega) (.inr rfl) (by rw [List.length_append, hlen]; simp; omega) (fun i hi hne => ?_) (fun i hi hne => ?_) ?_
      · rw [List.getElem?_append_left (by omega)]
        obtain ⟨s, h⟩ := hj.evs.stp i (by omega); exact ⟨s, .inl h⟩
      · rw [List.getElem?_append_left (by omega)]
        obtain ⟨r, h, h'⟩ := hj.evs.rsp i (by omega); exact ⟨r, .inl h, h'⟩
      · rintro i hne ⟨u, hu, hb, hi⟩
        have hut : u ≠ t := fun e => by rw [e, hb0] at hb; cases hb
        exact ⟨u, hu, by rw [updA_eq, if_neg hut]; exact hb, by rw [updA_eq, if_neg hut]; exact hi⟩
    · refine Nat.le_trans hj.was (sumN_le n fun u _ => ?_)
      rw [updA_eq]; split
      · rename_i e; subst e; omega
      · exact Nat.le_refl _
end Ct
end Go.Proofs.YtpkfimijnkkbjaaGreat
