/-
  The run of sanity.
-/
import Derived.Test.YtfkbgacmpalafaaGreatDoorEv6
namespace Go.Ev
open Go Go.Proofs
namespace L32
set_option maxRecDepth 100000
noncomputable section
def ints (l : List Int) : List AV := l.map (.i .i64 ·)
def tab32 : List Int := [0, 1, 28, 2, 29, 14, 24, 3, 30, 22, 20, 15, 25, 17, 4, 8, 31, 27, 13, 23, 21, 19, 16, 7, 26, 12, 18, 6, 11, 5, 10, 9]
def kindsE (b : Nat → Nat) : Ents := [(.i .i64 1, .ag (ints [6, 2]), b 0), (.i .i64 2, .ag (ints [6, 35]), b 1), (.i .i64 3, .ag (ints [6, 0]), b 2), (.i .i64 4, .ag (ints [5, 8]), b 3), (.i .i64 5, .ag (ints [3, 1]), b 4), (.i .i64 6, .ag (ints [2, 7]), b 5), (.i .i64 7, .ag (ints [1, 4]), b 6), (.i .i64 8, .ag (ints [4, 1]), b 7)]
def rowOf (k : Nat) (l : List AV) : Blk := .row k (T.ofList l) l.length
/-- the package's variables -/
def G1 (b : Nat → Nat) (c : Nat) : T Blk := T.ofList [rowOf 2 [.m 5], rowOf 2 (ints [0, 12, 12, 20]), rowOf 2 (ints [0, 4, 4, 3, 7, 20]), rowOf 2 (tab32.map fun n => .i .u8 n), g4, .rom (kindsE b) c]
def S1 (b : Nat → Nat) (c : Nat) : St := ⟨G1 b c, 6, 0⟩
def isT : R → Bool
  | .v (.b t) _ => t
  | _ => false
theorem isT_eq {r : R} (h : isT r = true) : ∃ S, r = .v (.b true) S := by
  unfold isT at h
  split at h
  · subst h; exact ⟨_, rfl⟩
  · cases h
theorem sanity_run (b : Nat → Nat) (c : Nat) : isT (evT UF F fuel (.call 6 []) (S1 b c)) = true := by kernel_rfl
end
end L32
end Go.Ev
