/-
  Links: the parts.
-/
import Derived.Test.YtfkbgacmpalafaaGreatDoorEv7
import Derived.IntWalk
import Derived.Test.YtfkbgacmpalafaaGreatDoorEv4
namespace Go.Ev
open Go Go.Proofs
namespace L32
set_option maxRecDepth 100000
/-! numbers -/
theorem keq_refl (k : IntKind) : keq k k = true := by cases k <;> rfl
theorem ilt_eq (x y : Int) : ilt x y = decide (x < y) := by
  cases x with
  | ofNat a =>
    cases y with
    | ofNat b =>
      show Nat.ble (Nat.succ a) b = _
      rw [Bool.eq_iff_iff, Nat.ble_eq, decide_eq_true_iff]
      show a + 1 ≤ b ↔ (a : Int) < (b : Int)
      omega
    | negSucc b =>
      show false = _
      symm; rw [decide_eq_false_iff_not]
      show ¬ ((a : Int) < Int.negSucc b)
      omega
  | negSucc a =>
    cases y with
    | ofNat b =>
      show true = _
      symm; rw [decide_eq_true_iff]
      show Int.negSucc a < (b : Int)
      omega
    | negSucc b =>
      show Nat.ble (Nat.succ b) a = _
      rw [Bool.eq_iff_iff, Nat.ble_eq, decide_eq_true_iff]
      omega
theorem ieq_eq (x y : Int) : ieq x y = decide (x = y) := by
  cases x with
  | ofNat a =>
    cases y with
    | ofNat b =>
      show Nat.beq a b = _
      rw [Bool.eq_iff_iff, decide_eq_true_iff]
      constructor
      · intro h; rw [Nat.eq_of_beq_eq_true h]
      · intro h; cases h; exact Nat.beq_refl a
    | negSucc b => symm; rw [show ieq (.ofNat a) (.negSucc b) = false from rfl, decide_eq_false_iff_not]; intro h; cases h
  | negSucc a =>
    cases y with
    | ofNat b => symm; rw [show ieq (.negSucc a) (.ofNat b) = false from rfl, decide_eq_false_iff_not]; intro h; cases h
    | negSucc b =>
      show Nat.beq b a = _
      rw [Bool.eq_iff_iff, decide_eq_true_iff]
      constructor
      · intro h; rw [Nat.eq_of_beq_eq_true h]
      · intro h; cases h; exact Nat.beq_refl a
theorem bin_lss (x y : Int) : bin .lss (.i .i64 x) (.i .i64 y) = some (.b (decide (x < y))) := by show some (AV.b (ilt x y)) = _; rw [ilt_eq]
theorem bin_gtr (x y : Int) : bin .gtr (.i .i64 x) (.i .i64 y) = some (.b (decide (y < x))) := by show some (AV.b (ilt y x)) = _; rw [ilt_eq]
theorem bin_leq (x y : Int) : bin .leq (.i .i64 x) (.i .i64 y) = some (.b (decide (x ≤ y))) := by
  show some (AV.b (not (ilt y x))) = _
  rw [ilt_eq]; congr 2
  rw [Bool.eq_iff_iff]; simp
theorem bin_geq (x y : Int) : bin .geq (.i .i64 x) (.i .i64 y) = some (.b (decide (y ≤ x))) := by
  show some (AV.b (not (ilt x y))) = _
  rw [ilt_eq]; congr 2
  rw [Bool.eq_iff_iff]; simp
theorem eq_int (x y : Int) : eqT 1 (.i .i64 x) (.i .i64 y) = some (decide (x = y)) := by show some (ieq x y) = _; rw [ieq_eq]
theorem fwrap_in {n : Int} (h1 : -9223372036854775808 ≤ n) (h2 : n ≤ 9223372036854775807) : fwrap .i64 n = n := by
  cases n with
  | ofNat m =>
    show @Bool.rec (fun _ => Int) (IntKind.i64.wrap (.ofNat m)) (.ofNat m) (Nat.ble m 9223372036854775807) = _
    have : Nat.ble m 9223372036854775807 = true := ble_of (by
      have : ((m : Nat) : Int) ≤ 9223372036854775807 := h2
      omega)
    rw [this]
  | negSucc m =>
    show IntKind.i64.wrap (.negSucc m) = _
    exact IntWalk.i64_in _ ⟨h1, h2⟩
theorem bin_add {x y : Int} (h1 : -9223372036854775808 ≤ x + y) (h2 : x + y ≤ 9223372036854775807) : bin .add (.i .i64 x) (.i .i64 y) = some (.i .i64 (x + y)) := by
  show some (AV.i .i64 (fwrap .i64 (x + y))) = _
  rw [fwrap_in h1 h2]
theorem bin_mul {x y : Int} (h1 : -9223372036854775808 ≤ x * y) (h2 : x * y ≤ 9223372036854775807) : bin .mul (.i .i64 x) (.i .i64 y) = some (.i .i64 (x * y)) := by
  show some (AV.i .i64 (fwrap .i64 (x * y))) = _
  rw [fwrap_in h1 h2]
theorem bin_sub {x y : Int} (h1 : -9223372036854775808 ≤ x - y) (h2 : x - y ≤ 9223372036854775807) : bin .sub (.i .i64 x) (.i .i64 y) = some (.i .i64 (x - y)) := by
  show some (AV.i .i64 (fwrap .i64 (x - y))) = _
  rw [fwrap_in h1 h2]
end L32
end Go.Ev
namespace Go.Ev
open Go Go.Proofs
namespace L32
set_option maxRecDepth 100000
theorem nothing {h : Hp} (e : h = []) {S : St} : ∀ p ∈ h, p.2.at (S.heap.get p.1) ∧ p.2.on = true := fun p hp => by subst e; cases hp
def wordB (p : Int) : Bool := decide (0 ≤ p) && decide (p ≤ 1099511627775)
theorem word_f {f : Nat} (hok : FnOk PP f c119) (p : Int) (S : St) : GCall PP f [.i .i64 p] S (isV (.b (wordB p)) S) := by
  refine GCall.still (JF (h := []) hok rfl (nothing rfl) List.nodup_nil ?_) rfl
  intro G
  unfold wordB
  refine JC.seq ?_
  refine JC.reg ?_
  refine JO.step (AO1.mv rfl) rfl ?_
  refine JO.nil ?_
  refine JC.seq ?_
  refine JC.reg ?_
  refine JO.step (AO1.mv rfl) rfl ?_
  refine JO.step (AO1.bn rfl rfl (bin_geq _ _)) rfl ?_
  refine JO.step (AO1.mv rfl) rfl ?_
  by_cases h : 0 ≤ p
  · refine JO.stepT rfl (decide_eq_true h) (AO1.mv rfl) rfl ?_
    refine JO.stepT rfl (decide_eq_true h) (AO1.bn rfl rfl (bin_leq _ _)) rfl ?_
    rw [decide_eq_true h]
    refine JO.step (AO1.pkT rfl rfl) rfl ?_
    refine JO.step (AO1.mv rfl) rfl ?_
    refine JO.nil ?_
    refine JC.ret ?_
    exact ⟨_, .t rfl .nil, rfl, rfl, .nil⟩
  · refine JO.skip rfl (decide_eq_false h) rfl ?_
    refine JO.skip rfl (decide_eq_false h) rfl ?_
    rw [decide_eq_false h]
    refine JO.step (AO1.pkF rfl rfl) rfl ?_
    refine JO.step (AO1.mv rfl) rfl ?_
    refine JO.nil ?_
    refine JC.ret ?_
    exact ⟨_, .t rfl .nil, rfl, rfl, .nil⟩
theorem word_c (p : Int) (S : St) : GCall PP 119 [.i .i64 p] S (isV (.b (wordB p)) S) := word_f ok119 p S
theorem wordR_c (p : Int) (S : St) : GCall PP 120 [.i .i64 p] S (isV (.b (wordB p)) S) := word_f ok120 p S
end L32
end Go.Ev
namespace Go.Ev
open Go Go.Proofs
namespace L32
set_option maxRecDepth 100000
/-- pointer.of: a reader of a word -/
theorem of_c (w : Int) (S : St) : GCall PP 118 [.i .i64 w] S (fun y S' => ∃ N' h', SH S N' h' S' ∧ ∃ B, y = .f (.func 168) [] [.p B 0] ∧ S.nxt ≤ B ∧ HSub S h' [(B, .row 0 [.i .i64 w])]) := by
  refine JF (h := []) ok118 rfl (nothing rfl) List.nodup_nil ?_
  intro G
  refine JC.seq ?_
  refine JC.reg ?_
  refine JO.step (AO1.bx rfl) rfl ?_
  refine JO.step (AO1.mv rfl) rfl ?_
  refine JO.nil ?_
  refine JC.seq ?_
  refine JC.reg ?_
  refine JO.step (AO1.mf rfl rfl) rfl ?_
  refine JO.step (AO1.mv rfl) rfl ?_
  refine JO.nil ?_
  refine JC.ret ?_
  exact ⟨_, .t rfl .nil, rfl, _, rfl, Nat.le_refl _, .keep .nil⟩
theorem land_mask (x : Nat) (k : Nat) : Nat.land x (2 ^ k - 1) = x % 2 ^ k := Nat.and_two_pow_sub_one_eq_mod x k
theorem field_val {w : Int} (h0 : 0 ≤ w) (h1 : w ≤ 1099511627775) (a b : Nat) (hb : b ≤ 40) : bitOp Nat.land .i64 (Int.fdiv w (.ofNat (2 ^ a))) (.ofNat (2 ^ b - 1)) = w / 2 ^ a % 2 ^ b := by
  obtain ⟨n, rfl⟩ := Int.eq_ofNat_of_zero_le h0
  have e1 : Int.fdiv (n : Int) (.ofNat (2 ^ a)) = .ofNat (n / 2 ^ a) := by
    rw [show ((n : Nat) : Int) = Int.ofNat n from rfl]
    exact Int.ofNat_fdiv n (2 ^ a) |>.symm
  rw [e1]
  have hn : n ≤ 1099511627775 := by omega
  have h2 : n / 2 ^ a ≤ 1099511627775 := Nat.le_trans (Nat.div_le_self _ _) hn
  have hb2 : 2 ^ b ≤ 2 ^ 40 := Nat.pow_le_pow_right (by omega) hb
  have e40 : (2 : Nat) ^ 40 = 1099511627776 := by decide
  have hpos : 0 < 2 ^ b := Nat.two_pow_pos b
  unfold bitOp bitsOf kmod
  simp only
  have m1 : Nat.mod (n / 2 ^ a) 18446744073709551616 = n / 2 ^ a := Nat.mod_eq_of_lt (by omega)
  have m2 : Nat.mod (2 ^ b - 1) 18446744073709551616 = 2 ^ b - 1 := Nat.mod_eq_of_lt (by omega)
  rw [m1, m2, land_mask]
  have h3 : n / 2 ^ a % 2 ^ b < 2 ^ b := Nat.mod_lt _ hpos
  rw [show (Int.ofNat (n / 2 ^ a % 2 ^ b)) = ((n / 2 ^ a % 2 ^ b : Nat) : Int) from rfl, fwrap_in (by omega) (by omega)]
  push_cast
  rfl
end L32
end Go.Ev
namespace Go.Ev
open Go Go.Proofs
namespace L32
set_option maxRecDepth 100000
theorem bin_shr {w : Int} {a : Nat} (k : IntKind) (ha : a ≤ 64) : bin .shr (.i .i64 w) (.i k (.ofNat a)) = some (.i .i64 (Int.fdiv w (.ofNat (2 ^ a)))) := by
  show some (AV.i .i64 (Int.fdiv w (.ofNat (Nat.pow 2 (Nat.min a 64))))) = _
  rw [show Nat.min a 64 = a from Nat.min_eq_left ha]; rfl
theorem bin_shl1 {b : Nat} (k : IntKind) (hb : b ≤ 40) : bin .shl (.i .i64 1) (.i k (.ofNat b)) = some (.i .i64 (.ofNat (2 ^ b))) := by
  have hb2 : 2 ^ b ≤ 2 ^ 40 := Nat.pow_le_pow_right (by omega) hb
  have e40 : (2 : Nat) ^ 40 = 1099511627776 := by decide
  show some (AV.i .i64 (fwrap .i64 (Int.mul 1 (.ofNat (Nat.pow 2 (Nat.min b 64)))))) = _
  rw [show Nat.min b 64 = b from Nat.min_eq_left (by omega), show Int.mul 1 (.ofNat (Nat.pow 2 b)) = ((2 ^ b : Nat) : Int) from Int.one_mul _]
  rw [e40] at hb2
  generalize 2 ^ b = m at *
  rw [fwrap_in (by omega) (by omega)]; rfl
theorem bin_mask {b : Nat} (hb : b ≤ 40) : bin .sub (.i .i64 (.ofNat (2 ^ b))) (.i .i64 1) = some (.i .i64 (.ofNat (2 ^ b - 1))) := by
  have hb2 : 2 ^ b ≤ 2 ^ 40 := Nat.pow_le_pow_right (by omega) hb
  have e40 : (2 : Nat) ^ 40 = 1099511627776 := by decide
  have hpos : 0 < 2 ^ b := Nat.two_pow_pos b
  rw [e40] at hb2
  generalize 2 ^ b = m at *
  have e : (Int.ofNat m) - 1 = Int.ofNat (m - 1) := by
    show (m : Int) - 1 = ((m - 1 : Nat) : Int)
    omega
  rw [bin_sub (by rw [e]; show -9223372036854775808 ≤ ((m - 1 : Nat) : Int); omega) (by rw [e]; show ((m - 1 : Nat) : Int) ≤ 9223372036854775807; omega), e]
/-- a part of a word -/
theorem part_c {w : Int} (h0 : 0 ≤ w) (h1 : w ≤ 1099511627775) (a b : Nat) (ha : a ≤ 64) (hb : b ≤ 40) {B : Nat} {S : St} (hB : (HB.row 0 [.i .i64 w]).at (S.heap.get B)) : GCall PP 168 [.ag [.i .i64 (.ofNat a), .i .i64 (.ofNat b)], .p B 0] S (isV (.i .i64 (w / 2 ^ a % 2 ^ b)) S) := by
  obtain ⟨c, e, hc⟩ := hB
  have h00 := hc 0 (Nat.zero_lt_one)
  refine GCall.still (JF (h := [(B, .blk (.row 0 c 1))]) ok168 rfl ?_ (by simp) ?_) rfl
  · intro p hp
    rw [List.mem_singleton] at hp; subst hp
    exact ⟨e, rfl⟩
  intro G
  refine JC.seq ?_
  refine JC.reg ?_
  refine JO.step (AO1.bx rfl) rfl ?_
  refine JO.step (AO1.mv rfl) rfl ?_
  refine JO.nil ?_
  refine JC.seq ?_
  refine JC.drw0 hm ?_
  refine JD.cons ?_
  refine JI.op (AO1.ld1X 0 rfl rfl rfl h00) rfl ?_
  refine JI.op (AO1.fa rfl) rfl ?_
  refine JI.op (AO1.ld1 1 rfl rfl rfl) rfl ?_
  refine JI.op (AO1.bn rfl rfl (bin_shr _ ha)) rfl ?_
  refine JI.op (AO1.fa rfl) rfl ?_
  refine JI.op (AO1.ld1 1 rfl rfl rfl) rfl ?_
  refine JI.op (AO1.bn rfl rfl (bin_shl1 _ hb)) rfl ?_
  refine JI.op (AO1.bn rfl rfl (bin_mask hb)) rfl ?_
  refine JI.op (AO1.bn (v := .i .i64 (w / 2 ^ a % 2 ^ b)) rfl rfl ?_) rfl ?_
  · show some (AV.i .i64 (bitOp Nat.land .i64 (Int.fdiv w (.ofNat (2 ^ a))) (.ofNat (2 ^ b - 1)))) = _
    rw [field_val h0 h1 a b hb]
  refine JI.op (AO1.mv rfl) rfl ?_
  refine JI.pr ?_
  refine JI.w0 ?_
  refine JD.nil ?_
  refine JC.ret ?_
  exact ⟨_, .t rfl .nil, rfl, rfl, .same e (.drop (Nat.le_refl _) .nil)⟩
end L32
end Go.Ev
namespace Go.Ev
open Go Go.Proofs
namespace L32
set_option maxRecDepth 100000
/-- whether a number is a pointer, or 0 -/
def goodB (p : Int) : Bool := wordB p && (decide (0 < p % 4096) && (decide (0 < p / 4096) && decide (p / 4096 < 1048576)))
def rightB (p : Int) : Bool := decide (p = 0) || goodB p
theorem good_val {p : Int} (h : wordB p = true) : goodB p = (decide (p / 2 ^ 32 = 0) && (decide (0 < p / 2 ^ 0 % 2 ^ 12) && decide (0 < p / 2 ^ 12 % 2 ^ 20))) := by
  unfold goodB
  rw [h]
  simp only [wordB, Bool.and_eq_true, decide_eq_true_eq] at h
  rw [Bool.true_and, Bool.eq_iff_iff]
  simp only [Bool.and_eq_true, decide_eq_true_eq]
  omega
/-- the package's table of parts -/
structure Ptr (S : St) (t : T AV) : Prop where
  h : S.heap.get 1 = some (.row 2 t 4)
  a : readCells t 0 2 = some [.i .i64 0, .i .i64 12]
  b : readCells t 2 2 = some [.i .i64 12, .i .i64 20]
theorem right_c (p : Int) {S : St} {t : T AV} (hp : Ptr S t) : GCall PP 73 [.i .i64 p] S (isV (.b (rightB p)) S) := by
  refine GCall.still (JF (h := [(1, .blk (.row 2 t 4))]) ok73 rfl ?_ (by simp) ?_) rfl
  · intro x hx
    rw [List.mem_singleton] at hx; subst hx
    exact ⟨hp.h, rfl⟩
  intro G
  repeat (first
      | refine JO.step (AO1.mv rfl) rfl ?_
      | refine JO.step (AO1.ncP rfl) rfl ?_
      | refine JO.step (AO1.fa rfl) rfl ?_
      | refine JO.nil ?_
      | refine JC.seq ?_
      | refine JC.reg ?_
      | refine JC.skip ?_
      | refine JC.blk ?_)
  refine JO.call (fun _ _ => rfl) rfl rfl rfl (fun S1 G1 => of_c p S1) (fun S1 G1 y S2 k => ?_) rfl
  obtain ⟨N', h', G', B, rfl, hB, hs⟩ := k
  rw [G1.nxt] at hB
  refine ⟨N', _, G1.updsN [] [(B, _)] rfl (G'.sub hs) [] trivial (fun x hx => by rw [List.mem_singleton] at hx; subst hx; exact hB), ?_⟩
  repeat (first
      | refine JO.step (AO1.mv rfl) rfl ?_
      | refine JO.step (AO1.ncP rfl) rfl ?_
      | refine JO.step (AO1.fa rfl) rfl ?_
      | refine JO.nil ?_
      | refine JC.seq ?_
      | refine JC.reg ?_
      | refine JC.skip ?_
      | refine JC.blk ?_)
  refine JO.step (AO1.eq rfl rfl (eq_int _ _)) rfl ?_
  repeat (first
      | refine JO.step (AO1.mv rfl) rfl ?_
      | refine JO.step (AO1.ncP rfl) rfl ?_
      | refine JO.step (AO1.fa rfl) rfl ?_
      | refine JO.nil ?_
      | refine JC.seq ?_
      | refine JC.reg ?_
      | refine JC.skip ?_
      | refine JC.blk ?_)
  by_cases h0 : p = 0
  · have e0 : cond false (!decide (p = 0)) (decide (p = 0)) = true := decide_eq_true h0
    refine JO.skip rfl e0 rfl ?_
    refine JO.skip rfl e0 rfl ?_
    refine JO.skip rfl e0 rfl ?_
    refine JO.skipU rfl rfl ?_
    refine JO.skipU rfl rfl ?_
    refine JO.skipU rfl rfl ?_
    refine JO.skip rfl e0 rfl ?_
    refine JO.skip rfl e0 rfl ?_
    refine JO.skipU rfl rfl ?_
    refine JO.skipU rfl rfl ?_
    refine JO.skipU rfl rfl ?_
    refine JO.skipU rfl rfl ?_
    refine JO.skipU rfl rfl ?_
    refine JO.skip rfl e0 rfl ?_
    refine JO.skip rfl e0 rfl ?_
    refine JO.skipU rfl rfl ?_
    refine JO.skipU rfl rfl ?_
    refine JO.skipU rfl rfl ?_
    refine JO.skipU rfl rfl ?_
    refine JO.skipU rfl rfl ?_
    refine JO.skip rfl e0 rfl ?_
    rw [e0]
    refine JO.step (AO1.pkT rfl rfl) rfl ?_
    repeat (first
        | refine JO.step (AO1.mv rfl) rfl ?_
        | refine JO.step (AO1.ncP rfl) rfl ?_
        | refine JO.step (AO1.fa rfl) rfl ?_
        | refine JO.nil ?_
        | refine JC.seq ?_
        | refine JC.reg ?_
        | refine JC.skip ?_
        | refine JC.blk ?_)
    refine JC.ret ?_
    exact ⟨_, .t rfl .nil, rfl, by simp [rightB, h0, packV], .same hp.h (.drop hB .nil)⟩
  have e0 : cond false (!decide (p = 0)) (decide (p = 0)) = false := decide_eq_false h0
  have hr : rightB p = goodB p := by simp [rightB, h0]
  refine JO.stepT rfl e0 (AO1.mv rfl) rfl ?_
  refine JO.callPT rfl e0 rfl rfl rfl (fun S1 _ => word_c p S1) rfl ?_
  refine JO.stepT rfl e0 (AO1.mv rfl) rfl ?_
  rw [hr]
  cases hw : wordB p with
  | false =>
    refine JO.skip rfl rfl rfl ?_
    refine JO.skip rfl rfl rfl ?_
    refine JO.skip rfl rfl rfl ?_
    refine JO.stepT rfl e0 (AO1.pkF rfl rfl) rfl ?_
    refine JO.stepT rfl e0 (AO1.mv rfl) rfl ?_
    refine JO.skip rfl rfl rfl ?_
    refine JO.skip rfl rfl rfl ?_
    refine JO.skip rfl rfl rfl ?_
    refine JO.skip rfl rfl rfl ?_
    refine JO.skip rfl rfl rfl ?_
    refine JO.stepT rfl e0 (AO1.pkF rfl rfl) rfl ?_
    refine JO.stepT rfl e0 (AO1.mv rfl) rfl ?_
    refine JO.skip rfl rfl rfl ?_
    refine JO.skip rfl rfl rfl ?_
    refine JO.skip rfl rfl rfl ?_
    refine JO.skip rfl rfl rfl ?_
    refine JO.skip rfl rfl rfl ?_
    refine JO.stepT rfl e0 (AO1.pkF rfl rfl) rfl ?_
    rw [e0]
    refine JO.step (AO1.pkF rfl rfl) rfl ?_
    repeat (first
        | refine JO.step (AO1.mv rfl) rfl ?_
        | refine JO.step (AO1.ncP rfl) rfl ?_
        | refine JO.step (AO1.fa rfl) rfl ?_
        | refine JO.nil ?_
        | refine JC.seq ?_
        | refine JC.reg ?_
        | refine JC.skip ?_
        | refine JC.blk ?_)
    refine JC.ret ?_
    exact ⟨_, .t rfl .nil, rfl, by simp [goodB, hw, packV], .same hp.h (.drop hB .nil)⟩
  | true =>
    have hg := good_val hw
    simp only [wordB, Bool.and_eq_true, decide_eq_true_eq] at hw
    refine JO.stepT rfl rfl (AO1.mv rfl) rfl ?_
    refine JO.stepT rfl rfl (AO1.bn (v := .i .i64 (p / 2 ^ 32)) rfl rfl ?_) rfl ?_
    · refine Eq.trans (bin_shr (a := 32) (w := p) .u64 (by omega)) ?_
      obtain ⟨n, rfl⟩ := Int.eq_ofNat_of_zero_le hw.1
      rw [show ((n : Nat) : Int) = Int.ofNat n from rfl, show Int.fdiv (Int.ofNat n) (Int.ofNat (2 ^ 32)) = Int.ofNat (n / 2 ^ 32) from (Int.ofNat_fdiv n (2 ^ 32)).symm]
      rfl
    refine JO.stepT rfl rfl (AO1.eq rfl rfl (eq_int _ _)) rfl ?_
    refine JO.stepT rfl e0 (AO1.pkT rfl rfl) rfl ?_
    refine JO.stepT rfl e0 (AO1.mv rfl) rfl ?_
    by_cases h1 : p / 2 ^ 32 = 0
    · have e1 : cond false (!decide (p / 2 ^ 32 = 0)) (decide (p / 2 ^ 32 = 0)) = true := decide_eq_true h1
      refine JO.stepT rfl e1 (AO1.mv rfl) rfl ?_
      refine JO.stepT rfl e1 (AO1.iaA rfl rfl rfl) rfl ?_
      refine JO.stepT rfl e1 (AO1.ldnX 0 rfl rfl rfl hp.a) rfl ?_
      refine JO.callPT rfl e1 rfl rfl rfl (fun S1 G1 => part_c hw.1 hw.2 0 12 (by omega) (by omega) (G1.look (j := 1) rfl)) rfl ?_
      refine JO.stepT rfl e1 (AO1.bn rfl rfl (bin_gtr _ _)) rfl ?_
      rw [e1]
      refine JO.stepT rfl e0 (AO1.pkT rfl rfl) rfl ?_
      refine JO.stepT rfl e0 (AO1.mv rfl) rfl ?_
      by_cases h2 : 0 < p / 2 ^ 0 % 2 ^ 12
      · have e2 := decide_eq_true h2
        refine JO.stepT rfl e2 (AO1.mv rfl) rfl ?_
        refine JO.stepT rfl e2 (AO1.iaA rfl rfl rfl) rfl ?_
        refine JO.stepT rfl e2 (AO1.ldnX 0 rfl rfl rfl hp.b) rfl ?_
        refine JO.callPT rfl e2 rfl rfl rfl (fun S1 G1 => part_c hw.1 hw.2 12 20 (by omega) (by omega) (G1.look (j := 1) rfl)) rfl ?_
        refine JO.stepT rfl e2 (AO1.bn rfl rfl (bin_gtr _ _)) rfl ?_
        rw [e2]
        refine JO.stepT rfl e0 (AO1.pkT rfl rfl) rfl ?_
        rw [e0]
        refine JO.step (AO1.pkF rfl rfl) rfl ?_
        repeat (first
            | refine JO.step (AO1.mv rfl) rfl ?_
            | refine JO.step (AO1.ncP rfl) rfl ?_
            | refine JO.step (AO1.fa rfl) rfl ?_
            | refine JO.nil ?_
            | refine JC.seq ?_
            | refine JC.reg ?_
            | refine JC.skip ?_
            | refine JC.blk ?_)
        refine JC.ret ?_
        exact ⟨_, .t rfl .nil, rfl, by rw [hg, decide_eq_true h1, e2]; rfl, .same hp.h (.drop hB .nil)⟩
      · have e2 : decide (0 < p / 2 ^ 0 % 2 ^ 12) = !true := decide_eq_false h2
        refine JO.skip rfl e2 rfl ?_
        refine JO.skip rfl e2 rfl ?_
        refine JO.skip rfl e2 rfl ?_
        refine JO.skip rfl e2 rfl ?_
        refine JO.skip rfl e2 rfl ?_
        rw [show decide (0 < p / 2 ^ 0 % 2 ^ 12) = false from e2]
        refine JO.stepT rfl e0 (AO1.pkF rfl rfl) rfl ?_
        rw [e0]
        refine JO.step (AO1.pkF rfl rfl) rfl ?_
        repeat (first
            | refine JO.step (AO1.mv rfl) rfl ?_
            | refine JO.step (AO1.ncP rfl) rfl ?_
            | refine JO.step (AO1.fa rfl) rfl ?_
            | refine JO.nil ?_
            | refine JC.seq ?_
            | refine JC.reg ?_
            | refine JC.skip ?_
            | refine JC.blk ?_)
        refine JC.ret ?_
        exact ⟨_, .t rfl .nil, rfl, by rw [hg, decide_eq_true h1, decide_eq_false h2]; rfl, .same hp.h (.drop hB .nil)⟩
    · have e1 : cond false (!decide (p / 2 ^ 32 = 0)) (decide (p / 2 ^ 32 = 0)) = !true := decide_eq_false h1
      refine JO.skip rfl e1 rfl ?_
      refine JO.skip rfl e1 rfl ?_
      refine JO.skip rfl e1 rfl ?_
      refine JO.skip rfl e1 rfl ?_
      refine JO.skip rfl e1 rfl ?_
      rw [show cond false (!decide (p / 2 ^ 32 = 0)) (decide (p / 2 ^ 32 = 0)) = false from e1]
      refine JO.stepT rfl e0 (AO1.pkF rfl rfl) rfl ?_
      refine JO.stepT rfl e0 (AO1.mv rfl) rfl ?_
      refine JO.skip rfl rfl rfl ?_
      refine JO.skip rfl rfl rfl ?_
      refine JO.skip rfl rfl rfl ?_
      refine JO.skip rfl rfl rfl ?_
      refine JO.skip rfl rfl rfl ?_
      refine JO.stepT rfl e0 (AO1.pkF rfl rfl) rfl ?_
      rw [e0]
      refine JO.step (AO1.pkF rfl rfl) rfl ?_
      repeat (first
          | refine JO.step (AO1.mv rfl) rfl ?_
          | refine JO.step (AO1.ncP rfl) rfl ?_
          | refine JO.step (AO1.fa rfl) rfl ?_
          | refine JO.nil ?_
          | refine JC.seq ?_
          | refine JC.reg ?_
          | refine JC.skip ?_
          | refine JC.blk ?_)
      refine JC.ret ?_
      exact ⟨_, .t rfl .nil, rfl, by rw [hg, decide_eq_false h1]; rfl, .same hp.h (.drop hB .nil)⟩
end L32
end Go.Ev
namespace Go.Ev
open Go Go.Proofs
namespace L32
set_option maxRecDepth 100000
theorem bin_rem {x y : Int} (hy : isZ y = false) : bin .rem (.i .i64 x) (.i .i64 y) = some (.i .i64 (Int.tmod x y)) := by
  show @Bool.rec (fun _ => Option AV) (some (.i .i64 (Int.tmod x y))) none (isZ y) = _
  rw [hy]
theorem bin_quo {x y : Int} (hy : isZ y = false) (h1 : -9223372036854775808 ≤ Int.tdiv x y) (h2 : Int.tdiv x y ≤ 9223372036854775807) : bin .quo (.i .i64 x) (.i .i64 y) = some (.i .i64 (Int.tdiv x y)) := by
  show @Bool.rec (fun _ => Option AV) (some (.i .i64 (fwrap .i64 (Int.tdiv x y)))) none (isZ y) = _
  rw [hy, fwrap_in h1 h2]
theorem rightR_c (p : Int) (S : St) : GCall PP 77 [.i .i64 p] S (isV (.b (rightB p)) S) := by
  refine GCall.still (JF (h := []) ok77 rfl (nothing rfl) List.nodup_nil ?_) rfl
  intro G
  repeat (first
      | refine JO.step (AO1.mv rfl) rfl ?_
      | refine JO.step (AO1.ncP rfl) rfl ?_
      | refine JO.step (AO1.fa rfl) rfl ?_
      | refine JO.nil ?_
      | refine JC.seq ?_
      | refine JC.reg ?_
      | refine JC.skip ?_
      | refine JC.blk ?_)
  refine JO.step (AO1.eq rfl rfl (eq_int _ _)) rfl ?_
  repeat (first
      | refine JO.step (AO1.mv rfl) rfl ?_
      | refine JO.step (AO1.ncP rfl) rfl ?_
      | refine JO.step (AO1.fa rfl) rfl ?_
      | refine JO.nil ?_
      | refine JC.seq ?_
      | refine JC.reg ?_
      | refine JC.skip ?_
      | refine JC.blk ?_)
  refine JC.cnd rfl (fun h0 => ?_) (fun h0 => ?_)
  · have h0 : p = 0 := of_decide_eq_true h0
    repeat (first
        | refine JO.step (AO1.mv rfl) rfl ?_
        | refine JO.step (AO1.ncP rfl) rfl ?_
        | refine JO.step (AO1.fa rfl) rfl ?_
        | refine JO.nil ?_
        | refine JC.seq ?_
        | refine JC.reg ?_
        | refine JC.skip ?_
        | refine JC.blk ?_)
    refine JC.ret ?_
    exact ⟨_, .t rfl .nil, rfl, by simp [rightB, h0, packV], .nil⟩
  have h0 : p ≠ 0 := of_decide_eq_false h0
  have hr : rightB p = goodB p := by simp [rightB, h0]
  rw [hr]
  repeat (first
      | refine JO.step (AO1.mv rfl) rfl ?_
      | refine JO.step (AO1.ncP rfl) rfl ?_
      | refine JO.step (AO1.fa rfl) rfl ?_
      | refine JO.nil ?_
      | refine JC.seq ?_
      | refine JC.reg ?_
      | refine JC.skip ?_
      | refine JC.blk ?_)
  refine JO.callP rfl rfl rfl (fun S1 _ => wordR_c p S1) rfl ?_
  repeat (first
      | refine JO.step (AO1.mv rfl) rfl ?_
      | refine JO.step (AO1.ncP rfl) rfl ?_
      | refine JO.step (AO1.fa rfl) rfl ?_
      | refine JO.nil ?_
      | refine JC.seq ?_
      | refine JC.reg ?_
      | refine JC.skip ?_
      | refine JC.blk ?_)
  cases hw : wordB p with
  | false =>
    refine JO.skip rfl rfl rfl ?_
    refine JO.skip rfl rfl rfl ?_
    refine JO.skip rfl rfl rfl ?_
    refine JO.step (AO1.pkF rfl rfl) rfl ?_
    repeat (first
        | refine JO.step (AO1.mv rfl) rfl ?_
        | refine JO.step (AO1.ncP rfl) rfl ?_
        | refine JO.step (AO1.fa rfl) rfl ?_
        | refine JO.nil ?_
        | refine JC.seq ?_
        | refine JC.reg ?_
        | refine JC.skip ?_
        | refine JC.blk ?_)
    refine JO.skip rfl rfl rfl ?_
    refine JO.skip rfl rfl rfl ?_
    refine JO.skip rfl rfl rfl ?_
    refine JO.step (AO1.pkF rfl rfl) rfl ?_
    repeat (first
        | refine JO.step (AO1.mv rfl) rfl ?_
        | refine JO.step (AO1.ncP rfl) rfl ?_
        | refine JO.step (AO1.fa rfl) rfl ?_
        | refine JO.nil ?_
        | refine JC.seq ?_
        | refine JC.reg ?_
        | refine JC.skip ?_
        | refine JC.blk ?_)
    refine JO.skip rfl rfl rfl ?_
    refine JO.skip rfl rfl rfl ?_
    refine JO.skip rfl rfl rfl ?_
    refine JO.step (AO1.pkF rfl rfl) rfl ?_
    repeat (first
        | refine JO.step (AO1.mv rfl) rfl ?_
        | refine JO.step (AO1.ncP rfl) rfl ?_
        | refine JO.step (AO1.fa rfl) rfl ?_
        | refine JO.nil ?_
        | refine JC.seq ?_
        | refine JC.reg ?_
        | refine JC.skip ?_
        | refine JC.blk ?_)
    refine JC.ret ?_
    exact ⟨_, .t rfl .nil, rfl, by simp [goodB, hw, packV], .nil⟩
  | true =>
    have hg : goodB p = (decide (0 < p % 4096) && (decide (0 < p / 4096) && decide (p / 4096 < 1048576))) := by unfold goodB; rw [hw, Bool.true_and]
    simp only [wordB, Bool.and_eq_true, decide_eq_true_eq] at hw
    have hm : Int.tmod p 4096 = p % 4096 := Int.tmod_eq_emod_of_nonneg hw.1
    have hd : Int.tdiv p 4096 = p / 4096 := Int.tdiv_eq_ediv_of_nonneg hw.1
    have hq : bin .quo (.i .i64 p) (.i .i64 4096) = some (.i .i64 (p / 4096)) := by
      rw [bin_quo rfl (by rw [hd]; omega) (by rw [hd]; omega), hd]
    refine JO.stepT rfl rfl (AO1.mv rfl) rfl ?_
    refine JO.stepT rfl rfl (AO1.bn (v := .i .i64 (p % 4096)) rfl rfl (by rw [bin_rem rfl, hm])) rfl ?_
    refine JO.stepT rfl rfl (AO1.bn rfl rfl (bin_gtr _ _)) rfl ?_
    refine JO.step (AO1.pkT rfl rfl) rfl ?_
    repeat (first
        | refine JO.step (AO1.mv rfl) rfl ?_
        | refine JO.step (AO1.ncP rfl) rfl ?_
        | refine JO.step (AO1.fa rfl) rfl ?_
        | refine JO.nil ?_
        | refine JC.seq ?_
        | refine JC.reg ?_
        | refine JC.skip ?_
        | refine JC.blk ?_)
    by_cases h1 : 0 < p % 4096
    · have e1 := decide_eq_true h1
      refine JO.stepT rfl e1 (AO1.mv rfl) rfl ?_
      refine JO.stepT rfl e1 (AO1.bn rfl rfl hq) rfl ?_
      refine JO.stepT rfl e1 (AO1.bn rfl rfl (bin_gtr _ _)) rfl ?_
      rw [e1]
      refine JO.step (AO1.pkT rfl rfl) rfl ?_
      repeat (first
          | refine JO.step (AO1.mv rfl) rfl ?_
          | refine JO.step (AO1.ncP rfl) rfl ?_
          | refine JO.step (AO1.fa rfl) rfl ?_
          | refine JO.nil ?_
          | refine JC.seq ?_
          | refine JC.reg ?_
          | refine JC.skip ?_
          | refine JC.blk ?_)
      by_cases h2 : 0 < p / 4096
      · have e2 := decide_eq_true h2
        refine JO.stepT rfl e2 (AO1.mv rfl) rfl ?_
        refine JO.stepT rfl e2 (AO1.bn rfl rfl hq) rfl ?_
        refine JO.stepT rfl e2 (AO1.bn rfl rfl (bin_lss _ _)) rfl ?_
        rw [e2]
        refine JO.step (AO1.pkT rfl rfl) rfl ?_
        repeat (first
            | refine JO.step (AO1.mv rfl) rfl ?_
            | refine JO.step (AO1.ncP rfl) rfl ?_
            | refine JO.step (AO1.fa rfl) rfl ?_
            | refine JO.nil ?_
            | refine JC.seq ?_
            | refine JC.reg ?_
            | refine JC.skip ?_
            | refine JC.blk ?_)
        refine JC.ret ?_
        exact ⟨_, .t rfl .nil, rfl, by rw [hg, e1, e2]; rfl, .nil⟩
      · have e2 : decide (0 < p / 4096) = !true := decide_eq_false h2
        refine JO.skip rfl e2 rfl ?_
        refine JO.skip rfl e2 rfl ?_
        refine JO.skip rfl e2 rfl ?_
        rw [show decide (0 < p / 4096) = false from e2]
        refine JO.step (AO1.pkF rfl rfl) rfl ?_
        repeat (first
            | refine JO.step (AO1.mv rfl) rfl ?_
            | refine JO.step (AO1.ncP rfl) rfl ?_
            | refine JO.step (AO1.fa rfl) rfl ?_
            | refine JO.nil ?_
            | refine JC.seq ?_
            | refine JC.reg ?_
            | refine JC.skip ?_
            | refine JC.blk ?_)
        refine JC.ret ?_
        exact ⟨_, .t rfl .nil, rfl, by rw [hg, e1, decide_eq_false h2]; rfl, .nil⟩
    · have e1 : decide (0 < p % 4096) = !true := decide_eq_false h1
      refine JO.skip rfl e1 rfl ?_
      refine JO.skip rfl e1 rfl ?_
      refine JO.skip rfl e1 rfl ?_
      rw [show decide (0 < p % 4096) = false from e1]
      refine JO.step (AO1.pkF rfl rfl) rfl ?_
      repeat (first
          | refine JO.step (AO1.mv rfl) rfl ?_
          | refine JO.step (AO1.ncP rfl) rfl ?_
          | refine JO.step (AO1.fa rfl) rfl ?_
          | refine JO.nil ?_
          | refine JC.seq ?_
          | refine JC.reg ?_
          | refine JC.skip ?_
          | refine JC.blk ?_)
      refine JO.skip rfl rfl rfl ?_
      refine JO.skip rfl rfl rfl ?_
      refine JO.skip rfl rfl rfl ?_
      refine JO.step (AO1.pkF rfl rfl) rfl ?_
      repeat (first
          | refine JO.step (AO1.mv rfl) rfl ?_
          | refine JO.step (AO1.ncP rfl) rfl ?_
          | refine JO.step (AO1.fa rfl) rfl ?_
          | refine JO.nil ?_
          | refine JC.seq ?_
          | refine JC.reg ?_
          | refine JC.skip ?_
          | refine JC.blk ?_)
      refine JC.ret ?_
      exact ⟨_, .t rfl .nil, rfl, by rw [hg, decide_eq_false h1]; rfl, .nil⟩
end L32
end Go.Ev
namespace Go.Ev
open Go Go.Proofs
namespace L32
set_option maxRecDepth 100000
/-- a slice of numbers that is only read -/
structure Rd (S : St) (W k : Nat) (t : T AV) (m o : Nat) (ws : List Int) : Prop where
  h : S.heap.get W = some (.row k t m)
  le : o + ws.length ≤ m
  ge : ∀ i, (hi : i < ws.length) → t.get (o + i) = some (.i .i64 ws[i])
theorem Rd.ble {S : St} {W k m o : Nat} {t : T AV} {ws : List Int} (R : Rd S W k t m o ws) {i : Nat} (hi : i < ws.length) : Nat.ble (Nat.succ (Nat.add o (Nat.mul i 1))) m = true := ble_of (by
  have := R.le
  show o + i * 1 + 1 ≤ m
  omega)
theorem Rd.get {S : St} {W k m o : Nat} {t : T AV} {ws : List Int} (R : Rd S W k t m o ws) {i : Nat} (hi : i < ws.length) : t.get (Nat.add o (Nat.mul i 1)) = some (.i .i64 (ws.getD i 0)) := by
  rw [show Nat.mul i 1 = i from Nat.mul_one i, show Nat.add o i = o + i from rfl, R.ge i hi]; simp [hi]
abbrev LL := List (Int × Int × Int)
def flat2 : LL → List AV
  | [] => []
  | p :: r => .i .i64 p.1 :: .i .i64 p.2.1 :: flat2 r
def flat1 : LL → List AV
  | [] => []
  | p :: r => .i .i64 p.2.2 :: flat1 r
theorem flat2_length : ∀ l : LL, (flat2 l).length = l.length * 2
  | [] => rfl
  | p :: r => by show (flat2 r).length + 1 + 1 = (r.length + 1) * 2; rw [flat2_length r]; omega
theorem flat1_length : ∀ l : LL, (flat1 l).length = l.length
  | [] => rfl
  | p :: r => by show (flat1 r).length + 1 = r.length + 1; rw [flat1_length r]
theorem flat2_app : ∀ (l r : LL), flat2 (l ++ r) = flat2 l ++ flat2 r
  | [], r => rfl
  | p :: l, r => by show _ :: _ :: flat2 (l ++ r) = _ :: _ :: (flat2 l ++ flat2 r); rw [flat2_app l r]
theorem flat1_app : ∀ (l r : LL), flat1 (l ++ r) = flat1 l ++ flat1 r
  | [], r => rfl
  | p :: l, r => by show _ :: flat1 (l ++ r) = _ :: (flat1 l ++ flat1 r); rw [flat1_app l r]
theorem flat2_take (l : LL) : (flat2 l).take (l.length * 2) = flat2 l := by rw [← flat2_length, List.take_length]
theorem flat1_take (l : LL) : (flat1 l).take (l.length * 1) = flat1 l := by rw [Nat.mul_one, ← flat1_length, List.take_length]
/-- two lists that grow together -/
inductive Tl : LL → AV → AV → Hp → Prop
  | nil : Tl [] .sn .sn []
  | row {l A B} (hl : l ≠ []) : Tl l (.sl A 0 l.length none) (.sl B 0 l.length none) [(A, .row 5 (flat2 l)), (B, .row 4 (flat1 l))]
theorem Tl.app {l : LL} {x : Int × Int × Int} {A B : Nat} : Tl (l ++ [x]) (.sl A 0 (l.length + (0 + 1)) none) (.sl B 0 (l.length + (0 + 1)) none) [(A, .row 5 (flat2 (l ++ [x]))), (B, .row 4 (flat1 (l ++ [x])))] := by
  have := Tl.row (l := l ++ [x]) (A := A) (B := B) (by simp)
  rw [show (l ++ [x]).length = l.length + (0 + 1) from by rw [List.length_append]; rfl] at this
  exact this
def ids (h : Hp) : List Nat := h.map (·.1)
theorem Tl.on {l : LL} {u v : AV} {tl : Hp} (h : Tl l u v tl) : ∀ p ∈ tl, p.2.on = true := by
  cases h with
  | nil => intro p hp; cases hp
  | row _ =>
    intro p hp
    simp only [List.mem_cons, List.not_mem_nil, or_false] at hp
    rcases hp with rfl | rfl <;> rfl
/-! the links of a block, as the program finds them -/
def bad (x : Int) : Bool := decide (x = 0) || !rightB x
abbrev LS := Bool × LL
def addL (ws : List Int) (role : Int) (s : LS) (i : Nat) : LS := (s.1 || bad (ws.getD i 0), s.2 ++ [(role, ws.getD i 0, .ofNat i)])
def mustF (ws : List Int) (role : Int) (s : LS) (is : List Nat) : LS := is.foldl (addL ws role) s
theorem mustF_len (ws : List Int) (role : Int) : ∀ (is : List Nat) (s : LS), (mustF ws role s is).2.length = s.2.length + is.length
  | [], s => rfl
  | i :: is, s => by
    show (mustF ws role (addL ws role s i) is).2.length = _
    rw [mustF_len ws role is]
    simp only [addL, List.length_append, List.length_cons, List.length_nil]
    omega
def places (is : List Nat) : List AV := is.map fun i => .i .i64 (.ofNat i)
theorem places_length (is : List Nat) : (places is).length = is.length := List.length_map ..
theorem capk {xs : List AV} {n b : Nat} (h1 : ones xs = true) (h : (n + 1) * b ≤ 1099511627776) : (ones xs && Nat.ble (Nat.mul (Nat.add n (0 + 1)) b) 1099511627776) = true := by
  rw [h1, Bool.true_and]; exact ble_of h
theorem simple_sl {b o n : Nat} {c : Option Nat} : simpleA (.sl b o n c) = true := by cases c <;> rfl
/-- what a call of a function leaves that adds links -/
def LinkPost (S : St) (B11 B9 B10 : Nat) (tl : Hp) (s : LS) (y : AV) (S' : St) : Prop :=
  y = .tu [] ∧ ∃ N' vO vP tl', Tl s.2 vO vP tl' ∧ (∀ p ∈ tl', p.1 ∈ ids tl ∨ S.nxt ≤ p.1) ∧ SH (S.dels (ids tl)) N' ((B11, .row 0 [.b s.1]) :: (B9, .row 0 [vO]) :: (B10, .row 0 [vP]) :: tl') S'
structure CxM (S : St) (s : LS) (vO vP : AV) (tl : Hp) (B11 B3 B9 B10 V W k m o : Nat) (cp : Option Nat) (t tp : T AV) (ws : List Int) (is : List Nat) : Prop where
  hT : Tl s.2 vO vP tl
  h11 : (HB.row 0 [.b s.1]).at (S.heap.get B11)
  h3 : (HB.row 0 [.sl W o ws.length cp]).at (S.heap.get B3)
  h9 : (HB.row 0 [vO]).at (S.heap.get B9)
  h10 : (HB.row 0 [vP]).at (S.heap.get B10)
  hV : (HB.row 0 (places is)).at (S.heap.get V)
  R : Rd S W k t m o ws
  hP : Ptr S tp
  hi : ∀ i ∈ is, i < ws.length
  len : s.2.length + is.length ≤ 1000
  htl : ∀ p ∈ tl, p.2.at (S.heap.get p.1)
  dis : (([B11, B3, B9, B10, V, W, 1] : List Nat) ++ ids tl).Nodup
theorem must_c {S : St} {s : LS} {vO vP : AV} {tl : Hp} {B11 B3 B9 B10 V W k m o : Nat} {cp : Option Nat} {t tp : T AV} {ws : List Int} {is : List Nat} (X : CxM S s vO vP tl B11 B3 B9 B10 V W k m o cp t tp ws is) (role : Int) :
    GCall PP 72 [.i .i64 role, .sl V 0 is.length (some is.length), .p B11 0, .p B3 0, .p B9 0, .p B10 0] S (LinkPost S B11 B9 B10 tl (mustF ws role s is)) := by
  obtain ⟨c3, e3, g3⟩ := X.h3
  have h30 : c3.get 0 = some (.sl W o ws.length cp) := g3 0 Nat.zero_lt_one
  obtain ⟨cV, eV, gV⟩ := X.hV
  rw [places_length] at eV gV
  have hV : ∀ i, (hi : i < is.length) → cV.get (Nat.add 0 (Nat.mul i 1)) = some (.i .i64 (.ofNat is[i])) := fun i hi => by
    rw [show Nat.mul i 1 = i from Nat.mul_one i, show Nat.add 0 i = i from Nat.zero_add i, gV i hi]
    simp [places, hi]
  have nin : ∀ β ∈ ([B11, B3, B9, B10, V, W, 1] : List Nat), β ∉ ids tl := fun β hβ hm => (List.nodup_append.1 X.dis).2.2 β hβ β hm rfl
  have s3 : (S.dels (ids tl)).heap.get B3 = some (.row 0 c3 1) := by rw [St.dels_get, if_neg (nin _ (by simp))]; exact e3
  have sV : (S.dels (ids tl)).heap.get V = some (.row 0 cV is.length) := by rw [St.dels_get, if_neg (nin _ (by simp))]; exact eV
  have sW : (S.dels (ids tl)).heap.get W = some (.row k t m) := by rw [St.dels_get, if_neg (nin _ (by simp))]; exact X.R.h
  have s1 : (S.dels (ids tl)).heap.get 1 = some (.row 2 tp 4) := by rw [St.dels_get, if_neg (nin _ (by simp))]; exact X.hP.h
  have lim0 : ∀ i ∈ ids tl, (S.dels (ids tl)).heap.get i = none := fun i hi => by rw [St.dels_get, if_pos hi]
  refine (JFD (h := [(B11, .row 0 [.b s.1]), (B3, .blk (.row 0 c3 1)), (B9, .row 0 [vO]), (B10, .row 0 [vP]), (V, .blk (.row 0 cV is.length)), (W, .blk (.row k t m)), (1, .blk (.row 2 tp 4))] ++ tl) ok72 rfl (ids tl) ?_ ?_ ?_
    (Φ := fun y N' h' => y = .tu [] ∧ ∃ vO vP tl', Tl (mustF ws role s is).2 vO vP tl' ∧ (∀ p ∈ tl', p.1 ∈ ids tl ∨ S.nxt ≤ p.1) ∧ HSub (S.dels (ids tl)) h' ((B11, .row 0 [.b (mustF ws role s is).1]) :: (B9, .row 0 [vO]) :: (B10, .row 0 [vP]) :: tl')) ?_).mono ?_
  · intro p hp
    simp only [List.cons_append, List.nil_append, List.mem_cons] at hp
    rcases hp with rfl | rfl | rfl | rfl | rfl | rfl | rfl | hp
    · exact ⟨X.h11, rfl⟩
    · exact ⟨e3, rfl⟩
    · exact ⟨X.h9, rfl⟩
    · exact ⟨X.h10, rfl⟩
    · exact ⟨eV, rfl⟩
    · exact ⟨X.R.h, rfl⟩
    · exact ⟨X.hP.h, rfl⟩
    · exact ⟨X.htl p hp, X.hT.on p hp⟩
  · have := X.dis
    simpa [ids] using this
  · intro i hi
    obtain ⟨p, hp, e⟩ := List.mem_map.1 hi
    exact ⟨p, List.mem_append_right _ hp, e⟩
  · intro G0
    repeat (first
        | refine JO.step (AO1.mv rfl) rfl ?_
        | refine JO.step (AO1.ncP rfl) rfl ?_
        | refine JO.step (AO1.fa rfl) rfl ?_
        | refine JO.nil ?_
        | refine JC.seq ?_
        | refine JC.reg ?_
        | refine JC.skip ?_
        | refine JC.blk ?_)
    refine JO.step (AO1.lenSlc rfl) rfl ?_
    repeat (first
        | refine JO.step (AO1.mv rfl) rfl ?_
        | refine JO.step (AO1.ncP rfl) rfl ?_
        | refine JO.step (AO1.fa rfl) rfl ?_
        | refine JO.nil ?_
        | refine JC.seq ?_
        | refine JC.reg ?_
        | refine JC.skip ?_
        | refine JC.blk ?_)
    refine JC.loop (fun a : Nat × LS × AV × AV × Hp × Nat => [(12, .i .i64 (.ofNat a.1)), (10, .sl V 0 is.length (some is.length)), (11, .i .i64 (.ofNat is.length))] ++ entL [.i .i64 role, .sl V 0 is.length (some is.length), .p B11 0, .p B3 0, .p B9 0, .p B10 0] 0)
      (fun a => a.2.2.2.2.2)
      (fun a => [(B11, .row 0 [.b a.2.1.1]), (B3, .blk (.row 0 c3 1)), (B9, .row 0 [a.2.2.1]), (B10, .row 0 [a.2.2.2.1]), (V, .blk (.row 0 cV is.length)), (W, .blk (.row k t m)), (1, .blk (.row 2 tp 4))] ++ a.2.2.2.2.1)
      (fun a => is.length - a.1)
      (fun a => a.1 ≤ is.length ∧ S.nxt ≤ a.2.2.2.2.2 ∧ Tl a.2.1.2 a.2.2.1 a.2.2.2.1 a.2.2.2.2.1 ∧ mustF ws role a.2.1 (is.drop a.1) = mustF ws role s is ∧ a.2.1.2.length + (is.length - a.1) ≤ 1000 ∧ ∀ p ∈ a.2.2.2.2.1, p.1 ∈ ids tl ∨ S.nxt ≤ p.1)
      (0, s, vO, vP, tl, S.nxt) ⟨Nat.zero_le _, Nat.le_refl _, X.hT, rfl, by have := X.len; simpa using this, fun p hp => .inl (List.mem_map.2 ⟨p, hp, rfl⟩)⟩ (by simp only [entL]; exact ⟨rfl, rfl, rfl, rfl, rfl, rfl, rfl, rfl, rfl, rfl, trivial⟩) rfl (HSub.refl _ _) ?_
    rintro ⟨i, ⟨w, l⟩, uO, uP, ul, N⟩ ⟨hin, hN, hT, hM, hlen, hul⟩
    simp only at hin hN hT hM hlen hul ⊢
    repeat (first
        | refine JO.step (AO1.mv rfl) rfl ?_
        | refine JO.step (AO1.ncP rfl) rfl ?_
        | refine JO.step (AO1.fa rfl) rfl ?_
        | refine JO.nil ?_
        | refine JC.seq ?_
        | refine JC.reg ?_
        | refine JC.skip ?_
        | refine JC.blk ?_)
    refine JO.step (AO1.bn rfl rfl (bin_lss _ _)) rfl ?_
    repeat (first
        | refine JO.step (AO1.mv rfl) rfl ?_
        | refine JO.step (AO1.ncP rfl) rfl ?_
        | refine JO.step (AO1.fa rfl) rfl ?_
        | refine JO.nil ?_
        | refine JC.seq ?_
        | refine JC.reg ?_
        | refine JC.skip ?_
        | refine JC.blk ?_)
    refine JC.cnd rfl (fun hlt => ?_) (fun hge => ?_)
    rotate_left
    · have hie : i = is.length := by
        have h1 := of_decide_eq_false hge
        have h2 : ¬ i < is.length := fun h => h1 (Int.ofNat_lt.2 h)
        omega
      refine JC.ex ?_
      refine ⟨[], .nil, rfl, rfl, uO, uP, ul, ?_, hul, ?_⟩
      · rw [← hM, hie, List.drop_length]; exact hT
      · rw [← hM, hie, List.drop_length]
        exact .keep (.same s3 (.keep (.keep (.same sV (.same sW (.same s1 (HSub.refl _ _)))))))
    have hlt : i < is.length := Int.ofNat_lt.1 (of_decide_eq_true hlt)
    repeat (first
        | refine JO.step (AO1.mv rfl) rfl ?_
        | refine JO.step (AO1.ncP rfl) rfl ?_
        | refine JO.step (AO1.fa rfl) rfl ?_
        | refine JO.nil ?_
        | refine JC.seq ?_
        | refine JC.reg ?_
        | refine JC.skip ?_
        | refine JC.blk ?_)
    refine JO.step (AO1.iaS rfl rfl (ble_of hlt)) rfl ?_
    refine JO.step (AO1.ld1X 4 rfl rfl (ble_of (by show 0 + i * 1 + 1 ≤ _; omega)) (hV i hlt)) rfl ?_
    refine JO.step (AO1.mv rfl) rfl ?_
    refine JO.nil ?_
    have hp : is[i] < ws.length := X.hi _ (List.getElem_mem hlt)
    have hpe : is.drop i = is[i] :: is.drop (i + 1) := List.drop_eq_getElem_cons hlt
    generalize is[i] = p at *
    refine JC.cut ([(9, .i .i64 (.ofNat p)), (12, .i .i64 (.ofNat i)), (10, .sl V 0 is.length (some is.length)), (11, .i .i64 (.ofNat is.length))] ++ entL [.i .i64 role, .sl V 0 is.length (some is.length), .p B11 0, .p B3 0, .p B9 0, .p B10 0] 0) N
      ([(B11, .row 0 [.b (w || bad (ws.getD p 0))]), (B3, .blk (.row 0 c3 1)), (B9, .row 0 [uO]), (B10, .row 0 [uP]), (V, .blk (.row 0 cV is.length)), (W, .blk (.row k t m)), (1, .blk (.row 2 tp 4))] ++ ul) ?_ ?_
    · refine JC.reg ?_
      refine JO.step (AO1.ld1 0 rfl rfl rfl) rfl ?_
      repeat (first
          | refine JO.step (AO1.mv rfl) rfl ?_
          | refine JO.step (AO1.ncP rfl) rfl ?_
          | refine JO.step (AO1.fa rfl) rfl ?_
          | refine JO.nil ?_
          | refine JC.seq ?_
          | refine JC.reg ?_
          | refine JC.skip ?_
          | refine JC.blk ?_)
      cases w with
      | true =>
        refine JO.skip rfl rfl rfl ?_
        refine JO.skip rfl rfl rfl ?_
        refine JO.skip rfl rfl rfl ?_
        refine JO.skip rfl rfl rfl ?_
        refine JO.skip rfl rfl rfl ?_
        refine JO.step (AO1.pkT rfl rfl) rfl ?_
        repeat (first
            | refine JO.step (AO1.mv rfl) rfl ?_
            | refine JO.step (AO1.ncP rfl) rfl ?_
            | refine JO.step (AO1.fa rfl) rfl ?_
            | refine JO.nil ?_
            | refine JC.seq ?_
            | refine JC.reg ?_
            | refine JC.skip ?_
            | refine JC.blk ?_)
        refine JO.skip rfl rfl rfl ?_
        refine JO.skip rfl rfl rfl ?_
        refine JO.skip rfl rfl rfl ?_
        refine JO.skip rfl rfl rfl ?_
        refine JO.skip rfl rfl rfl ?_
        refine JO.skip rfl rfl rfl ?_
        refine JO.step (AO1.pkT rfl rfl) rfl ?_
        refine JO.step0 (AO1.st 0 rfl rfl rfl rfl rfl rfl rfl) ?_
        repeat (first
            | refine JO.step (AO1.mv rfl) rfl ?_
            | refine JO.step (AO1.ncP rfl) rfl ?_
            | refine JO.step (AO1.fa rfl) rfl ?_
            | refine JO.nil ?_
            | refine JC.seq ?_
            | refine JC.reg ?_
            | refine JC.skip ?_
            | refine JC.blk ?_)
        exact ⟨rfl, ⟨rfl, rfl, rfl, rfl, rfl, rfl, rfl, rfl, rfl, rfl, rfl, trivial⟩, rfl, HSub.refl _ _⟩
      | false =>
        refine JO.stepT rfl rfl (AO1.ld1X 1 rfl rfl rfl h30) rfl ?_
        refine JO.stepT rfl rfl (AO1.mv rfl) rfl ?_
        refine JO.stepT rfl rfl (AO1.iaS rfl rfl (ble_of hp)) rfl ?_
        refine JO.stepT rfl rfl (AO1.ld1X 5 rfl rfl (X.R.ble hp) (X.R.get hp)) rfl ?_
        refine JO.stepT rfl rfl (AO1.eq rfl rfl (eq_int _ _)) rfl ?_
        refine JO.step (AO1.pkF rfl rfl) rfl ?_
        repeat (first
            | refine JO.step (AO1.mv rfl) rfl ?_
            | refine JO.step (AO1.ncP rfl) rfl ?_
            | refine JO.step (AO1.fa rfl) rfl ?_
            | refine JO.nil ?_
            | refine JC.seq ?_
            | refine JC.reg ?_
            | refine JC.skip ?_
            | refine JC.blk ?_)
        by_cases h0 : ws.getD p 0 = 0
        · have e0 : cond false (!decide (ws.getD p 0 = 0)) (decide (ws.getD p 0 = 0)) = true := decide_eq_true h0
          refine JO.skip rfl e0 rfl ?_
          refine JO.skip rfl e0 rfl ?_
          refine JO.skip rfl e0 rfl ?_
          refine JO.skip rfl e0 rfl ?_
          refine JO.skip rfl e0 rfl ?_
          refine JO.skip rfl e0 rfl ?_
          rw [e0]
          refine JO.step (AO1.pkT rfl rfl) rfl ?_
          refine JO.step0 (AO1.st 0 rfl rfl rfl rfl rfl rfl rfl) ?_
          repeat (first
              | refine JO.step (AO1.mv rfl) rfl ?_
              | refine JO.step (AO1.ncP rfl) rfl ?_
              | refine JO.step (AO1.fa rfl) rfl ?_
              | refine JO.nil ?_
              | refine JC.seq ?_
              | refine JC.reg ?_
              | refine JC.skip ?_
              | refine JC.blk ?_)
          exact ⟨rfl, ⟨rfl, rfl, rfl, rfl, rfl, rfl, rfl, rfl, rfl, rfl, rfl, trivial⟩, rfl, .keepE (by rw [show bad (ws.getD p 0) = true from by unfold bad; rw [decide_eq_true h0]; rfl]; rfl) (HSub.refl _ _)⟩
        · have e0 : cond false (!decide (ws.getD p 0 = 0)) (decide (ws.getD p 0 = 0)) = false := decide_eq_false h0
          refine JO.stepT rfl e0 (AO1.ld1X 1 rfl rfl rfl h30) rfl ?_
          refine JO.stepT rfl e0 (AO1.mv rfl) rfl ?_
          refine JO.stepT rfl e0 (AO1.iaS rfl rfl (ble_of hp)) rfl ?_
          refine JO.stepT rfl e0 (AO1.ld1X 5 rfl rfl (X.R.ble hp) (X.R.get hp)) rfl ?_
          refine JO.callPT rfl e0 rfl rfl rfl (fun S1 G1 => right_c _ ⟨G1.look (j := 6) rfl, X.hP.a, X.hP.b⟩) rfl ?_
          refine JO.stepT rfl e0 (AO1.un rfl rfl) rfl ?_
          rw [e0]
          refine JO.step (AO1.pkF rfl rfl) rfl ?_
          refine JO.step0 (AO1.st 0 rfl rfl rfl rfl rfl rfl rfl) ?_
          repeat (first
              | refine JO.step (AO1.mv rfl) rfl ?_
              | refine JO.step (AO1.ncP rfl) rfl ?_
              | refine JO.step (AO1.fa rfl) rfl ?_
              | refine JO.nil ?_
              | refine JC.seq ?_
              | refine JC.reg ?_
              | refine JC.skip ?_
              | refine JC.blk ?_)
          exact ⟨rfl, ⟨rfl, rfl, rfl, rfl, rfl, rfl, rfl, rfl, rfl, rfl, rfl, trivial⟩, rfl, .keepE (by rw [show bad (ws.getD p 0) = !rightB (ws.getD p 0) from by unfold bad; rw [decide_eq_false h0]; rfl]; rfl) (HSub.refl _ _)⟩
    have hlast : mustF ws role (addL ws role (w, l) p) (is.drop (i + 1)) = mustF ws role s is := by rw [← hM, hpe]; rfl
    have hinc : bin .add (.i .i64 (.ofNat i)) (.i .i64 1) = some (.i .i64 (.ofNat (i + 1))) := by
      have hl := X.len
      rw [bin_add (by show (-9223372036854775808 : Int) ≤ (i : Int) + 1; omega) (by show (i : Int) + 1 ≤ 9223372036854775807; omega)]; rfl
    have dn : ∀ A, A ∈ ids tl ∨ S.nxt ≤ A → (S.dels (ids tl)).heap.get A = none := fun A hA => by
      rcases hA with hA | hA
      · exact lim0 A hA
      · exact G0.wf A (by rw [St.dels_nxt]; exact hA)
    cases hT with
    | nil =>
      refine JC.drw rfl [7, 11] rfl ?_
      refine JD.cons ?_
      refine JI.op (AO1.ld1 2 rfl rfl rfl) rfl ?_
      refine JI.op (AO1.mv rfl) rfl ?_
      refine JI.op (AO1.ld1X 1 rfl rfl rfl h30) rfl ?_
      refine JI.op (AO1.mv rfl) rfl ?_
      refine JI.op (AO1.iaS rfl rfl (ble_of hp)) rfl ?_
      refine JI.op (AO1.ld1X 5 rfl rfl (X.R.ble hp) (X.R.get hp)) rfl ?_
      refine JI.op (AO1.bd rfl rfl) rfl ?_
      refine JI.op (AO1.ld1 3 rfl rfl rfl) rfl ?_
      refine JI.op (AO1.mv rfl) rfl ?_
      refine JI.pr ?_
      refine JI.al 7 7 rfl (nBs rfl rfl rfl) rfl ?_
      refine JI.w (AO1.appSn (n := 0) rfl rfl (Src.sl 7 rfl rfl rfl) rfl rfl) rfl rfl ?_
      refine JD.cons ?_
      refine JI.ck (AO1.ld1 3 rfl rfl rfl) rfl rfl ?_
      refine JI.pr ?_
      refine JI.al 8 11 rfl (nBs rfl rfl rfl) rfl ?_
      refine JI.w (AO1.appSn (n := 0) rfl rfl (Src.sl 8 rfl rfl rfl) rfl rfl) rfl rfl ?_
      refine JD.cons ?_
      refine JI.pr ?_
      refine JI.wn (AO1.st 2 rfl rfl rfl rfl rfl rfl rfl) rfl ?_
      refine JD.cons ?_
      refine JI.pr ?_
      refine JI.wn (AO1.st 3 rfl rfl rfl rfl rfl rfl rfl) rfl ?_
      refine JD.cons ?_
      refine JI.pr ?_
      refine JI.w0 ?_
      refine JD.nil ?_
      repeat (first
          | refine JO.step (AO1.mv rfl) rfl ?_
          | refine JO.step (AO1.ncP rfl) rfl ?_
          | refine JO.step (AO1.fa rfl) rfl ?_
          | refine JO.nil ?_
          | refine JC.seq ?_
          | refine JC.reg ?_
          | refine JC.skip ?_
          | refine JC.blk ?_)
      refine JO.step (AO1.bn rfl rfl hinc) rfl ?_
      repeat (first
          | refine JO.step (AO1.mv rfl) rfl ?_
          | refine JO.step (AO1.ncP rfl) rfl ?_
          | refine JO.step (AO1.fa rfl) rfl ?_
          | refine JO.nil ?_
          | refine JC.seq ?_
          | refine JC.reg ?_
          | refine JC.skip ?_
          | refine JC.blk ?_)
      refine ⟨(i + 1, addL ws role (w, []) p, .sl (Nat.add N 15) 0 (([] : LL).length + (0 + 1)) none, .sl (Nat.add N 15 + 1) 0 (([] : LL).length + (0 + 1)) none, [(Nat.add N 15, .row 5 (flat2 (addL ws role (w, []) p).2)), (Nat.add N 15 + 1, .row 4 (flat1 (addL ws role (w, []) p).2))], Nat.add N 15 + 1 + 1), ⟨hlt, ?_, Tl.app, hlast, ?_, ?_⟩, ?_, ⟨rfl, rfl, rfl, rfl, rfl, rfl, rfl, rfl, rfl, rfl, trivial⟩, rfl, .keep (.keep (.keep (.keep (.keep (.keep (.keep (.drop ?_ (.drop ?_ (.keep (.keep .nil))))))))))⟩
      · show S.nxt ≤ N + 15 + 1 + 1; omega
      · simp only [addL, List.length_append, List.length_cons, List.length_nil] at hlen ⊢; omega
      · intro p' hp'
        simp only [List.mem_cons, List.not_mem_nil, or_false] at hp'
        rcases hp' with rfl | rfl
        · right; show S.nxt ≤ N + 15; omega
        · right; show S.nxt ≤ N + 15 + 1; omega
      · show is.length - (i + 1) < is.length - i; omega
      · rw [St.dels_nxt]; show S.nxt ≤ N + 7; omega
      · rw [St.dels_nxt]; show S.nxt ≤ N + 11; omega
    | row hl =>
      rename_i A B
      refine JC.drw rfl [7, 11] rfl ?_
      refine JD.cons ?_
      refine JI.op (AO1.ld1 2 rfl rfl rfl) rfl ?_
      refine JI.op (AO1.mv rfl) rfl ?_
      refine JI.op (AO1.ld1X 1 rfl rfl rfl h30) rfl ?_
      refine JI.op (AO1.mv rfl) rfl ?_
      refine JI.op (AO1.iaS rfl rfl (ble_of hp)) rfl ?_
      refine JI.op (AO1.ld1X 5 rfl rfl (X.R.ble hp) (X.R.get hp)) rfl ?_
      refine JI.op (AO1.bd rfl rfl) rfl ?_
      refine JI.op (AO1.ld1 3 rfl rfl rfl) rfl ?_
      refine JI.op (AO1.mv rfl) rfl ?_
      refine JI.pr ?_
      refine JI.al 9 7 rfl (nBs rfl rfl rfl) rfl ?_
      refine JI.w (AO1.appGrow 7 (n := 0) rfl rfl (Src.sl 9 rfl rfl rfl) rfl (capk rfl (by omega)) rfl (ble_of (by show l.length * 2 ≤ _; rw [flat2_length]; omega))) rfl rfl ?_
      refine JD.cons ?_
      refine JI.ck (AO1.ld1 3 rfl rfl rfl) rfl simple_sl ?_
      refine JI.pr ?_
      refine JI.al 10 11 rfl (nBs rfl rfl rfl) rfl ?_
      refine JI.w (AO1.appGrow 8 (n := 0) rfl rfl (Src.sl 10 rfl rfl rfl) rfl (capk rfl (by omega)) rfl (ble_of (by show l.length * 1 ≤ _; rw [flat1_length]; omega))) rfl rfl ?_
      refine JD.cons ?_
      refine JI.pr ?_
      refine JI.wn (AO1.st 2 rfl rfl rfl rfl rfl rfl rfl) rfl ?_
      refine JD.cons ?_
      refine JI.pr ?_
      refine JI.wn (AO1.st 3 rfl rfl rfl rfl rfl rfl rfl) rfl ?_
      refine JD.cons ?_
      refine JI.pr ?_
      refine JI.w0 ?_
      refine JD.nil ?_
      repeat (first
          | refine JO.step (AO1.mv rfl) rfl ?_
          | refine JO.step (AO1.ncP rfl) rfl ?_
          | refine JO.step (AO1.fa rfl) rfl ?_
          | refine JO.nil ?_
          | refine JC.seq ?_
          | refine JC.reg ?_
          | refine JC.skip ?_
          | refine JC.blk ?_)
      refine JO.step (AO1.bn rfl rfl hinc) rfl ?_
      repeat (first
          | refine JO.step (AO1.mv rfl) rfl ?_
          | refine JO.step (AO1.ncP rfl) rfl ?_
          | refine JO.step (AO1.fa rfl) rfl ?_
          | refine JO.nil ?_
          | refine JC.seq ?_
          | refine JC.reg ?_
          | refine JC.skip ?_
          | refine JC.blk ?_)
      refine ⟨(i + 1, addL ws role (w, l) p, .sl (Nat.add N 15) 0 (l.length + (0 + 1)) none, .sl (Nat.add N 15 + 1) 0 (l.length + (0 + 1)) none, [(Nat.add N 15, .row 5 (flat2 (addL ws role (w, l) p).2)), (Nat.add N 15 + 1, .row 4 (flat1 (addL ws role (w, l) p).2))], Nat.add N 15 + 1 + 1), ⟨hlt, ?_, Tl.app, hlast, ?_, ?_⟩, ?_, ⟨rfl, rfl, rfl, rfl, rfl, rfl, rfl, rfl, rfl, rfl, trivial⟩, rfl, .keep (.keep (.keep (.keep (.keep (.keep (.keep (.gn ?_ (.gn ?_ (.drop ?_ (.drop ?_ (.keepE ?_ (.keepE ?_ .nil))))))))))))⟩
      · show S.nxt ≤ N + 15 + 1 + 1; omega
      · simp only [addL, List.length_append, List.length_cons, List.length_nil] at hlen ⊢; omega
      · intro p' hp'
        simp only [List.mem_cons, List.not_mem_nil, or_false] at hp'
        rcases hp' with rfl | rfl
        · right; show S.nxt ≤ N + 15; omega
        · right; show S.nxt ≤ N + 15 + 1; omega
      · show is.length - (i + 1) < is.length - i; omega
      · exact dn A (hul (A, .row 5 (flat2 l)) (by simp))
      · exact dn B (hul (B, .row 4 (flat1 l)) (by simp))
      · rw [St.dels_nxt]; show S.nxt ≤ N + 7; omega
      · rw [St.dels_nxt]; show S.nxt ≤ N + 11; omega
      · rw [flat2_take, addL, flat2_app]; rfl
      · rw [flat1_take, addL, flat1_app]; rfl
  · rintro y S' ⟨N', h', G', rfl, vO', vP', tl', h1, h2, h3⟩
    exact ⟨rfl, N', vO', vP', tl', h1, h2, G'.sub h3⟩
end L32
end Go.Ev
namespace Go.Ev
open Go Go.Proofs
namespace L32
set_option maxRecDepth 100000
/-- behind a call that adds links -/
theorem LinkPost.ctx {S0 S1 S2 : St} {N1 B11 B9 B10 : Nat} {F E ul : Hp} {s : LS} {y : AV} (G : SH S0 N1 (F ++ (ul ++ E)) S1) (hz : ∀ i ∈ ids ul, S0.heap.get i = none) (hE : ∀ p ∈ E, S0.nxt ≤ p.1) (js : List Nat) (hj : ∀ x y z, upsOk F [(B11, x), (B9, y), (B10, z)] js) (k : LinkPost S1 B11 B9 B10 ul s y S2) :
    y = .tu [] ∧ ∃ N' vO vP tl', Tl s.2 vO vP tl' ∧ (∀ p ∈ tl', p.1 ∈ ids ul ∨ N1 ≤ p.1) ∧ N1 ≤ N' ∧ SH S0 N' (ups F [(B11, .row 0 [.b s.1]), (B9, .row 0 [vO]), (B10, .row 0 [vP])] js ++ tl') S2 := by
  obtain ⟨rfl, N', vO, vP, tl', hT, hul, G'⟩ := k
  rw [G.nxt] at hul
  have hle : N1 ≤ N' := by have := G'.le; rw [St.dels_nxt, G.nxt] at this; exact this
  refine ⟨rfl, N', vO, vP, tl', hT, hul, hle, ?_⟩
  have hdis := G.dis
  rw [List.map_append, List.map_append, List.nodup_append, List.nodup_append] at hdis
  obtain ⟨dF, ⟨dU, dE, dUE⟩, dFU⟩ := hdis
  have dis' : (List.map (·.1) ([(B11, .row 0 [.b s.1]), (B9, .row 0 [vO]), (B10, .row 0 [vP])] ++ tl' : Hp)).Nodup := G'.dis
  rw [List.map_append, List.nodup_append] at dis'
  obtain ⟨k1, k2, k3⟩ := ups_ok (hj (.row 0 [.b s.1]) (.row 0 [vO]) (.row 0 [vP])) dF dis'.1
  have hF : ∀ p ∈ F, ∀ r ∈ tl', r.1 ≠ p.1 := fun p hp r hr e => by
    rcases hul r hr with h1 | h1
    · exact dFU p.1 (List.mem_map.2 ⟨p, hp, rfl⟩) r.1 (List.mem_append_left _ h1) e.symm
    · have := G.lt p (List.mem_append_left _ hp)
      omega
  refine G.ctxD (ids ul) hz G' _ (fun p hp => ?_) (fun p hp hlo => ?_) (fun p hp _ => ?_) ?_
  · rcases List.mem_append.1 hp with hp | hp
    · rcases k2 p hp with h1 | ⟨h1, h2⟩
      · exact .inl (List.mem_append_left tl' h1)
      · refine .inr ⟨List.mem_append_left _ h1, fun hm => dFU p.1 (List.mem_map.2 ⟨p, h1, rfl⟩) p.1 (List.mem_append_left _ hm) rfl, fun r hr => ?_⟩
        rcases List.mem_append.1 (show r ∈ ([(B11, .row 0 [.b s.1]), (B9, .row 0 [vO]), (B10, .row 0 [vP])] : Hp) ++ tl' from hr) with hr | hr
        · exact h2 r hr
        · exact hF p h1 r hr
    · exact .inl (List.mem_append_right ([(B11, .row 0 [.b s.1]), (B9, .row 0 [vO]), (B10, .row 0 [vP])] : Hp) hp)
  · rcases List.mem_append.1 hp with hp | hp
    · right
      have : p.1 ∈ (ups F [(B11, .row 0 [.b s.1]), (B9, .row 0 [vO]), (B10, .row 0 [vP])] js).map (·.1) := by rw [k1]; exact List.mem_map.2 ⟨p, hp, rfl⟩
      obtain ⟨r, hr, e⟩ := List.mem_map.1 this
      exact ⟨r, List.mem_append_left _ hr, e⟩
    · rcases List.mem_append.1 hp with hp | hp
      · exact .inl (List.mem_map.2 ⟨p, hp, rfl⟩)
      · have := hE p hp; omega
  · rcases List.mem_append.1 (show p ∈ ([(B11, .row 0 [.b s.1]), (B9, .row 0 [vO]), (B10, .row 0 [vP])] : Hp) ++ tl' from hp) with hp | hp
    · obtain ⟨r, hr, e⟩ := k3 p hp
      have : r.1 ∈ (ups F [(B11, .row 0 [.b s.1]), (B9, .row 0 [vO]), (B10, .row 0 [vP])] js).map (·.1) := by rw [k1]; exact List.mem_map.2 ⟨r, hr, rfl⟩
      obtain ⟨r', hr', e'⟩ := List.mem_map.1 this
      exact ⟨r', List.mem_append_left _ hr', by rw [e', e]⟩
    · exact ⟨p, List.mem_append_right _ hp, rfl⟩
  · rw [List.map_append, List.nodup_append]
    refine ⟨by rw [k1]; exact dF, dis'.2.1, fun a ha b hb => ?_⟩
    rw [k1] at ha
    obtain ⟨p, hp, rfl⟩ := List.mem_map.1 ha
    obtain ⟨r, hr, rfl⟩ := List.mem_map.1 hb
    exact fun e => hF p hp r hr e.symm
def mayF (ws : List Int) (role : Int) (s : LS) (is : List Nat) : LS := is.foldl (fun s i => if ws.getD i 0 = 0 then s else addL ws role s i) s
def mustV (B11 B3 B9 B10 : Nat) : AV := .f (.func 72) [] [.p B11 0, .p B3 0, .p B9 0, .p B10 0]
theorem nd1 {a b c d v e f g n : Nat} {u : List Nat} (h : ([a, b, c, d, v, e, f, g] ++ (u ++ [n])).Nodup) : ([a, b, c, d, n, e, f] ++ u).Nodup := by
  simp only [List.cons_append, List.nil_append, List.nodup_cons, List.mem_cons, List.mem_append, List.nodup_append, List.not_mem_nil, not_or, or_false] at h ⊢
  grind
theorem may_c {S : St} {s : LS} {vO vP : AV} {tl : Hp} {B11 B3 B9 B10 B12 V W k m o : Nat} {cp : Option Nat} {t tp : T AV} {ws : List Int} {is : List Nat} (X : CxM S s vO vP tl B11 B3 B9 B10 V W k m o cp t tp ws is)
    (h12 : (HB.row 0 [mustV B11 B3 B9 B10]).at (S.heap.get B12)) (hd : (([B11, B3, B9, B10, V, W, 1, B12] : List Nat) ++ ids tl).Nodup) (role : Int) :
    GCall PP 74 [.i .i64 role, .sl V 0 is.length (some is.length), .p B3 0, .p B12 0] S (LinkPost S B11 B9 B10 tl (mayF ws role s is)) := by
  obtain ⟨c3, e3, g3⟩ := X.h3
  have h30 : c3.get 0 = some (.sl W o ws.length cp) := g3 0 Nat.zero_lt_one
  obtain ⟨cV, eV, gV⟩ := X.hV
  rw [places_length] at eV gV
  have hV : ∀ i, (hi : i < is.length) → cV.get (Nat.add 0 (Nat.mul i 1)) = some (.i .i64 (.ofNat is[i])) := fun i hi => by
    rw [show Nat.mul i 1 = i from Nat.mul_one i, show Nat.add 0 i = i from Nat.zero_add i, gV i hi]
    simp [places, hi]
  obtain ⟨c12, e12, g12⟩ := h12
  have h120 : c12.get 0 = some (mustV B11 B3 B9 B10) := g12 0 Nat.zero_lt_one
  have nin : ∀ β ∈ ([B11, B3, B9, B10, V, W, 1, B12] : List Nat), β ∉ ids tl := fun β hβ hm => (List.nodup_append.1 hd).2.2 β hβ β hm rfl
  have s3 : (S.dels (ids tl)).heap.get B3 = some (.row 0 c3 1) := by rw [St.dels_get, if_neg (nin _ (by simp))]; exact e3
  have sV : (S.dels (ids tl)).heap.get V = some (.row 0 cV is.length) := by rw [St.dels_get, if_neg (nin _ (by simp))]; exact eV
  have sW : (S.dels (ids tl)).heap.get W = some (.row k t m) := by rw [St.dels_get, if_neg (nin _ (by simp))]; exact X.R.h
  have s1 : (S.dels (ids tl)).heap.get 1 = some (.row 2 tp 4) := by rw [St.dels_get, if_neg (nin _ (by simp))]; exact X.hP.h
  have s12 : (S.dels (ids tl)).heap.get B12 = some (.row 0 c12 1) := by rw [St.dels_get, if_neg (nin _ (by simp))]; exact e12
  have lim0 : ∀ i ∈ ids tl, (S.dels (ids tl)).heap.get i = none := fun i hi => by rw [St.dels_get, if_pos hi]
  refine (JFD (h := [(B11, .row 0 [.b s.1]), (B3, .blk (.row 0 c3 1)), (B9, .row 0 [vO]), (B10, .row 0 [vP]), (V, .blk (.row 0 cV is.length)), (W, .blk (.row k t m)), (1, .blk (.row 2 tp 4)), (B12, .blk (.row 0 c12 1))] ++ tl) ok74 rfl (ids tl) ?_ ?_ ?_
    (Φ := fun y N' h' => y = .tu [] ∧ ∃ vO vP tl', Tl (mayF ws role s is).2 vO vP tl' ∧ (∀ p ∈ tl', p.1 ∈ ids tl ∨ S.nxt ≤ p.1) ∧ HSub (S.dels (ids tl)) h' ((B11, .row 0 [.b (mayF ws role s is).1]) :: (B9, .row 0 [vO]) :: (B10, .row 0 [vP]) :: tl')) ?_).mono ?_
  · intro p hp
    simp only [List.cons_append, List.nil_append, List.mem_cons] at hp
    rcases hp with rfl | rfl | rfl | rfl | rfl | rfl | rfl | rfl | hp
    · exact ⟨X.h11, rfl⟩
    · exact ⟨e3, rfl⟩
    · exact ⟨X.h9, rfl⟩
    · exact ⟨X.h10, rfl⟩
    · exact ⟨eV, rfl⟩
    · exact ⟨X.R.h, rfl⟩
    · exact ⟨X.hP.h, rfl⟩
    · exact ⟨e12, rfl⟩
    · exact ⟨X.htl p hp, X.hT.on p hp⟩
  · simpa [ids] using hd
  · intro i hi
    obtain ⟨p, hp, e⟩ := List.mem_map.1 hi
    exact ⟨p, List.mem_append_right _ hp, e⟩
  · intro G0
    repeat (first
        | refine JO.step (AO1.mv rfl) rfl ?_
        | refine JO.step (AO1.ncP rfl) rfl ?_
        | refine JO.step (AO1.fa rfl) rfl ?_
        | refine JO.nil ?_
        | refine JC.seq ?_
        | refine JC.reg ?_
        | refine JC.skip ?_
        | refine JC.blk ?_)
    refine JO.step (AO1.lenSlc rfl) rfl ?_
    repeat (first
        | refine JO.step (AO1.mv rfl) rfl ?_
        | refine JO.step (AO1.ncP rfl) rfl ?_
        | refine JO.step (AO1.fa rfl) rfl ?_
        | refine JO.nil ?_
        | refine JC.seq ?_
        | refine JC.reg ?_
        | refine JC.skip ?_
        | refine JC.blk ?_)
    refine JC.loop (fun a : Nat × LS × AV × AV × Hp × Nat => [(10, .i .i64 (.ofNat a.1)), (8, .sl V 0 is.length (some is.length)), (9, .i .i64 (.ofNat is.length))] ++ entL [.i .i64 role, .sl V 0 is.length (some is.length), .p B3 0, .p B12 0] 0)
      (fun a => a.2.2.2.2.2)
      (fun a => [(B11, .row 0 [.b a.2.1.1]), (B3, .blk (.row 0 c3 1)), (B9, .row 0 [a.2.2.1]), (B10, .row 0 [a.2.2.2.1]), (V, .blk (.row 0 cV is.length)), (W, .blk (.row k t m)), (1, .blk (.row 2 tp 4)), (B12, .blk (.row 0 c12 1))] ++ a.2.2.2.2.1)
      (fun a => is.length - a.1)
      (fun a => a.1 ≤ is.length ∧ S.nxt ≤ a.2.2.2.2.2 ∧ Tl a.2.1.2 a.2.2.1 a.2.2.2.1 a.2.2.2.2.1 ∧ mayF ws role a.2.1 (is.drop a.1) = mayF ws role s is ∧ a.2.1.2.length + (is.length - a.1) ≤ 1000 ∧ ∀ p ∈ a.2.2.2.2.1, p.1 ∈ ids tl ∨ S.nxt ≤ p.1)
      (0, s, vO, vP, tl, S.nxt) ⟨Nat.zero_le _, Nat.le_refl _, X.hT, rfl, by have := X.len; simpa using this, fun p hp => .inl (List.mem_map.2 ⟨p, hp, rfl⟩)⟩ (by simp only [entL]; exact ⟨rfl, rfl, rfl, rfl, rfl, rfl, rfl, rfl, trivial⟩) rfl (HSub.refl _ _) ?_
    rintro ⟨i, ⟨w, l⟩, uO, uP, ul, N⟩ ⟨hin, hN, hT, hM, hlen, hul⟩
    simp only at hin hN hT hM hlen hul ⊢
    repeat (first
        | refine JO.step (AO1.mv rfl) rfl ?_
        | refine JO.step (AO1.ncP rfl) rfl ?_
        | refine JO.step (AO1.fa rfl) rfl ?_
        | refine JO.nil ?_
        | refine JC.seq ?_
        | refine JC.reg ?_
        | refine JC.skip ?_
        | refine JC.blk ?_)
    refine JO.step (AO1.bn rfl rfl (bin_lss _ _)) rfl ?_
    repeat (first
        | refine JO.step (AO1.mv rfl) rfl ?_
        | refine JO.step (AO1.ncP rfl) rfl ?_
        | refine JO.step (AO1.fa rfl) rfl ?_
        | refine JO.nil ?_
        | refine JC.seq ?_
        | refine JC.reg ?_
        | refine JC.skip ?_
        | refine JC.blk ?_)
    refine JC.cnd rfl (fun hlt => ?_) (fun hge => ?_)
    rotate_left
    · have hie : i = is.length := by
        have h1 := of_decide_eq_false hge
        have h2 : ¬ i < is.length := fun h => h1 (Int.ofNat_lt.2 h)
        omega
      refine JC.ex ?_
      refine ⟨[], .nil, rfl, rfl, uO, uP, ul, ?_, hul, ?_⟩
      · rw [← hM, hie, List.drop_length]; exact hT
      · rw [← hM, hie, List.drop_length]
        exact .keep (.same s3 (.keep (.keep (.same sV (.same sW (.same s1 (.same s12 (HSub.refl _ _))))))))
    have hlt : i < is.length := Int.ofNat_lt.1 (of_decide_eq_true hlt)
    repeat (first
        | refine JO.step (AO1.mv rfl) rfl ?_
        | refine JO.step (AO1.ncP rfl) rfl ?_
        | refine JO.step (AO1.fa rfl) rfl ?_
        | refine JO.nil ?_
        | refine JC.seq ?_
        | refine JC.reg ?_
        | refine JC.skip ?_
        | refine JC.blk ?_)
    refine JO.step (AO1.iaS rfl rfl (ble_of hlt)) rfl ?_
    refine JO.step (AO1.ld1X 4 rfl rfl (ble_of (by show 0 + i * 1 + 1 ≤ _; omega)) (hV i hlt)) rfl ?_
    repeat (first
        | refine JO.step (AO1.mv rfl) rfl ?_
        | refine JO.step (AO1.ncP rfl) rfl ?_
        | refine JO.step (AO1.fa rfl) rfl ?_
        | refine JO.nil ?_
        | refine JC.seq ?_
        | refine JC.reg ?_
        | refine JC.skip ?_
        | refine JC.blk ?_)
    have hp : is[i] < ws.length := X.hi _ (List.getElem_mem hlt)
    have hpe : is.drop i = is[i] :: is.drop (i + 1) := List.drop_eq_getElem_cons hlt
    generalize is[i] = p at *
    have hinc : bin .add (.i .i64 (.ofNat i)) (.i .i64 1) = some (.i .i64 (.ofNat (i + 1))) := by
      have hl := X.len
      rw [bin_add (by show (-9223372036854775808 : Int) ≤ (i : Int) + 1; omega) (by show (i : Int) + 1 ≤ 9223372036854775807; omega)]; rfl
    have dn : ∀ A, A ∈ ids tl ∨ S.nxt ≤ A → (S.dels (ids tl)).heap.get A = none := fun A hA => by
      rcases hA with hA | hA
      · exact lim0 A hA
      · exact G0.wf A (by rw [St.dels_nxt]; exact hA)
    refine JO.step (AO1.ld1X 1 rfl rfl rfl h30) rfl ?_
    repeat (first
        | refine JO.step (AO1.mv rfl) rfl ?_
        | refine JO.step (AO1.ncP rfl) rfl ?_
        | refine JO.step (AO1.fa rfl) rfl ?_
        | refine JO.nil ?_
        | refine JC.seq ?_
        | refine JC.reg ?_
        | refine JC.skip ?_
        | refine JC.blk ?_)
    refine JO.step (AO1.iaS rfl rfl (ble_of hp)) rfl ?_
    refine JO.step (AO1.ld1X 5 rfl rfl (X.R.ble hp) (X.R.get hp)) rfl ?_
    refine JO.step (AO1.eq rfl rfl (eq_int _ _)) rfl ?_
    repeat (first
        | refine JO.step (AO1.mv rfl) rfl ?_
        | refine JO.step (AO1.ncP rfl) rfl ?_
        | refine JO.step (AO1.fa rfl) rfl ?_
        | refine JO.nil ?_
        | refine JC.seq ?_
        | refine JC.reg ?_
        | refine JC.skip ?_
        | refine JC.blk ?_)
    refine JC.cnd rfl (fun h0 => ?_) (fun h0 => ?_)
    · have h0 : ws.getD p 0 ≠ 0 := by
        have h0 : (!decide (ws.getD p 0 = 0)) = true := h0
        simpa using h0
      repeat (first
          | refine JO.step (AO1.mv rfl) rfl ?_
          | refine JO.step (AO1.ncP rfl) rfl ?_
          | refine JO.step (AO1.fa rfl) rfl ?_
          | refine JO.nil ?_
          | refine JC.seq ?_
          | refine JC.reg ?_
          | refine JC.skip ?_
          | refine JC.blk ?_)
      refine JO.step (AO1.ld1X 7 rfl rfl rfl h120) rfl ?_
      repeat (first
          | refine JO.step (AO1.mv rfl) rfl ?_
          | refine JO.step (AO1.ncP rfl) rfl ?_
          | refine JO.step (AO1.fa rfl) rfl ?_
          | refine JO.nil ?_
          | refine JC.seq ?_
          | refine JC.reg ?_
          | refine JC.skip ?_
          | refine JC.blk ?_)
      refine JO.step (AO1.bs rfl rfl rfl) rfl ?_
      refine JO.call (fun _ _ => rfl) rfl rfl rfl (fun S1 G1 => must_c (s := (w, l)) (vO := uO) (vP := uP) (tl := ul) (V := N) (W := W) (k := k) (m := m) (o := o) (cp := cp) (t := t) (tp := tp) (ws := ws) (is := [p]) ?_ role) (fun S1 G1 y S2 k => ?_) rfl
      · exact ⟨hT, G1.look (j := 0) rfl, ⟨c3, G1.look (j := 1) rfl, g3⟩, G1.look (j := 2) rfl, G1.look (j := 3) rfl, G1.get (N, .row 0 [.i .i64 (.ofNat p)]) (List.mem_append_right _ (List.mem_singleton_self _)), ⟨G1.look (j := 5) rfl, X.R.le, X.R.ge⟩, ⟨G1.look (j := 6) rfl, X.hP.a, X.hP.b⟩,
          fun j hj => by rw [List.mem_singleton] at hj; subst hj; exact hp, by show l.length + 1 ≤ 1000; omega, fun r hr => G1.get r (List.mem_append_left _ (List.mem_append_right _ hr)), nd1 (v := V) (g := B12) (by have := G1.dis; rw [List.map_append, List.map_append] at this; rw [← List.append_assoc]; exact this)⟩
      obtain ⟨rfl, N', uO', uP', ul', hT', hul', hN', G2⟩ := k.ctx (F := [(B11, .row 0 [.b w]), (B3, .blk (.row 0 c3 1)), (B9, .row 0 [uO]), (B10, .row 0 [uP]), (V, .blk (.row 0 cV is.length)), (W, .blk (.row _ t m)), (1, .blk (.row 2 tp 4)), (B12, .blk (.row 0 c12 1))]) (E := [(N, .row 0 [.i .i64 (.ofNat p)])]) G1 (fun j hj => by
        obtain ⟨r, hr, rfl⟩ := List.mem_map.1 hj
        exact dn _ (hul r hr)) (fun r hr => by rw [List.mem_singleton] at hr; subst hr; rw [St.dels_nxt]; exact hN) [0, 2, 3] (fun _ _ _ => ⟨⟨_, rfl⟩, ⟨_, rfl⟩, ⟨_, rfl⟩, trivial⟩)
      refine ⟨N', _, G2, ?_⟩
      repeat (first
          | refine JO.step (AO1.mv rfl) rfl ?_
          | refine JO.step (AO1.ncP rfl) rfl ?_
          | refine JO.step (AO1.fa rfl) rfl ?_
          | refine JO.nil ?_
          | refine JC.seq ?_
          | refine JC.reg ?_
          | refine JC.skip ?_
          | refine JC.blk ?_)
      refine JO.step (AO1.bn rfl rfl hinc) rfl ?_
      repeat (first
          | refine JO.step (AO1.mv rfl) rfl ?_
          | refine JO.step (AO1.ncP rfl) rfl ?_
          | refine JO.step (AO1.fa rfl) rfl ?_
          | refine JO.nil ?_
          | refine JC.seq ?_
          | refine JC.reg ?_
          | refine JC.skip ?_
          | refine JC.blk ?_)
      refine ⟨(i + 1, addL ws role (w, l) p, uO', uP', ul', N'), ⟨hlt, by show S.nxt ≤ N'; omega, hT', ?_, ?_, ?_⟩, ?_, ⟨rfl, rfl, rfl, rfl, rfl, rfl, rfl, rfl, trivial⟩, rfl, HSub.refl _ _⟩
      · rw [← hM, hpe]; show _ = mayF ws role (if ws.getD p 0 = 0 then _ else _) _; rw [if_neg h0]
      · simp only [addL, List.length_append, List.length_cons, List.length_nil] at hlen ⊢; omega
      · intro r hr
        rcases hul' r hr with h1 | h1
        · obtain ⟨r', hr', e'⟩ := List.mem_map.1 h1
          rw [← e']; exact hul r' hr'
        · right; omega
      · show is.length - (i + 1) < is.length - i; omega
    · have h0 : ws.getD p 0 = 0 := by
        have h0 : (!decide (ws.getD p 0 = 0)) = false := h0
        simpa using h0
      repeat (first
          | refine JO.step (AO1.mv rfl) rfl ?_
          | refine JO.step (AO1.ncP rfl) rfl ?_
          | refine JO.step (AO1.fa rfl) rfl ?_
          | refine JO.nil ?_
          | refine JC.seq ?_
          | refine JC.reg ?_
          | refine JC.skip ?_
          | refine JC.blk ?_)
      refine JO.step (AO1.bn rfl rfl hinc) rfl ?_
      repeat (first
          | refine JO.step (AO1.mv rfl) rfl ?_
          | refine JO.step (AO1.ncP rfl) rfl ?_
          | refine JO.step (AO1.fa rfl) rfl ?_
          | refine JO.nil ?_
          | refine JC.seq ?_
          | refine JC.reg ?_
          | refine JC.skip ?_
          | refine JC.blk ?_)
      refine ⟨(i + 1, (w, l), uO, uP, ul, N), ⟨hlt, hN, hT, ?_, by simp only at hlen ⊢; omega, hul⟩, ?_, ⟨rfl, rfl, rfl, rfl, rfl, rfl, rfl, rfl, trivial⟩, rfl, HSub.refl _ _⟩
      · rw [← hM, hpe]; show _ = mayF ws role (if ws.getD p 0 = 0 then _ else _) _; rw [if_pos h0]
      · show is.length - (i + 1) < is.length - i; omega
  · rintro y S' ⟨N', h', G', rfl, vO', vP', tl', h1, h2, h3⟩
    exact ⟨rfl, N', vO', vP', tl', h1, h2, G'.sub h3⟩
end L32
end Go.Ev
namespace Go.Ev
open Go Go.Proofs
namespace L32
set_option maxRecDepth 100000
/-- a slice of numbers, or none -/
inductive WV (S : St) : AV → List Int → Prop
  | nil : WV S .sn []
  | sl {W k m o cp t ws} (h6 : 6 ≤ W) (R : Rd S W k t m o ws) : WV S (.sl W o ws.length cp) ws
theorem first_c {S : St} {v : AV} {ws : List Int} (h : WV S v ws) : GCall PP 76 [v] S (isV (.i .i64 (ws.headD 0)) S) := by
  cases h with
  | nil =>
    refine GCall.still (JF (h := []) ok76 rfl (nothing rfl) List.nodup_nil ?_) rfl
    intro G
    repeat (first
        | refine JO.step (AO1.mv rfl) rfl ?_
        | refine JO.step (AO1.ncP rfl) rfl ?_
        | refine JO.step (AO1.fa rfl) rfl ?_
        | refine JO.nil ?_
        | refine JC.seq ?_
        | refine JC.reg ?_
        | refine JC.skip ?_
        | refine JC.blk ?_)
    refine JO.step (AO1.lenSn rfl) rfl ?_
    refine JO.step (AO1.eq (t := true) rfl rfl rfl) rfl ?_
    repeat (first
        | refine JO.step (AO1.mv rfl) rfl ?_
        | refine JO.step (AO1.ncP rfl) rfl ?_
        | refine JO.step (AO1.fa rfl) rfl ?_
        | refine JO.nil ?_
        | refine JC.seq ?_
        | refine JC.reg ?_
        | refine JC.skip ?_
        | refine JC.blk ?_)
    refine JC.cnd rfl (fun h0 => ?_) (fun h0 => by cases h0)
    repeat (first
        | refine JO.step (AO1.mv rfl) rfl ?_
        | refine JO.step (AO1.ncP rfl) rfl ?_
        | refine JO.step (AO1.fa rfl) rfl ?_
        | refine JO.nil ?_
        | refine JC.seq ?_
        | refine JC.reg ?_
        | refine JC.skip ?_
        | refine JC.blk ?_)
    refine JC.ret ?_
    exact ⟨_, .t rfl .nil, rfl, rfl, .nil⟩
  | sl h6 R =>
    rename_i W k m o cp t
    refine GCall.still (JF (h := [(W, .blk (.row k t m))]) ok76 rfl ?_ (by simp) ?_) rfl
    · intro x hx
      rw [List.mem_singleton] at hx; subst hx
      exact ⟨R.h, rfl⟩
    intro G
    repeat (first
        | refine JO.step (AO1.mv rfl) rfl ?_
        | refine JO.step (AO1.ncP rfl) rfl ?_
        | refine JO.step (AO1.fa rfl) rfl ?_
        | refine JO.nil ?_
        | refine JC.seq ?_
        | refine JC.reg ?_
        | refine JC.skip ?_
        | refine JC.blk ?_)
    refine JO.step (AO1.lenSlc rfl) rfl ?_
    refine JO.step (AO1.eq rfl rfl (eq_int _ _)) rfl ?_
    repeat (first
        | refine JO.step (AO1.mv rfl) rfl ?_
        | refine JO.step (AO1.ncP rfl) rfl ?_
        | refine JO.step (AO1.fa rfl) rfl ?_
        | refine JO.nil ?_
        | refine JC.seq ?_
        | refine JC.reg ?_
        | refine JC.skip ?_
        | refine JC.blk ?_)
    refine JC.cnd rfl (fun h0 => ?_) (fun h0 => ?_)
    · have h0 : Int.ofNat ws.length = 0 := of_decide_eq_true h0
      have hn : ws = [] := List.length_eq_zero_iff.1 (by exact Int.ofNat.inj h0)
      subst hn
      repeat (first
          | refine JO.step (AO1.mv rfl) rfl ?_
          | refine JO.step (AO1.ncP rfl) rfl ?_
          | refine JO.step (AO1.fa rfl) rfl ?_
          | refine JO.nil ?_
          | refine JC.seq ?_
          | refine JC.reg ?_
          | refine JC.skip ?_
          | refine JC.blk ?_)
      refine JC.ret ?_
      exact ⟨_, .t rfl .nil, rfl, rfl, .same R.h .nil⟩
    · have h0 : ¬ Int.ofNat ws.length = 0 := of_decide_eq_false h0
      have hp : 0 < ws.length := by
        rcases Nat.eq_zero_or_pos ws.length with e | e
        · rw [e] at h0; exact absurd rfl h0
        · exact e
      repeat (first
          | refine JO.step (AO1.mv rfl) rfl ?_
          | refine JO.step (AO1.ncP rfl) rfl ?_
          | refine JO.step (AO1.fa rfl) rfl ?_
          | refine JO.nil ?_
          | refine JC.seq ?_
          | refine JC.reg ?_
          | refine JC.skip ?_
          | refine JC.blk ?_)
      refine JO.step (AO1.iaS (i := 0) rfl rfl (ble_of hp)) rfl ?_
      refine JO.step (AO1.ld1X 0 rfl rfl (R.ble hp) (R.get hp)) rfl ?_
      repeat (first
          | refine JO.step (AO1.mv rfl) rfl ?_
          | refine JO.step (AO1.ncP rfl) rfl ?_
          | refine JO.step (AO1.fa rfl) rfl ?_
          | refine JO.nil ?_
          | refine JC.seq ?_
          | refine JC.reg ?_
          | refine JC.skip ?_
          | refine JC.blk ?_)
      refine JC.ret ?_
      refine ⟨_, .t rfl .nil, rfl, ?_, .same R.h .nil⟩
      cases ws with
      | nil => cases hp
      | cons x r => rfl
def withinB (w : Bool) (ws : List Int) (n lo hi c : Int) : Bool := w || (decide (n < lo) || (decide (hi < n) || decide ((ws.length : Int) < c)))
theorem within_c {S : St} {w : Bool} {B11 B3 W o : Nat} {cp : Option Nat} {ws : List Int} (h11 : (HB.row 0 [.b w]).at (S.heap.get B11)) (h3 : (HB.row 0 [.sl W o ws.length cp]).at (S.heap.get B3)) (hd : B11 ≠ B3) (n lo hi c : Int) :
    GCall PP 75 [.i .i64 n, .i .i64 lo, .i .i64 hi, .i .i64 c, .p B11 0, .p B3 0] S (fun y S' => y = .b (!withinB w ws n lo hi c) ∧ ∃ N' h', SH S N' h' S' ∧ HSub S h' [(B11, .row 0 [.b (withinB w ws n lo hi c)])]) := by
  obtain ⟨c3, e3, g3⟩ := h3
  have h30 : c3.get 0 = some (.sl W o ws.length cp) := g3 0 Nat.zero_lt_one
  refine (JF (h := [(B11, .row 0 [.b w]), (B3, .blk (.row 0 c3 1))]) ok75 rfl ?_ (by simp [hd]) (Φ := fun y N' h' => y = .b (!withinB w ws n lo hi c) ∧ HSub S h' [(B11, .row 0 [.b (withinB w ws n lo hi c)])]) ?_).mono ?_
  · intro p hp
    simp only [List.mem_cons, List.not_mem_nil, or_false] at hp
    rcases hp with rfl | rfl
    · exact ⟨h11, rfl⟩
    · exact ⟨e3, rfl⟩
  · intro G
    refine JC.seq ?_
    refine JC.reg ?_
    refine JO.step (AO1.mv rfl) rfl ?_
    refine JO.nil ?_
    refine JC.cut ([(dslot, .tu []), (4, .p B11 0)]) S.nxt [(B11, .row 0 [.b (withinB w ws n lo hi c)]), (B3, .blk (.row 0 c3 1))] ?_ ?_
    · refine JC.reg ?_
      refine JO.step (AO1.ld1 0 rfl rfl rfl) rfl ?_
      repeat (first
          | refine JO.step (AO1.mv rfl) rfl ?_
          | refine JO.step (AO1.ncP rfl) rfl ?_
          | refine JO.step (AO1.fa rfl) rfl ?_
          | refine JO.nil ?_
          | refine JC.seq ?_
          | refine JC.reg ?_
          | refine JC.skip ?_
          | refine JC.blk ?_)
      cases w with
      | true =>
        refine JO.skip rfl rfl rfl ?_
        refine JO.skip rfl rfl rfl ?_
        refine JO.skip rfl rfl rfl ?_
        refine JO.step (AO1.pkT rfl rfl) rfl ?_
        repeat (first
            | refine JO.step (AO1.mv rfl) rfl ?_
            | refine JO.step (AO1.ncP rfl) rfl ?_
            | refine JO.step (AO1.fa rfl) rfl ?_
            | refine JO.nil ?_
            | refine JC.seq ?_
            | refine JC.reg ?_
            | refine JC.skip ?_
            | refine JC.blk ?_)
        refine JO.skip rfl rfl rfl ?_
        refine JO.skip rfl rfl rfl ?_
        refine JO.skip rfl rfl rfl ?_
        refine JO.step (AO1.pkT rfl rfl) rfl ?_
        repeat (first
            | refine JO.step (AO1.mv rfl) rfl ?_
            | refine JO.step (AO1.ncP rfl) rfl ?_
            | refine JO.step (AO1.fa rfl) rfl ?_
            | refine JO.nil ?_
            | refine JC.seq ?_
            | refine JC.reg ?_
            | refine JC.skip ?_
            | refine JC.blk ?_)
        refine JO.skip rfl rfl rfl ?_
        refine JO.skip rfl rfl rfl ?_
        refine JO.skip rfl rfl rfl ?_
        refine JO.skip rfl rfl rfl ?_
        refine JO.step (AO1.pkT rfl rfl) rfl ?_
        refine JO.step0 (AO1.st 0 rfl rfl rfl rfl rfl rfl rfl) ?_
        repeat (first
            | refine JO.step (AO1.mv rfl) rfl ?_
            | refine JO.step (AO1.ncP rfl) rfl ?_
            | refine JO.step (AO1.fa rfl) rfl ?_
            | refine JO.nil ?_
            | refine JC.seq ?_
            | refine JC.reg ?_
            | refine JC.skip ?_
            | refine JC.blk ?_)
        exact ⟨rfl, ⟨rfl, rfl, trivial⟩, rfl, HSub.refl _ _⟩
      | false =>
        refine JO.stepT rfl rfl (AO1.mv rfl) rfl ?_
        refine JO.stepT rfl rfl (AO1.mv rfl) rfl ?_
        refine JO.stepT rfl rfl (AO1.bn rfl rfl (bin_lss _ _)) rfl ?_
        refine JO.step (AO1.pkF rfl rfl) rfl ?_
        repeat (first
            | refine JO.step (AO1.mv rfl) rfl ?_
            | refine JO.step (AO1.ncP rfl) rfl ?_
            | refine JO.step (AO1.fa rfl) rfl ?_
            | refine JO.nil ?_
            | refine JC.seq ?_
            | refine JC.reg ?_
            | refine JC.skip ?_
            | refine JC.blk ?_)
        unfold withinB
        rw [Bool.false_or]
        cases decide (n < lo) with
        | true =>
          refine JO.skip rfl rfl rfl ?_
          refine JO.skip rfl rfl rfl ?_
          refine JO.skip rfl rfl rfl ?_
          refine JO.step (AO1.pkT rfl rfl) rfl ?_
          repeat (first
              | refine JO.step (AO1.mv rfl) rfl ?_
              | refine JO.step (AO1.ncP rfl) rfl ?_
              | refine JO.step (AO1.fa rfl) rfl ?_
              | refine JO.nil ?_
              | refine JC.seq ?_
              | refine JC.reg ?_
              | refine JC.skip ?_
              | refine JC.blk ?_)
          refine JO.skip rfl rfl rfl ?_
          refine JO.skip rfl rfl rfl ?_
          refine JO.skip rfl rfl rfl ?_
          refine JO.skip rfl rfl rfl ?_
          refine JO.step (AO1.pkT rfl rfl) rfl ?_
          refine JO.step0 (AO1.st 0 rfl rfl rfl rfl rfl rfl rfl) ?_
          repeat (first
              | refine JO.step (AO1.mv rfl) rfl ?_
              | refine JO.step (AO1.ncP rfl) rfl ?_
              | refine JO.step (AO1.fa rfl) rfl ?_
              | refine JO.nil ?_
              | refine JC.seq ?_
              | refine JC.reg ?_
              | refine JC.skip ?_
              | refine JC.blk ?_)
          exact ⟨rfl, ⟨rfl, rfl, trivial⟩, rfl, HSub.refl _ _⟩
        | false =>
          refine JO.stepT rfl rfl (AO1.mv rfl) rfl ?_
          refine JO.stepT rfl rfl (AO1.mv rfl) rfl ?_
          refine JO.stepT rfl rfl (AO1.bn rfl rfl (bin_gtr _ _)) rfl ?_
          refine JO.step (AO1.pkF rfl rfl) rfl ?_
          repeat (first
              | refine JO.step (AO1.mv rfl) rfl ?_
              | refine JO.step (AO1.ncP rfl) rfl ?_
              | refine JO.step (AO1.fa rfl) rfl ?_
              | refine JO.nil ?_
              | refine JC.seq ?_
              | refine JC.reg ?_
              | refine JC.skip ?_
              | refine JC.blk ?_)
          rw [Bool.false_or]
          cases decide (hi < n) with
          | true =>
            refine JO.skip rfl rfl rfl ?_
            refine JO.skip rfl rfl rfl ?_
            refine JO.skip rfl rfl rfl ?_
            refine JO.skip rfl rfl rfl ?_
            refine JO.step (AO1.pkT rfl rfl) rfl ?_
            refine JO.step0 (AO1.st 0 rfl rfl rfl rfl rfl rfl rfl) ?_
            repeat (first
                | refine JO.step (AO1.mv rfl) rfl ?_
                | refine JO.step (AO1.ncP rfl) rfl ?_
                | refine JO.step (AO1.fa rfl) rfl ?_
                | refine JO.nil ?_
                | refine JC.seq ?_
                | refine JC.reg ?_
                | refine JC.skip ?_
                | refine JC.blk ?_)
            exact ⟨rfl, ⟨rfl, rfl, trivial⟩, rfl, HSub.refl _ _⟩
          | false =>
            refine JO.stepT rfl rfl (AO1.ld1X 1 rfl rfl rfl h30) rfl ?_
            refine JO.stepT rfl rfl (AO1.lenSlc rfl) rfl ?_
            refine JO.stepT rfl rfl (AO1.mv rfl) rfl ?_
            refine JO.stepT rfl rfl (AO1.bn rfl rfl (bin_lss _ _)) rfl ?_
            refine JO.step (AO1.pkF rfl rfl) rfl ?_
            refine JO.step0 (AO1.st 0 rfl rfl rfl rfl rfl rfl rfl) ?_
            repeat (first
                | refine JO.step (AO1.mv rfl) rfl ?_
                | refine JO.step (AO1.ncP rfl) rfl ?_
                | refine JO.step (AO1.fa rfl) rfl ?_
                | refine JO.nil ?_
                | refine JC.seq ?_
                | refine JC.reg ?_
                | refine JC.skip ?_
                | refine JC.blk ?_)
            exact ⟨rfl, ⟨rfl, rfl, trivial⟩, rfl, HSub.refl _ _⟩
    refine JC.seq ?_
    refine JC.reg ?_
    refine JO.step (AO1.ld1 0 rfl rfl rfl) rfl ?_
    refine JO.step (AO1.un rfl rfl) rfl ?_
    repeat (first
        | refine JO.step (AO1.mv rfl) rfl ?_
        | refine JO.step (AO1.ncP rfl) rfl ?_
        | refine JO.step (AO1.fa rfl) rfl ?_
        | refine JO.nil ?_
        | refine JC.seq ?_
        | refine JC.reg ?_
        | refine JC.skip ?_
        | refine JC.blk ?_)
    refine JC.ret ?_
    exact ⟨_, .t rfl .nil, rfl, rfl, .keep (.same e3 .nil)⟩
  · rintro y S' ⟨N', h', G', rfl, h3⟩
    exact ⟨rfl, N', h', G', h3⟩
end L32
end Go.Ev
namespace Go.Ev
open Go Go.Proofs
namespace L32
set_option maxRecDepth 100000
/-- the package's variables -/
def Glob (S : St) : Prop := ∃ b c, ∀ β, β < 6 → S.heap.get β = (G1 b c).get β
theorem Glob.g0 {S : St} (h : Glob S) : S.heap.get 0 = some (.row 2 (T.ofList [.m 5]) 1) := by
  obtain ⟨b, c, h⟩ := h; rw [h 0 (by omega)]; rfl
theorem Glob.g5 {S : St} (h : Glob S) : ∃ b c, S.heap.get 5 = some (.rom (kindsE b) c) := by
  obtain ⟨b, c, h⟩ := h; exact ⟨b, c, by rw [h 5 (by omega)]; rfl⟩
theorem Glob.ptr {S : St} (h : Glob S) : Ptr S (T.ofList (ints [0, 12, 12, 20])) := by
  obtain ⟨b, c, h⟩ := h
  exact ⟨by rw [h 1 (by omega)]; rfl, rfl, rfl⟩
def kindK (r : Int) : Int := if r = 1 then 6 else if r = 2 then 6 else if r = 3 then 6 else if r = 4 then 5 else if r = 5 then 3 else if r = 6 then 2 else if r = 7 then 1 else if r = 8 then 4 else 0
def leastK (r : Int) : Int := if r = 2 then 35 else if r = 4 then 8 else if r = 6 then 7 else if r = 7 then 4 else if r = 3 then 0 else if r = 1 then 2 else 1
def knownK (r : Int) : Bool := decide (1 ≤ r) && decide (r ≤ 8)
theorem kinds_find (b : Nat → Nat) (r : Int) : (∃ i n, findKey 1 (.i .i64 r) (kindsE b) = some (some (i, .ag (ints [kindK r, leastK r]), n)) ∧ knownK r = true) ∨ (findKey 1 (.i .i64 r) (kindsE b) = some none ∧ knownK r = false ∧ kindK r = 0) := by
  by_cases h1 : r = 1
  · subst h1; exact .inl ⟨_, _, rfl, rfl⟩
  by_cases h2 : r = 2
  · subst h2; exact .inl ⟨_, _, rfl, rfl⟩
  by_cases h3 : r = 3
  · subst h3; exact .inl ⟨_, _, rfl, rfl⟩
  by_cases h4 : r = 4
  · subst h4; exact .inl ⟨_, _, rfl, rfl⟩
  by_cases h5 : r = 5
  · subst h5; exact .inl ⟨_, _, rfl, rfl⟩
  by_cases h6 : r = 6
  · subst h6; exact .inl ⟨_, _, rfl, rfl⟩
  by_cases h7 : r = 7
  · subst h7; exact .inl ⟨_, _, rfl, rfl⟩
  by_cases h8 : r = 8
  · subst h8; exact .inl ⟨_, _, rfl, rfl⟩
  right
  have e : ∀ k : Int, r ≠ k → eqv (.i .i64 r) (.i .i64 k) = some false := fun k hk => by
    show some (ieq r k) = _
    rw [ieq_eq, decide_eq_false hk]
  refine ⟨?_, ?_, ?_⟩
  · show findAt (.i .i64 r) (kindsE b) 0 = _
    unfold kindsE
    simp only [findAt, e 1 h1, e 2 h2, e 3 h3, e 4 h4, e 5 h5, e 6 h6, e 7 h7, e 8 h8]
  · unfold knownK
    rw [Bool.and_eq_false_iff]
    simp only [decide_eq_false_iff_not]
    omega
  · simp [kindK, h1, h2, h3, h4, h5, h6, h7, h8]
theorem kind_c {S : St} (g : Glob S) (r : Int) : GCall PP 10 [.i .i64 r] S (isV (.i .i64 (kindK r)) S) := by
  obtain ⟨b, c, h5⟩ := g.g5
  refine GCall.still (JF (h := [(0, .blk (.row 2 (T.ofList [.m 5]) 1)), (5, .blk (.rom (kindsE b) c))]) ok10 rfl ?_ (by simp) ?_) rfl
  · intro x hx
    simp only [List.mem_cons, List.not_mem_nil, or_false] at hx
    rcases hx with rfl | rfl
    · exact ⟨g.g0, rfl⟩
    · exact ⟨h5, rfl⟩
  intro G
  repeat (first
      | refine JO.step (AO1.mv rfl) rfl ?_
      | refine JO.step (AO1.ncP rfl) rfl ?_
      | refine JO.step (AO1.fa rfl) rfl ?_
      | refine JO.nil ?_
      | refine JC.seq ?_
      | refine JC.reg ?_
      | refine JC.skip ?_
      | refine JC.blk ?_)
  refine JO.step (AO1.ld1X (o := 0) 0 rfl rfl rfl rfl) rfl ?_
  repeat (first
      | refine JO.step (AO1.mv rfl) rfl ?_
      | refine JO.step (AO1.ncP rfl) rfl ?_
      | refine JO.step (AO1.fa rfl) rfl ?_
      | refine JO.nil ?_
      | refine JC.seq ?_
      | refine JC.reg ?_
      | refine JC.skip ?_
      | refine JC.blk ?_)
  rcases kinds_find b r with ⟨i, n, hf, _⟩ | ⟨hf, _, hk⟩
  · refine JO.step (AO1.lkR 1 rfl rfl rfl hf) rfl ?_
    refine JO.step (AO1.ixA1 (i := 0) (k := .i64) rfl rfl rfl rfl) rfl ?_
    repeat (first
        | refine JO.step (AO1.mv rfl) rfl ?_
        | refine JO.step (AO1.ncP rfl) rfl ?_
        | refine JO.step (AO1.fa rfl) rfl ?_
        | refine JO.nil ?_
        | refine JC.seq ?_
        | refine JC.reg ?_
        | refine JC.skip ?_
        | refine JC.blk ?_)
    refine JC.ret ?_
    exact ⟨_, .t rfl .nil, rfl, rfl, .same g.g0 (.same h5 .nil)⟩
  · refine JO.step (AO1.lkR 1 rfl rfl rfl hf) rfl ?_
    refine JO.step (AO1.ixA1 (i := 0) (k := .i64) rfl rfl rfl rfl) rfl ?_
    repeat (first
        | refine JO.step (AO1.mv rfl) rfl ?_
        | refine JO.step (AO1.ncP rfl) rfl ?_
        | refine JO.step (AO1.fa rfl) rfl ?_
        | refine JO.nil ?_
        | refine JC.seq ?_
        | refine JC.reg ?_
        | refine JC.skip ?_
        | refine JC.blk ?_)
    refine JC.ret ?_
    exact ⟨_, .t rfl .nil, rfl, by rw [hk]; rfl, .same g.g0 (.same h5 .nil)⟩
theorem kindR_c (S : St) (r : Int) : GCall PP 11 [.i .i64 r] S (isV (.i .i64 (kindK r)) S) := by
  refine GCall.still (JF (h := []) ok11 rfl (nothing rfl) List.nodup_nil ?_) rfl
  intro G
  repeat' (first
    | refine JO.step (AO1.mv rfl) rfl ?_
    | refine JO.step (AO1.eq rfl rfl (eq_int _ _)) rfl ?_
    | refine JO.nil ?_
    | refine JC.seq ?_
    | refine JC.reg ?_
    | refine JC.skip ?_
    | refine JC.blk ?_
    | refine JC.cnd rfl (fun h => ?_) (fun h => ?_)
    | refine JC.ret ?_)
  all_goals refine ⟨_, .t rfl .nil, rfl, ?_, .nil⟩
  all_goals simp only [packV, cond_false, decide_eq_true_eq, decide_eq_false_iff_not] at *
  all_goals congr 1
  all_goals unfold kindK
  all_goals repeat' split
  all_goals omega
theorem leastR_c (S : St) (r : Int) : GCall PP 37 [.i .i64 r] S (isV (.i .i64 (leastK r)) S) := by
  refine GCall.still (JF (h := []) ok37 rfl (nothing rfl) List.nodup_nil ?_) rfl
  intro G
  repeat' (first
    | refine JO.step (AO1.mv rfl) rfl ?_
    | refine JO.step (AO1.eq rfl rfl (eq_int _ _)) rfl ?_
    | refine JO.nil ?_
    | refine JC.seq ?_
    | refine JC.reg ?_
    | refine JC.skip ?_
    | refine JC.blk ?_
    | refine JC.cnd rfl (fun h => ?_) (fun h => ?_)
    | refine JC.ret ?_)
  all_goals refine ⟨_, .t rfl .nil, rfl, ?_, .nil⟩
  all_goals simp only [packV, cond_false, decide_eq_true_eq, decide_eq_false_iff_not] at *
  all_goals congr 1
  all_goals unfold leastK
  all_goals repeat' split
  all_goals omega
end L32
end Go.Ev
namespace Go.Ev
open Go Go.Proofs
namespace L32
set_option maxRecDepth 100000
/-! the links of a block: what both sides compute -/
abbrev Ins := Int × Nat × Bool
def stepI (ws : List Int) (s : LS) (I : Ins) : LS := if I.2.2 = true ∧ ws.getD I.2.1 0 = 0 then s else addL ws I.1 s I.2.1
def runI (ws : List Int) (s : LS) (is : List Ins) : LS := is.foldl (stepI ws) s
def upto (f : Nat → List Ins) : Nat → List Ins
  | 0 => []
  | n + 1 => upto f n ++ f n
theorem runI_app (ws : List Int) (s : LS) (a b : List Ins) : runI ws s (a ++ b) = runI ws (runI ws s a) b := List.foldl_append
theorem must_run (ws : List Int) (role : Int) : ∀ (is : List Nat) (s : LS), mustF ws role s is = runI ws s (is.map fun i => (role, i, false))
  | [], _ => rfl
  | i :: is, s => by
    show mustF ws role (addL ws role s i) is = runI ws (stepI ws s (role, i, false)) _
    rw [must_run ws role is]; simp [stepI]
theorem may_run (ws : List Int) (role : Int) : ∀ (is : List Nat) (s : LS), mayF ws role s is = runI ws s (is.map fun i => (role, i, true))
  | [], _ => rfl
  | i :: is, s => by
    show mayF ws role (if ws.getD i 0 = 0 then s else addL ws role s i) is = runI ws (stepI ws s (role, i, true)) _
    rw [may_run ws role is]; simp [stepI]
theorem stepI_wrong (ws : List Int) (s : LS) (I : Ins) (h : s.1 = true) : (stepI ws s I).1 = true := by
  unfold stepI; split
  · exact h
  · simp [addL, h]
theorem runI_wrong (ws : List Int) : ∀ (is : List Ins) (s : LS), s.1 = true → (runI ws s is).1 = true
  | [], _, h => h
  | I :: is, s, h => runI_wrong ws is _ (stepI_wrong ws s I h)
theorem stepI_len (ws : List Int) (s : LS) (I : Ins) : (stepI ws s I).2.length ≤ s.2.length + 1 := by
  unfold stepI; split
  · omega
  · simp [addL]
theorem runI_len (ws : List Int) : ∀ (is : List Ins) (s : LS), (runI ws s is).2.length ≤ s.2.length + is.length
  | [], s => Nat.le_refl _
  | I :: is, s => by
    have h1 := runI_len ws is (stepI ws s I)
    have h2 := stepI_len ws s I
    show (runI ws (stepI ws s I) is).2.length ≤ s.2.length + (is.length + 1)
    omega
def dirI : Nat → List Ins := upto fun i => [(3, 3 + 4 * i, false), (3, 4 + 4 * i, false), (4, 6 + 4 * i, false)]
def tabI : Nat → List Ins := upto fun i => [(8, 4 + i, true)]
def bucI : Nat → List Ins := upto fun i => [(6, 1 + i, true)]
def nodI (ws : List Int) : Nat → List Ins := upto fun i => if ws.getD (1 + 2 * i) 0 = 0 then [] else [(7, 2 + 2 * i, false)]
theorem upto_len (f : Nat → List Ins) (c : Nat) (h : ∀ i, (f i).length ≤ c) : ∀ n, (upto f n).length ≤ c * n
  | 0 => Nat.zero_le _
  | n + 1 => by
    show (upto f n ++ f n).length ≤ _
    rw [List.length_append, Nat.mul_succ]
    have := upto_len f c h n
    have := h n
    omega
/-- wrong, or the links -/
def linksC (r : Int) (ws : List Int) : LS :=
  if r = 1 then ((runI ws (false, []) [(2, 1, false)]).1 || !decide (ws.getD 0 0 = 1), (runI ws (false, []) [(2, 1, false)]).2)
  else if r = 2 then (if ws.getD 0 0 = 2 ∧ 0 ≤ ws.getD 1 0 ∧ ws.getD 1 0 ≤ 8 then runI ws (false, []) (dirI (ws.getD 1 0).toNat) else (true, []))
  else if r = 4 then (if 0 ≤ ws.getD 3 0 ∧ ws.getD 3 0 ≤ 4 then runI ws (false, []) ((5, 1, false) :: tabI (ws.getD 3 0).toNat) else (true, []))
  else if r = 5 then (if 1 ≤ ws.getD 0 0 ∧ ws.getD 0 0 ≤ 126 ∧ 1 + ws.getD 0 0 ≤ ws.length then runI ws (false, []) (bucI (ws.getD 0 0).toNat) else (true, []))
  else if r = 6 then runI ws (false, []) ((6, 0, true) :: nodI ws 3)
  else if r = 7 then runI ws (false, []) [(7, 3, true)]
  else if r = 8 then (if 1 ≤ ws.getD 0 0 ∧ ws.getD 0 0 ≤ 6 ∧ ws.getD 0 0 + 4 ≤ ws.length then runI ws (false, []) [(8, (ws.getD 0 0).toNat + 2, true), (8, (ws.getD 0 0).toNat + 3, true)] else (true, []))
  else (false, [])
def fin (s : LS) : Int × LL := if s.1 = true then (3, []) else (0, s.2)
def resC (r : Int) (ws : List Int) : Int × LL := if knownK r = false then (1, []) else if (ws.length : Int) < leastK r then (3, []) else fin (linksC r ws)
theorem fin_wrong {s s' : LS} (h : s.1 = true) (h' : s'.1 = true) : fin s = fin s' := by unfold fin; rw [if_pos h, if_pos h']
/-- two new lists -/
def Two (S : St) (l : LL) (vO vP : AV) (S' : St) : Prop := ∃ N' tl, Tl l vO vP tl ∧ (∀ p ∈ tl, S.nxt ≤ p.1) ∧ SH S N' tl S'
/-! the frame of links -/
structure P36 where
  (W k m o : Nat) (cp : Option Nat) (t tp : T AV) (ws : List Int) (B : Nat)
def F36 (p : P36) (s : LS) (vO vP : AV) : Hp := [(p.W, .blk (.row p.k p.t p.m)), (1, .blk (.row 2 p.tp 4)), (p.B, .row 0 [.sl p.W p.o p.ws.length p.cp]), (p.B + 2, .row 0 [vO]), (p.B + 3, .row 0 [vP]), (p.B + 4, .row 0 [.b s.1]), (p.B + 5, .row 0 [mustV (p.B + 4) p.B (p.B + 2) (p.B + 3)])]
structure O36 (p : P36) (S0 : St) : Prop where
  R : Rd S0 p.W p.k p.t p.m p.o p.ws
  P : Ptr S0 p.tp
def Post36 (p : P36) (S0 : St) (N : Nat) (s : LS) (y : AV) (S2 : St) : Prop :=
  y = .tu [] ∧ ∃ N' vO vP tl', Tl s.2 vO vP tl' ∧ (∀ r ∈ tl', S0.nxt ≤ r.1) ∧ N ≤ N' ∧ SH S0 N' (F36 p s vO vP ++ tl') S2
theorem nd2 {w e c a b d g n : Nat} {u : List Nat} (h : ([w, e, c, a, b, d, g] ++ (u ++ [n])).Nodup) : ([d, c, a, b, n, w, e] ++ u).Nodup ∧ ([d, c, a, b, n, w, e, g] ++ u).Nodup := by
  simp only [List.cons_append, List.nil_append, List.nodup_cons, List.mem_cons, List.mem_append, List.nodup_append, List.not_mem_nil, not_or, or_false] at h ⊢
  grind
theorem cx36 {p : P36} {S0 S1 : St} {N : Nat} {s : LS} {vO vP : AV} {tl : Hp} {is : List Nat} (O : O36 p S0) (G1 : SH S0 (N + 1) (F36 p s vO vP ++ (tl ++ [(N, .row 0 (places is))])) S1) (hT : Tl s.2 vO vP tl) (hi : ∀ i ∈ is, i < p.ws.length) (hlen : s.2.length + is.length ≤ 1000) :
    CxM S1 s vO vP tl (p.B + 4) p.B (p.B + 2) (p.B + 3) N p.W p.k p.m p.o p.cp p.t p.tp p.ws is :=
  ⟨hT, G1.look (j := 5) rfl, G1.look (j := 2) rfl, G1.look (j := 3) rfl, G1.look (j := 4) rfl, G1.get (N, .row 0 (places is)) (List.mem_append_right _ (List.mem_append_right _ (List.mem_singleton_self _))), ⟨G1.look (j := 0) rfl, O.R.le, O.R.ge⟩, ⟨G1.look (j := 1) rfl, O.P.a, O.P.b⟩, hi, hlen,
    fun r hr => G1.get r (List.mem_append_right _ (List.mem_append_left _ hr)), (nd2 (u := ids tl) (g := p.B + 5) (by have := G1.dis; rw [List.map_append, List.map_append] at this; exact this)).1⟩
theorem post36 {p : P36} {S0 S1 S2 : St} {N : Nat} {s s' : LS} {y vO vP : AV} {tl : Hp} {is : List Nat} (G1 : SH S0 (N + 1) (F36 p s vO vP ++ (tl ++ [(N, .row 0 (places is))])) S1) (htl : ∀ r ∈ tl, S0.nxt ≤ r.1) (hN : S0.nxt ≤ N) (k : LinkPost S1 (p.B + 4) (p.B + 2) (p.B + 3) tl s' y S2) : Post36 p S0 N s' y S2 := by
  obtain ⟨rfl, N', uO, uP, ul, hT, hul, hN', G2⟩ := k.ctx (F := F36 p s vO vP) G1 (fun j hj => by
    obtain ⟨r, hr, rfl⟩ := List.mem_map.1 hj
    exact G1.wf _ (htl r hr)) (fun r hr => by rw [List.mem_singleton] at hr; subst hr; exact hN) [5, 3, 4] (fun _ _ _ => ⟨⟨_, rfl⟩, ⟨_, rfl⟩, ⟨_, rfl⟩, trivial⟩)
  refine ⟨rfl, N', uO, uP, ul, hT, fun r hr => ?_, by omega, G2⟩
  rcases hul r hr with h1 | h1
  · obtain ⟨r', hr', e'⟩ := List.mem_map.1 h1
    rw [← e']; exact htl r' hr'
  · omega
theorem must36 {p : P36} {S0 S1 : St} {N : Nat} {s : LS} {vO vP : AV} {tl : Hp} {is : List Nat} (O : O36 p S0) (role : Int) (hT : Tl s.2 vO vP tl) (htl : ∀ r ∈ tl, S0.nxt ≤ r.1) (hN : S0.nxt ≤ N) (hi : ∀ i ∈ is, i < p.ws.length) (hlen : s.2.length + is.length ≤ 1000) (G1 : SH S0 (N + 1) (F36 p s vO vP ++ (tl ++ [(N, .row 0 (places is))])) S1) :
    GCall PP 72 [.i .i64 role, .sl N 0 is.length (some is.length), .p (p.B + 4) 0, .p p.B 0, .p (p.B + 2) 0, .p (p.B + 3) 0] S1 (Post36 p S0 N (mustF p.ws role s is)) :=
  (must_c (cx36 O G1 hT hi hlen) role).mono fun _ _ k => post36 G1 htl hN k
theorem may36 {p : P36} {S0 S1 : St} {N : Nat} {s : LS} {vO vP : AV} {tl : Hp} {is : List Nat} (O : O36 p S0) (role : Int) (hT : Tl s.2 vO vP tl) (htl : ∀ r ∈ tl, S0.nxt ≤ r.1) (hN : S0.nxt ≤ N) (hi : ∀ i ∈ is, i < p.ws.length) (hlen : s.2.length + is.length ≤ 1000) (G1 : SH S0 (N + 1) (F36 p s vO vP ++ (tl ++ [(N, .row 0 (places is))])) S1) :
    GCall PP 74 [.i .i64 role, .sl N 0 is.length (some is.length), .p p.B 0, .p (p.B + 5) 0] S1 (Post36 p S0 N (mayF p.ws role s is)) :=
  (may_c (cx36 O G1 hT hi hlen) (G1.look (j := 6) rfl) (nd2 (u := ids tl) (g := p.B + 5) (by have := G1.dis; rw [List.map_append, List.map_append] at this; exact this)).2 role).mono fun _ _ k => post36 G1 htl hN k
end L32
end Go.Ev
namespace Go.Ev
open Go Go.Proofs
namespace L32
set_option maxRecDepth 100000
theorem addN {a b : Nat} (h : a + b ≤ 1000000000000) : bin .add (.i .i64 (.ofNat a)) (.i .i64 (.ofNat b)) = some (.i .i64 (.ofNat (a + b))) := by
  rw [bin_add (by show (-9223372036854775808 : Int) ≤ (a : Int) + (b : Int); omega) (by show (a : Int) + (b : Int) ≤ 9223372036854775807; omega)]; rfl
theorem mulN {a b : Nat} (h : a * b ≤ 1000000000000) : bin .mul (.i .i64 (.ofNat a)) (.i .i64 (.ofNat b)) = some (.i .i64 (.ofNat (a * b))) := by
  have e : (Int.ofNat a) * (Int.ofNat b) = ((a * b : Nat) : Int) := rfl
  rw [bin_mul (by rw [e]; omega) (by rw [e]; omega)]; rfl
theorem upto_wrong (ws : List Int) (f : Nat → List Ins) (s : LS) (i : Nat) : ∀ d, (runI ws s (upto f i)).1 = true → (runI ws s (upto f (i + d))).1 = true
  | 0, h => h
  | d + 1, h => by
    show (runI ws s (upto f (i + d) ++ f (i + d))).1 = true
    rw [runI_app]
    exact runI_wrong ws _ _ (upto_wrong ws f s i d h)
theorem within36 {p : P36} {S0 S1 : St} {N : Nat} {s : LS} {vO vP : AV} {tl : Hp} (n lo hi c : Int) (G1 : SH S0 N (F36 p s vO vP ++ tl) S1) :
    GCall PP 75 [.i .i64 n, .i .i64 lo, .i .i64 hi, .i .i64 c, .p (p.B + 4) 0, .p p.B 0] S1 (fun y S2 => y = .b (!withinB s.1 p.ws n lo hi c) ∧ ∃ N', N ≤ N' ∧ SH S0 N' (F36 p (withinB s.1 p.ws n lo hi c, s.2) vO vP ++ tl) S2) := by
  refine (within_c (G1.look (j := 5) rfl) (G1.look (j := 2) rfl) (by omega) n lo hi c).mono ?_
  rintro y S2 ⟨rfl, N', h', G', hs⟩
  refine ⟨rfl, N', by have := G'.le; rw [G1.nxt] at this; exact this, ?_⟩
  exact G1.upds (G'.sub hs) [5] ⟨⟨_, rfl⟩, trivial⟩
abbrev A36 := LS × AV × AV × Hp × Nat
def L36 (r : Int) (p : P36) : Fr := [(38, .i .i64 r), (15, .i .i64 (p.ws.headD 0)), (14, .f (.func 75) [] [.p (p.B + 4) 0, .p p.B 0]), (13, .f (.func 74) [] [.p p.B 0, .p (p.B + 5) 0]), (12, .p (p.B + 5) 0), (11, .p (p.B + 4) 0), (10, .p (p.B + 3) 0), (9, .p (p.B + 2) 0), (3, .p p.B 0), (dslot, .tu [])]
def T36 (p : P36) : Fr := [(11, .p (p.B + 4) 0), (10, .p (p.B + 3) 0), (9, .p (p.B + 2) 0), (dslot, .tu [])]
/-- where the branches end -/
def E36 (r : Int) (p : P36) (S : St) (x : X) (l' : Fr) (N' : Nat) (h' : Hp) : Prop := x = .nrm ∧ ∃ a : A36, (Tl a.1.2 a.2.1 a.2.2.1 a.2.2.2.1 ∧ (∀ q ∈ a.2.2.2.1, S.nxt ≤ q.1) ∧ fin a.1 = fin (linksC r p.ws)) ∧ FSub l' (T36 p) ∧ N' = a.2.2.2.2 ∧ HSub S h' (F36 p a.1 a.2.1 a.2.2.1 ++ a.2.2.2.1)
theorem head_getD (ws : List Int) : ws.headD 0 = ws.getD 0 0 := by cases ws <;> rfl
theorem br1 {p : P36} {S : St} (O : O36 p S) {N : Nat} (hN : S.nxt ≤ N) (h2 : 2 ≤ p.ws.length) : JC PP S none (.seq (.reg [⟨(some 41), .ld1 (.t 12), none⟩, ⟨(some 42), .bs [(.i .i64 0)] 1 1 [(0, 1, (.c (.i .i64 1)))], none⟩, ⟨(some 43), .call (.t 41) [(.c (.i .i64 2)), (.t 42)], none⟩]) (.reg [⟨(some 44), .ld1 (.t 11), none⟩, ⟨(some 45), .mv (.t 44), none⟩, ⟨(some 46), .mv (.t 15), (some (45, false))⟩, ⟨(some 47), .eq true 1 (.t 46) (.c (.i .i64 1)), (some (45, false))⟩, ⟨(some 48), .pk (.t 45) (.c (.b true)) (.t 47), none⟩, ⟨none, .st 1 (.t 11) (.t 48), none⟩])) (L36 1 p) N (F36 p (false, []) .sn .sn) (E36 1 p S) := by
  repeat (first
      | refine JO.step (AO1.mv rfl) rfl ?_
      | refine JO.step (AO1.ncP rfl) rfl ?_
      | refine JO.step (AO1.fa rfl) rfl ?_
      | refine JO.nil ?_
      | refine JC.seq ?_
      | refine JC.reg ?_
      | refine JC.skip ?_
      | refine JC.blk ?_)
  refine JO.step (AO1.ld1 6 rfl rfl rfl) rfl ?_
  refine JO.step (AO1.bs rfl rfl rfl) rfl ?_
  refine JO.call (fun _ _ => rfl) rfl rfl rfl (fun S1 G1 => must36 (p := p) (s := (false, [])) (vO := .sn) (vP := .sn) (tl := []) (is := [1]) O 2 .nil (fun _ h => by cases h) (by omega) ?_ ?_ G1) (fun S1 G1 y S2 k => ?_) rfl
  · intro i hi; rw [List.mem_singleton] at hi; subst hi; exact h2
  · exact (by decide : 1 ≤ 1000)
  obtain ⟨rfl, N1, uO, uP, ul, hT1, hul1, hN1, G2⟩ := k
  refine ⟨N1, _, G2, ?_⟩
  repeat (first
      | refine JO.step (AO1.mv rfl) rfl ?_
      | refine JO.step (AO1.ncP rfl) rfl ?_
      | refine JO.step (AO1.fa rfl) rfl ?_
      | refine JO.nil ?_
      | refine JC.seq ?_
      | refine JC.reg ?_
      | refine JC.skip ?_
      | refine JC.blk ?_)
  refine JO.step (AO1.ld1 5 rfl rfl rfl) rfl ?_
  repeat (first
      | refine JO.step (AO1.mv rfl) rfl ?_
      | refine JO.step (AO1.ncP rfl) rfl ?_
      | refine JO.step (AO1.fa rfl) rfl ?_
      | refine JO.nil ?_
      | refine JC.seq ?_
      | refine JC.reg ?_
      | refine JC.skip ?_
      | refine JC.blk ?_)
  have hs : mustF p.ws 2 (false, []) [1] = runI p.ws (false, []) [(2, 1, false)] := must_run ..
  generalize mustF p.ws 2 (false, []) [1] = s at *
  obtain ⟨w, l⟩ := s
  have hf : fin (w || !decide (p.ws.headD 0 = 1), l) = fin (linksC 1 p.ws) := by
    unfold linksC; rw [if_pos rfl, ← hs, head_getD]
  cases w with
  | true =>
    refine JO.skip rfl rfl rfl ?_
    refine JO.skip rfl rfl rfl ?_
    refine JO.step (AO1.pkT rfl rfl) rfl ?_
    refine JO.step0 (AO1.st 5 rfl rfl rfl rfl rfl rfl rfl) ?_
    repeat (first
        | refine JO.step (AO1.mv rfl) rfl ?_
        | refine JO.step (AO1.ncP rfl) rfl ?_
        | refine JO.step (AO1.fa rfl) rfl ?_
        | refine JO.nil ?_
        | refine JC.seq ?_
        | refine JC.reg ?_
        | refine JC.skip ?_
        | refine JC.blk ?_)
    exact ⟨rfl, ((true, l), uO, uP, ul, N1), ⟨hT1, hul1, hf⟩, ⟨rfl, rfl, rfl, rfl, trivial⟩, rfl, HSub.refl _ _⟩
  | false =>
    refine JO.stepT rfl rfl (AO1.mv rfl) rfl ?_
    refine JO.stepT rfl rfl (AO1.eq rfl rfl (eq_int _ _)) rfl ?_
    refine JO.step (AO1.pkF rfl rfl) rfl ?_
    refine JO.step0 (AO1.st 5 rfl rfl rfl rfl rfl rfl rfl) ?_
    repeat (first
        | refine JO.step (AO1.mv rfl) rfl ?_
        | refine JO.step (AO1.ncP rfl) rfl ?_
        | refine JO.step (AO1.fa rfl) rfl ?_
        | refine JO.nil ?_
        | refine JC.seq ?_
        | refine JC.reg ?_
        | refine JC.skip ?_
        | refine JC.blk ?_)
    exact ⟨rfl, ((!decide (p.ws.headD 0 = 1), l), uO, uP, ul, N1), ⟨hT1, hul1, hf⟩, ⟨rfl, rfl, rfl, rfl, trivial⟩, rfl, HSub.refl _ _⟩
theorem br7 {p : P36} {S : St} (O : O36 p S) {N : Nat} (hN : S.nxt ≤ N) (h2 : 4 ≤ p.ws.length) : JC PP S none (.reg [⟨(some 145), .mv (.t 13), none⟩, ⟨(some 146), .bs [(.i .i64 0)] 1 1 [(0, 1, (.c (.i .i64 3)))], none⟩, ⟨(some 147), .call (.t 145) [(.c (.i .i64 7)), (.t 146)], none⟩]) (L36 7 p) N (F36 p (false, []) .sn .sn) (E36 7 p S) := by
  repeat (first
      | refine JO.step (AO1.mv rfl) rfl ?_
      | refine JO.step (AO1.ncP rfl) rfl ?_
      | refine JO.step (AO1.fa rfl) rfl ?_
      | refine JO.nil ?_
      | refine JC.seq ?_
      | refine JC.reg ?_
      | refine JC.skip ?_
      | refine JC.blk ?_)
  refine JO.step (AO1.bs rfl rfl rfl) rfl ?_
  refine JO.call (fun _ _ => rfl) rfl rfl rfl (fun S1 G1 => may36 (p := p) (s := (false, [])) (vO := .sn) (vP := .sn) (tl := []) (is := [3]) O 7 .nil (fun _ h => by cases h) (by omega) ?_ ?_ G1) (fun S1 G1 y S2 k => ?_) rfl
  · intro i hi; rw [List.mem_singleton] at hi; subst hi; exact h2
  · exact (by decide : 1 ≤ 1000)
  obtain ⟨rfl, N1, uO, uP, ul, hT1, hul1, hN1, G2⟩ := k
  refine ⟨N1, _, G2, ?_⟩
  repeat (first
      | refine JO.step (AO1.mv rfl) rfl ?_
      | refine JO.step (AO1.ncP rfl) rfl ?_
      | refine JO.step (AO1.fa rfl) rfl ?_
      | refine JO.nil ?_
      | refine JC.seq ?_
      | refine JC.reg ?_
      | refine JC.skip ?_
      | refine JC.blk ?_)
  have hs : mayF p.ws 7 (false, []) [3] = runI p.ws (false, []) [(7, 3, true)] := may_run ..
  refine ⟨rfl, (_, uO, uP, ul, N1), ⟨hT1, hul1, ?_⟩, ⟨rfl, rfl, rfl, rfl, trivial⟩, rfl, HSub.refl _ _⟩
  show fin (mayF p.ws 7 (false, []) [3]) = _
  rw [hs]; rfl
theorem withinB_false {w : Bool} {ws : List Int} {n lo hi c : Int} (h : withinB w ws n lo hi c = false) : w = false ∧ lo ≤ n ∧ n ≤ hi ∧ c ≤ ws.length := by
  unfold withinB at h
  simp only [Bool.or_eq_false_iff, decide_eq_false_iff_not] at h
  exact ⟨h.1, by omega, by omega, by omega⟩
theorem withinB_true {w : Bool} {ws : List Int} {n lo hi c : Int} (h : withinB w ws n lo hi c = true) : w = true ∨ ¬ (lo ≤ n ∧ n ≤ hi ∧ c ≤ ws.length) := by
  unfold withinB at h
  simp only [Bool.or_eq_true, decide_eq_true_eq] at h
  rcases h with h | h | h | h
  · exact .inl h
  all_goals right; omega
theorem br8 {p : P36} {S : St} (O : O36 p S) {N : Nat} (hN : S.nxt ≤ N) : JC PP S none (.seq (.reg [⟨(some 150), .mv (.t 14), none⟩, ⟨(some 151), .mv (.t 15), none⟩, ⟨(some 152), .mv (.t 15), none⟩, ⟨(some 153), .bn .add (.t 152) (.c (.i .i64 4)), none⟩, ⟨(some 154), .call (.t 150) [(.t 151), (.c (.i .i64 1)), (.c (.i .i64 6)), (.t 153)], none⟩]) (.cnd (.t 154) (.reg [⟨(some 155), .mv (.t 13), none⟩, ⟨(some 156), .mv (.t 15), none⟩, ⟨(some 157), .bn .add (.t 156) (.c (.i .i64 2)), none⟩, ⟨(some 158), .mv (.t 15), none⟩, ⟨(some 159), .bn .add (.t 158) (.c (.i .i64 3)), none⟩, ⟨(some 160), .bs [(.i .i64 0)] 2 1 [(0, 1, (.t 157)), (1, 1, (.t 159))], none⟩, ⟨(some 161), .call (.t 155) [(.c (.i .i64 8)), (.t 160)], none⟩]) .skip)) (L36 8 p) N (F36 p (false, []) .sn .sn) (E36 8 p S) := by
  repeat (first
      | refine JO.step (AO1.mv rfl) rfl ?_
      | refine JO.step (AO1.ncP rfl) rfl ?_
      | refine JO.step (AO1.fa rfl) rfl ?_
      | refine JO.nil ?_
      | refine JC.seq ?_
      | refine JC.reg ?_
      | refine JC.skip ?_
      | refine JC.blk ?_)
  refine JO.step (AO1.bn (v := .i .i64 (fwrap .i64 (p.ws.headD 0 + 4))) rfl rfl rfl) rfl ?_
  refine JO.call (fun _ _ => rfl) rfl rfl rfl (fun S1 G1 => within36 (p := p) (s := (false, [])) (vO := .sn) (vP := .sn) (tl := []) (p.ws.headD 0) 1 6 (fwrap .i64 (p.ws.headD 0 + 4)) G1) (fun S1 G1 y S2 k => ?_) rfl
  obtain ⟨rfl, N1, hN1, G2⟩ := k
  refine ⟨N1, _, G2, ?_⟩
  repeat (first
      | refine JO.step (AO1.mv rfl) rfl ?_
      | refine JO.step (AO1.ncP rfl) rfl ?_
      | refine JO.step (AO1.fa rfl) rfl ?_
      | refine JO.nil ?_
      | refine JC.seq ?_
      | refine JC.reg ?_
      | refine JC.skip ?_
      | refine JC.blk ?_)
  refine JC.cnd rfl (fun h => ?_) (fun h => ?_)
  · have hw : withinB false p.ws (p.ws.headD 0) 1 6 (fwrap .i64 (p.ws.headD 0 + 4)) = false := by simpa using h
    obtain ⟨_, h1, h6, hl⟩ := withinB_false hw
    rw [fwrap_in (by omega) (by omega)] at hl
    rw [hw]
    have hd := head_getD p.ws
    obtain ⟨n, hn⟩ := Int.eq_ofNat_of_zero_le (show 0 ≤ p.ws.headD 0 by omega)
    have hn : p.ws.headD 0 = .ofNat n := hn
    have hn6 : n ≤ 6 := by rw [hn] at h6; exact Int.ofNat_le.1 h6
    have hn1 : 1 ≤ n := by rw [hn] at h1; exact Int.ofNat_le.1 h1
    have hnl : n + 4 ≤ p.ws.length := by
      rw [hn] at hl
      have : ((n : Int) + 4) ≤ (p.ws.length : Int) := hl
      omega
    repeat (first
        | refine JO.step (AO1.mv rfl) rfl ?_
        | refine JO.step (AO1.ncP rfl) rfl ?_
        | refine JO.step (AO1.fa rfl) rfl ?_
        | refine JO.nil ?_
        | refine JC.seq ?_
        | refine JC.reg ?_
        | refine JC.skip ?_
        | refine JC.blk ?_)
    refine JO.step (AO1.bn (v := .i .i64 (.ofNat (n + 2))) rfl rfl (by rw [hn]; exact addN (b := 2) (by omega))) rfl ?_
    repeat (first
        | refine JO.step (AO1.mv rfl) rfl ?_
        | refine JO.step (AO1.ncP rfl) rfl ?_
        | refine JO.step (AO1.fa rfl) rfl ?_
        | refine JO.nil ?_
        | refine JC.seq ?_
        | refine JC.reg ?_
        | refine JC.skip ?_
        | refine JC.blk ?_)
    refine JO.step (AO1.bn (v := .i .i64 (.ofNat (n + 3))) rfl rfl (by rw [hn]; exact addN (b := 3) (by omega))) rfl ?_
    refine JO.step (AO1.bs rfl rfl rfl) rfl ?_
    refine JO.call (fun _ _ => rfl) rfl rfl rfl (fun S1 G1 => may36 (p := p) (s := (false, [])) (vO := .sn) (vP := .sn) (tl := []) (is := [n + 2, n + 3]) O 8 .nil (fun _ h => by cases h) (by omega) ?_ ?_ G1) (fun S1 G1 y S2 k => ?_) rfl
    · intro i hi
      simp only [List.mem_cons, List.not_mem_nil, or_false] at hi
      omega
    · exact (by decide : 2 ≤ 1000)
    obtain ⟨rfl, N2, uO, uP, ul, hT1, hul1, hN2, G3⟩ := k
    refine ⟨N2, _, G3, ?_⟩
    repeat (first
        | refine JO.step (AO1.mv rfl) rfl ?_
        | refine JO.step (AO1.ncP rfl) rfl ?_
        | refine JO.step (AO1.fa rfl) rfl ?_
        | refine JO.nil ?_
        | refine JC.seq ?_
        | refine JC.reg ?_
        | refine JC.skip ?_
        | refine JC.blk ?_)
    refine ⟨rfl, (_, uO, uP, ul, N2), ⟨hT1, hul1, ?_⟩, ⟨rfl, rfl, rfl, rfl, trivial⟩, rfl, HSub.refl _ _⟩
    show fin (mayF p.ws 8 (false, []) [n + 2, n + 3]) = _
    rw [may_run]
    unfold linksC
    rw [if_neg (by decide), if_neg (by decide), if_neg (by decide), if_neg (by decide), if_neg (by decide), if_neg (by decide), if_pos rfl, ← hd, hn, if_pos ⟨by rw [← hn]; exact h1, by rw [← hn]; exact h6, by show (n : Int) + 4 ≤ _; omega⟩]
    rfl
  · have hw : withinB false p.ws (p.ws.headD 0) 1 6 (fwrap .i64 (p.ws.headD 0 + 4)) = true := by simpa using h
    rw [hw]
    repeat (first
        | refine JO.step (AO1.mv rfl) rfl ?_
        | refine JO.step (AO1.ncP rfl) rfl ?_
        | refine JO.step (AO1.fa rfl) rfl ?_
        | refine JO.nil ?_
        | refine JC.seq ?_
        | refine JC.reg ?_
        | refine JC.skip ?_
        | refine JC.blk ?_)
    refine ⟨rfl, ((true, []), .sn, .sn, [], N1), ⟨.nil, fun _ h => (by cases h), fin_wrong rfl ?_⟩, ⟨rfl, rfl, rfl, rfl, trivial⟩, rfl, HSub.refl _ _⟩
    unfold linksC
    rw [if_neg (by decide), if_neg (by decide), if_neg (by decide), if_neg (by decide), if_neg (by decide), if_neg (by decide), if_pos rfl, ← head_getD, if_neg]
    intro ⟨a, b, c⟩
    rcases withinB_true hw with e | e
    · cases e
    · apply e
      rw [fwrap_in (by omega) (by omega)]
      exact ⟨a, b, c⟩
end L32
end Go.Ev
namespace Go.Ev
open Go Go.Proofs
namespace L32
set_option maxRecDepth 100000
theorem nz (n i : Nat) (x : Int) (h1 : i = 0 ∨ (i : Int) ≤ x) (h2 : ¬ ((Int.ofNat (n + i)) ≤ x)) (h3 : 1 ≤ x) (hn : n = 1) : x.toNat = i := by
  subst hn
  have h2 : ¬ (((1 + i : Nat) : Int) ≤ x) := h2
  omega
theorem br5 {p : P36} {S : St} (O : O36 p S) {N : Nat} (hN : S.nxt ≤ N) : JC PP S none (.seq (.reg [⟨(some 18), .mv (.c (.i .i64 1)), none⟩]) (.blk 5 (.loop (.seq (.seq (.reg [⟨(some 108), .mv (.t 14), none⟩, ⟨(some 109), .mv (.t 15), none⟩, ⟨(some 110), .mv (.t 15), none⟩, ⟨(some 111), .bn .add (.c (.i .i64 1)) (.t 110), none⟩, ⟨(some 112), .call (.t 108) [(.t 109), (.c (.i .i64 1)), (.c (.i .i64 126)), (.t 111)], none⟩, ⟨(some 113), .mv (.t 112), none⟩, ⟨(some 114), .mv (.t 18), (some (113, true))⟩, ⟨(some 115), .mv (.t 15), (some (113, true))⟩, ⟨(some 116), .bn .leq (.t 114) (.t 115), (some (113, true))⟩, ⟨(some 117), .pk (.t 113) (.t 116) (.c (.b false)), none⟩]) (.cnd (.t 117) .skip (.ex 5))) (.seq (.blk 6 (.reg [⟨(some 120), .mv (.t 13), none⟩, ⟨(some 121), .mv (.t 18), none⟩, ⟨(some 122), .bs [(.i .i64 0)] 1 1 [(0, 1, (.t 121))], none⟩, ⟨(some 123), .call (.t 120) [(.c (.i .i64 6)), (.t 122)], none⟩])) (.reg [⟨(some 118), .mv (.t 18), none⟩, ⟨(some 119), .bn .add (.t 118) (.c (.i .i64 1)), none⟩, ⟨(some 18), .mv (.t 119), none⟩])))))) (L36 5 p) N (F36 p (false, []) .sn .sn) (E36 5 p S) := by
  repeat (first
      | refine JO.step (AO1.mv rfl) rfl ?_
      | refine JO.step (AO1.ncP rfl) rfl ?_
      | refine JO.step (AO1.fa rfl) rfl ?_
      | refine JO.nil ?_
      | refine JC.seq ?_
      | refine JC.reg ?_
      | refine JC.skip ?_
      | refine JC.blk ?_)
  refine JC.loop (fun a : Nat × LS × AV × AV × Hp × Nat => (18, .i .i64 (.ofNat (1 + a.1))) :: L36 5 p) (fun a => a.2.2.2.2.2) (fun a => F36 p a.2.1 a.2.2.1 a.2.2.2.1 ++ a.2.2.2.2.1) (fun a => 127 - a.1)
    (fun a => a.1 ≤ 126 ∧ S.nxt ≤ a.2.2.2.2.2 ∧ Tl a.2.1.2 a.2.2.1 a.2.2.2.1 a.2.2.2.2.1 ∧ (∀ q ∈ a.2.2.2.2.1, S.nxt ≤ q.1) ∧ a.2.1 = runI p.ws (false, []) (bucI a.1) ∧ (a.1 = 0 ∨ (a.1 : Int) ≤ p.ws.headD 0))
    (0, (false, []), .sn, .sn, [], N) ⟨Nat.zero_le _, hN, .nil, fun _ h => (by cases h), rfl, .inl rfl⟩ ⟨rfl, rfl, rfl, rfl, rfl, rfl, rfl, rfl, rfl, rfl, rfl, trivial⟩ rfl (HSub.refl _ _) ?_
  rintro ⟨i, s, uO, uP, ul, N⟩ ⟨hi, hN, hT, hul, hs, hin⟩
  simp only at hi hN hT hul hs hin ⊢
  repeat (first
      | refine JO.step (AO1.mv rfl) rfl ?_
      | refine JO.step (AO1.ncP rfl) rfl ?_
      | refine JO.step (AO1.fa rfl) rfl ?_
      | refine JO.nil ?_
      | refine JC.seq ?_
      | refine JC.reg ?_
      | refine JC.skip ?_
      | refine JC.blk ?_)
  refine JO.step (AO1.bn (v := .i .i64 (fwrap .i64 (1 + p.ws.headD 0))) rfl rfl rfl) rfl ?_
  refine JO.call (fun _ _ => rfl) rfl rfl rfl (fun S1 G1 => within36 (p := p) (s := s) (vO := uO) (vP := uP) (tl := ul) (p.ws.headD 0) 1 126 (fwrap .i64 (1 + p.ws.headD 0)) G1) (fun S1 G1 y S2 k => ?_) rfl
  obtain ⟨rfl, N1, hN1, G2⟩ := k
  refine ⟨N1, _, G2, ?_⟩
  repeat (first
      | refine JO.step (AO1.mv rfl) rfl ?_
      | refine JO.step (AO1.ncP rfl) rfl ?_
      | refine JO.step (AO1.fa rfl) rfl ?_
      | refine JO.nil ?_
      | refine JC.seq ?_
      | refine JC.reg ?_
      | refine JC.skip ?_
      | refine JC.blk ?_)
  have hC : linksC 5 p.ws = if 1 ≤ p.ws.getD 0 0 ∧ p.ws.getD 0 0 ≤ 126 ∧ 1 + p.ws.getD 0 0 ≤ p.ws.length then runI p.ws (false, []) (bucI (p.ws.getD 0 0).toNat) else (true, []) := by
    unfold linksC
    rw [if_neg (by decide), if_neg (by decide), if_neg (by decide), if_pos rfl]
  rw [← head_getD] at hC
  cases hw : withinB s.1 p.ws (p.ws.headD 0) 1 126 (fwrap .i64 (1 + p.ws.headD 0)) with
  | true =>
    refine JO.skip rfl rfl rfl ?_
    refine JO.skip rfl rfl rfl ?_
    refine JO.skip rfl rfl rfl ?_
    refine JO.step (AO1.pkF rfl rfl) rfl ?_
    repeat (first
        | refine JO.step (AO1.mv rfl) rfl ?_
        | refine JO.step (AO1.ncP rfl) rfl ?_
        | refine JO.step (AO1.fa rfl) rfl ?_
        | refine JO.nil ?_
        | refine JC.seq ?_
        | refine JC.reg ?_
        | refine JC.skip ?_
        | refine JC.blk ?_)
    refine JC.cnd rfl (fun h => by cases h) (fun _ => ?_)
    refine JC.ex ?_
    refine ⟨rfl, ((true, s.2), uO, uP, ul, N1), ⟨hT, hul, fin_wrong rfl ?_⟩, ⟨rfl, rfl, rfl, rfl, trivial⟩, rfl, HSub.refl _ _⟩
    rw [hC]
    split
    · rename_i hc
      rcases withinB_true hw with e | e
      · rcases hin with h0 | h0
        · subst h0; rw [hs] at e; cases e
        · obtain ⟨d, hd⟩ : ∃ d, (p.ws.headD 0).toNat = i + d := ⟨(p.ws.headD 0).toNat - i, by omega⟩
          rw [hd]
          exact upto_wrong p.ws _ _ i d (by rw [hs] at e; exact e)
      · exfalso; apply e
        rw [fwrap_in (by omega) (by omega)]
        exact hc
    · rfl
  | false =>
    obtain ⟨h0, h1, h2, h3⟩ := withinB_false hw
    rw [fwrap_in (by omega) (by omega)] at h3
    refine JO.stepT rfl rfl (AO1.mv rfl) rfl ?_
    refine JO.stepT rfl rfl (AO1.mv rfl) rfl ?_
    refine JO.stepT rfl rfl (AO1.bn rfl rfl (bin_leq _ _)) rfl ?_
    refine JO.step (AO1.pkT rfl rfl) rfl ?_
    repeat (first
        | refine JO.step (AO1.mv rfl) rfl ?_
        | refine JO.step (AO1.ncP rfl) rfl ?_
        | refine JO.step (AO1.fa rfl) rfl ?_
        | refine JO.nil ?_
        | refine JC.seq ?_
        | refine JC.reg ?_
        | refine JC.skip ?_
        | refine JC.blk ?_)
    have hsw : (false, s.2) = s := by rw [← h0]
    rw [hsw]
    refine JC.cnd rfl (fun hle => ?_) (fun hgt => ?_)
    · have hle : ((1 + i : Nat) : Int) ≤ p.ws.headD 0 := of_decide_eq_true hle
      repeat (first
          | refine JO.step (AO1.mv rfl) rfl ?_
          | refine JO.step (AO1.ncP rfl) rfl ?_
          | refine JO.step (AO1.fa rfl) rfl ?_
          | refine JO.nil ?_
          | refine JC.seq ?_
          | refine JC.reg ?_
          | refine JC.skip ?_
          | refine JC.blk ?_)
      refine JO.step (AO1.bs rfl rfl rfl) rfl ?_
      refine JO.call (fun _ _ => rfl) rfl rfl rfl (fun S1 G1 => may36 (p := p) (s := s) (vO := uO) (vP := uP) (tl := ul) (is := [1 + i]) O 6 hT hul (by omega) ?_ ?_ G1) (fun S1 G1 y S2 k => ?_) rfl
      · intro j hj; rw [List.mem_singleton] at hj; subst hj; omega
      · have e1 := runI_len p.ws (bucI i) (false, [])
        have e2 := upto_len (fun i => [(6, 1 + i, true)]) 1 (fun _ => Nat.le_refl _) i
        rw [← hs] at e1
        have e3 : (bucI i).length ≤ 1 * i := e2
        show s.2.length + 1 ≤ 1000
        simp only [List.length_nil] at e1
        omega
      obtain ⟨rfl, N2, vO, vP, vl, hT1, hul1, hN2, G3⟩ := k
      refine ⟨N2, _, G3, ?_⟩
      repeat (first
          | refine JO.step (AO1.mv rfl) rfl ?_
          | refine JO.step (AO1.ncP rfl) rfl ?_
          | refine JO.step (AO1.fa rfl) rfl ?_
          | refine JO.nil ?_
          | refine JC.seq ?_
          | refine JC.reg ?_
          | refine JC.skip ?_
          | refine JC.blk ?_)
      refine JO.step (AO1.bn (v := .i .i64 (.ofNat (1 + (i + 1)))) rfl rfl (addN (a := 1 + i) (b := 1) (by omega))) rfl ?_
      repeat (first
          | refine JO.step (AO1.mv rfl) rfl ?_
          | refine JO.step (AO1.ncP rfl) rfl ?_
          | refine JO.step (AO1.fa rfl) rfl ?_
          | refine JO.nil ?_
          | refine JC.seq ?_
          | refine JC.reg ?_
          | refine JC.skip ?_
          | refine JC.blk ?_)
      refine ⟨(i + 1, _, vO, vP, vl, N2), ⟨by show i + 1 ≤ 126; omega, by show S.nxt ≤ N2; omega, hT1, hul1, ?_, .inr (by show ((i + 1 : Nat) : Int) ≤ _; omega)⟩, by show 127 - (i + 1) < 127 - i; omega, ⟨rfl, rfl, rfl, rfl, rfl, rfl, rfl, rfl, rfl, rfl, rfl, trivial⟩, rfl, HSub.refl _ _⟩
      show mayF p.ws 6 s [1 + i] = _
      rw [may_run, hs]
      exact (runI_app ..).symm
    · have hgt : ¬ (Int.ofNat (1 + i) ≤ p.ws.headD 0) := of_decide_eq_false hgt
      refine JC.ex ?_
      refine ⟨rfl, (s, uO, uP, ul, N1), ⟨hT, hul, ?_⟩, ⟨rfl, rfl, rfl, rfl, trivial⟩, rfl, HSub.refl _ _⟩
      show fin s = _
      rw [hC, if_pos ⟨h1, h2, h3⟩, nz 1 i _ hin hgt h1 rfl, hs]
end L32
end Go.Ev
namespace Go.Ev
open Go Go.Proofs
namespace L32
set_option maxRecDepth 100000
theorem br4 {p : P36} {S : St} (O : O36 p S) {N : Nat} (hN : S.nxt ≤ N) (h8 : 8 ≤ p.ws.length) : JC PP S none (.seq (.reg [⟨(some 84), .ld1 (.t 12), none⟩, ⟨(some 85), .bs [(.i .i64 0)] 1 1 [(0, 1, (.c (.i .i64 1)))], none⟩, ⟨(some 86), .call (.t 84) [(.c (.i .i64 5)), (.t 85)], none⟩]) (.seq (.reg [⟨(some 17), .mv (.c (.i .i64 0)), none⟩]) (.blk 3 (.loop (.seq (.seq (.reg [⟨(some 87), .mv (.t 14), none⟩, ⟨(some 88), .ld1 (.t 3), none⟩, ⟨(some 89), .iaS 1 (.t 88) (.c (.i .i64 3)), none⟩, ⟨(some 90), .ld1 (.t 89), none⟩, ⟨(some 91), .call (.t 87) [(.t 90), (.c (.i .i64 0)), (.c (.i .i64 4)), (.c (.i .i64 8))], none⟩, ⟨(some 92), .mv (.t 91), none⟩, ⟨(some 93), .mv (.t 17), (some (92, true))⟩, ⟨(some 94), .ld1 (.t 3), (some (92, true))⟩, ⟨(some 95), .iaS 1 (.t 94) (.c (.i .i64 3)), (some (92, true))⟩, ⟨(some 96), .ld1 (.t 95), (some (92, true))⟩, ⟨(some 97), .bn .lss (.t 93) (.t 96), (some (92, true))⟩, ⟨(some 98), .pk (.t 92) (.t 97) (.c (.b false)), none⟩]) (.cnd (.t 98) .skip (.ex 3))) (.seq (.blk 4 (.reg [⟨(some 101), .mv (.t 13), none⟩, ⟨(some 102), .mv (.t 17), none⟩, ⟨(some 103), .bn .add (.c (.i .i64 4)) (.t 102), none⟩, ⟨(some 104), .bs [(.i .i64 0)] 1 1 [(0, 1, (.t 103))], none⟩, ⟨(some 105), .call (.t 101) [(.c (.i .i64 8)), (.t 104)], none⟩])) (.reg [⟨(some 99), .mv (.t 17), none⟩, ⟨(some 100), .bn .add (.t 99) (.c (.i .i64 1)), none⟩, ⟨(some 17), .mv (.t 100), none⟩]))))))) (L36 4 p) N (F36 p (false, []) .sn .sn) (E36 4 p S) := by
  repeat (first
      | refine JO.step (AO1.mv rfl) rfl ?_
      | refine JO.step (AO1.ncP rfl) rfl ?_
      | refine JO.step (AO1.fa rfl) rfl ?_
      | refine JO.nil ?_
      | refine JC.seq ?_
      | refine JC.reg ?_
      | refine JC.skip ?_
      | refine JC.blk ?_)
  refine JO.step (AO1.ld1 6 rfl rfl rfl) rfl ?_
  refine JO.step (AO1.bs rfl rfl rfl) rfl ?_
  refine JO.call (fun _ _ => rfl) rfl rfl rfl (fun S1 G1 => must36 (p := p) (s := (false, [])) (vO := .sn) (vP := .sn) (tl := []) (is := [1]) O 5 .nil (fun _ h => by cases h) (by omega) ?_ ?_ G1) (fun S1 G1 y S2 k => ?_) rfl
  · intro i hi; rw [List.mem_singleton] at hi; subst hi; omega
  · exact (by decide : 1 ≤ 1000)
  obtain ⟨rfl, N1, uO, uP, ul, hT1, hul1, hN1, G2⟩ := k
  refine ⟨N1, _, G2, ?_⟩
  repeat (first
      | refine JO.step (AO1.mv rfl) rfl ?_
      | refine JO.step (AO1.ncP rfl) rfl ?_
      | refine JO.step (AO1.fa rfl) rfl ?_
      | refine JO.nil ?_
      | refine JC.seq ?_
      | refine JC.reg ?_
      | refine JC.skip ?_
      | refine JC.blk ?_)
  rw [must_run] at hT1 ⊢
  have hl0 : (runI p.ws (false, []) [(5, 1, false)]).2.length ≤ 1 := runI_len p.ws [(5, 1, false)] (false, [])
  change Tl (runI p.ws (false, []) [(5, 1, false)]).2 _ _ _ at hT1
  refine JC.loop (fun a : Nat × LS × AV × AV × Hp × Nat => (17, .i .i64 (.ofNat a.1)) :: L36 4 p) (fun a => a.2.2.2.2.2) (fun a => F36 p a.2.1 a.2.2.1 a.2.2.2.1 ++ a.2.2.2.2.1) (fun a => 5 - a.1)
    (fun a => a.1 ≤ 4 ∧ S.nxt ≤ a.2.2.2.2.2 ∧ Tl a.2.1.2 a.2.2.1 a.2.2.2.1 a.2.2.2.2.1 ∧ (∀ q ∈ a.2.2.2.2.1, S.nxt ≤ q.1) ∧ a.2.1 = runI p.ws (runI p.ws (false, []) [(5, 1, false)]) (tabI a.1) ∧ (a.1 = 0 ∨ (a.1 : Int) ≤ p.ws.getD 3 0))
    (0, runI p.ws (false, []) [(5, 1, false)], uO, uP, ul, N1) ⟨Nat.zero_le _, by show S.nxt ≤ N1; omega, hT1, hul1, rfl, .inl rfl⟩ ⟨rfl, rfl, rfl, rfl, rfl, rfl, rfl, rfl, rfl, rfl, rfl, trivial⟩ rfl (HSub.refl _ _) ?_
  clear hT1 hul1 G2 hN1
  rintro ⟨i, s, uO, uP, ul, N⟩ ⟨hi, hN, hT, hul, hs, hin⟩
  simp only at hi hN hT hul hs hin ⊢
  repeat (first
      | refine JO.step (AO1.mv rfl) rfl ?_
      | refine JO.step (AO1.ncP rfl) rfl ?_
      | refine JO.step (AO1.fa rfl) rfl ?_
      | refine JO.nil ?_
      | refine JC.seq ?_
      | refine JC.reg ?_
      | refine JC.skip ?_
      | refine JC.blk ?_)
  refine JO.step (AO1.ld1 2 rfl rfl rfl) rfl ?_
  refine JO.step (AO1.iaS (i := 3) rfl rfl (ble_of (by omega))) rfl ?_
  refine JO.step (AO1.ld1X 0 rfl rfl (O.R.ble (i := 3) (by omega)) (O.R.get (i := 3) (by omega))) rfl ?_
  refine JO.call (fun _ _ => rfl) rfl rfl rfl (fun S1 G1 => within36 (p := p) (s := s) (vO := uO) (vP := uP) (tl := ul) (p.ws.getD 3 0) 0 4 8 G1) (fun S1 G1 y S2 k => ?_) rfl
  obtain ⟨rfl, N1, hN1, G2⟩ := k
  refine ⟨N1, _, G2, ?_⟩
  repeat (first
      | refine JO.step (AO1.mv rfl) rfl ?_
      | refine JO.step (AO1.ncP rfl) rfl ?_
      | refine JO.step (AO1.fa rfl) rfl ?_
      | refine JO.nil ?_
      | refine JC.seq ?_
      | refine JC.reg ?_
      | refine JC.skip ?_
      | refine JC.blk ?_)
  have hC : linksC 4 p.ws = if 0 ≤ p.ws.getD 3 0 ∧ p.ws.getD 3 0 ≤ 4 then runI p.ws (false, []) ((5, 1, false) :: tabI (p.ws.getD 3 0).toNat) else (true, []) := by
    unfold linksC
    rw [if_neg (by decide), if_neg (by decide), if_pos rfl]
  cases hw : withinB s.1 p.ws (p.ws.getD 3 0) 0 4 8 with
  | true =>
    refine JO.skip rfl rfl rfl ?_
    refine JO.skip rfl rfl rfl ?_
    refine JO.skip rfl rfl rfl ?_
    refine JO.skip rfl rfl rfl ?_
    refine JO.skip rfl rfl rfl ?_
    refine JO.step (AO1.pkF rfl rfl) rfl ?_
    repeat (first
        | refine JO.step (AO1.mv rfl) rfl ?_
        | refine JO.step (AO1.ncP rfl) rfl ?_
        | refine JO.step (AO1.fa rfl) rfl ?_
        | refine JO.nil ?_
        | refine JC.seq ?_
        | refine JC.reg ?_
        | refine JC.skip ?_
        | refine JC.blk ?_)
    refine JC.cnd rfl (fun h => by cases h) (fun _ => ?_)
    refine JC.ex ?_
    refine ⟨rfl, ((true, s.2), uO, uP, ul, N1), ⟨hT, hul, fin_wrong rfl ?_⟩, ⟨rfl, rfl, rfl, rfl, trivial⟩, rfl, HSub.refl _ _⟩
    rw [hC]
    split
    · rename_i hc
      rcases withinB_true hw with e | e
      · obtain ⟨d, hd⟩ : ∃ d, (p.ws.getD 3 0).toNat = i + d := ⟨(p.ws.getD 3 0).toNat - i, by omega⟩
        rw [hd]
        exact upto_wrong p.ws _ _ i d (by rw [hs] at e; exact e)
      · exfalso; exact e ⟨hc.1, hc.2, by omega⟩
    · rfl
  | false =>
    obtain ⟨h0, h1, h2, h3⟩ := withinB_false hw
    refine JO.stepT rfl rfl (AO1.mv rfl) rfl ?_
    refine JO.stepT rfl rfl (AO1.ld1 2 rfl rfl rfl) rfl ?_
    refine JO.stepT rfl rfl (AO1.iaS (i := 3) rfl rfl (ble_of (by omega))) rfl ?_
    refine JO.stepT rfl rfl (AO1.ld1X 0 rfl rfl (O.R.ble (i := 3) (by omega)) (O.R.get (i := 3) (by omega))) rfl ?_
    refine JO.stepT rfl rfl (AO1.bn rfl rfl (bin_lss _ _)) rfl ?_
    refine JO.step (AO1.pkT rfl rfl) rfl ?_
    repeat (first
        | refine JO.step (AO1.mv rfl) rfl ?_
        | refine JO.step (AO1.ncP rfl) rfl ?_
        | refine JO.step (AO1.fa rfl) rfl ?_
        | refine JO.nil ?_
        | refine JC.seq ?_
        | refine JC.reg ?_
        | refine JC.skip ?_
        | refine JC.blk ?_)
    have hsw : (false, s.2) = s := by rw [← h0]
    rw [hsw]
    refine JC.cnd rfl (fun hle => ?_) (fun hgt => ?_)
    · have hle : (i : Int) < p.ws.getD 3 0 := of_decide_eq_true hle
      repeat (first
          | refine JO.step (AO1.mv rfl) rfl ?_
          | refine JO.step (AO1.ncP rfl) rfl ?_
          | refine JO.step (AO1.fa rfl) rfl ?_
          | refine JO.nil ?_
          | refine JC.seq ?_
          | refine JC.reg ?_
          | refine JC.skip ?_
          | refine JC.blk ?_)
      refine JO.step (AO1.bn (v := .i .i64 (.ofNat (4 + i))) rfl rfl (addN (a := 4) (b := i) (by omega))) rfl ?_
      refine JO.step (AO1.bs rfl rfl rfl) rfl ?_
      refine JO.call (fun _ _ => rfl) rfl rfl rfl (fun S1 G1 => may36 (p := p) (s := s) (vO := uO) (vP := uP) (tl := ul) (is := [4 + i]) O 8 hT hul (by omega) ?_ ?_ G1) (fun S1 G1 y S2 k => ?_) rfl
      · intro j hj; rw [List.mem_singleton] at hj; subst hj; omega
      · have e1 := runI_len p.ws (tabI i) (runI p.ws (false, []) [(5, 1, false)])
        have e3 : (tabI i).length ≤ 1 * i := upto_len (fun i => [(8, 4 + i, true)]) 1 (fun _ => Nat.le_refl _) i
        rw [← hs] at e1
        show s.2.length + 1 ≤ 1000
        omega
      obtain ⟨rfl, N2, vO, vP, vl, hT1, hul1, hN2, G3⟩ := k
      refine ⟨N2, _, G3, ?_⟩
      repeat (first
          | refine JO.step (AO1.mv rfl) rfl ?_
          | refine JO.step (AO1.ncP rfl) rfl ?_
          | refine JO.step (AO1.fa rfl) rfl ?_
          | refine JO.nil ?_
          | refine JC.seq ?_
          | refine JC.reg ?_
          | refine JC.skip ?_
          | refine JC.blk ?_)
      refine JO.step (AO1.bn (v := .i .i64 (.ofNat (i + 1))) rfl rfl (addN (a := i) (b := 1) (by omega))) rfl ?_
      repeat (first
          | refine JO.step (AO1.mv rfl) rfl ?_
          | refine JO.step (AO1.ncP rfl) rfl ?_
          | refine JO.step (AO1.fa rfl) rfl ?_
          | refine JO.nil ?_
          | refine JC.seq ?_
          | refine JC.reg ?_
          | refine JC.skip ?_
          | refine JC.blk ?_)
      refine ⟨(i + 1, _, vO, vP, vl, N2), ⟨by show i + 1 ≤ 4; omega, by show S.nxt ≤ N2; omega, hT1, hul1, ?_, .inr (by show ((i + 1 : Nat) : Int) ≤ _; omega)⟩, by show 5 - (i + 1) < 5 - i; omega, ⟨rfl, rfl, rfl, rfl, rfl, rfl, rfl, rfl, rfl, rfl, rfl, trivial⟩, rfl, HSub.refl _ _⟩
      show mayF p.ws 8 s [4 + i] = _
      rw [may_run, hs]
      exact (runI_app ..).symm
    · have hgt : ¬ ((i : Int) < p.ws.getD 3 0) := of_decide_eq_false hgt
      refine JC.ex ?_
      refine ⟨rfl, (s, uO, uP, ul, N1), ⟨hT, hul, ?_⟩, ⟨rfl, rfl, rfl, rfl, trivial⟩, rfl, HSub.refl _ _⟩
      show fin s = _
      rw [hC, if_pos ⟨h1, h2⟩, show (p.ws.getD 3 0).toNat = i from by omega, hs]
      rfl
theorem br6 {p : P36} {S : St} (O : O36 p S) {N : Nat} (hN : S.nxt ≤ N) (h7 : 7 ≤ p.ws.length) : JC PP S none (.seq (.reg [⟨(some 126), .mv (.t 13), none⟩, ⟨(some 127), .bs [(.i .i64 0)] 1 1 [(0, 1, (.c (.i .i64 0)))], none⟩, ⟨(some 128), .call (.t 126) [(.c (.i .i64 6)), (.t 127)], none⟩]) (.seq (.reg [⟨(some 19), .mv (.c (.i .i64 1)), none⟩]) (.blk 7 (.loop (.seq (.seq (.reg [⟨(some 129), .mv (.t 19), none⟩, ⟨(some 130), .bn .lss (.t 129) (.c (.i .i64 7)), none⟩]) (.cnd (.t 130) .skip (.ex 7))) (.seq (.blk 8 (.seq (.reg [⟨(some 133), .ld1 (.t 3), none⟩, ⟨(some 134), .mv (.t 19), none⟩, ⟨(some 135), .iaS 1 (.t 133) (.t 134), none⟩, ⟨(some 136), .ld1 (.t 135), none⟩, ⟨(some 137), .eq true 1 (.t 136) (.c (.i .i64 0)), none⟩]) (.cnd (.t 137) (.reg [⟨(some 138), .ld1 (.t 12), none⟩, ⟨(some 139), .mv (.t 19), none⟩, ⟨(some 140), .bn .add (.t 139) (.c (.i .i64 1)), none⟩, ⟨(some 141), .bs [(.i .i64 0)] 1 1 [(0, 1, (.t 140))], none⟩, ⟨(some 142), .call (.t 138) [(.c (.i .i64 7)), (.t 141)], none⟩]) .skip))) (.reg [⟨(some 131), .mv (.t 19), none⟩, ⟨(some 132), .bn .add (.t 131) (.c (.i .i64 2)), none⟩, ⟨(some 19), .mv (.t 132), none⟩]))))))) (L36 6 p) N (F36 p (false, []) .sn .sn) (E36 6 p S) := by
  repeat (first
      | refine JO.step (AO1.mv rfl) rfl ?_
      | refine JO.step (AO1.ncP rfl) rfl ?_
      | refine JO.step (AO1.fa rfl) rfl ?_
      | refine JO.nil ?_
      | refine JC.seq ?_
      | refine JC.reg ?_
      | refine JC.skip ?_
      | refine JC.blk ?_)
  refine JO.step (AO1.bs rfl rfl rfl) rfl ?_
  refine JO.call (fun _ _ => rfl) rfl rfl rfl (fun S1 G1 => may36 (p := p) (s := (false, [])) (vO := .sn) (vP := .sn) (tl := []) (is := [0]) O 6 .nil (fun _ h => by cases h) (by omega) ?_ ?_ G1) (fun S1 G1 y S2 k => ?_) rfl
  · intro i hi; rw [List.mem_singleton] at hi; subst hi; omega
  · exact (by decide : 1 ≤ 1000)
  obtain ⟨rfl, N1, uO, uP, ul, hT1, hul1, hN1, G2⟩ := k
  refine ⟨N1, _, G2, ?_⟩
  repeat (first
      | refine JO.step (AO1.mv rfl) rfl ?_
      | refine JO.step (AO1.ncP rfl) rfl ?_
      | refine JO.step (AO1.fa rfl) rfl ?_
      | refine JO.nil ?_
      | refine JC.seq ?_
      | refine JC.reg ?_
      | refine JC.skip ?_
      | refine JC.blk ?_)
  rw [may_run] at hT1 ⊢
  have hl0 : (runI p.ws (false, []) [(6, 0, true)]).2.length ≤ 1 := runI_len p.ws [(6, 0, true)] (false, [])
  change Tl (runI p.ws (false, []) [(6, 0, true)]).2 _ _ _ at hT1
  refine JC.loop (fun a : Nat × LS × AV × AV × Hp × Nat => (19, .i .i64 (.ofNat (1 + 2 * a.1))) :: L36 6 p) (fun a => a.2.2.2.2.2) (fun a => F36 p a.2.1 a.2.2.1 a.2.2.2.1 ++ a.2.2.2.2.1) (fun a => 4 - a.1)
    (fun a => a.1 ≤ 3 ∧ S.nxt ≤ a.2.2.2.2.2 ∧ Tl a.2.1.2 a.2.2.1 a.2.2.2.1 a.2.2.2.2.1 ∧ (∀ q ∈ a.2.2.2.2.1, S.nxt ≤ q.1) ∧ a.2.1 = runI p.ws (runI p.ws (false, []) [(6, 0, true)]) (nodI p.ws a.1) ∧ a.2.1.2.length ≤ 1 + a.1)
    (0, runI p.ws (false, []) [(6, 0, true)], uO, uP, ul, N1) ⟨Nat.zero_le _, by show S.nxt ≤ N1; omega, hT1, hul1, rfl, hl0⟩ ⟨rfl, rfl, rfl, rfl, rfl, rfl, rfl, rfl, rfl, rfl, rfl, trivial⟩ rfl (HSub.refl _ _) ?_
  clear hT1 hul1 G2 hN1
  rintro ⟨i, s, uO, uP, ul, N⟩ ⟨hi, hN, hT, hul, hs, hin⟩
  simp only at hi hN hT hul hs hin ⊢
  repeat (first
      | refine JO.step (AO1.mv rfl) rfl ?_
      | refine JO.step (AO1.ncP rfl) rfl ?_
      | refine JO.step (AO1.fa rfl) rfl ?_
      | refine JO.nil ?_
      | refine JC.seq ?_
      | refine JC.reg ?_
      | refine JC.skip ?_
      | refine JC.blk ?_)
  refine JO.step (AO1.bn rfl rfl (bin_lss _ _)) rfl ?_
  repeat (first
      | refine JO.step (AO1.mv rfl) rfl ?_
      | refine JO.step (AO1.ncP rfl) rfl ?_
      | refine JO.step (AO1.fa rfl) rfl ?_
      | refine JO.nil ?_
      | refine JC.seq ?_
      | refine JC.reg ?_
      | refine JC.skip ?_
      | refine JC.blk ?_)
  have hC : linksC 6 p.ws = runI p.ws (false, []) ((6, 0, true) :: nodI p.ws 3) := by
    unfold linksC
    rw [if_neg (by decide), if_neg (by decide), if_neg (by decide), if_neg (by decide), if_pos rfl]
  refine JC.cnd rfl (fun hle => ?_) (fun hgt => ?_)
  · have hle : ((1 + 2 * i : Nat) : Int) < 7 := of_decide_eq_true hle
    repeat (first
        | refine JO.step (AO1.mv rfl) rfl ?_
        | refine JO.step (AO1.ncP rfl) rfl ?_
        | refine JO.step (AO1.fa rfl) rfl ?_
        | refine JO.nil ?_
        | refine JC.seq ?_
        | refine JC.reg ?_
        | refine JC.skip ?_
        | refine JC.blk ?_)
    refine JO.step (AO1.ld1 2 rfl rfl rfl) rfl ?_
    repeat (first
        | refine JO.step (AO1.mv rfl) rfl ?_
        | refine JO.step (AO1.ncP rfl) rfl ?_
        | refine JO.step (AO1.fa rfl) rfl ?_
        | refine JO.nil ?_
        | refine JC.seq ?_
        | refine JC.reg ?_
        | refine JC.skip ?_
        | refine JC.blk ?_)
    refine JO.step (AO1.iaS rfl rfl (ble_of (by show 1 + 2 * i + 1 ≤ _; omega))) rfl ?_
    refine JO.step (AO1.ld1X 0 rfl rfl (O.R.ble (i := 1 + 2 * i) (by omega)) (O.R.get (i := 1 + 2 * i) (by omega))) rfl ?_
    refine JO.step (AO1.eq rfl rfl (eq_int _ _)) rfl ?_
    repeat (first
        | refine JO.step (AO1.mv rfl) rfl ?_
        | refine JO.step (AO1.ncP rfl) rfl ?_
        | refine JO.step (AO1.fa rfl) rfl ?_
        | refine JO.nil ?_
        | refine JC.seq ?_
        | refine JC.reg ?_
        | refine JC.skip ?_
        | refine JC.blk ?_)
    refine JC.cnd rfl (fun h0 => ?_) (fun h0 => ?_)
    · have h0 : p.ws.getD (1 + 2 * i) 0 ≠ 0 := by
        have h0 : (!decide (p.ws.getD (1 + 2 * i) 0 = 0)) = true := h0
        simpa using h0
      repeat (first
          | refine JO.step (AO1.mv rfl) rfl ?_
          | refine JO.step (AO1.ncP rfl) rfl ?_
          | refine JO.step (AO1.fa rfl) rfl ?_
          | refine JO.nil ?_
          | refine JC.seq ?_
          | refine JC.reg ?_
          | refine JC.skip ?_
          | refine JC.blk ?_)
      refine JO.step (AO1.ld1 6 rfl rfl rfl) rfl ?_
      repeat (first
          | refine JO.step (AO1.mv rfl) rfl ?_
          | refine JO.step (AO1.ncP rfl) rfl ?_
          | refine JO.step (AO1.fa rfl) rfl ?_
          | refine JO.nil ?_
          | refine JC.seq ?_
          | refine JC.reg ?_
          | refine JC.skip ?_
          | refine JC.blk ?_)
      refine JO.step (AO1.bn (v := .i .i64 (.ofNat (2 + 2 * i))) rfl rfl (by rw [show 2 + 2 * i = (1 + 2 * i) + 1 from by omega]; exact addN (a := 1 + 2 * i) (b := 1) (by omega))) rfl ?_
      refine JO.step (AO1.bs rfl rfl rfl) rfl ?_
      refine JO.call (fun _ _ => rfl) rfl rfl rfl (fun S1 G1 => must36 (p := p) (s := s) (vO := uO) (vP := uP) (tl := ul) (is := [2 + 2 * i]) O 7 hT hul (by omega) ?_ ?_ G1) (fun S1 G1 y S2 k => ?_) rfl
      · intro j hj; rw [List.mem_singleton] at hj; subst hj; omega
      · show s.2.length + 1 ≤ 1000
        omega
      obtain ⟨rfl, N2, vO, vP, vl, hT1, hul1, hN2, G3⟩ := k
      refine ⟨N2, _, G3, ?_⟩
      repeat (first
          | refine JO.step (AO1.mv rfl) rfl ?_
          | refine JO.step (AO1.ncP rfl) rfl ?_
          | refine JO.step (AO1.fa rfl) rfl ?_
          | refine JO.nil ?_
          | refine JC.seq ?_
          | refine JC.reg ?_
          | refine JC.skip ?_
          | refine JC.blk ?_)
      refine JO.step (AO1.bn (v := .i .i64 (.ofNat (1 + 2 * (i + 1)))) rfl rfl (by rw [show 1 + 2 * (i + 1) = (1 + 2 * i) + 2 from by omega]; exact addN (a := 1 + 2 * i) (b := 2) (by omega))) rfl ?_
      repeat (first
          | refine JO.step (AO1.mv rfl) rfl ?_
          | refine JO.step (AO1.ncP rfl) rfl ?_
          | refine JO.step (AO1.fa rfl) rfl ?_
          | refine JO.nil ?_
          | refine JC.seq ?_
          | refine JC.reg ?_
          | refine JC.skip ?_
          | refine JC.blk ?_)
      refine ⟨(i + 1, _, vO, vP, vl, N2), ⟨by show i + 1 ≤ 3; omega, by show S.nxt ≤ N2; omega, hT1, hul1, ?_, ?_⟩, by show 4 - (i + 1) < 4 - i; omega, ⟨rfl, rfl, rfl, rfl, rfl, rfl, rfl, rfl, rfl, rfl, rfl, trivial⟩, rfl, HSub.refl _ _⟩
      · show mustF p.ws 7 s [2 + 2 * i] = runI p.ws _ (nodI p.ws i ++ (if p.ws.getD (1 + 2 * i) 0 = 0 then [] else [(7, 2 + 2 * i, false)]))
        rw [must_run, hs, if_neg h0]
        exact (runI_app ..).symm
      · show (mustF p.ws 7 s [2 + 2 * i]).2.length ≤ 1 + (i + 1)
        rw [mustF_len]; show s.2.length + 1 ≤ 1 + (i + 1); omega
    · have h0 : p.ws.getD (1 + 2 * i) 0 = 0 := by
        have h0 : (!decide (p.ws.getD (1 + 2 * i) 0 = 0)) = false := h0
        simpa using h0
      repeat (first
          | refine JO.step (AO1.mv rfl) rfl ?_
          | refine JO.step (AO1.ncP rfl) rfl ?_
          | refine JO.step (AO1.fa rfl) rfl ?_
          | refine JO.nil ?_
          | refine JC.seq ?_
          | refine JC.reg ?_
          | refine JC.skip ?_
          | refine JC.blk ?_)
      refine JO.step (AO1.bn (v := .i .i64 (.ofNat (1 + 2 * (i + 1)))) rfl rfl (by rw [show 1 + 2 * (i + 1) = (1 + 2 * i) + 2 from by omega]; exact addN (a := 1 + 2 * i) (b := 2) (by omega))) rfl ?_
      repeat (first
          | refine JO.step (AO1.mv rfl) rfl ?_
          | refine JO.step (AO1.ncP rfl) rfl ?_
          | refine JO.step (AO1.fa rfl) rfl ?_
          | refine JO.nil ?_
          | refine JC.seq ?_
          | refine JC.reg ?_
          | refine JC.skip ?_
          | refine JC.blk ?_)
      refine ⟨(i + 1, s, uO, uP, ul, N), ⟨by show i + 1 ≤ 3; omega, hN, hT, hul, ?_, by show s.2.length ≤ 1 + (i + 1); omega⟩, by show 4 - (i + 1) < 4 - i; omega, ⟨rfl, rfl, rfl, rfl, rfl, rfl, rfl, rfl, rfl, rfl, rfl, trivial⟩, rfl, HSub.refl _ _⟩
      show s = runI p.ws _ (nodI p.ws i ++ (if p.ws.getD (1 + 2 * i) 0 = 0 then [] else [(7, 2 + 2 * i, false)]))
      rw [if_pos h0, List.append_nil]; exact hs
  · have hgt : ¬ (((1 + 2 * i : Nat) : Int) < 7) := of_decide_eq_false hgt
    refine JC.ex ?_
    refine ⟨rfl, (s, uO, uP, ul, N), ⟨hT, hul, ?_⟩, ⟨rfl, rfl, rfl, rfl, trivial⟩, rfl, HSub.refl _ _⟩
    show fin s = _
    rw [hC, hs, show i = 3 from by omega]
    rfl
theorem br2 {p : P36} {S : St} (O : O36 p S) {N : Nat} (hN : S.nxt ≤ N) (h35 : 35 ≤ p.ws.length) : JC PP S none (.seq (.reg [⟨(some 51), .mv (.t 15), none⟩, ⟨(some 52), .eq true 1 (.t 51) (.c (.i .i64 2)), none⟩, ⟨none, .st 1 (.t 11) (.t 52), none⟩]) (.seq (.reg [⟨(some 16), .mv (.c (.i .i64 0)), none⟩]) (.blk 1 (.loop (.seq (.seq (.reg [⟨(some 53), .mv (.t 14), none⟩, ⟨(some 54), .ld1 (.t 3), none⟩, ⟨(some 55), .iaS 1 (.t 54) (.c (.i .i64 1)), none⟩, ⟨(some 56), .ld1 (.t 55), none⟩, ⟨(some 57), .call (.t 53) [(.t 56), (.c (.i .i64 0)), (.c (.i .i64 8)), (.c (.i .i64 35))], none⟩, ⟨(some 58), .mv (.t 57), none⟩, ⟨(some 59), .mv (.t 16), (some (58, true))⟩, ⟨(some 60), .ld1 (.t 3), (some (58, true))⟩, ⟨(some 61), .iaS 1 (.t 60) (.c (.i .i64 1)), (some (58, true))⟩, ⟨(some 62), .ld1 (.t 61), (some (58, true))⟩, ⟨(some 63), .bn .lss (.t 59) (.t 62), (some (58, true))⟩, ⟨(some 64), .pk (.t 58) (.t 63) (.c (.b false)), none⟩]) (.cnd (.t 64) .skip (.ex 1))) (.seq (.blk 2 (.seq (.reg [⟨(some 67), .ld1 (.t 12), none⟩, ⟨(some 68), .mv (.t 16), none⟩, ⟨(some 69), .bn .mul (.c (.i .i64 4)) (.t 68), none⟩, ⟨(some 70), .bn .add (.c (.i .i64 3)) (.t 69), none⟩, ⟨(some 71), .mv (.t 16), none⟩, ⟨(some 72), .bn .mul (.c (.i .i64 4)) (.t 71), none⟩, ⟨(some 73), .bn .add (.c (.i .i64 4)) (.t 72), none⟩, ⟨(some 74), .bs [(.i .i64 0)] 2 1 [(0, 1, (.t 70)), (1, 1, (.t 73))], none⟩, ⟨(some 75), .call (.t 67) [(.c (.i .i64 3)), (.t 74)], none⟩]) (.reg [⟨(some 76), .ld1 (.t 12), none⟩, ⟨(some 77), .mv (.t 16), none⟩, ⟨(some 78), .bn .mul (.c (.i .i64 4)) (.t 77), none⟩, ⟨(some 79), .bn .add (.c (.i .i64 6)) (.t 78), none⟩, ⟨(some 80), .bs [(.i .i64 0)] 1 1 [(0, 1, (.t 79))], none⟩, ⟨(some 81), .call (.t 76) [(.c (.i .i64 4)), (.t 80)], none⟩]))) (.reg [⟨(some 65), .mv (.t 16), none⟩, ⟨(some 66), .bn .add (.t 65) (.c (.i .i64 1)), none⟩, ⟨(some 16), .mv (.t 66), none⟩]))))))) (L36 2 p) N (F36 p (false, []) .sn .sn) (E36 2 p S) := by
  repeat (first
      | refine JO.step (AO1.mv rfl) rfl ?_
      | refine JO.step (AO1.ncP rfl) rfl ?_
      | refine JO.step (AO1.fa rfl) rfl ?_
      | refine JO.nil ?_
      | refine JC.seq ?_
      | refine JC.reg ?_
      | refine JC.skip ?_
      | refine JC.blk ?_)
  refine JO.step (AO1.eq rfl rfl (eq_int _ _)) rfl ?_
  refine JO.step0 (AO1.st 5 rfl rfl rfl rfl rfl rfl rfl) ?_
  repeat (first
      | refine JO.step (AO1.mv rfl) rfl ?_
      | refine JO.step (AO1.ncP rfl) rfl ?_
      | refine JO.step (AO1.fa rfl) rfl ?_
      | refine JO.nil ?_
      | refine JC.seq ?_
      | refine JC.reg ?_
      | refine JC.skip ?_
      | refine JC.blk ?_)
  refine JC.loop (fun a : Nat × LS × AV × AV × Hp × Nat => (16, .i .i64 (.ofNat a.1)) :: L36 2 p) (fun a => a.2.2.2.2.2) (fun a => F36 p a.2.1 a.2.2.1 a.2.2.2.1 ++ a.2.2.2.2.1) (fun a => 9 - a.1)
    (fun a => a.1 ≤ 8 ∧ S.nxt ≤ a.2.2.2.2.2 ∧ Tl a.2.1.2 a.2.2.1 a.2.2.2.1 a.2.2.2.2.1 ∧ (∀ q ∈ a.2.2.2.2.1, S.nxt ≤ q.1) ∧ a.2.1 = runI p.ws (!decide (p.ws.headD 0 = 2), []) (dirI a.1) ∧ ((a.1 = 0 ∨ (a.1 : Int) ≤ p.ws.getD 1 0) ∧ a.2.1.2.length ≤ 3 * a.1))
    (0, (!decide (p.ws.headD 0 = 2), []), .sn, .sn, [], N) ⟨Nat.zero_le _, hN, .nil, fun _ h => (by cases h), rfl, .inl rfl, Nat.le_refl _⟩ ⟨rfl, rfl, rfl, rfl, rfl, rfl, rfl, rfl, rfl, rfl, rfl, trivial⟩ rfl (HSub.refl _ _) ?_
  rintro ⟨i, s, uO, uP, ul, N⟩ ⟨hi, hN, hT, hul, hs, hin, hlen⟩
  simp only at hi hN hT hul hs hin hlen ⊢
  repeat (first
      | refine JO.step (AO1.mv rfl) rfl ?_
      | refine JO.step (AO1.ncP rfl) rfl ?_
      | refine JO.step (AO1.fa rfl) rfl ?_
      | refine JO.nil ?_
      | refine JC.seq ?_
      | refine JC.reg ?_
      | refine JC.skip ?_
      | refine JC.blk ?_)
  refine JO.step (AO1.ld1 2 rfl rfl rfl) rfl ?_
  refine JO.step (AO1.iaS (i := 1) rfl rfl (ble_of (by omega))) rfl ?_
  refine JO.step (AO1.ld1X 0 rfl rfl (O.R.ble (i := 1) (by omega)) (O.R.get (i := 1) (by omega))) rfl ?_
  refine JO.call (fun _ _ => rfl) rfl rfl rfl (fun S1 G1 => within36 (p := p) (s := s) (vO := uO) (vP := uP) (tl := ul) (p.ws.getD 1 0) 0 8 35 G1) (fun S1 G1 y S2 k => ?_) rfl
  obtain ⟨rfl, N1, hN1, G2⟩ := k
  refine ⟨N1, _, G2, ?_⟩
  repeat (first
      | refine JO.step (AO1.mv rfl) rfl ?_
      | refine JO.step (AO1.ncP rfl) rfl ?_
      | refine JO.step (AO1.fa rfl) rfl ?_
      | refine JO.nil ?_
      | refine JC.seq ?_
      | refine JC.reg ?_
      | refine JC.skip ?_
      | refine JC.blk ?_)
  have hC : linksC 2 p.ws = if p.ws.headD 0 = 2 ∧ 0 ≤ p.ws.getD 1 0 ∧ p.ws.getD 1 0 ≤ 8 then runI p.ws (false, []) (dirI (p.ws.getD 1 0).toNat) else (true, []) := by
    unfold linksC
    rw [if_neg (by decide), if_pos rfl, head_getD]
  cases hw : withinB s.1 p.ws (p.ws.getD 1 0) 0 8 35 with
  | true =>
    refine JO.skip rfl rfl rfl ?_
    refine JO.skip rfl rfl rfl ?_
    refine JO.skip rfl rfl rfl ?_
    refine JO.skip rfl rfl rfl ?_
    refine JO.skip rfl rfl rfl ?_
    refine JO.step (AO1.pkF rfl rfl) rfl ?_
    repeat (first
        | refine JO.step (AO1.mv rfl) rfl ?_
        | refine JO.step (AO1.ncP rfl) rfl ?_
        | refine JO.step (AO1.fa rfl) rfl ?_
        | refine JO.nil ?_
        | refine JC.seq ?_
        | refine JC.reg ?_
        | refine JC.skip ?_
        | refine JC.blk ?_)
    refine JC.cnd rfl (fun h => by cases h) (fun _ => ?_)
    refine JC.ex ?_
    refine ⟨rfl, ((true, s.2), uO, uP, ul, N1), ⟨hT, hul, fin_wrong rfl ?_⟩, ⟨rfl, rfl, rfl, rfl, trivial⟩, rfl, HSub.refl _ _⟩
    rw [hC]
    split
    · rename_i hc
      rcases withinB_true hw with e | e
      · obtain ⟨d, hd⟩ : ∃ d, (p.ws.getD 1 0).toNat = i + d := ⟨(p.ws.getD 1 0).toNat - i, by omega⟩
        rw [hd]
        refine upto_wrong p.ws _ _ i d ?_
        rw [hs, decide_eq_true hc.1] at e; exact e
      · exfalso; exact e ⟨hc.2.1, hc.2.2, by omega⟩
    · rfl
  | false =>
    obtain ⟨h0, h1, h2, h3⟩ := withinB_false hw
    have hn2 : p.ws.headD 0 = 2 := by
      refine Classical.byContradiction fun hne => ?_
      rw [hs, decide_eq_false hne] at h0
      rw [runI_wrong _ _ _ rfl] at h0
      cases h0
    refine JO.stepT rfl rfl (AO1.mv rfl) rfl ?_
    refine JO.stepT rfl rfl (AO1.ld1 2 rfl rfl rfl) rfl ?_
    refine JO.stepT rfl rfl (AO1.iaS (i := 1) rfl rfl (ble_of (by omega))) rfl ?_
    refine JO.stepT rfl rfl (AO1.ld1X 0 rfl rfl (O.R.ble (i := 1) (by omega)) (O.R.get (i := 1) (by omega))) rfl ?_
    refine JO.stepT rfl rfl (AO1.bn rfl rfl (bin_lss _ _)) rfl ?_
    refine JO.step (AO1.pkT rfl rfl) rfl ?_
    repeat (first
        | refine JO.step (AO1.mv rfl) rfl ?_
        | refine JO.step (AO1.ncP rfl) rfl ?_
        | refine JO.step (AO1.fa rfl) rfl ?_
        | refine JO.nil ?_
        | refine JC.seq ?_
        | refine JC.reg ?_
        | refine JC.skip ?_
        | refine JC.blk ?_)
    have hsw : (false, s.2) = s := by rw [← h0]
    rw [hsw]
    refine JC.cnd rfl (fun hle => ?_) (fun hgt => ?_)
    · have hle : (i : Int) < p.ws.getD 1 0 := of_decide_eq_true hle
      repeat (first
          | refine JO.step (AO1.mv rfl) rfl ?_
          | refine JO.step (AO1.ncP rfl) rfl ?_
          | refine JO.step (AO1.fa rfl) rfl ?_
          | refine JO.nil ?_
          | refine JC.seq ?_
          | refine JC.reg ?_
          | refine JC.skip ?_
          | refine JC.blk ?_)
      refine JO.step (AO1.ld1 6 rfl rfl rfl) rfl ?_
      repeat (first
          | refine JO.step (AO1.mv rfl) rfl ?_
          | refine JO.step (AO1.ncP rfl) rfl ?_
          | refine JO.step (AO1.fa rfl) rfl ?_
          | refine JO.nil ?_
          | refine JC.seq ?_
          | refine JC.reg ?_
          | refine JC.skip ?_
          | refine JC.blk ?_)
      refine JO.step (AO1.bn (v := .i .i64 (.ofNat (4 * i))) rfl rfl (mulN (a := 4) (b := i) (by omega))) rfl ?_
      refine JO.step (AO1.bn (v := .i .i64 (.ofNat (3 + 4 * i))) rfl rfl (addN (a := 3) (b := 4 * i) (by omega))) rfl ?_
      repeat (first
          | refine JO.step (AO1.mv rfl) rfl ?_
          | refine JO.step (AO1.ncP rfl) rfl ?_
          | refine JO.step (AO1.fa rfl) rfl ?_
          | refine JO.nil ?_
          | refine JC.seq ?_
          | refine JC.reg ?_
          | refine JC.skip ?_
          | refine JC.blk ?_)
      refine JO.step (AO1.bn (v := .i .i64 (.ofNat (4 * i))) rfl rfl (mulN (a := 4) (b := i) (by omega))) rfl ?_
      refine JO.step (AO1.bn (v := .i .i64 (.ofNat (4 + 4 * i))) rfl rfl (addN (a := 4) (b := 4 * i) (by omega))) rfl ?_
      refine JO.step (AO1.bs rfl rfl rfl) rfl ?_
      refine JO.call (fun _ _ => rfl) rfl rfl rfl (fun S1 G1 => must36 (p := p) (s := s) (vO := uO) (vP := uP) (tl := ul) (is := [3 + 4 * i, 4 + 4 * i]) O 3 hT hul (by omega) ?_ ?_ G1) (fun S1 G1 y S2 k => ?_) rfl
      · intro j hj
        simp only [List.mem_cons, List.not_mem_nil, or_false] at hj
        omega
      · show s.2.length + 2 ≤ 1000
        omega
      obtain ⟨rfl, N2, vO, vP, vl, hT1, hul1, hN2, G3⟩ := k
      refine ⟨N2, _, G3, ?_⟩
      repeat (first
          | refine JO.step (AO1.mv rfl) rfl ?_
          | refine JO.step (AO1.ncP rfl) rfl ?_
          | refine JO.step (AO1.fa rfl) rfl ?_
          | refine JO.nil ?_
          | refine JC.seq ?_
          | refine JC.reg ?_
          | refine JC.skip ?_
          | refine JC.blk ?_)
      refine JO.step (AO1.ld1 6 rfl rfl rfl) rfl ?_
      repeat (first
          | refine JO.step (AO1.mv rfl) rfl ?_
          | refine JO.step (AO1.ncP rfl) rfl ?_
          | refine JO.step (AO1.fa rfl) rfl ?_
          | refine JO.nil ?_
          | refine JC.seq ?_
          | refine JC.reg ?_
          | refine JC.skip ?_
          | refine JC.blk ?_)
      refine JO.step (AO1.bn (v := .i .i64 (.ofNat (4 * i))) rfl rfl (mulN (a := 4) (b := i) (by omega))) rfl ?_
      refine JO.step (AO1.bn (v := .i .i64 (.ofNat (6 + 4 * i))) rfl rfl (addN (a := 6) (b := 4 * i) (by omega))) rfl ?_
      refine JO.step (AO1.bs rfl rfl rfl) rfl ?_
      have hl2 : (mustF p.ws 3 s [3 + 4 * i, 4 + 4 * i]).2.length = s.2.length + 2 := mustF_len ..
      refine JO.call (fun _ _ => rfl) rfl rfl rfl (fun S1 G1 => must36 (p := p) (s := mustF p.ws 3 s [3 + 4 * i, 4 + 4 * i]) (vO := vO) (vP := vP) (tl := vl) (is := [6 + 4 * i]) O 4 hT1 hul1 (by omega) ?_ ?_ G1) (fun S1 G1 y S2 k => ?_) rfl
      · intro j hj
        simp only [List.mem_cons, List.not_mem_nil, or_false] at hj
        omega
      · rw [hl2]
        show s.2.length + 2 + 1 ≤ 1000
        omega
      obtain ⟨rfl, N3, xO, xP, xl, hT2, hul2, hN3, G4⟩ := k
      refine ⟨N3, _, G4, ?_⟩
      repeat (first
          | refine JO.step (AO1.mv rfl) rfl ?_
          | refine JO.step (AO1.ncP rfl) rfl ?_
          | refine JO.step (AO1.fa rfl) rfl ?_
          | refine JO.nil ?_
          | refine JC.seq ?_
          | refine JC.reg ?_
          | refine JC.skip ?_
          | refine JC.blk ?_)
      refine JO.step (AO1.bn (v := .i .i64 (.ofNat (i + 1))) rfl rfl (addN (a := i) (b := 1) (by omega))) rfl ?_
      repeat (first
          | refine JO.step (AO1.mv rfl) rfl ?_
          | refine JO.step (AO1.ncP rfl) rfl ?_
          | refine JO.step (AO1.fa rfl) rfl ?_
          | refine JO.nil ?_
          | refine JC.seq ?_
          | refine JC.reg ?_
          | refine JC.skip ?_
          | refine JC.blk ?_)
      refine ⟨(i + 1, _, xO, xP, xl, N3), ⟨by show i + 1 ≤ 8; omega, by show S.nxt ≤ N3; omega, hT2, hul2, ?_, .inr (by show ((i + 1 : Nat) : Int) ≤ _; omega), ?_⟩, by show 9 - (i + 1) < 9 - i; omega, ⟨rfl, rfl, rfl, rfl, rfl, rfl, rfl, rfl, rfl, rfl, rfl, trivial⟩, rfl, HSub.refl _ _⟩
      · show mustF p.ws 4 (mustF p.ws 3 s [3 + 4 * i, 4 + 4 * i]) [6 + 4 * i] = runI p.ws _ (dirI i ++ [(3, 3 + 4 * i, false), (3, 4 + 4 * i, false), (4, 6 + 4 * i, false)])
        rw [must_run, must_run, runI_app, ← hs]
        rfl
      · show (mustF p.ws 4 (mustF p.ws 3 s [3 + 4 * i, 4 + 4 * i]) [6 + 4 * i]).2.length ≤ 3 * (i + 1)
        rw [mustF_len, hl2]
        show s.2.length + 2 + 1 ≤ 3 * (i + 1)
        omega
    · have hgt : ¬ ((i : Int) < p.ws.getD 1 0) := of_decide_eq_false hgt
      refine JC.ex ?_
      refine ⟨rfl, (s, uO, uP, ul, N1), ⟨hT, hul, ?_⟩, ⟨rfl, rfl, rfl, rfl, trivial⟩, rfl, HSub.refl _ _⟩
      show fin s = _
      rw [hC, if_pos ⟨hn2, h1, h2⟩, show (p.ws.getD 1 0).toNat = i from by omega, hs, decide_eq_true hn2]
      rfl
end L32
end Go.Ev
