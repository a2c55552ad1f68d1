/-
  The law over the abstract heap.
-/
import Derived.Test.YtfkbgacmpalafaaGreatDoorEv9
namespace Go.Ev
open Go Go.Proofs
namespace L32
set_option maxRecDepth 100000
theorem directory_c {S : St} {W k m o : Nat} {cp : Option Nat} {t : T AV} {ws : List Int} (R : Rd S W k t m o ws) (h35 : 35 ≤ ws.length) : GCall PP 39 [.sl W o ws.length cp] S (RPost S (refC 2 ws)) := by
  refine (JF (h := [(W, .blk (.row k t m))]) ok39 rfl ?_ (by simp) (Φ := RPostH S (refC 2 ws)) ?_).mono fun y S' k => RPostH.rp k
  · intro x hx
    rw [List.mem_singleton] at hx; subst hx
    exact ⟨R.h, rfl⟩
  intro G
  have hC : refC 2 ws = if ws.getD 0 0 = 2 ∧ 0 ≤ ws.getD 1 0 ∧ ws.getD 1 0 ≤ 8 then runR ws (false, []) (dirI (ws.getD 1 0).toNat) else (true, []) := by
    unfold refC
    rw [if_neg (by decide), if_pos rfl]
  refine JC.seq ?_
  refine JC.reg ?_
  refine JO.step AO1.al rfl ?_
  repeat (first
      | refine JO.step (AO1.mv rfl) rfl ?_
      | refine JO.step (AO1.ncP rfl) rfl ?_
      | refine JO.step (AO1.fa rfl) rfl ?_
      | refine JO.nil ?_
      | refine JC.seq ?_
      | refine JC.reg ?_
      | refine JC.skip ?_
      | refine JC.blk ?_)
  refine JO.step AO1.al rfl ?_
  refine JO.nil ?_
  refine JC.seq ?_
  refine JC.cut [(20, .b (!decide (ws.getD 0 0 = 2) || outB (ws.getD 1 0) 0 8)), (3, .p (S.nxt + 1) 0), (2, .p S.nxt 0), (0, .sl W o ws.length cp), (dslot, .tu [])] (S.nxt + 2) [(W, .blk (.row k t m)), (S.nxt, .row 0 [.sn, .sn, .i .i64 0]), (S.nxt + 1, .row 0 [.sn, .sn, .i .i64 0])] ?_ ?_
  · repeat (first
        | refine JO.step (AO1.mv rfl) rfl ?_
        | refine JO.step (AO1.ncP rfl) rfl ?_
        | refine JO.step (AO1.fa rfl) rfl ?_
        | refine JO.nil ?_
        | refine JC.seq ?_
        | refine JC.reg ?_
        | refine JC.skip ?_
        | refine JC.blk ?_)
    refine JO.step (AO1.iaS (i := 0) rfl rfl (ble_of (by omega))) rfl ?_
    refine JO.step (AO1.ld1X 0 rfl rfl (R.ble (i := 0) (by omega)) (R.get (i := 0) (by omega))) rfl ?_
    refine JO.step (AO1.eq rfl rfl (eq_int _ _)) rfl ?_
    repeat (first
        | refine JO.step (AO1.mv rfl) rfl ?_
        | refine JO.step (AO1.ncP rfl) rfl ?_
        | refine JO.step (AO1.fa rfl) rfl ?_
        | refine JO.nil ?_
        | refine JC.seq ?_
        | refine JC.reg ?_
        | refine JC.skip ?_
        | refine JC.blk ?_)
    unfold outB
    cases decide (ws.getD 0 0 = 2) with
    | false =>
      refine JO.skip rfl rfl rfl ?_
      refine JO.skip rfl rfl rfl ?_
      refine JO.skip rfl rfl rfl ?_
      refine JO.skip rfl rfl rfl ?_
      refine JO.step (AO1.pkT rfl rfl) rfl ?_
      repeat (first
          | refine JO.step (AO1.mv rfl) rfl ?_
          | refine JO.step (AO1.ncP rfl) rfl ?_
          | refine JO.step (AO1.fa rfl) rfl ?_
          | refine JO.nil ?_
          | refine JC.seq ?_
          | refine JC.reg ?_
          | refine JC.skip ?_
          | refine JC.blk ?_)
      refine JO.skip rfl rfl rfl ?_
      refine JO.skip rfl rfl rfl ?_
      refine JO.skip rfl rfl rfl ?_
      refine JO.skip rfl rfl rfl ?_
      refine JO.step (AO1.pkT rfl rfl) rfl ?_
      repeat (first
          | refine JO.step (AO1.mv rfl) rfl ?_
          | refine JO.step (AO1.ncP rfl) rfl ?_
          | refine JO.step (AO1.fa rfl) rfl ?_
          | refine JO.nil ?_
          | refine JC.seq ?_
          | refine JC.reg ?_
          | refine JC.skip ?_
          | refine JC.blk ?_)
      exact ⟨rfl, ⟨rfl, rfl, rfl, rfl, rfl, trivial⟩, rfl, HSub.refl _ _⟩
    | true =>
      refine JO.stepT rfl rfl (AO1.mv rfl) rfl ?_
      refine JO.stepT rfl rfl (AO1.iaS (i := 1) rfl rfl (ble_of (by omega))) rfl ?_
      refine JO.stepT rfl rfl (AO1.ld1X 0 rfl rfl (R.ble (i := 1) (by omega)) (R.get (i := 1) (by omega))) rfl ?_
      refine JO.stepT rfl rfl (AO1.bn rfl rfl (bin_lss _ _)) rfl ?_
      refine JO.step (AO1.pkF rfl rfl) rfl ?_
      repeat (first
          | refine JO.step (AO1.mv rfl) rfl ?_
          | refine JO.step (AO1.ncP rfl) rfl ?_
          | refine JO.step (AO1.fa rfl) rfl ?_
          | refine JO.nil ?_
          | refine JC.seq ?_
          | refine JC.reg ?_
          | refine JC.skip ?_
          | refine JC.blk ?_)
      cases decide (ws.getD 1 0 < 0) with
      | true =>
        refine JO.skip rfl rfl rfl ?_
        refine JO.skip rfl rfl rfl ?_
        refine JO.skip rfl rfl rfl ?_
        refine JO.skip rfl rfl rfl ?_
        refine JO.step (AO1.pkT rfl rfl) rfl ?_
        repeat (first
            | refine JO.step (AO1.mv rfl) rfl ?_
            | refine JO.step (AO1.ncP rfl) rfl ?_
            | refine JO.step (AO1.fa rfl) rfl ?_
            | refine JO.nil ?_
            | refine JC.seq ?_
            | refine JC.reg ?_
            | refine JC.skip ?_
            | refine JC.blk ?_)
        exact ⟨rfl, ⟨rfl, rfl, rfl, rfl, rfl, trivial⟩, rfl, HSub.refl _ _⟩
      | false =>
        refine JO.stepT rfl rfl (AO1.mv rfl) rfl ?_
        refine JO.stepT rfl rfl (AO1.iaS (i := 1) rfl rfl (ble_of (by omega))) rfl ?_
        refine JO.stepT rfl rfl (AO1.ld1X 0 rfl rfl (R.ble (i := 1) (by omega)) (R.get (i := 1) (by omega))) rfl ?_
        refine JO.stepT rfl rfl (AO1.bn rfl rfl (bin_gtr _ _)) rfl ?_
        refine JO.step (AO1.pkF rfl rfl) rfl ?_
        repeat (first
            | refine JO.step (AO1.mv rfl) rfl ?_
            | refine JO.step (AO1.ncP rfl) rfl ?_
            | refine JO.step (AO1.fa rfl) rfl ?_
            | refine JO.nil ?_
            | refine JC.seq ?_
            | refine JC.reg ?_
            | refine JC.skip ?_
            | refine JC.blk ?_)
        exact ⟨rfl, ⟨rfl, rfl, rfl, rfl, rfl, trivial⟩, rfl, HSub.refl _ _⟩
  refine JC.cnd rfl (fun hw => ?_) (fun hw => ?_)
  · repeat (first
        | refine JO.step (AO1.mv rfl) rfl ?_
        | refine JO.step (AO1.ncP rfl) rfl ?_
        | refine JO.step (AO1.fa rfl) rfl ?_
        | refine JO.nil ?_
        | refine JC.seq ?_
        | refine JC.reg ?_
        | refine JC.skip ?_
        | refine JC.blk ?_)
    refine JO.step (AO1.bd rfl rfl) rfl ?_
    refine JO.step0 (AO1.st 1 rfl rfl rfl rfl rfl rfl rfl) ?_
    repeat (first
        | refine JO.step (AO1.mv rfl) rfl ?_
        | refine JO.step (AO1.ncP rfl) rfl ?_
        | refine JO.step (AO1.fa rfl) rfl ?_
        | refine JO.nil ?_
        | refine JC.seq ?_
        | refine JC.reg ?_
        | refine JC.skip ?_
        | refine JC.blk ?_)
    refine JC.ret ?_
    have e : refC 2 ws = (true, []) := by
      rw [hC, if_neg]
      intro ⟨a, b, c⟩
      rw [decide_eq_true a] at hw
      exact outB_true hw ⟨b, c⟩
    exact ⟨_, .cn 1 rfl rfl rfl rfl .nil, rfl, .sn, .sn, [], by rw [e]; rfl, by rw [e]; exact .nil, fun _ h => (by cases h), .same R.h (.drop (Nat.le_refl _) (.drop (Nat.le_succ _) .nil))⟩
  rw [Bool.or_eq_false_iff] at hw
  have h0 : ws.getD 0 0 = 2 := by simpa using hw.1
  have hb := outB_false hw.2
  obtain ⟨j, hj⟩ := Int.eq_ofNat_of_zero_le hb.1
  have e : refC 2 ws = runR ws (false, []) (dirI j) := by rw [hC, if_pos ⟨h0, hb⟩, hj]; rfl
  have hj8 : j ≤ 8 := by have := hb.2; rw [hj] at this; omega
  repeat (first
      | refine JO.step (AO1.mv rfl) rfl ?_
      | refine JO.step (AO1.ncP rfl) rfl ?_
      | refine JO.step (AO1.fa rfl) rfl ?_
      | refine JO.nil ?_
      | refine JC.seq ?_
      | refine JC.reg ?_
      | refine JC.skip ?_
      | refine JC.blk ?_)
  refine JC.loop (fun a : AR => (4, .i .i64 (.ofNat a.1)) :: [(3, .p (S.nxt + 1) 0), (2, .p S.nxt 0), (0, .sl W o ws.length cp), (dslot, .tu [])]) (fun a => a.2.2.2.2.2) (fun a => (W, .blk (.row k t m)) :: ([(S.nxt, .row 0 [.sn, .sn, .i .i64 0]), (S.nxt + 1, .row 0 [a.2.2.1, a.2.2.2.1, eR a.2.1])] ++ a.2.2.2.2.1)) (fun a => j - a.1)
    (fun a => a.1 ≤ j ∧ S.nxt + 2 ≤ a.2.2.2.2.2 ∧ Tl a.2.1.2 a.2.2.1 a.2.2.2.1 a.2.2.2.2.1 ∧ (∀ q ∈ a.2.2.2.2.1, S.nxt ≤ q.1) ∧ a.2.1 = runR ws (false, []) (dirI a.1) ∧ a.2.1.2.length ≤ 3 * a.1)
    (0, (false, []), .sn, .sn, [], S.nxt + 1 + 1) ⟨Nat.zero_le _, Nat.le_refl _, .nil, fun _ h => (by cases h), rfl, Nat.le_refl _⟩ ⟨rfl, rfl, rfl, rfl, rfl, trivial⟩ rfl (HSub.refl _ _) ?_
  rintro ⟨i, s, uO, uP, ul, N⟩ ⟨hi, hN, hT, hul, hs, hsl⟩
  simp only at hi hN hT hul hs hsl ⊢
  repeat (first
      | refine JO.step (AO1.mv rfl) rfl ?_
      | refine JO.step (AO1.ncP rfl) rfl ?_
      | refine JO.step (AO1.fa rfl) rfl ?_
      | refine JO.nil ?_
      | refine JC.seq ?_
      | refine JC.reg ?_
      | refine JC.skip ?_
      | refine JC.blk ?_)
  refine JO.step (AO1.iaS (i := 1) rfl rfl (ble_of (by omega))) rfl ?_
  refine JO.step (AO1.ld1X 0 rfl rfl (R.ble (i := 1) (by omega)) (R.get (i := 1) (by omega))) rfl ?_
  refine JO.step (AO1.bn rfl rfl (bin_lss _ _)) rfl ?_
  repeat (first
      | refine JO.step (AO1.mv rfl) rfl ?_
      | refine JO.step (AO1.ncP rfl) rfl ?_
      | refine JO.step (AO1.fa rfl) rfl ?_
      | refine JO.nil ?_
      | refine JC.seq ?_
      | refine JC.reg ?_
      | refine JC.skip ?_
      | refine JC.blk ?_)
  refine JC.cnd rfl (fun hle => ?_) (fun hgt => ?_)
  · have hle : ((i : Nat) : Int) < ws.getD 1 0 := of_decide_eq_true hle
    have hij : i < j := by rw [hj] at hle; exact Int.ofNat_lt.1 hle
    repeat (first
        | refine JO.step (AO1.mv rfl) rfl ?_
        | refine JO.step (AO1.ncP rfl) rfl ?_
        | refine JO.step (AO1.fa rfl) rfl ?_
        | refine JO.nil ?_
        | refine JC.seq ?_
        | refine JC.reg ?_
        | refine JC.skip ?_
        | refine JC.blk ?_)
    refine JO.step (AO1.ldn 2 rfl rfl rfl rfl) rfl ?_
    repeat (first
        | refine JO.step (AO1.mv rfl) rfl ?_
        | refine JO.step (AO1.ncP rfl) rfl ?_
        | refine JO.step (AO1.fa rfl) rfl ?_
        | refine JO.nil ?_
        | refine JC.seq ?_
        | refine JC.reg ?_
        | refine JC.skip ?_
        | refine JC.blk ?_)
    refine JO.step (AO1.bn (v := .i .i64 (.ofNat (4 * i))) rfl rfl (mulN (a := 4) (b := i) (by omega))) rfl ?_
    refine JO.step (AO1.bn (v := .i .i64 (.ofNat (3 + 4 * i))) rfl rfl (addN (a := 3) (b := 4 * i) (by omega))) rfl ?_
    refine JO.call (fun _ _ => rfl) rfl rfl rfl (fun S1 G1 => addIn (F := [(S.nxt, .row 0 [.sn, .sn, .i .i64 0]), (S.nxt + 1, .row 0 [uO, uP, eR s])]) (tl := ul) (s := s) (vO := uO) (vP := uP) R hT hul (by omega) 3 (i := 3 + 4 * i) (by omega) false G1) (fun S1 G1 y S2 k => ?_) rfl
    obtain ⟨N1, uO1, uP1, ul1, rfl, hT1, hl1, hN1, GG1⟩ := k
    refine ⟨N1, _, GG1, ?_⟩
    refine JO.step0 (AO1.st 2 rfl rfl rfl rfl rfl rfl (hT1.ones _)) ?_
    repeat (first
        | refine JO.step (AO1.mv rfl) rfl ?_
        | refine JO.step (AO1.ncP rfl) rfl ?_
        | refine JO.step (AO1.fa rfl) rfl ?_
        | refine JO.nil ?_
        | refine JC.seq ?_
        | refine JC.reg ?_
        | refine JC.skip ?_
        | refine JC.blk ?_)
    have hs1 := addR_len ws s (3, 3 + 4 * i, false)
    refine JO.step (AO1.ldn 2 rfl rfl rfl rfl) rfl ?_
    repeat (first
        | refine JO.step (AO1.mv rfl) rfl ?_
        | refine JO.step (AO1.ncP rfl) rfl ?_
        | refine JO.step (AO1.fa rfl) rfl ?_
        | refine JO.nil ?_
        | refine JC.seq ?_
        | refine JC.reg ?_
        | refine JC.skip ?_
        | refine JC.blk ?_)
    refine JO.step (AO1.bn (v := .i .i64 (.ofNat (4 * i))) rfl rfl (mulN (a := 4) (b := i) (by omega))) rfl ?_
    refine JO.step (AO1.bn (v := .i .i64 (.ofNat (4 + 4 * i))) rfl rfl (addN (a := 4) (b := 4 * i) (by omega))) rfl ?_
    refine JO.call (fun _ _ => rfl) rfl rfl rfl (fun S1 G1 => addIn (F := [(S.nxt, .row 0 [.sn, .sn, .i .i64 0]), (S.nxt + 1, .row 0 [uO1, uP1, eR (addR ws s (3, 3 + 4 * i, false))])]) (tl := ul1) (s := (addR ws s (3, 3 + 4 * i, false))) (vO := uO1) (vP := uP1) R hT1 hl1 (by omega) 3 (i := 4 + 4 * i) (by omega) false G1) (fun S1 G1 y S2 k => ?_) rfl
    obtain ⟨N2, uO2, uP2, ul2, rfl, hT2, hl2, hN2, GG2⟩ := k
    refine ⟨N2, _, GG2, ?_⟩
    refine JO.step0 (AO1.st 2 rfl rfl rfl rfl rfl rfl (hT2.ones _)) ?_
    repeat (first
        | refine JO.step (AO1.mv rfl) rfl ?_
        | refine JO.step (AO1.ncP rfl) rfl ?_
        | refine JO.step (AO1.fa rfl) rfl ?_
        | refine JO.nil ?_
        | refine JC.seq ?_
        | refine JC.reg ?_
        | refine JC.skip ?_
        | refine JC.blk ?_)
    have hs2 := addR_len ws (addR ws s (3, 3 + 4 * i, false)) (3, 4 + 4 * i, false)
    refine JO.step (AO1.ldn 2 rfl rfl rfl rfl) rfl ?_
    repeat (first
        | refine JO.step (AO1.mv rfl) rfl ?_
        | refine JO.step (AO1.ncP rfl) rfl ?_
        | refine JO.step (AO1.fa rfl) rfl ?_
        | refine JO.nil ?_
        | refine JC.seq ?_
        | refine JC.reg ?_
        | refine JC.skip ?_
        | refine JC.blk ?_)
    refine JO.step (AO1.bn (v := .i .i64 (.ofNat (4 * i))) rfl rfl (mulN (a := 4) (b := i) (by omega))) rfl ?_
    refine JO.step (AO1.bn (v := .i .i64 (.ofNat (6 + 4 * i))) rfl rfl (addN (a := 6) (b := 4 * i) (by omega))) rfl ?_
    refine JO.call (fun _ _ => rfl) rfl rfl rfl (fun S1 G1 => addIn (F := [(S.nxt, .row 0 [.sn, .sn, .i .i64 0]), (S.nxt + 1, .row 0 [uO2, uP2, eR (addR ws (addR ws s (3, 3 + 4 * i, false)) (3, 4 + 4 * i, false))])]) (tl := ul2) (s := (addR ws (addR ws s (3, 3 + 4 * i, false)) (3, 4 + 4 * i, false))) (vO := uO2) (vP := uP2) R hT2 hl2 (by omega) 4 (i := 6 + 4 * i) (by omega) false G1) (fun S1 G1 y S2 k => ?_) rfl
    obtain ⟨N3, uO3, uP3, ul3, rfl, hT3, hl3, hN3, GG3⟩ := k
    refine ⟨N3, _, GG3, ?_⟩
    refine JO.step0 (AO1.st 2 rfl rfl rfl rfl rfl rfl (hT3.ones _)) ?_
    repeat (first
        | refine JO.step (AO1.mv rfl) rfl ?_
        | refine JO.step (AO1.ncP rfl) rfl ?_
        | refine JO.step (AO1.fa rfl) rfl ?_
        | refine JO.nil ?_
        | refine JC.seq ?_
        | refine JC.reg ?_
        | refine JC.skip ?_
        | refine JC.blk ?_)
    have hs3 := addR_len ws (addR ws (addR ws s (3, 3 + 4 * i, false)) (3, 4 + 4 * i, false)) (4, 6 + 4 * i, false)
    refine JO.step (AO1.bn (v := .i .i64 (.ofNat (i + 1))) rfl rfl (addN (a := i) (b := 1) (by omega))) rfl ?_
    repeat (first
        | refine JO.step (AO1.mv rfl) rfl ?_
        | refine JO.step (AO1.ncP rfl) rfl ?_
        | refine JO.step (AO1.fa rfl) rfl ?_
        | refine JO.nil ?_
        | refine JC.seq ?_
        | refine JC.reg ?_
        | refine JC.skip ?_
        | refine JC.blk ?_)
    refine ⟨(i + 1, _, uO3, uP3, ul3, N3), ⟨by show i + 1 ≤ j; omega, by show S.nxt + 2 ≤ N3; omega, hT3, hl3, ?_, by show (addR ws (addR ws (addR ws s (3, 3 + 4 * i, false)) (3, 4 + 4 * i, false)) (4, 6 + 4 * i, false)).2.length ≤ 3 * (i + 1); omega⟩, by show j - (i + 1) < j - i; omega, ⟨rfl, rfl, rfl, rfl, rfl, trivial⟩, rfl, HSub.refl _ _⟩
    show addR ws (addR ws (addR ws s (3, 3 + 4 * i, false)) (3, 4 + 4 * i, false)) (4, 6 + 4 * i, false) = _
    rw [hs]
    exact (runR_app ws _ (dirI i) [(3, 3 + 4 * i, false), (3, 4 + 4 * i, false), (4, 6 + 4 * i, false)]).symm
  · have hgt : ¬ (((i : Nat) : Int) < ws.getD 1 0) := of_decide_eq_false hgt
    refine JC.ex ?_
    repeat (first
        | refine JO.step (AO1.mv rfl) rfl ?_
        | refine JO.step (AO1.ncP rfl) rfl ?_
        | refine JO.step (AO1.fa rfl) rfl ?_
        | refine JO.nil ?_
        | refine JC.seq ?_
        | refine JC.reg ?_
        | refine JC.skip ?_
        | refine JC.blk ?_)
    refine JO.step (AO1.ldn 2 rfl rfl rfl rfl) rfl ?_
    refine JO.step0 (AO1.st 1 rfl rfl rfl rfl rfl rfl (hT.ones _)) ?_
    repeat (first
        | refine JO.step (AO1.mv rfl) rfl ?_
        | refine JO.step (AO1.ncP rfl) rfl ?_
        | refine JO.step (AO1.fa rfl) rfl ?_
        | refine JO.nil ?_
        | refine JC.seq ?_
        | refine JC.reg ?_
        | refine JC.skip ?_
        | refine JC.blk ?_)
    refine JC.ret ?_
    have hij : j = i := by rw [hj] at hgt; omega
    have e2 : refC 2 ws = s := by rw [e, hs, hij]
    exact ⟨_, .cn 1 rfl rfl rfl rfl .nil, rfl, uO, uP, ul, by rw [e2]; rfl, by rw [e2]; exact hT, hul, .same R.h (.drop (Nat.le_refl _) (.drop (Nat.le_succ _) (HSub.refl _ _)))⟩
end L32
end Go.Ev
namespace Go.Ev
open Go Go.Proofs
namespace L32
set_option maxRecDepth 100000
/-- what the reference's Links leaves -/
def Rn (S : St) (r : Int) (ws : List Int) (y : AV) (S' : St) : Prop := ∃ vO vP, y = .ag [vO, vP, .i .i64 (resC r ws).1] ∧ Two S (resC r ws).2 vO vP S'
def RnH (S : St) (r : Int) (ws : List Int) (y : AV) (_ : Nat) (h' : Hp) : Prop := ∃ vO vP tl, y = .ag [vO, vP, .i .i64 (resC r ws).1] ∧ Tl (resC r ws).2 vO vP tl ∧ (∀ p ∈ tl, S.nxt ≤ p.1) ∧ HSub S h' tl
theorem RnH.rn {S : St} {r : Int} {ws : List Int} {y : AV} {S' : St} (k : ∃ N' h', SH S N' h' S' ∧ RnH S r ws y N' h') : Rn S r ws y S' := by
  obtain ⟨N', h', G, vO, vP, tl, e, hT, hl, hs⟩ := k
  exact ⟨vO, vP, e, N', tl, hT, hl, G.sub hs⟩
theorem kind_known (r : Int) : (kindK r = 0 ↔ knownK r = false) := by
  unfold kindK knownK
  rw [Bool.and_eq_false_iff]
  simp only [decide_eq_false_iff_not]
  repeat' split
  all_goals omega
theorem refL_sl {S : St} {W k m o : Nat} {cp : Option Nat} {t : T AV} {ws : List Int} (R : Rd S W k t m o ws) (hlen : ws.length ≤ 1000) (r : Int) : GCall PP 9 [.i .i64 r, .sl W o ws.length cp] S (Rn S r ws) := by
  refine (JF (h := [(W, .blk (.row k t m))]) ok9 rfl ?_ (by simp) (Φ := RnH S r ws) ?_).mono fun y S' k => RnH.rn k
  · intro x hx
    rw [List.mem_singleton] at hx; subst hx
    exact ⟨R.h, rfl⟩
  intro G
  refine JC.seq ?_
  refine JC.reg ?_
  refine JO.step AO1.al rfl ?_
  repeat (first
      | refine JO.step (AO1.mv rfl) rfl ?_
      | refine JO.step (AO1.ncP rfl) rfl ?_
      | refine JO.step (AO1.fa rfl) rfl ?_
      | refine JO.nil ?_
      | refine JC.seq ?_
      | refine JC.reg ?_
      | refine JC.skip ?_
      | refine JC.blk ?_)
  refine JO.callP (y := .i .i64 (kindK r)) rfl rfl rfl (fun S1 _ => kindR_c S1 r) rfl ?_
  refine JO.step (AO1.eq rfl rfl (eq_int _ _)) rfl ?_
  repeat (first
      | refine JO.step (AO1.mv rfl) rfl ?_
      | refine JO.step (AO1.ncP rfl) rfl ?_
      | refine JO.step (AO1.fa rfl) rfl ?_
      | refine JO.nil ?_
      | refine JC.seq ?_
      | refine JC.reg ?_
      | refine JC.skip ?_
      | refine JC.blk ?_)
  refine JC.cnd rfl (fun hk => ?_) (fun hk => ?_)
  · have hk : knownK r = false := (kind_known r).1 (of_decide_eq_true hk)
    repeat (first
        | refine JO.step (AO1.mv rfl) rfl ?_
        | refine JO.step (AO1.ncP rfl) rfl ?_
        | refine JO.step (AO1.fa rfl) rfl ?_
        | refine JO.nil ?_
        | refine JC.seq ?_
        | refine JC.reg ?_
        | refine JC.skip ?_
        | refine JC.blk ?_)
    refine JO.step (AO1.bd rfl rfl) rfl ?_
    refine JO.step0 (AO1.st 1 rfl rfl rfl rfl rfl rfl rfl) ?_
    repeat (first
        | refine JO.step (AO1.mv rfl) rfl ?_
        | refine JO.step (AO1.ncP rfl) rfl ?_
        | refine JO.step (AO1.fa rfl) rfl ?_
        | refine JO.nil ?_
        | refine JC.seq ?_
        | refine JC.reg ?_
        | refine JC.skip ?_
        | refine JC.blk ?_)
    refine JC.ret ?_
    have e : resC r ws = (1, []) := by unfold resC; rw [if_pos hk]
    exact ⟨_, .cn 1 rfl rfl rfl rfl .nil, rfl, .sn, .sn, [], by rw [e]; rfl, by rw [e]; exact .nil, fun _ h => (by cases h), .same R.h (.drop (Nat.le_refl _) .nil)⟩
  have hk : ¬ knownK r = false := fun q => (of_decide_eq_false hk) ((kind_known r).2 q)
  repeat (first
      | refine JO.step (AO1.mv rfl) rfl ?_
      | refine JO.step (AO1.ncP rfl) rfl ?_
      | refine JO.step (AO1.fa rfl) rfl ?_
      | refine JO.nil ?_
      | refine JC.seq ?_
      | refine JC.reg ?_
      | refine JC.skip ?_
      | refine JC.blk ?_)
  refine JO.step (AO1.lenSlc rfl) rfl ?_
  repeat (first
      | refine JO.step (AO1.mv rfl) rfl ?_
      | refine JO.step (AO1.ncP rfl) rfl ?_
      | refine JO.step (AO1.fa rfl) rfl ?_
      | refine JO.nil ?_
      | refine JC.seq ?_
      | refine JC.reg ?_
      | refine JC.skip ?_
      | refine JC.blk ?_)
  refine JO.callP (y := .i .i64 (leastK r)) rfl rfl rfl (fun S1 _ => leastR_c S1 r) rfl ?_
  refine JO.step (AO1.bn rfl rfl (bin_lss _ _)) rfl ?_
  repeat (first
      | refine JO.step (AO1.mv rfl) rfl ?_
      | refine JO.step (AO1.ncP rfl) rfl ?_
      | refine JO.step (AO1.fa rfl) rfl ?_
      | refine JO.nil ?_
      | refine JC.seq ?_
      | refine JC.reg ?_
      | refine JC.skip ?_
      | refine JC.blk ?_)
  refine JC.cnd rfl (fun hlt => ?_) (fun hge => ?_)
  · have hlt : (ws.length : Int) < leastK r := of_decide_eq_true hlt
    repeat (first
        | refine JO.step (AO1.mv rfl) rfl ?_
        | refine JO.step (AO1.ncP rfl) rfl ?_
        | refine JO.step (AO1.fa rfl) rfl ?_
        | refine JO.nil ?_
        | refine JC.seq ?_
        | refine JC.reg ?_
        | refine JC.skip ?_
        | refine JC.blk ?_)
    refine JO.step (AO1.bd rfl rfl) rfl ?_
    refine JO.step0 (AO1.st 1 rfl rfl rfl rfl rfl rfl rfl) ?_
    repeat (first
        | refine JO.step (AO1.mv rfl) rfl ?_
        | refine JO.step (AO1.ncP rfl) rfl ?_
        | refine JO.step (AO1.fa rfl) rfl ?_
        | refine JO.nil ?_
        | refine JC.seq ?_
        | refine JC.reg ?_
        | refine JC.skip ?_
        | refine JC.blk ?_)
    refine JC.ret ?_
    have e : resC r ws = (3, []) := by unfold resC; rw [if_neg hk, if_pos hlt]
    exact ⟨_, .cn 1 rfl rfl rfl rfl .nil, rfl, .sn, .sn, [], by rw [e]; rfl, by rw [e]; exact .nil, fun _ h => (by cases h), .same R.h (.drop (Nat.le_refl _) .nil)⟩
  have hge : ¬ (ws.length : Int) < leastK r := of_decide_eq_false hge
  have hres : resC r ws = fin (refC r ws) := by unfold resC; rw [if_neg hk, if_neg hge]; exact refC_fin r ws
  repeat (first
      | refine JO.step (AO1.mv rfl) rfl ?_
      | refine JO.step (AO1.ncP rfl) rfl ?_
      | refine JO.step (AO1.fa rfl) rfl ?_
      | refine JO.nil ?_
      | refine JC.seq ?_
      | refine JC.reg ?_
      | refine JC.skip ?_
      | refine JC.blk ?_)
  refine JO.step AO1.al rfl ?_
  refine JO.nil ?_
  refine JC.cutE (fun _ : A36 => [(5, .p (S.nxt + 1) 0), (4, .p S.nxt 0), (dslot, .tu [])]) (fun a => a.2.2.2.2) (fun a => (W, .blk (.row k t m)) :: ([(S.nxt, .row 0 [.sn, .sn, .i .i64 0]), (S.nxt + 1, .row 0 [a.2.1, a.2.2.1, eR a.1])] ++ a.2.2.2.1)) (fun a => Tl a.1.2 a.2.1 a.2.2.1 a.2.2.2.1 ∧ (∀ q ∈ a.2.2.2.1, S.nxt ≤ q.1) ∧ fin a.1 = fin (refC r ws)) ?_ ?_
  rotate_left
  · rintro ⟨s, uO, uP, ul, N⟩ ⟨hT, hul, hfin⟩
    simp only at hT hul hfin ⊢
    repeat (first
        | refine JO.step (AO1.mv rfl) rfl ?_
        | refine JO.step (AO1.ncP rfl) rfl ?_
        | refine JO.step (AO1.fa rfl) rfl ?_
        | refine JO.nil ?_
        | refine JC.seq ?_
        | refine JC.reg ?_
        | refine JC.skip ?_
        | refine JC.blk ?_)
    refine JO.step (AO1.ld1 2 rfl rfl rfl) rfl ?_
    refine JO.step (AO1.eq rfl rfl (eq_int _ _)) rfl ?_
    repeat (first
        | refine JO.step (AO1.mv rfl) rfl ?_
        | refine JO.step (AO1.ncP rfl) rfl ?_
        | refine JO.step (AO1.fa rfl) rfl ?_
        | refine JO.nil ?_
        | refine JC.seq ?_
        | refine JC.reg ?_
        | refine JC.skip ?_
        | refine JC.blk ?_)
    refine JC.cnd rfl (fun hw => ?_) (fun hw => ?_)
    · have hw : (!decide (cond s.1 (3 : Int) 0 = 0)) = true := hw
      have hs1 : s.1 = true := by
        cases h : s.1 with
        | true => rfl
        | false => rw [h] at hw; exact absurd hw (by decide)
      repeat (first
          | refine JO.step (AO1.mv rfl) rfl ?_
          | refine JO.step (AO1.ncP rfl) rfl ?_
          | refine JO.step (AO1.fa rfl) rfl ?_
          | refine JO.nil ?_
          | refine JC.seq ?_
          | refine JC.reg ?_
          | refine JC.skip ?_
          | refine JC.blk ?_)
      refine JO.step (AO1.ld1 2 rfl rfl rfl) rfl ?_
      refine JO.step (AO1.bd rfl rfl) rfl ?_
      refine JO.step0 (AO1.st 1 rfl rfl rfl rfl rfl rfl rfl) ?_
      repeat (first
          | refine JO.step (AO1.mv rfl) rfl ?_
          | refine JO.step (AO1.ncP rfl) rfl ?_
          | refine JO.step (AO1.fa rfl) rfl ?_
          | refine JO.nil ?_
          | refine JC.seq ?_
          | refine JC.reg ?_
          | refine JC.skip ?_
          | refine JC.blk ?_)
      refine JC.ret ?_
      have e : resC r ws = (3, []) := by rw [hres, ← hfin]; unfold fin; rw [if_pos hs1]
      exact ⟨_, .cn 1 rfl rfl rfl rfl .nil, rfl, .sn, .sn, [], by rw [e]; show AV.ag [.sn, .sn, .i .i64 (cond s.1 3 0)] = _; rw [hs1]; rfl, by rw [e]; exact .nil, fun _ h => (by cases h), .same R.h (.drop (Nat.le_refl _) (.drop (Nat.le_succ _) (HSub.drops hul)))⟩
    · have hw : (!decide (cond s.1 (3 : Int) 0 = 0)) = false := hw
      have hs1 : s.1 = false := by
        cases h : s.1 with
        | false => rfl
        | true => rw [h] at hw; exact absurd hw (by decide)
      repeat (first
          | refine JO.step (AO1.mv rfl) rfl ?_
          | refine JO.step (AO1.ncP rfl) rfl ?_
          | refine JO.step (AO1.fa rfl) rfl ?_
          | refine JO.nil ?_
          | refine JC.seq ?_
          | refine JC.reg ?_
          | refine JC.skip ?_
          | refine JC.blk ?_)
      refine JO.step (AO1.ldn 2 rfl rfl rfl rfl) rfl ?_
      refine JO.step0 (AO1.st 1 rfl rfl rfl rfl rfl rfl (hT.ones _)) ?_
      repeat (first
          | refine JO.step (AO1.mv rfl) rfl ?_
          | refine JO.step (AO1.ncP rfl) rfl ?_
          | refine JO.step (AO1.fa rfl) rfl ?_
          | refine JO.nil ?_
          | refine JC.seq ?_
          | refine JC.reg ?_
          | refine JC.skip ?_
          | refine JC.blk ?_)
      refine JC.ret ?_
      have e : resC r ws = (0, s.2) := by rw [hres, ← hfin]; unfold fin; rw [if_neg (by rw [hs1]; decide)]
      exact ⟨_, .cn 1 rfl rfl rfl rfl .nil, rfl, uO, uP, ul, by rw [e]; show AV.ag [uO, uP, .i .i64 (cond s.1 3 0)] = _; rw [hs1]; rfl, by rw [e]; exact hT, hul, .same R.h (.drop (Nat.le_refl _) (.drop (Nat.le_succ _) (HSub.refl _ _)))⟩
  repeat (first
      | refine JO.step (AO1.mv rfl) rfl ?_
      | refine JO.step (AO1.ncP rfl) rfl ?_
      | refine JO.step (AO1.fa rfl) rfl ?_
      | refine JO.nil ?_
      | refine JC.seq ?_
      | refine JC.reg ?_
      | refine JC.skip ?_
      | refine JC.blk ?_)
  refine JO.step (AO1.eq rfl rfl (eq_int _ _)) rfl ?_
  repeat (first
      | refine JO.step (AO1.mv rfl) rfl ?_
      | refine JO.step (AO1.ncP rfl) rfl ?_
      | refine JO.step (AO1.fa rfl) rfl ?_
      | refine JO.nil ?_
      | refine JC.seq ?_
      | refine JC.reg ?_
      | refine JC.skip ?_
      | refine JC.blk ?_)
  refine JC.cnd rfl (fun e1 => ?_) (fun n1 => ?_)
  · clear G
    have e1 : r = 1 := of_decide_eq_true e1
    subst e1
    have hge : ¬ (ws.length : Int) < 2 := hge
    repeat (first
        | refine JO.step (AO1.mv rfl) rfl ?_
        | refine JO.step (AO1.ncP rfl) rfl ?_
        | refine JO.step (AO1.fa rfl) rfl ?_
        | refine JO.nil ?_
        | refine JC.seq ?_
        | refine JC.reg ?_
        | refine JC.skip ?_
        | refine JC.blk ?_)
    refine JO.step (AO1.ldn 2 rfl rfl rfl rfl) rfl ?_
    repeat (first
        | refine JO.step (AO1.mv rfl) rfl ?_
        | refine JO.step (AO1.ncP rfl) rfl ?_
        | refine JO.step (AO1.fa rfl) rfl ?_
        | refine JO.nil ?_
        | refine JC.seq ?_
        | refine JC.reg ?_
        | refine JC.skip ?_
        | refine JC.blk ?_)
    refine JO.call (fun _ _ => rfl) rfl rfl rfl (fun S1 G1 => addIn (F := [(S.nxt, .row 0 [.sn, .sn, .i .i64 0]), (S.nxt + 1, .row 0 [.sn, .sn, .i .i64 0])]) (tl := []) (s := (false, [])) (vO := .sn) (vP := .sn) R .nil (fun _ h => by cases h) (Nat.zero_le _) 2 (i := 1) (by omega) false G1) (fun S1 G1 y S2 k => ?_) rfl
    obtain ⟨N1, uO, uP, ul, rfl, hT, hl, hN1, G2⟩ := k
    refine ⟨N1, _, G2, ?_⟩
    refine JO.step0 (AO1.st 2 rfl rfl rfl rfl rfl rfl (hT.ones _)) ?_
    repeat (first
        | refine JO.step (AO1.mv rfl) rfl ?_
        | refine JO.step (AO1.ncP rfl) rfl ?_
        | refine JO.step (AO1.fa rfl) rfl ?_
        | refine JO.nil ?_
        | refine JC.seq ?_
        | refine JC.reg ?_
        | refine JC.skip ?_
        | refine JC.blk ?_)
    refine JO.step (AO1.iaS (i := 0) rfl rfl (ble_of (by omega))) rfl ?_
    refine JO.step (AO1.ld1X 0 rfl rfl (R.ble (i := 0) (by omega)) (R.get (i := 0) (by omega))) rfl ?_
    refine JO.step (AO1.eq rfl rfl (eq_int _ _)) rfl ?_
    repeat (first
        | refine JO.step (AO1.mv rfl) rfl ?_
        | refine JO.step (AO1.ncP rfl) rfl ?_
        | refine JO.step (AO1.fa rfl) rfl ?_
        | refine JO.nil ?_
        | refine JC.seq ?_
        | refine JC.reg ?_
        | refine JC.skip ?_
        | refine JC.blk ?_)
    have hC : refC 1 ws = ((addR ws (false, []) (2, 1, false)).1 || !decide (ws.getD 0 0 = 1), (addR ws (false, []) (2, 1, false)).2) := by unfold refC; rw [if_pos rfl]; rfl
    refine JC.cnd rfl (fun hw => ?_) (fun hw => ?_)
    · have hw : (!decide (ws.getD 0 0 = 1)) = true := hw
      repeat (first
          | refine JO.step (AO1.mv rfl) rfl ?_
          | refine JO.step (AO1.ncP rfl) rfl ?_
          | refine JO.step (AO1.fa rfl) rfl ?_
          | refine JO.nil ?_
          | refine JC.seq ?_
          | refine JC.reg ?_
          | refine JC.skip ?_
          | refine JC.blk ?_)
      refine JO.step0 (AO1.st 2 rfl rfl rfl rfl rfl rfl rfl) ?_
      repeat (first
          | refine JO.step (AO1.mv rfl) rfl ?_
          | refine JO.step (AO1.ncP rfl) rfl ?_
          | refine JO.step (AO1.fa rfl) rfl ?_
          | refine JO.nil ?_
          | refine JC.seq ?_
          | refine JC.reg ?_
          | refine JC.skip ?_
          | refine JC.blk ?_)
      exact ⟨rfl, ((true, (addR ws (false, []) (2, 1, false)).2), uO, uP, ul, N1), ⟨hT, hl, fin_wrong rfl (by rw [hC, hw, Bool.or_true])⟩, ⟨rfl, rfl, rfl, trivial⟩, rfl, HSub.refl _ _⟩
    · have hw : (!decide (ws.getD 0 0 = 1)) = false := hw
      repeat (first
          | refine JO.step (AO1.mv rfl) rfl ?_
          | refine JO.step (AO1.ncP rfl) rfl ?_
          | refine JO.step (AO1.fa rfl) rfl ?_
          | refine JO.nil ?_
          | refine JC.seq ?_
          | refine JC.reg ?_
          | refine JC.skip ?_
          | refine JC.blk ?_)
      exact ⟨rfl, (addR ws (false, []) (2, 1, false), uO, uP, ul, N1), ⟨hT, hl, by rw [hC, hw, Bool.or_false]⟩, ⟨rfl, rfl, rfl, trivial⟩, rfl, HSub.refl _ _⟩
  have n1 : ¬ r = 1 := of_decide_eq_false n1
  repeat (first
      | refine JO.step (AO1.mv rfl) rfl ?_
      | refine JO.step (AO1.ncP rfl) rfl ?_
      | refine JO.step (AO1.fa rfl) rfl ?_
      | refine JO.nil ?_
      | refine JC.seq ?_
      | refine JC.reg ?_
      | refine JC.skip ?_
      | refine JC.blk ?_)
  refine JO.step (AO1.eq rfl rfl (eq_int _ _)) rfl ?_
  repeat (first
      | refine JO.step (AO1.mv rfl) rfl ?_
      | refine JO.step (AO1.ncP rfl) rfl ?_
      | refine JO.step (AO1.fa rfl) rfl ?_
      | refine JO.nil ?_
      | refine JC.seq ?_
      | refine JC.reg ?_
      | refine JC.skip ?_
      | refine JC.blk ?_)
  refine JC.cnd rfl (fun e1 => ?_) (fun n2 => ?_)
  · have e1 : r = 2 := of_decide_eq_true e1
    subst e1
    have hge : ¬ (ws.length : Int) < 35 := hge
    repeat (first
        | refine JO.step (AO1.mv rfl) rfl ?_
        | refine JO.step (AO1.ncP rfl) rfl ?_
        | refine JO.step (AO1.fa rfl) rfl ?_
        | refine JO.nil ?_
        | refine JC.seq ?_
        | refine JC.reg ?_
        | refine JC.skip ?_
        | refine JC.blk ?_)
    refine JO.call (fun _ _ => rfl) rfl rfl rfl (fun S1 G1 => directory_c (cp := cp) ⟨G1.look (j := 0) rfl, R.le, R.ge⟩ (by omega)) (fun S1 G1 y S2 k => ?_) rfl
    obtain ⟨uO, uP, rfl, N1, ul, hT, hl, G2⟩ := k
    rw [G1.nxt] at hl
    have G3 := SH.updsN G1 [] ul rfl G2 [] trivial hl
    refine ⟨N1, _, G3, ?_⟩
    refine JO.step0 (AO1.st 2 rfl rfl rfl rfl rfl rfl (hT.ones _)) ?_
    repeat (first
        | refine JO.step (AO1.mv rfl) rfl ?_
        | refine JO.step (AO1.ncP rfl) rfl ?_
        | refine JO.step (AO1.fa rfl) rfl ?_
        | refine JO.nil ?_
        | refine JC.seq ?_
        | refine JC.reg ?_
        | refine JC.skip ?_
        | refine JC.blk ?_)
    exact ⟨rfl, (refC 2 ws, uO, uP, ul, N1), ⟨hT, fun q hq => Nat.le_trans (Nat.le_add_right _ 2) (hl q hq), rfl⟩, ⟨rfl, rfl, rfl, trivial⟩, rfl, HSub.refl _ _⟩
  have n2 : ¬ r = 2 := of_decide_eq_false n2
  repeat (first
      | refine JO.step (AO1.mv rfl) rfl ?_
      | refine JO.step (AO1.ncP rfl) rfl ?_
      | refine JO.step (AO1.fa rfl) rfl ?_
      | refine JO.nil ?_
      | refine JC.seq ?_
      | refine JC.reg ?_
      | refine JC.skip ?_
      | refine JC.blk ?_)
  refine JO.step (AO1.eq rfl rfl (eq_int _ _)) rfl ?_
  repeat (first
      | refine JO.step (AO1.mv rfl) rfl ?_
      | refine JO.step (AO1.ncP rfl) rfl ?_
      | refine JO.step (AO1.fa rfl) rfl ?_
      | refine JO.nil ?_
      | refine JC.seq ?_
      | refine JC.reg ?_
      | refine JC.skip ?_
      | refine JC.blk ?_)
  refine JC.cnd rfl (fun e1 => ?_) (fun n4 => ?_)
  · have e1 : r = 4 := of_decide_eq_true e1
    subst e1
    have hge : ¬ (ws.length : Int) < 8 := hge
    repeat (first
        | refine JO.step (AO1.mv rfl) rfl ?_
        | refine JO.step (AO1.ncP rfl) rfl ?_
        | refine JO.step (AO1.fa rfl) rfl ?_
        | refine JO.nil ?_
        | refine JC.seq ?_
        | refine JC.reg ?_
        | refine JC.skip ?_
        | refine JC.blk ?_)
    refine JO.call (fun _ _ => rfl) rfl rfl rfl (fun S1 G1 => table_c (cp := cp) ⟨G1.look (j := 0) rfl, R.le, R.ge⟩ (by omega)) (fun S1 G1 y S2 k => ?_) rfl
    obtain ⟨uO, uP, rfl, N1, ul, hT, hl, G2⟩ := k
    rw [G1.nxt] at hl
    have G3 := SH.updsN G1 [] ul rfl G2 [] trivial hl
    refine ⟨N1, _, G3, ?_⟩
    refine JO.step0 (AO1.st 2 rfl rfl rfl rfl rfl rfl (hT.ones _)) ?_
    repeat (first
        | refine JO.step (AO1.mv rfl) rfl ?_
        | refine JO.step (AO1.ncP rfl) rfl ?_
        | refine JO.step (AO1.fa rfl) rfl ?_
        | refine JO.nil ?_
        | refine JC.seq ?_
        | refine JC.reg ?_
        | refine JC.skip ?_
        | refine JC.blk ?_)
    exact ⟨rfl, (refC 4 ws, uO, uP, ul, N1), ⟨hT, fun q hq => Nat.le_trans (Nat.le_add_right _ 2) (hl q hq), rfl⟩, ⟨rfl, rfl, rfl, trivial⟩, rfl, HSub.refl _ _⟩
  have n4 : ¬ r = 4 := of_decide_eq_false n4
  repeat (first
      | refine JO.step (AO1.mv rfl) rfl ?_
      | refine JO.step (AO1.ncP rfl) rfl ?_
      | refine JO.step (AO1.fa rfl) rfl ?_
      | refine JO.nil ?_
      | refine JC.seq ?_
      | refine JC.reg ?_
      | refine JC.skip ?_
      | refine JC.blk ?_)
  refine JO.step (AO1.eq rfl rfl (eq_int _ _)) rfl ?_
  repeat (first
      | refine JO.step (AO1.mv rfl) rfl ?_
      | refine JO.step (AO1.ncP rfl) rfl ?_
      | refine JO.step (AO1.fa rfl) rfl ?_
      | refine JO.nil ?_
      | refine JC.seq ?_
      | refine JC.reg ?_
      | refine JC.skip ?_
      | refine JC.blk ?_)
  refine JC.cnd rfl (fun e1 => ?_) (fun n5 => ?_)
  · have e1 : r = 5 := of_decide_eq_true e1
    subst e1
    have hge : ¬ (ws.length : Int) < 1 := hge
    repeat (first
        | refine JO.step (AO1.mv rfl) rfl ?_
        | refine JO.step (AO1.ncP rfl) rfl ?_
        | refine JO.step (AO1.fa rfl) rfl ?_
        | refine JO.nil ?_
        | refine JC.seq ?_
        | refine JC.reg ?_
        | refine JC.skip ?_
        | refine JC.blk ?_)
    refine JO.call (fun _ _ => rfl) rfl rfl rfl (fun S1 G1 => buckets_c (cp := cp) ⟨G1.look (j := 0) rfl, R.le, R.ge⟩ (by omega) hlen) (fun S1 G1 y S2 k => ?_) rfl
    obtain ⟨uO, uP, rfl, N1, ul, hT, hl, G2⟩ := k
    rw [G1.nxt] at hl
    have G3 := SH.updsN G1 [] ul rfl G2 [] trivial hl
    refine ⟨N1, _, G3, ?_⟩
    refine JO.step0 (AO1.st 2 rfl rfl rfl rfl rfl rfl (hT.ones _)) ?_
    repeat (first
        | refine JO.step (AO1.mv rfl) rfl ?_
        | refine JO.step (AO1.ncP rfl) rfl ?_
        | refine JO.step (AO1.fa rfl) rfl ?_
        | refine JO.nil ?_
        | refine JC.seq ?_
        | refine JC.reg ?_
        | refine JC.skip ?_
        | refine JC.blk ?_)
    exact ⟨rfl, (refC 5 ws, uO, uP, ul, N1), ⟨hT, fun q hq => Nat.le_trans (Nat.le_add_right _ 2) (hl q hq), rfl⟩, ⟨rfl, rfl, rfl, trivial⟩, rfl, HSub.refl _ _⟩
  have n5 : ¬ r = 5 := of_decide_eq_false n5
  repeat (first
      | refine JO.step (AO1.mv rfl) rfl ?_
      | refine JO.step (AO1.ncP rfl) rfl ?_
      | refine JO.step (AO1.fa rfl) rfl ?_
      | refine JO.nil ?_
      | refine JC.seq ?_
      | refine JC.reg ?_
      | refine JC.skip ?_
      | refine JC.blk ?_)
  refine JO.step (AO1.eq rfl rfl (eq_int _ _)) rfl ?_
  repeat (first
      | refine JO.step (AO1.mv rfl) rfl ?_
      | refine JO.step (AO1.ncP rfl) rfl ?_
      | refine JO.step (AO1.fa rfl) rfl ?_
      | refine JO.nil ?_
      | refine JC.seq ?_
      | refine JC.reg ?_
      | refine JC.skip ?_
      | refine JC.blk ?_)
  refine JC.cnd rfl (fun e1 => ?_) (fun n6 => ?_)
  · have e1 : r = 6 := of_decide_eq_true e1
    subst e1
    have hge : ¬ (ws.length : Int) < 7 := hge
    repeat (first
        | refine JO.step (AO1.mv rfl) rfl ?_
        | refine JO.step (AO1.ncP rfl) rfl ?_
        | refine JO.step (AO1.fa rfl) rfl ?_
        | refine JO.nil ?_
        | refine JC.seq ?_
        | refine JC.reg ?_
        | refine JC.skip ?_
        | refine JC.blk ?_)
    refine JO.call (fun _ _ => rfl) rfl rfl rfl (fun S1 G1 => node_c (cp := cp) ⟨G1.look (j := 0) rfl, R.le, R.ge⟩ (by omega)) (fun S1 G1 y S2 k => ?_) rfl
    obtain ⟨uO, uP, rfl, N1, ul, hT, hl, G2⟩ := k
    rw [G1.nxt] at hl
    have G3 := SH.updsN G1 [] ul rfl G2 [] trivial hl
    refine ⟨N1, _, G3, ?_⟩
    refine JO.step0 (AO1.st 2 rfl rfl rfl rfl rfl rfl (hT.ones _)) ?_
    repeat (first
        | refine JO.step (AO1.mv rfl) rfl ?_
        | refine JO.step (AO1.ncP rfl) rfl ?_
        | refine JO.step (AO1.fa rfl) rfl ?_
        | refine JO.nil ?_
        | refine JC.seq ?_
        | refine JC.reg ?_
        | refine JC.skip ?_
        | refine JC.blk ?_)
    exact ⟨rfl, (refC 6 ws, uO, uP, ul, N1), ⟨hT, fun q hq => Nat.le_trans (Nat.le_add_right _ 2) (hl q hq), rfl⟩, ⟨rfl, rfl, rfl, trivial⟩, rfl, HSub.refl _ _⟩
  have n6 : ¬ r = 6 := of_decide_eq_false n6
  repeat (first
      | refine JO.step (AO1.mv rfl) rfl ?_
      | refine JO.step (AO1.ncP rfl) rfl ?_
      | refine JO.step (AO1.fa rfl) rfl ?_
      | refine JO.nil ?_
      | refine JC.seq ?_
      | refine JC.reg ?_
      | refine JC.skip ?_
      | refine JC.blk ?_)
  refine JO.step (AO1.eq rfl rfl (eq_int _ _)) rfl ?_
  repeat (first
      | refine JO.step (AO1.mv rfl) rfl ?_
      | refine JO.step (AO1.ncP rfl) rfl ?_
      | refine JO.step (AO1.fa rfl) rfl ?_
      | refine JO.nil ?_
      | refine JC.seq ?_
      | refine JC.reg ?_
      | refine JC.skip ?_
      | refine JC.blk ?_)
  refine JC.cnd rfl (fun e1 => ?_) (fun n7 => ?_)
  · clear G
    have e1 : r = 7 := of_decide_eq_true e1
    subst e1
    have hge : ¬ (ws.length : Int) < 4 := hge
    repeat (first
        | refine JO.step (AO1.mv rfl) rfl ?_
        | refine JO.step (AO1.ncP rfl) rfl ?_
        | refine JO.step (AO1.fa rfl) rfl ?_
        | refine JO.nil ?_
        | refine JC.seq ?_
        | refine JC.reg ?_
        | refine JC.skip ?_
        | refine JC.blk ?_)
    refine JO.step (AO1.ldn 2 rfl rfl rfl rfl) rfl ?_
    repeat (first
        | refine JO.step (AO1.mv rfl) rfl ?_
        | refine JO.step (AO1.ncP rfl) rfl ?_
        | refine JO.step (AO1.fa rfl) rfl ?_
        | refine JO.nil ?_
        | refine JC.seq ?_
        | refine JC.reg ?_
        | refine JC.skip ?_
        | refine JC.blk ?_)
    refine JO.call (fun _ _ => rfl) rfl rfl rfl (fun S1 G1 => addIn (F := [(S.nxt, .row 0 [.sn, .sn, .i .i64 0]), (S.nxt + 1, .row 0 [.sn, .sn, .i .i64 0])]) (tl := []) (s := (false, [])) (vO := .sn) (vP := .sn) R .nil (fun _ h => by cases h) (Nat.zero_le _) 7 (i := 3) (by omega) true G1) (fun S1 G1 y S2 k => ?_) rfl
    obtain ⟨N1, uO, uP, ul, rfl, hT, hl, hN1, G2⟩ := k
    refine ⟨N1, _, G2, ?_⟩
    refine JO.step0 (AO1.st 2 rfl rfl rfl rfl rfl rfl (hT.ones _)) ?_
    repeat (first
        | refine JO.step (AO1.mv rfl) rfl ?_
        | refine JO.step (AO1.ncP rfl) rfl ?_
        | refine JO.step (AO1.fa rfl) rfl ?_
        | refine JO.nil ?_
        | refine JC.seq ?_
        | refine JC.reg ?_
        | refine JC.skip ?_
        | refine JC.blk ?_)
    exact ⟨rfl, (addR ws (false, []) (7, 3, true), uO, uP, ul, N1), ⟨hT, hl, rfl⟩, ⟨rfl, rfl, rfl, trivial⟩, rfl, HSub.refl _ _⟩
  have n7 : ¬ r = 7 := of_decide_eq_false n7
  repeat (first
      | refine JO.step (AO1.mv rfl) rfl ?_
      | refine JO.step (AO1.ncP rfl) rfl ?_
      | refine JO.step (AO1.fa rfl) rfl ?_
      | refine JO.nil ?_
      | refine JC.seq ?_
      | refine JC.reg ?_
      | refine JC.skip ?_
      | refine JC.blk ?_)
  refine JO.step (AO1.eq rfl rfl (eq_int _ _)) rfl ?_
  repeat (first
      | refine JO.step (AO1.mv rfl) rfl ?_
      | refine JO.step (AO1.ncP rfl) rfl ?_
      | refine JO.step (AO1.fa rfl) rfl ?_
      | refine JO.nil ?_
      | refine JC.seq ?_
      | refine JC.reg ?_
      | refine JC.skip ?_
      | refine JC.blk ?_)
  refine JC.cnd rfl (fun e1 => ?_) (fun n8 => ?_)
  · have e1 : r = 8 := of_decide_eq_true e1
    subst e1
    have hge : ¬ (ws.length : Int) < 1 := hge
    repeat (first
        | refine JO.step (AO1.mv rfl) rfl ?_
        | refine JO.step (AO1.ncP rfl) rfl ?_
        | refine JO.step (AO1.fa rfl) rfl ?_
        | refine JO.nil ?_
        | refine JC.seq ?_
        | refine JC.reg ?_
        | refine JC.skip ?_
        | refine JC.blk ?_)
    refine JO.call (fun _ _ => rfl) rfl rfl rfl (fun S1 G1 => tree_c (cp := cp) ⟨G1.look (j := 0) rfl, R.le, R.ge⟩ (by omega) hlen) (fun S1 G1 y S2 k => ?_) rfl
    obtain ⟨uO, uP, rfl, N1, ul, hT, hl, G2⟩ := k
    rw [G1.nxt] at hl
    have G3 := SH.updsN G1 [] ul rfl G2 [] trivial hl
    refine ⟨N1, _, G3, ?_⟩
    refine JO.step0 (AO1.st 2 rfl rfl rfl rfl rfl rfl (hT.ones _)) ?_
    repeat (first
        | refine JO.step (AO1.mv rfl) rfl ?_
        | refine JO.step (AO1.ncP rfl) rfl ?_
        | refine JO.step (AO1.fa rfl) rfl ?_
        | refine JO.nil ?_
        | refine JC.seq ?_
        | refine JC.reg ?_
        | refine JC.skip ?_
        | refine JC.blk ?_)
    exact ⟨rfl, (refC 8 ws, uO, uP, ul, N1), ⟨hT, fun q hq => Nat.le_trans (Nat.le_add_right _ 2) (hl q hq), rfl⟩, ⟨rfl, rfl, rfl, trivial⟩, rfl, HSub.refl _ _⟩
  have n8 : ¬ r = 8 := of_decide_eq_false n8
  repeat (first
      | refine JO.step (AO1.mv rfl) rfl ?_
      | refine JO.step (AO1.ncP rfl) rfl ?_
      | refine JO.step (AO1.fa rfl) rfl ?_
      | refine JO.nil ?_
      | refine JC.seq ?_
      | refine JC.reg ?_
      | refine JC.skip ?_
      | refine JC.blk ?_)
  refine ⟨rfl, ((false, []), .sn, .sn, [], S.nxt + 2), ⟨.nil, fun _ h => (by cases h), ?_⟩, ⟨rfl, rfl, rfl, trivial⟩, rfl, HSub.refl _ _⟩
  show fin (false, []) = fin (refC r ws)
  unfold refC
  rw [if_neg n1, if_neg n2, if_neg n4, if_neg n5, if_neg n6, if_neg n7, if_neg n8]
theorem refL_nil (S : St) (r : Int) : GCall PP 9 [.i .i64 r, .sn] S (Rn S r []) := by
  refine (JF (h := []) ok9 rfl (nothing rfl) List.nodup_nil (Φ := RnH S r []) ?_).mono fun y S' k => RnH.rn k
  intro G
  refine JC.seq ?_
  refine JC.reg ?_
  refine JO.step AO1.al rfl ?_
  repeat (first
      | refine JO.step (AO1.mv rfl) rfl ?_
      | refine JO.step (AO1.ncP rfl) rfl ?_
      | refine JO.step (AO1.fa rfl) rfl ?_
      | refine JO.nil ?_
      | refine JC.seq ?_
      | refine JC.reg ?_
      | refine JC.skip ?_
      | refine JC.blk ?_)
  refine JO.callP (y := .i .i64 (kindK r)) rfl rfl rfl (fun S1 _ => kindR_c S1 r) rfl ?_
  refine JO.step (AO1.eq rfl rfl (eq_int _ _)) rfl ?_
  repeat (first
      | refine JO.step (AO1.mv rfl) rfl ?_
      | refine JO.step (AO1.ncP rfl) rfl ?_
      | refine JO.step (AO1.fa rfl) rfl ?_
      | refine JO.nil ?_
      | refine JC.seq ?_
      | refine JC.reg ?_
      | refine JC.skip ?_
      | refine JC.blk ?_)
  refine JC.cnd rfl (fun hk => ?_) (fun hk => ?_)
  · have hk : knownK r = false := (kind_known r).1 (of_decide_eq_true hk)
    repeat (first
        | refine JO.step (AO1.mv rfl) rfl ?_
        | refine JO.step (AO1.ncP rfl) rfl ?_
        | refine JO.step (AO1.fa rfl) rfl ?_
        | refine JO.nil ?_
        | refine JC.seq ?_
        | refine JC.reg ?_
        | refine JC.skip ?_
        | refine JC.blk ?_)
    refine JO.step (AO1.bd rfl rfl) rfl ?_
    refine JO.step0 (AO1.st 0 rfl rfl rfl rfl rfl rfl rfl) ?_
    repeat (first
        | refine JO.step (AO1.mv rfl) rfl ?_
        | refine JO.step (AO1.ncP rfl) rfl ?_
        | refine JO.step (AO1.fa rfl) rfl ?_
        | refine JO.nil ?_
        | refine JC.seq ?_
        | refine JC.reg ?_
        | refine JC.skip ?_
        | refine JC.blk ?_)
    refine JC.ret ?_
    have e : resC r [] = (1, []) := by unfold resC; rw [if_pos hk]
    exact ⟨_, .cn 0 rfl rfl rfl rfl .nil, rfl, .sn, .sn, [], by rw [e]; rfl, by rw [e]; exact .nil, fun _ h => (by cases h), .drop (Nat.le_refl _) .nil⟩
  have hk : ¬ knownK r = false := fun q => (of_decide_eq_false hk) ((kind_known r).2 q)
  repeat (first
      | refine JO.step (AO1.mv rfl) rfl ?_
      | refine JO.step (AO1.ncP rfl) rfl ?_
      | refine JO.step (AO1.fa rfl) rfl ?_
      | refine JO.nil ?_
      | refine JC.seq ?_
      | refine JC.reg ?_
      | refine JC.skip ?_
      | refine JC.blk ?_)
  refine JO.step (AO1.lenSn rfl) rfl ?_
  repeat (first
      | refine JO.step (AO1.mv rfl) rfl ?_
      | refine JO.step (AO1.ncP rfl) rfl ?_
      | refine JO.step (AO1.fa rfl) rfl ?_
      | refine JO.nil ?_
      | refine JC.seq ?_
      | refine JC.reg ?_
      | refine JC.skip ?_
      | refine JC.blk ?_)
  refine JO.callP (y := .i .i64 (leastK r)) rfl rfl rfl (fun S1 _ => leastR_c S1 r) rfl ?_
  refine JO.step (AO1.bn rfl rfl (bin_lss _ _)) rfl ?_
  repeat (first
      | refine JO.step (AO1.mv rfl) rfl ?_
      | refine JO.step (AO1.ncP rfl) rfl ?_
      | refine JO.step (AO1.fa rfl) rfl ?_
      | refine JO.nil ?_
      | refine JC.seq ?_
      | refine JC.reg ?_
      | refine JC.skip ?_
      | refine JC.blk ?_)
  refine JC.cnd rfl (fun hlt => ?_) (fun hge => ?_)
  · have hlt : (0 : Int) < leastK r := of_decide_eq_true hlt
    repeat (first
        | refine JO.step (AO1.mv rfl) rfl ?_
        | refine JO.step (AO1.ncP rfl) rfl ?_
        | refine JO.step (AO1.fa rfl) rfl ?_
        | refine JO.nil ?_
        | refine JC.seq ?_
        | refine JC.reg ?_
        | refine JC.skip ?_
        | refine JC.blk ?_)
    refine JO.step (AO1.bd rfl rfl) rfl ?_
    refine JO.step0 (AO1.st 0 rfl rfl rfl rfl rfl rfl rfl) ?_
    repeat (first
        | refine JO.step (AO1.mv rfl) rfl ?_
        | refine JO.step (AO1.ncP rfl) rfl ?_
        | refine JO.step (AO1.fa rfl) rfl ?_
        | refine JO.nil ?_
        | refine JC.seq ?_
        | refine JC.reg ?_
        | refine JC.skip ?_
        | refine JC.blk ?_)
    refine JC.ret ?_
    have e : resC r [] = (3, []) := by unfold resC; rw [if_neg hk, if_pos (show (([] : List Int).length : Int) < leastK r from hlt)]
    exact ⟨_, .cn 0 rfl rfl rfl rfl .nil, rfl, .sn, .sn, [], by rw [e]; rfl, by rw [e]; exact .nil, fun _ h => (by cases h), .drop (Nat.le_refl _) .nil⟩
  have hge : ¬ (0 : Int) < leastK r := of_decide_eq_false hge
  have h3 : r = 3 := by
    unfold leastK at hge
    repeat' split at hge
    all_goals omega
  subst h3
  repeat (first
      | refine JO.step (AO1.mv rfl) rfl ?_
      | refine JO.step (AO1.ncP rfl) rfl ?_
      | refine JO.step (AO1.fa rfl) rfl ?_
      | refine JO.nil ?_
      | refine JC.seq ?_
      | refine JC.reg ?_
      | refine JC.skip ?_
      | refine JC.blk ?_)
  refine JO.step AO1.al rfl ?_
  repeat (first
      | refine JO.step (AO1.mv rfl) rfl ?_
      | refine JO.step (AO1.ncP rfl) rfl ?_
      | refine JO.step (AO1.fa rfl) rfl ?_
      | refine JO.nil ?_
      | refine JC.seq ?_
      | refine JC.reg ?_
      | refine JC.skip ?_
      | refine JC.blk ?_)
  refine JO.step (AO1.eq (t := false) rfl rfl rfl) rfl ?_
  repeat (first
      | refine JO.step (AO1.mv rfl) rfl ?_
      | refine JO.step (AO1.ncP rfl) rfl ?_
      | refine JO.step (AO1.fa rfl) rfl ?_
      | refine JO.nil ?_
      | refine JC.seq ?_
      | refine JC.reg ?_
      | refine JC.skip ?_
      | refine JC.blk ?_)
  refine JC.cnd rfl (fun h => by cases h) (fun _ => ?_)
  repeat (first
      | refine JO.step (AO1.mv rfl) rfl ?_
      | refine JO.step (AO1.ncP rfl) rfl ?_
      | refine JO.step (AO1.fa rfl) rfl ?_
      | refine JO.nil ?_
      | refine JC.seq ?_
      | refine JC.reg ?_
      | refine JC.skip ?_
      | refine JC.blk ?_)
  refine JO.step (AO1.eq (t := false) rfl rfl rfl) rfl ?_
  repeat (first
      | refine JO.step (AO1.mv rfl) rfl ?_
      | refine JO.step (AO1.ncP rfl) rfl ?_
      | refine JO.step (AO1.fa rfl) rfl ?_
      | refine JO.nil ?_
      | refine JC.seq ?_
      | refine JC.reg ?_
      | refine JC.skip ?_
      | refine JC.blk ?_)
  refine JC.cnd rfl (fun h => by cases h) (fun _ => ?_)
  repeat (first
      | refine JO.step (AO1.mv rfl) rfl ?_
      | refine JO.step (AO1.ncP rfl) rfl ?_
      | refine JO.step (AO1.fa rfl) rfl ?_
      | refine JO.nil ?_
      | refine JC.seq ?_
      | refine JC.reg ?_
      | refine JC.skip ?_
      | refine JC.blk ?_)
  refine JO.step (AO1.eq (t := false) rfl rfl rfl) rfl ?_
  repeat (first
      | refine JO.step (AO1.mv rfl) rfl ?_
      | refine JO.step (AO1.ncP rfl) rfl ?_
      | refine JO.step (AO1.fa rfl) rfl ?_
      | refine JO.nil ?_
      | refine JC.seq ?_
      | refine JC.reg ?_
      | refine JC.skip ?_
      | refine JC.blk ?_)
  refine JC.cnd rfl (fun h => by cases h) (fun _ => ?_)
  repeat (first
      | refine JO.step (AO1.mv rfl) rfl ?_
      | refine JO.step (AO1.ncP rfl) rfl ?_
      | refine JO.step (AO1.fa rfl) rfl ?_
      | refine JO.nil ?_
      | refine JC.seq ?_
      | refine JC.reg ?_
      | refine JC.skip ?_
      | refine JC.blk ?_)
  refine JO.step (AO1.eq (t := false) rfl rfl rfl) rfl ?_
  repeat (first
      | refine JO.step (AO1.mv rfl) rfl ?_
      | refine JO.step (AO1.ncP rfl) rfl ?_
      | refine JO.step (AO1.fa rfl) rfl ?_
      | refine JO.nil ?_
      | refine JC.seq ?_
      | refine JC.reg ?_
      | refine JC.skip ?_
      | refine JC.blk ?_)
  refine JC.cnd rfl (fun h => by cases h) (fun _ => ?_)
  repeat (first
      | refine JO.step (AO1.mv rfl) rfl ?_
      | refine JO.step (AO1.ncP rfl) rfl ?_
      | refine JO.step (AO1.fa rfl) rfl ?_
      | refine JO.nil ?_
      | refine JC.seq ?_
      | refine JC.reg ?_
      | refine JC.skip ?_
      | refine JC.blk ?_)
  refine JO.step (AO1.eq (t := false) rfl rfl rfl) rfl ?_
  repeat (first
      | refine JO.step (AO1.mv rfl) rfl ?_
      | refine JO.step (AO1.ncP rfl) rfl ?_
      | refine JO.step (AO1.fa rfl) rfl ?_
      | refine JO.nil ?_
      | refine JC.seq ?_
      | refine JC.reg ?_
      | refine JC.skip ?_
      | refine JC.blk ?_)
  refine JC.cnd rfl (fun h => by cases h) (fun _ => ?_)
  repeat (first
      | refine JO.step (AO1.mv rfl) rfl ?_
      | refine JO.step (AO1.ncP rfl) rfl ?_
      | refine JO.step (AO1.fa rfl) rfl ?_
      | refine JO.nil ?_
      | refine JC.seq ?_
      | refine JC.reg ?_
      | refine JC.skip ?_
      | refine JC.blk ?_)
  refine JO.step (AO1.eq (t := false) rfl rfl rfl) rfl ?_
  repeat (first
      | refine JO.step (AO1.mv rfl) rfl ?_
      | refine JO.step (AO1.ncP rfl) rfl ?_
      | refine JO.step (AO1.fa rfl) rfl ?_
      | refine JO.nil ?_
      | refine JC.seq ?_
      | refine JC.reg ?_
      | refine JC.skip ?_
      | refine JC.blk ?_)
  refine JC.cnd rfl (fun h => by cases h) (fun _ => ?_)
  repeat (first
      | refine JO.step (AO1.mv rfl) rfl ?_
      | refine JO.step (AO1.ncP rfl) rfl ?_
      | refine JO.step (AO1.fa rfl) rfl ?_
      | refine JO.nil ?_
      | refine JC.seq ?_
      | refine JC.reg ?_
      | refine JC.skip ?_
      | refine JC.blk ?_)
  refine JO.step (AO1.eq (t := false) rfl rfl rfl) rfl ?_
  repeat (first
      | refine JO.step (AO1.mv rfl) rfl ?_
      | refine JO.step (AO1.ncP rfl) rfl ?_
      | refine JO.step (AO1.fa rfl) rfl ?_
      | refine JO.nil ?_
      | refine JC.seq ?_
      | refine JC.reg ?_
      | refine JC.skip ?_
      | refine JC.blk ?_)
  refine JC.cnd rfl (fun h => by cases h) (fun _ => ?_)
  repeat (first
      | refine JO.step (AO1.mv rfl) rfl ?_
      | refine JO.step (AO1.ncP rfl) rfl ?_
      | refine JO.step (AO1.fa rfl) rfl ?_
      | refine JO.nil ?_
      | refine JC.seq ?_
      | refine JC.reg ?_
      | refine JC.skip ?_
      | refine JC.blk ?_)
  refine JO.step (AO1.ld1 1 rfl rfl rfl) rfl ?_
  refine JO.step (AO1.eq (t := true) rfl rfl rfl) rfl ?_
  repeat (first
      | refine JO.step (AO1.mv rfl) rfl ?_
      | refine JO.step (AO1.ncP rfl) rfl ?_
      | refine JO.step (AO1.fa rfl) rfl ?_
      | refine JO.nil ?_
      | refine JC.seq ?_
      | refine JC.reg ?_
      | refine JC.skip ?_
      | refine JC.blk ?_)
  refine JC.cnd rfl (fun h => by cases h) (fun _ => ?_)
  repeat (first
      | refine JO.step (AO1.mv rfl) rfl ?_
      | refine JO.step (AO1.ncP rfl) rfl ?_
      | refine JO.step (AO1.fa rfl) rfl ?_
      | refine JO.nil ?_
      | refine JC.seq ?_
      | refine JC.reg ?_
      | refine JC.skip ?_
      | refine JC.blk ?_)
  refine JO.step (AO1.ldn 1 rfl rfl rfl rfl) rfl ?_
  refine JO.step0 (AO1.st 0 rfl rfl rfl rfl rfl rfl rfl) ?_
  repeat (first
      | refine JO.step (AO1.mv rfl) rfl ?_
      | refine JO.step (AO1.ncP rfl) rfl ?_
      | refine JO.step (AO1.fa rfl) rfl ?_
      | refine JO.nil ?_
      | refine JC.seq ?_
      | refine JC.reg ?_
      | refine JC.skip ?_
      | refine JC.blk ?_)
  refine JC.ret ?_
  exact ⟨_, .cn 0 rfl rfl rfl rfl .nil, rfl, .sn, .sn, [], rfl, .nil, fun _ h => (by cases h), .drop (Nat.le_refl _) (.drop (Nat.le_succ _) .nil)⟩
theorem refL_c {S : St} {v : AV} {ws : List Int} (h : WV S v ws) (hlen : ws.length ≤ 1000) (r : Int) : GCall PP 9 [.i .i64 r, v] S (Rn S r ws) := by
  cases h with
  | nil => exact refL_nil S r
  | sl h6 R => exact refL_sl R hlen r
end L32
end Go.Ev
namespace Go.Ev
open Go Go.Proofs
namespace L32
set_option maxRecDepth 100000
theorem RoB.rows {l : List AV} {m : Nat} (h : ∀ a ∈ l, pureA a = true ∨ ∃ b, b < m ∧ a = .m b) : RoB m (rowOf 2 l) := ⟨rfl, fun i _ a ha => by
  rw [T.get_ofList] at ha
  exact h a (List.mem_of_getElem? ha)⟩
theorem pure_ints {l : List Int} {k : IntKind} {m : Nat} : ∀ a ∈ (l.map fun n => AV.i k n), pureA a = true ∨ ∃ b, b < m ∧ a = .m b := fun a ha => by
  obtain ⟨z, _, rfl⟩ := List.mem_map.1 ha
  exact .inl rfl
theorem sanity_c {S : St} (g : Glob S) : GCall PP 6 [] S (isV (.b true) S) := by
  obtain ⟨b, c, k⟩ := g
  obtain ⟨S2, e⟩ := isT_eq (sanity_run b c)
  have h1 : GCall PP 6 [] (S1 b c) (isV (.b true) S2) := evF_ok fuel (.call 6 []) (S1 b c) (.b true) S2 e
  refine (h1.pure (S := S) rfl (fun y' S' k => by obtain ⟨rfl, rfl⟩ := k; rfl) (fun β x e => ?_) (fun β hβ => ?_) (by show Tryz.prog.globals.size ≤ 6; exact of_decide_eq_true (by kernel_rfl))).mono fun y' S' k => ?_
  · have e : (G1 b c).get β = some x := e
    have hlt : β < 6 := by
      rcases Nat.lt_or_ge β 6 with q | q
      · exact q
      · rw [show (G1 b c).get β = none by unfold G1; rw [T.get_ofList, List.getElem?_eq_none (by simpa using q)]] at e; cases e
    refine ⟨?_, x, by rw [k β hlt]; exact e, Blk.le.refl x⟩
    unfold G1 at e
    rw [T.get_ofList] at e
    match β, hlt with
    | 0, _ => cases e; exact RoB.rows fun a ha => .inr ⟨5, by show 5 < 6; omega, List.mem_singleton.1 ha⟩
    | 1, _ => cases e; exact RoB.rows pure_ints
    | 2, _ => cases e; exact RoB.rows pure_ints
    | 3, _ => cases e; exact RoB.rows pure_ints
    | 4, _ => cases e; exact RoB.rows (l := tabA) pure_ints
    | 5, _ =>
      cases e
      intro e he
      simp only [kindsE, List.mem_cons, List.not_mem_nil, or_false] at he
      rcases he with rfl | rfl | rfl | rfl | rfl | rfl | rfl | rfl <;> exact ⟨rfl, rfl⟩
  · show (G1 b c).get β = none
    unfold G1
    have hβ : 6 ≤ β := hβ
    rw [T.get_ofList, List.getElem?_eq_none (by simpa using hβ)]
  · obtain ⟨rfl, S3, rfl, _⟩ := k
    exact ⟨rfl, rfl⟩
end L32
end Go.Ev
namespace Go.Ev
open Go Go.Proofs
namespace L32
set_option maxRecDepth 100000
theorem linksC_len (r : Int) (ws : List Int) : (linksC r ws).2.length ≤ 1000 := by
  have key : ∀ (is : List Ins) (n : Nat), is.length ≤ n → n ≤ 1000 → (runI ws (false, []) is).2.length ≤ 1000 := fun is n h1 h2 => by
    have := runI_len ws is (false, [])
    simp only [List.length_nil] at this
    omega
  unfold linksC
  split
  · exact key _ 1 (Nat.le_refl _) (by omega)
  split
  · split
    · rename_i h
      exact key _ (3 * 8) (Nat.le_trans (upto_len _ 3 (fun i => Nat.le_refl _) _) (by omega)) (by omega)
    · exact Nat.zero_le _
  split
  · split
    · rename_i h
      refine key _ 5 ?_ (by omega)
      have := upto_len (fun i => [((8 : Int), 4 + i, true)]) 1 (fun i => Nat.le_refl _) (ws.getD 3 0).toNat
      show (tabI (ws.getD 3 0).toNat).length + 1 ≤ 5
      unfold tabI
      omega
    · exact Nat.zero_le _
  split
  · split
    · rename_i h
      exact key _ (1 * 126) (Nat.le_trans (upto_len _ 1 (fun i => Nat.le_refl _) _) (by omega)) (by omega)
    · exact Nat.zero_le _
  split
  · refine key _ 4 ?_ (by omega)
    have := upto_len (fun i => if ws.getD (1 + 2 * i) 0 = 0 then [] else [((7 : Int), 2 + 2 * i, false)]) 1 (fun i => by split <;> simp) 3
    show (nodI ws 3).length + 1 ≤ 4
    unfold nodI
    omega
  split
  · exact key _ 1 (Nat.le_refl _) (by omega)
  split
  · split
    · exact key _ 2 (Nat.le_refl _) (by omega)
    · exact Nat.zero_le _
  exact Nat.zero_le _
theorem resC_len (r : Int) (ws : List Int) : (resC r ws).2.length ≤ 1000 := by
  unfold resC fin
  repeat' split
  all_goals first | exact Nat.zero_le _ | exact linksC_len r ws
theorem Tl.views {S : St} {l : LL} {u v : AV} {tl : Hp} (hT : Tl l u v tl) (hg : ∀ p ∈ tl, p.2.at (S.heap.get p.1)) : ∃ ia ib, OV S l u ia ∧ PV S l v ib ∧ (∀ a ∈ ia, a ∈ ids tl) ∧ ∀ b ∈ ib, b ∈ ids tl := by
  cases hT with
  | nil => exact ⟨[], [], .nil rfl, .nil rfl, fun a ha => (by cases ha), fun a ha => (by cases ha)⟩
  | row hl =>
    rename_i A B
    exact ⟨[A], [B], .sl (hg (A, .row 5 (flat2 l)) (List.mem_cons_self ..)), .sl (hg (B, .row 4 (flat1 l)) (List.mem_cons_of_mem _ (List.mem_cons_self ..))), fun a ha => by rw [List.mem_singleton.1 ha]; exact List.mem_cons_self .., fun a ha => by rw [List.mem_singleton.1 ha]; exact List.mem_cons_of_mem _ (List.mem_cons_self ..)⟩
theorem Tl.nils {l : LL} {u v u' v' : AV} {tl tl' : Hp} (h : Tl l u v tl) (h' : Tl l u' v' tl') : (u = .sn ↔ u' = .sn) ∧ (v = .sn ↔ v' = .sn) := by
  cases h with
  | nil => cases h' with
    | nil => exact ⟨Iff.rfl, Iff.rfl⟩
    | row hl => exact absurd rfl hl
  | row hl => cases h' with
    | nil => exact absurd rfl hl
    | row _ => exact ⟨⟨fun e => (by cases e), fun e => (by cases e)⟩, ⟨fun e => (by cases e), fun e => (by cases e)⟩⟩
theorem Tl.one3 {l : LL} {u v : AV} {tl : Hp} (h : Tl l u v tl) (n : Int) : Go.Ev.ones [u, v, .i .i64 n] = true := by cases h <;> rfl
theorem lenWV {S S0 : St} {v : AV} {ws : List Int} (h : WV S v ws) {q : Option AV} {l : Fr} {N : Nat} {hp : Hp} {a : Opd} (ha : opdL l a = some v) : AO1 S0 q (.bi (.len none 4) [a]) l N hp (.i .i64 (.ofNat ws.length)) N hp := by
  cases h with
  | nil => exact AO1.lenSn ha
  | sl _ _ => exact AO1.lenSlc ha
theorem eq_self (n : Int) : eqT 1 (.i .i64 n) (.i .i64 n) = some true := by rw [eq_int]; simp
theorem law_c {S : St} (g : Glob S) {v : AV} {ws : List Int} (h : WV S v ws) (r : Int) : GCall PP 3 [.i .i64 r, v] S (isV (.b true) S) := by
  refine GCall.still (JF (h := []) ok3 rfl (nothing rfl) List.nodup_nil ?_) rfl
  intro G
  repeat (first
      | refine JO.step (AO1.mv rfl) rfl ?_
      | refine JO.step (AO1.ncP rfl) rfl ?_
      | refine JO.step (AO1.fa rfl) rfl ?_
      | refine JO.nil ?_
      | refine JC.seq ?_
      | refine JC.reg ?_
      | refine JC.skip ?_
      | refine JC.blk ?_)
  refine JO.step (lenWV h rfl) rfl ?_
  refine JO.step (AO1.bn rfl rfl (bin_gtr _ _)) rfl ?_
  repeat (first
      | refine JO.step (AO1.mv rfl) rfl ?_
      | refine JO.step (AO1.ncP rfl) rfl ?_
      | refine JO.step (AO1.fa rfl) rfl ?_
      | refine JO.nil ?_
      | refine JC.seq ?_
      | refine JC.reg ?_
      | refine JC.skip ?_
      | refine JC.blk ?_)
  refine JC.cnd rfl (fun hgt => ?_) (fun hle => ?_)
  · repeat (first
        | refine JO.step (AO1.mv rfl) rfl ?_
        | refine JO.step (AO1.ncP rfl) rfl ?_
        | refine JO.step (AO1.fa rfl) rfl ?_
        | refine JO.nil ?_
        | refine JC.seq ?_
        | refine JC.reg ?_
        | refine JC.skip ?_
        | refine JC.blk ?_)
    refine JO.callP (y := .b true) rfl rfl rfl (fun S1 G1 => sanity_c (g.keep G1 nohp)) rfl ?_
    repeat (first
        | refine JO.step (AO1.mv rfl) rfl ?_
        | refine JO.step (AO1.ncP rfl) rfl ?_
        | refine JO.step (AO1.fa rfl) rfl ?_
        | refine JO.nil ?_
        | refine JC.seq ?_
        | refine JC.reg ?_
        | refine JC.skip ?_
        | refine JC.blk ?_)
    refine JC.ret ?_
    exact ⟨_, .t rfl .nil, rfl, rfl, .nil⟩
  have hle : ¬ (140 : Int) < (ws.length : Int) := of_decide_eq_false hle
  repeat (first
      | refine JO.step (AO1.mv rfl) rfl ?_
      | refine JO.step (AO1.ncP rfl) rfl ?_
      | refine JO.step (AO1.fa rfl) rfl ?_
      | refine JO.nil ?_
      | refine JC.seq ?_
      | refine JC.reg ?_
      | refine JC.skip ?_
      | refine JC.blk ?_)
  refine JO.call (fun _ _ => rfl) rfl rfl rfl (fun S1 G1 => links7 (g.keep G1 nohp) (h.keep G1 nohp) r) (fun S1 G1 y S2 k => ?_) rfl
  obtain ⟨aO, aP, rfl, N1, t1, hT1, hl1, G2⟩ := k
  rw [G1.nxt] at hl1
  refine ⟨N1, t1, trans0 G1 G2, ?_⟩
  clear G1 G2 S1 S2
  repeat (first
      | refine JO.step (AO1.mv rfl) rfl ?_
      | refine JO.step (AO1.ncP rfl) rfl ?_
      | refine JO.step (AO1.fa rfl) rfl ?_
      | refine JO.nil ?_
      | refine JC.seq ?_
      | refine JC.reg ?_
      | refine JC.skip ?_
      | refine JC.blk ?_)
  refine JO.step (AO1.ex rfl rfl) rfl ?_
  refine JO.step (AO1.ex rfl rfl) rfl ?_
  repeat (first
      | refine JO.step (AO1.mv rfl) rfl ?_
      | refine JO.step (AO1.ncP rfl) rfl ?_
      | refine JO.step (AO1.fa rfl) rfl ?_
      | refine JO.nil ?_
      | refine JC.seq ?_
      | refine JC.reg ?_
      | refine JC.skip ?_
      | refine JC.blk ?_)
  refine JO.call (fun _ _ => rfl) rfl rfl rfl (fun S1 G1 => places8 (g.keep G1 hl1) (h.keep G1 hl1) r) (fun S1 G1 y S2 k => ?_) rfl
  obtain ⟨bO, bP, rfl, N2, t2, hT2, hl2, G2⟩ := k
  rw [G1.nxt] at hl2
  have hN1 : S.nxt ≤ N1 := G1.le
  refine ⟨N2, t1 ++ t2, SH.updsN G1 [] t2 rfl G2 [] trivial hl2, ?_⟩
  have hl12 : ∀ p ∈ t1 ++ t2, S.nxt ≤ p.1 := fun p hp => (List.mem_append.1 hp).elim (hl1 p) fun q => Nat.le_trans hN1 (hl2 p q)
  clear G1 G2 S1 S2
  repeat (first
      | refine JO.step (AO1.mv rfl) rfl ?_
      | refine JO.step (AO1.ncP rfl) rfl ?_
      | refine JO.step (AO1.fa rfl) rfl ?_
      | refine JO.nil ?_
      | refine JC.seq ?_
      | refine JC.reg ?_
      | refine JC.skip ?_
      | refine JC.blk ?_)
  refine JO.step (AO1.ex rfl rfl) rfl ?_
  refine JO.step (AO1.ex rfl rfl) rfl ?_
  repeat (first
      | refine JO.step (AO1.mv rfl) rfl ?_
      | refine JO.step (AO1.ncP rfl) rfl ?_
      | refine JO.step (AO1.fa rfl) rfl ?_
      | refine JO.nil ?_
      | refine JC.seq ?_
      | refine JC.reg ?_
      | refine JC.skip ?_
      | refine JC.blk ?_)
  refine JO.call (fun _ _ => rfl) rfl rfl rfl (fun S1 G1 => refL_c (h.keep G1 hl12) (by omega) r) (fun S1 G1 y S2 k => ?_) rfl
  obtain ⟨cO, cP, rfl, N3, t3, hT3, hl3, G2⟩ := k
  rw [G1.nxt] at hl3
  have hN2 : S.nxt ≤ N2 := G1.le
  refine ⟨N3, t1 ++ t2 ++ t3, SH.updsN G1 [] t3 rfl G2 [] trivial hl3, ?_⟩
  have hl123 : ∀ p ∈ t1 ++ t2 ++ t3, S.nxt ≤ p.1 := fun p hp => (List.mem_append.1 hp).elim (hl12 p) fun q => Nat.le_trans hN2 (hl3 p q)
  have hN3 : S.nxt ≤ N3 := by have := G2.le; rw [G1.nxt] at this; omega
  clear G1 G2 S1 S2
  refine JO.step AO1.al rfl ?_
  refine JO.perm (h2 := (N3, .row 0 [.sn, .sn, .i .i64 0]) :: (t1 ++ t2 ++ t3)) (by exact List.perm_append_singleton (N3, HB.row 0 [.sn, .sn, .i .i64 0]) (t1 ++ t2 ++ t3)) ?_
  refine JO.step0 (AO1.st 0 rfl rfl rfl rfl rfl rfl (hT3.one3 _)) ?_
  repeat (first
      | refine JO.step (AO1.mv rfl) rfl ?_
      | refine JO.step (AO1.ncP rfl) rfl ?_
      | refine JO.step (AO1.fa rfl) rfl ?_
      | refine JO.nil ?_
      | refine JC.seq ?_
      | refine JC.reg ?_
      | refine JC.skip ?_
      | refine JC.blk ?_)
  have hall : ∀ p ∈ (N3, HB.row 0 [cO, cP, .i .i64 (resC r ws).1]) :: (t1 ++ t2 ++ t3), S.nxt ≤ p.1 := fun p hp => by
    rcases List.mem_cons.1 hp with rfl | hp
    · exact hN3
    · exact hl123 p hp
  refine JO.callP (y := .b true) rfl rfl rfl (fun S1 G1 => sanity_c (g.keep (h := (N3, HB.row 0 [cO, cP, .i .i64 (resC r ws).1]) :: (t1 ++ t2 ++ t3)) G1 hall)) rfl ?_
  repeat (first
      | refine JO.step (AO1.mv rfl) rfl ?_
      | refine JO.step (AO1.ncP rfl) rfl ?_
      | refine JO.step (AO1.fa rfl) rfl ?_
      | refine JO.nil ?_
      | refine JC.seq ?_
      | refine JC.reg ?_
      | refine JC.skip ?_
      | refine JC.blk ?_)
  refine JO.stepT rfl rfl (AO1.mv rfl) rfl ?_
  refine JO.callPT (y := .i .i64 (kindK r)) rfl rfl rfl rfl rfl (fun S1 G1 => kind_c (g.keep (h := (N3, HB.row 0 [cO, cP, .i .i64 (resC r ws).1]) :: (t1 ++ t2 ++ t3)) G1 hall) r) rfl ?_
  refine JO.stepT rfl rfl (AO1.mv rfl) rfl ?_
  refine JO.callPT (y := .i .i64 (kindK r)) rfl rfl rfl rfl rfl (fun S1 _ => kindR_c S1 r) rfl ?_
  refine JO.stepT rfl rfl (AO1.eq (t := true) rfl rfl (eq_self _)) rfl ?_
  refine JO.step (AO1.pkT rfl rfl) rfl ?_
  repeat (first
      | refine JO.step (AO1.mv rfl) rfl ?_
      | refine JO.step (AO1.ncP rfl) rfl ?_
      | refine JO.step (AO1.fa rfl) rfl ?_
      | refine JO.nil ?_
      | refine JC.seq ?_
      | refine JC.reg ?_
      | refine JC.skip ?_
      | refine JC.blk ?_)
  refine JO.stepT rfl rfl (AO1.mv rfl) rfl ?_
  refine JO.stepT rfl rfl (AO1.fa rfl) rfl ?_
  refine JO.stepT rfl rfl (AO1.ld1 0 rfl rfl rfl) rfl ?_
  refine JO.stepT rfl rfl (AO1.eq (t := true) rfl rfl (eq_self _)) rfl ?_
  refine JO.step (AO1.pkT rfl rfl) rfl ?_
  repeat (first
      | refine JO.step (AO1.mv rfl) rfl ?_
      | refine JO.step (AO1.ncP rfl) rfl ?_
      | refine JO.step (AO1.fa rfl) rfl ?_
      | refine JO.nil ?_
      | refine JC.seq ?_
      | refine JC.reg ?_
      | refine JC.skip ?_
      | refine JC.blk ?_)
  refine JO.stepT rfl rfl (AO1.mv rfl) rfl ?_
  refine JO.stepT rfl rfl (AO1.fa rfl) rfl ?_
  refine JO.stepT rfl rfl (AO1.ld1 0 rfl rfl rfl) rfl ?_
  refine JO.stepT rfl rfl (AO1.eq (t := true) rfl rfl (eq_self _)) rfl ?_
  refine JO.step (AO1.pkT rfl rfl) rfl ?_
  repeat (first
      | refine JO.step (AO1.mv rfl) rfl ?_
      | refine JO.step (AO1.ncP rfl) rfl ?_
      | refine JO.step (AO1.fa rfl) rfl ?_
      | refine JO.nil ?_
      | refine JC.seq ?_
      | refine JC.reg ?_
      | refine JC.skip ?_
      | refine JC.blk ?_)
  refine JO.stepT rfl rfl (AO1.mv rfl) rfl ?_
  refine JO.stepT rfl rfl (AO1.fa rfl) rfl ?_
  refine JO.stepT rfl rfl (AO1.ld1 0 rfl rfl rfl) rfl ?_
  have hdis : ∀ {S1 : St} {N : Nat}, SH S N ((N3, HB.row 0 [cO, cP, .i .i64 (resC r ws).1]) :: (t1 ++ t2 ++ t3)) S1 → (∀ a ∈ ids t1, ∀ b ∈ ids t3, a ≠ b) ∧ (∀ a ∈ ids t2, ∀ b ∈ ids t3, a ≠ b) ∧ (∀ p ∈ t1, p.2.at (S1.heap.get p.1)) ∧ (∀ p ∈ t2, p.2.at (S1.heap.get p.1)) ∧ ∀ p ∈ t3, p.2.at (S1.heap.get p.1) := fun {S1 N} G1 => by
    have hd := G1.dis
    rw [List.map_cons, List.map_append, List.map_append, List.nodup_cons, List.nodup_append] at hd
    refine ⟨fun a ha b hb => hd.2.2.2 a (List.mem_append_left _ ha) b hb, fun a ha b hb => hd.2.2.2 a (List.mem_append_right _ ha) b hb, fun p hp => G1.get p ?_, fun p hp => G1.get p ?_, fun p hp => G1.get p ?_⟩
    · exact List.mem_cons_of_mem _ (List.mem_append_left _ (List.mem_append_left _ hp))
    · exact List.mem_cons_of_mem _ (List.mem_append_left _ (List.mem_append_right _ hp))
    · exact List.mem_cons_of_mem _ (List.mem_append_right _ hp)
  refine JO.callPT (y := .b true) rfl rfl rfl rfl rfl (fun S1 G1 => ?_) rfl ?_
  · obtain ⟨d1, d2, k1, k2, k3⟩ := hdis G1
    obtain ⟨ia, _, w1, _, i1, _⟩ := hT1.views k1
    obtain ⟨ib, _, w2, _, i2, _⟩ := hT3.views k3
    exact same_links (resC_len r ws) w1 w2 (fun a ha b hb => d1 a (i1 a ha) b (i2 b hb)) (hT1.nils hT3).1
  refine JO.step (AO1.pkT rfl rfl) rfl ?_
  repeat (first
      | refine JO.step (AO1.mv rfl) rfl ?_
      | refine JO.step (AO1.ncP rfl) rfl ?_
      | refine JO.step (AO1.fa rfl) rfl ?_
      | refine JO.nil ?_
      | refine JC.seq ?_
      | refine JC.reg ?_
      | refine JC.skip ?_
      | refine JC.blk ?_)
  refine JO.stepT rfl rfl (AO1.mv rfl) rfl ?_
  refine JO.stepT rfl rfl (AO1.fa rfl) rfl ?_
  refine JO.stepT rfl rfl (AO1.ld1 0 rfl rfl rfl) rfl ?_
  refine JO.callPT (y := .b true) rfl rfl rfl rfl rfl (fun S1 G1 => ?_) rfl ?_
  · obtain ⟨d1, d2, k1, k2, k3⟩ := hdis G1
    obtain ⟨_, ia, _, w1, _, i1⟩ := hT2.views k2
    obtain ⟨_, ib, _, w2, _, i2⟩ := hT3.views k3
    exact same_ints (resC_len r ws) w1 w2 (fun a ha b hb => d2 a (i1 a ha) b (i2 b hb)) (hT2.nils hT3).2
  refine JO.step (AO1.pkT rfl rfl) rfl ?_
  repeat (first
      | refine JO.step (AO1.mv rfl) rfl ?_
      | refine JO.step (AO1.ncP rfl) rfl ?_
      | refine JO.step (AO1.fa rfl) rfl ?_
      | refine JO.nil ?_
      | refine JC.seq ?_
      | refine JC.reg ?_
      | refine JC.skip ?_
      | refine JC.blk ?_)
  refine JC.ret ?_
  exact ⟨_, .t rfl .nil, rfl, rfl, HSub.drops hall⟩
end L32
end Go.Ev
