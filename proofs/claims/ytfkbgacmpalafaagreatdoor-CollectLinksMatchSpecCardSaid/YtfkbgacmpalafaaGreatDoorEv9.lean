/-
  Links and its reference.
-/
import Derived.Test.YtfkbgacmpalafaaGreatDoorEv8
namespace Go.Ev
open Go Go.Proofs
namespace L32
set_option maxRecDepth 100000
theorem E36.bk {r : Int} {p : P36} {S : St} {x : X} {l : Fr} {N : Nat} {h : Hp} (k : E36 r p S x l N h) : bkP 0 (E36 r p S) x l N h := by
  obtain ⟨rfl, k⟩ := k; exact ⟨rfl, k⟩
/-- what links leaves -/
def Ln (S : St) (r : Int) (ws : List Int) (y : AV) (S' : St) : Prop := ∃ vO vP, y = .tu [vO, vP, .i .i64 (resC r ws).1] ∧ Two S (resC r ws).2 vO vP S'
def LnH (S : St) (r : Int) (ws : List Int) (y : AV) (_ : Nat) (h' : Hp) : Prop := ∃ vO vP tl, y = .tu [vO, vP, .i .i64 (resC r ws).1] ∧ Tl (resC r ws).2 vO vP tl ∧ (∀ p ∈ tl, S.nxt ≤ p.1) ∧ HSub S h' tl
theorem LnH.ln {S : St} {r : Int} {ws : List Int} {y : AV} {S' : St} (k : ∃ N' h', SH S N' h' S' ∧ LnH S r ws y N' h') : Ln S r ws y S' := by
  obtain ⟨N', h', G, vO, vP, tl, e, hT, hl, hs⟩ := k
  exact ⟨vO, vP, e, N', tl, hT, hl, G.sub hs⟩
theorem HSub.drops {S : St} : ∀ {u : Hp}, (∀ p ∈ u, S.nxt ≤ p.1) → HSub S u []
  | [], _ => .nil
  | p :: u, h => .drop (h p (List.mem_cons_self ..)) (HSub.drops fun q hq => h q (List.mem_cons_of_mem _ hq))
theorem links_sl {S : St} (g : Glob S) {W k m o : Nat} {cp : Option Nat} {t : T AV} {ws : List Int} (h6 : 6 ≤ W) (R : Rd S W k t m o ws) (r : Int) : GCall PP 36 [.i .i64 r, .sl W o ws.length cp] S (Ln S r ws) := by
  obtain ⟨b, c, h5⟩ := g.g5
  have hP := g.ptr
  refine (JF (h := [(0, .blk (.row 2 (T.ofList [.m 5]) 1)), (5, .blk (.rom (kindsE b) c)), (W, .blk (.row k t m)), (1, .blk (.row 2 (T.ofList (ints [0, 12, 12, 20])) 4))]) ok36 rfl ?_ ?_ (Φ := LnH S r ws) ?_).mono fun y S' k => LnH.ln k
  · intro x hx
    simp only [List.mem_cons, List.not_mem_nil, or_false] at hx
    rcases hx with rfl | rfl | rfl | rfl
    · exact ⟨g.g0, rfl⟩
    · exact ⟨h5, rfl⟩
    · exact ⟨R.h, rfl⟩
    · exact ⟨hP.h, rfl⟩
  · simp only [List.map_cons, List.map_nil, List.nodup_cons, List.mem_cons, List.not_mem_nil, or_false, not_or, List.nodup_nil, and_true, not_false_eq_true]
    omega
  intro G
  refine JC.seq ?_
  refine JC.reg ?_
  refine JO.step (AO1.bx rfl) rfl ?_
  repeat (first
      | refine JO.step (AO1.mv rfl) rfl ?_
      | refine JO.step (AO1.ncP rfl) rfl ?_
      | refine JO.step (AO1.fa rfl) rfl ?_
      | refine JO.nil ?_
      | refine JC.seq ?_
      | refine JC.reg ?_
      | refine JC.skip ?_
      | refine JC.blk ?_)
  refine JO.step (AO1.ld1X (o := 0) 0 rfl rfl rfl rfl) rfl ?_
  repeat (first
      | refine JO.step (AO1.mv rfl) rfl ?_
      | refine JO.step (AO1.ncP rfl) rfl ?_
      | refine JO.step (AO1.fa rfl) rfl ?_
      | refine JO.nil ?_
      | refine JC.seq ?_
      | refine JC.reg ?_
      | refine JC.skip ?_
      | refine JC.blk ?_)
  rcases kinds_find b r with ⟨ki, kn, hf, hk⟩ | ⟨hf, hk, _⟩
  rotate_left
  · refine JO.step (AO1.lkR 1 rfl rfl rfl hf) rfl ?_
    repeat (first
        | refine JO.step (AO1.mv rfl) rfl ?_
        | refine JO.step (AO1.ncP rfl) rfl ?_
        | refine JO.step (AO1.fa rfl) rfl ?_
        | refine JO.nil ?_
        | refine JC.seq ?_
        | refine JC.reg ?_
        | refine JC.skip ?_
        | refine JC.blk ?_)
    refine JO.step (AO1.ex rfl rfl) rfl ?_
    refine JO.step (AO1.ex rfl rfl) rfl ?_
    refine JO.step AO1.al rfl ?_
    refine JO.step0 (AO1.st 5 rfl rfl rfl rfl rfl rfl rfl) ?_
    repeat (first
        | refine JO.step (AO1.mv rfl) rfl ?_
        | refine JO.step (AO1.ncP rfl) rfl ?_
        | refine JO.step (AO1.fa rfl) rfl ?_
        | refine JO.nil ?_
        | refine JC.seq ?_
        | refine JC.reg ?_
        | refine JC.skip ?_
        | refine JC.blk ?_)
    refine JO.step (AO1.un rfl rfl) rfl ?_
    repeat (first
        | refine JO.step (AO1.mv rfl) rfl ?_
        | refine JO.step (AO1.ncP rfl) rfl ?_
        | refine JO.step (AO1.fa rfl) rfl ?_
        | refine JO.nil ?_
        | refine JC.seq ?_
        | refine JC.reg ?_
        | refine JC.skip ?_
        | refine JC.blk ?_)
    refine JC.cnd rfl (fun _ => ?_) (fun h => by cases h)
    repeat (first
        | refine JO.step (AO1.mv rfl) rfl ?_
        | refine JO.step (AO1.ncP rfl) rfl ?_
        | refine JO.step (AO1.fa rfl) rfl ?_
        | refine JO.nil ?_
        | refine JC.seq ?_
        | refine JC.reg ?_
        | refine JC.skip ?_
        | refine JC.blk ?_)
    refine JC.ret ?_
    have e : resC r ws = (1, []) := by unfold resC; rw [if_pos hk]
    refine ⟨_, .t rfl (.t rfl (.t rfl .nil)), rfl, .sn, .sn, [], by rw [e]; rfl, by rw [e]; exact .nil, fun _ h => (by cases h), .same g.g0 (.same h5 (.same R.h (.same hP.h (.drop (Nat.le_refl _) (.drop (Nat.le_succ _) .nil)))))⟩
  refine JO.step (AO1.lkR 1 rfl rfl rfl hf) rfl ?_
  repeat (first
      | refine JO.step (AO1.mv rfl) rfl ?_
      | refine JO.step (AO1.ncP rfl) rfl ?_
      | refine JO.step (AO1.fa rfl) rfl ?_
      | refine JO.nil ?_
      | refine JC.seq ?_
      | refine JC.reg ?_
      | refine JC.skip ?_
      | refine JC.blk ?_)
  refine JO.step (AO1.ex rfl rfl) rfl ?_
  refine JO.step (AO1.ex rfl rfl) rfl ?_
  refine JO.step AO1.al rfl ?_
  refine JO.step0 (AO1.st 5 rfl rfl rfl rfl rfl rfl rfl) ?_
  repeat (first
      | refine JO.step (AO1.mv rfl) rfl ?_
      | refine JO.step (AO1.ncP rfl) rfl ?_
      | refine JO.step (AO1.fa rfl) rfl ?_
      | refine JO.nil ?_
      | refine JC.seq ?_
      | refine JC.reg ?_
      | refine JC.skip ?_
      | refine JC.blk ?_)
  refine JO.step (AO1.un rfl rfl) rfl ?_
  repeat (first
      | refine JO.step (AO1.mv rfl) rfl ?_
      | refine JO.step (AO1.ncP rfl) rfl ?_
      | refine JO.step (AO1.fa rfl) rfl ?_
      | refine JO.nil ?_
      | refine JC.seq ?_
      | refine JC.reg ?_
      | refine JC.skip ?_
      | refine JC.blk ?_)
  refine JC.cnd rfl (fun h => by cases h) (fun _ => ?_)
  repeat (first
      | refine JO.step (AO1.mv rfl) rfl ?_
      | refine JO.step (AO1.ncP rfl) rfl ?_
      | refine JO.step (AO1.fa rfl) rfl ?_
      | refine JO.nil ?_
      | refine JC.seq ?_
      | refine JC.reg ?_
      | refine JC.skip ?_
      | refine JC.blk ?_)
  refine JO.step (AO1.ld1 4 rfl rfl rfl) rfl ?_
  refine JO.step (AO1.lenSlc rfl) rfl ?_
  refine JO.step (AO1.iaA (i := 1) (k := .i64) rfl rfl rfl) rfl ?_
  refine JO.step (AO1.ld1 5 (v := .i .i64 (leastK r)) rfl rfl rfl) rfl ?_
  refine JO.step (AO1.bn rfl rfl (bin_lss _ _)) rfl ?_
  repeat (first
      | refine JO.step (AO1.mv rfl) rfl ?_
      | refine JO.step (AO1.ncP rfl) rfl ?_
      | refine JO.step (AO1.fa rfl) rfl ?_
      | refine JO.nil ?_
      | refine JC.seq ?_
      | refine JC.reg ?_
      | refine JC.skip ?_
      | refine JC.blk ?_)
  refine JC.cnd rfl (fun hlt => ?_) (fun hge => ?_)
  · have hlt : (ws.length : Int) < leastK r := of_decide_eq_true hlt
    repeat (first
        | refine JO.step (AO1.mv rfl) rfl ?_
        | refine JO.step (AO1.ncP rfl) rfl ?_
        | refine JO.step (AO1.fa rfl) rfl ?_
        | refine JO.nil ?_
        | refine JC.seq ?_
        | refine JC.reg ?_
        | refine JC.skip ?_
        | refine JC.blk ?_)
    refine JC.ret ?_
    have e : resC r ws = (3, []) := by unfold resC; rw [if_neg (by rw [hk]; decide), if_pos hlt]
    refine ⟨_, .t rfl (.t rfl (.t rfl .nil)), rfl, .sn, .sn, [], by rw [e]; rfl, by rw [e]; exact .nil, fun _ h => (by cases h), .same g.g0 (.same h5 (.same R.h (.same hP.h (.drop (Nat.le_refl _) (.drop (Nat.le_succ _) .nil)))))⟩
  have hge : ¬ (ws.length : Int) < leastK r := of_decide_eq_false hge
  have hres : resC r ws = fin (linksC r ws) := by unfold resC; rw [if_neg (by rw [hk]; decide), if_neg hge]
  repeat (first
      | refine JO.step (AO1.mv rfl) rfl ?_
      | refine JO.step (AO1.ncP rfl) rfl ?_
      | refine JO.step (AO1.fa rfl) rfl ?_
      | refine JO.nil ?_
      | refine JC.seq ?_
      | refine JC.reg ?_
      | refine JC.skip ?_
      | refine JC.blk ?_)
  refine JO.step AO1.al rfl ?_
  repeat (first
      | refine JO.step (AO1.mv rfl) rfl ?_
      | refine JO.step (AO1.ncP rfl) rfl ?_
      | refine JO.step (AO1.fa rfl) rfl ?_
      | refine JO.nil ?_
      | refine JC.seq ?_
      | refine JC.reg ?_
      | refine JC.skip ?_
      | refine JC.blk ?_)
  refine JO.step AO1.al rfl ?_
  repeat (first
      | refine JO.step (AO1.mv rfl) rfl ?_
      | refine JO.step (AO1.ncP rfl) rfl ?_
      | refine JO.step (AO1.fa rfl) rfl ?_
      | refine JO.nil ?_
      | refine JC.seq ?_
      | refine JC.reg ?_
      | refine JC.skip ?_
      | refine JC.blk ?_)
  refine JO.step AO1.al rfl ?_
  refine JO.step0 (AO1.st 8 rfl rfl rfl rfl rfl rfl rfl) ?_
  repeat (first
      | refine JO.step (AO1.mv rfl) rfl ?_
      | refine JO.step (AO1.ncP rfl) rfl ?_
      | refine JO.step (AO1.fa rfl) rfl ?_
      | refine JO.nil ?_
      | refine JC.seq ?_
      | refine JC.reg ?_
      | refine JC.skip ?_
      | refine JC.blk ?_)
  refine JO.step (AO1.mf rfl rfl) rfl ?_
  refine JO.step AO1.al rfl ?_
  refine JO.step0 (AO1.st 9 rfl rfl rfl rfl rfl rfl rfl) ?_
  repeat (first
      | refine JO.step (AO1.mv rfl) rfl ?_
      | refine JO.step (AO1.ncP rfl) rfl ?_
      | refine JO.step (AO1.fa rfl) rfl ?_
      | refine JO.nil ?_
      | refine JC.seq ?_
      | refine JC.reg ?_
      | refine JC.skip ?_
      | refine JC.blk ?_)
  refine JO.step (AO1.mf rfl rfl) rfl ?_
  repeat (first
      | refine JO.step (AO1.mv rfl) rfl ?_
      | refine JO.step (AO1.ncP rfl) rfl ?_
      | refine JO.step (AO1.fa rfl) rfl ?_
      | refine JO.nil ?_
      | refine JC.seq ?_
      | refine JC.reg ?_
      | refine JC.skip ?_
      | refine JC.blk ?_)
  refine JO.step (AO1.mf rfl rfl) rfl ?_
  refine JO.step (AO1.mv rfl) rfl ?_
  refine JO.nil ?_
  let p : P36 := ⟨W, k, m, o, cp, t, T.ofList (ints [0, 12, 12, 20]), ws, S.nxt⟩
  have O : O36 p S := ⟨R, hP⟩
  refine JC.cutE (fun _ : A36 => T36 p) (fun a => a.2.2.2.2) (fun a => F36 p a.1 a.2.1 a.2.2.1 ++ a.2.2.2.1) (fun a => Tl a.1.2 a.2.1 a.2.2.1 a.2.2.2.1 ∧ (∀ q ∈ a.2.2.2.1, S.nxt ≤ q.1) ∧ fin a.1 = fin (linksC r p.ws)) ?_ ?_
  rotate_left
  · rintro ⟨s, uO, uP, ul, N⟩ ⟨hT, hul, hfin⟩
    simp only at hT hul hfin ⊢
    repeat (first
        | refine JO.step (AO1.mv rfl) rfl ?_
        | refine JO.step (AO1.ncP rfl) rfl ?_
        | refine JO.step (AO1.fa rfl) rfl ?_
        | refine JO.nil ?_
        | refine JC.seq ?_
        | refine JC.reg ?_
        | refine JC.skip ?_
        | refine JC.blk ?_)
    refine JO.step (AO1.ld1 5 rfl rfl rfl) rfl ?_
    repeat (first
        | refine JO.step (AO1.mv rfl) rfl ?_
        | refine JO.step (AO1.ncP rfl) rfl ?_
        | refine JO.step (AO1.fa rfl) rfl ?_
        | refine JO.nil ?_
        | refine JC.seq ?_
        | refine JC.reg ?_
        | refine JC.skip ?_
        | refine JC.blk ?_)
    have hs5 : ∀ u, HSub S ul u → HSub S (F36 p s uO uP ++ ul) u := fun u h => .same R.h (.same hP.h (.drop (Nat.le_refl _) (.drop (Nat.le_add_right _ _) (.drop (Nat.le_add_right _ _) (.drop (Nat.le_add_right _ _) (.drop (Nat.le_add_right _ _) h))))))
    refine JC.cnd rfl (fun hw => ?_) (fun hw => ?_)
    · repeat (first
          | refine JO.step (AO1.mv rfl) rfl ?_
          | refine JO.step (AO1.ncP rfl) rfl ?_
          | refine JO.step (AO1.fa rfl) rfl ?_
          | refine JO.nil ?_
          | refine JC.seq ?_
          | refine JC.reg ?_
          | refine JC.skip ?_
          | refine JC.blk ?_)
      refine JC.ret ?_
      have e : resC r ws = (3, []) := by rw [hres]; refine hfin.symm.trans ?_; unfold fin; rw [if_pos hw]
      exact ⟨_, .t rfl (.t rfl (.t rfl .nil)), rfl, .sn, .sn, [], by rw [e]; rfl, by rw [e]; exact .nil, fun _ h => (by cases h), hs5 _ (HSub.drops hul)⟩
    · repeat (first
          | refine JO.step (AO1.mv rfl) rfl ?_
          | refine JO.step (AO1.ncP rfl) rfl ?_
          | refine JO.step (AO1.fa rfl) rfl ?_
          | refine JO.nil ?_
          | refine JC.seq ?_
          | refine JC.reg ?_
          | refine JC.skip ?_
          | refine JC.blk ?_)
      refine JC.drw0 rfl ?_
      refine JD.cons ?_
      refine JI.op (AO1.ld1 3 rfl rfl rfl) rfl ?_
      refine JI.op (AO1.ld1 4 rfl rfl rfl) rfl ?_
      refine JI.op (AO1.mv rfl) rfl ?_
      refine JI.op (AO1.mv rfl) rfl ?_
      refine JI.op (AO1.mv rfl) rfl ?_
      refine JI.pr ?_
      refine JI.w0 ?_
      refine JD.nil ?_
      refine JC.ret ?_
      have e : resC r ws = (0, s.2) := by rw [hres]; refine hfin.symm.trans ?_; unfold fin; rw [if_neg (by rw [hw]; decide)]
      exact ⟨_, .t rfl (.t rfl (.t rfl .nil)), rfl, uO, uP, ul, by rw [e]; rfl, by rw [e]; exact hT, hul, hs5 _ (HSub.refl _ _)⟩
  · repeat (first
        | refine JO.step (AO1.mv rfl) rfl ?_
        | refine JO.step (AO1.ncP rfl) rfl ?_
        | refine JO.step (AO1.fa rfl) rfl ?_
        | refine JO.nil ?_
        | refine JC.seq ?_
        | refine JC.reg ?_
        | refine JC.skip ?_
        | refine JC.blk ?_)
    refine JO.step (AO1.ld1 4 rfl rfl rfl) rfl ?_
    refine JO.callP (y := .i .i64 (ws.headD 0)) rfl rfl rfl (fun S1 G1 => first_c (.sl h6 ⟨G1.look (j := 2) rfl, R.le, R.ge⟩)) rfl ?_
    repeat (first
        | refine JO.step (AO1.mv rfl) rfl ?_
        | refine JO.step (AO1.ncP rfl) rfl ?_
        | refine JO.step (AO1.fa rfl) rfl ?_
        | refine JO.nil ?_
        | refine JC.seq ?_
        | refine JC.reg ?_
        | refine JC.skip ?_
        | refine JC.blk ?_)
    have HS : HSub S [(0, .blk (.row 2 (T.ofList [.m 5]) 1)), (5, .blk (.rom (kindsE b) c)), (W, .blk (.row k t m)), (1, .blk (.row 2 (T.ofList (ints [0, 12, 12, 20])) 4)), (S.nxt, .row 0 [.sl W o ws.length cp]), (S.nxt + 1, .row 0 (ints [kindK r, leastK r])), (S.nxt + 2, .row 0 [.sn]), (S.nxt + 3, .row 0 [.sn]), (S.nxt + 4, .row 0 [.b false]), (S.nxt + 5, .row 0 [mustV (S.nxt + 4) S.nxt (S.nxt + 2) (S.nxt + 3)])] (F36 p (false, []) .sn .sn) :=
      .same g.g0 (.same h5 (.keep (.keep (.keep (.drop (Nat.le_succ _) (.keep (.keep (.keep (.keep .nil)))))))))
    refine JO.step (AO1.eq rfl rfl (eq_int _ _)) rfl ?_
    repeat (first
        | refine JO.step (AO1.mv rfl) rfl ?_
        | refine JO.step (AO1.ncP rfl) rfl ?_
        | refine JO.step (AO1.fa rfl) rfl ?_
        | refine JO.nil ?_
        | refine JC.seq ?_
        | refine JC.reg ?_
        | refine JC.skip ?_
        | refine JC.blk ?_)
    refine JC.cnd rfl (fun e1 => ?_) (fun n1 => ?_)
    · have e1 : r = 1 := of_decide_eq_true e1
      subst e1
      have hge : ¬ (ws.length : Int) < 2 := hge
      exact (JC.weak (l2 := L36 1 p) (h2 := F36 p (false, []) .sn .sn) ⟨rfl, rfl, rfl, rfl, rfl, rfl, rfl, rfl, rfl, rfl, trivial⟩ HS (br1 O (by show S.nxt ≤ S.nxt + 6; omega) (by show 2 ≤ ws.length; omega))).mono fun x l N h k => k.bk
    have n1 : ¬ r = 1 := of_decide_eq_false n1
    repeat (first
        | refine JO.step (AO1.mv rfl) rfl ?_
        | refine JO.step (AO1.ncP rfl) rfl ?_
        | refine JO.step (AO1.fa rfl) rfl ?_
        | refine JO.nil ?_
        | refine JC.seq ?_
        | refine JC.reg ?_
        | refine JC.skip ?_
        | refine JC.blk ?_)
    refine JO.step (AO1.eq rfl rfl (eq_int _ _)) rfl ?_
    repeat (first
        | refine JO.step (AO1.mv rfl) rfl ?_
        | refine JO.step (AO1.ncP rfl) rfl ?_
        | refine JO.step (AO1.fa rfl) rfl ?_
        | refine JO.nil ?_
        | refine JC.seq ?_
        | refine JC.reg ?_
        | refine JC.skip ?_
        | refine JC.blk ?_)
    refine JC.cnd rfl (fun e1 => ?_) (fun n2 => ?_)
    · have e1 : r = 2 := of_decide_eq_true e1
      subst e1
      have hge : ¬ (ws.length : Int) < 35 := hge
      exact (JC.weak (l2 := L36 2 p) (h2 := F36 p (false, []) .sn .sn) ⟨rfl, rfl, rfl, rfl, rfl, rfl, rfl, rfl, rfl, rfl, trivial⟩ HS (br2 O (by show S.nxt ≤ S.nxt + 6; omega) (by show 35 ≤ ws.length; omega))).mono fun x l N h k => k.bk
    have n2 : ¬ r = 2 := of_decide_eq_false n2
    repeat (first
        | refine JO.step (AO1.mv rfl) rfl ?_
        | refine JO.step (AO1.ncP rfl) rfl ?_
        | refine JO.step (AO1.fa rfl) rfl ?_
        | refine JO.nil ?_
        | refine JC.seq ?_
        | refine JC.reg ?_
        | refine JC.skip ?_
        | refine JC.blk ?_)
    refine JO.step (AO1.eq rfl rfl (eq_int _ _)) rfl ?_
    repeat (first
        | refine JO.step (AO1.mv rfl) rfl ?_
        | refine JO.step (AO1.ncP rfl) rfl ?_
        | refine JO.step (AO1.fa rfl) rfl ?_
        | refine JO.nil ?_
        | refine JC.seq ?_
        | refine JC.reg ?_
        | refine JC.skip ?_
        | refine JC.blk ?_)
    refine JC.cnd rfl (fun e1 => ?_) (fun n4 => ?_)
    · have e1 : r = 4 := of_decide_eq_true e1
      subst e1
      have hge : ¬ (ws.length : Int) < 8 := hge
      exact (JC.weak (l2 := L36 4 p) (h2 := F36 p (false, []) .sn .sn) ⟨rfl, rfl, rfl, rfl, rfl, rfl, rfl, rfl, rfl, rfl, trivial⟩ HS (br4 O (by show S.nxt ≤ S.nxt + 6; omega) (by show 8 ≤ ws.length; omega))).mono fun x l N h k => k.bk
    have n4 : ¬ r = 4 := of_decide_eq_false n4
    repeat (first
        | refine JO.step (AO1.mv rfl) rfl ?_
        | refine JO.step (AO1.ncP rfl) rfl ?_
        | refine JO.step (AO1.fa rfl) rfl ?_
        | refine JO.nil ?_
        | refine JC.seq ?_
        | refine JC.reg ?_
        | refine JC.skip ?_
        | refine JC.blk ?_)
    refine JO.step (AO1.eq rfl rfl (eq_int _ _)) rfl ?_
    repeat (first
        | refine JO.step (AO1.mv rfl) rfl ?_
        | refine JO.step (AO1.ncP rfl) rfl ?_
        | refine JO.step (AO1.fa rfl) rfl ?_
        | refine JO.nil ?_
        | refine JC.seq ?_
        | refine JC.reg ?_
        | refine JC.skip ?_
        | refine JC.blk ?_)
    refine JC.cnd rfl (fun e1 => ?_) (fun n5 => ?_)
    · have e1 : r = 5 := of_decide_eq_true e1
      subst e1
      have hge : ¬ (ws.length : Int) < 1 := hge
      exact (JC.weak (l2 := L36 5 p) (h2 := F36 p (false, []) .sn .sn) ⟨rfl, rfl, rfl, rfl, rfl, rfl, rfl, rfl, rfl, rfl, trivial⟩ HS (br5 O (by show S.nxt ≤ S.nxt + 6; omega) )).mono fun x l N h k => k.bk
    have n5 : ¬ r = 5 := of_decide_eq_false n5
    repeat (first
        | refine JO.step (AO1.mv rfl) rfl ?_
        | refine JO.step (AO1.ncP rfl) rfl ?_
        | refine JO.step (AO1.fa rfl) rfl ?_
        | refine JO.nil ?_
        | refine JC.seq ?_
        | refine JC.reg ?_
        | refine JC.skip ?_
        | refine JC.blk ?_)
    refine JO.step (AO1.eq rfl rfl (eq_int _ _)) rfl ?_
    repeat (first
        | refine JO.step (AO1.mv rfl) rfl ?_
        | refine JO.step (AO1.ncP rfl) rfl ?_
        | refine JO.step (AO1.fa rfl) rfl ?_
        | refine JO.nil ?_
        | refine JC.seq ?_
        | refine JC.reg ?_
        | refine JC.skip ?_
        | refine JC.blk ?_)
    refine JC.cnd rfl (fun e1 => ?_) (fun n6 => ?_)
    · have e1 : r = 6 := of_decide_eq_true e1
      subst e1
      have hge : ¬ (ws.length : Int) < 7 := hge
      exact (JC.weak (l2 := L36 6 p) (h2 := F36 p (false, []) .sn .sn) ⟨rfl, rfl, rfl, rfl, rfl, rfl, rfl, rfl, rfl, rfl, trivial⟩ HS (br6 O (by show S.nxt ≤ S.nxt + 6; omega) (by show 7 ≤ ws.length; omega))).mono fun x l N h k => k.bk
    have n6 : ¬ r = 6 := of_decide_eq_false n6
    repeat (first
        | refine JO.step (AO1.mv rfl) rfl ?_
        | refine JO.step (AO1.ncP rfl) rfl ?_
        | refine JO.step (AO1.fa rfl) rfl ?_
        | refine JO.nil ?_
        | refine JC.seq ?_
        | refine JC.reg ?_
        | refine JC.skip ?_
        | refine JC.blk ?_)
    refine JO.step (AO1.eq rfl rfl (eq_int _ _)) rfl ?_
    repeat (first
        | refine JO.step (AO1.mv rfl) rfl ?_
        | refine JO.step (AO1.ncP rfl) rfl ?_
        | refine JO.step (AO1.fa rfl) rfl ?_
        | refine JO.nil ?_
        | refine JC.seq ?_
        | refine JC.reg ?_
        | refine JC.skip ?_
        | refine JC.blk ?_)
    refine JC.cnd rfl (fun e1 => ?_) (fun n7 => ?_)
    · have e1 : r = 7 := of_decide_eq_true e1
      subst e1
      have hge : ¬ (ws.length : Int) < 4 := hge
      exact (JC.weak (l2 := L36 7 p) (h2 := F36 p (false, []) .sn .sn) ⟨rfl, rfl, rfl, rfl, rfl, rfl, rfl, rfl, rfl, rfl, trivial⟩ HS (br7 O (by show S.nxt ≤ S.nxt + 6; omega) (by show 4 ≤ ws.length; omega))).mono fun x l N h k => k.bk
    have n7 : ¬ r = 7 := of_decide_eq_false n7
    repeat (first
        | refine JO.step (AO1.mv rfl) rfl ?_
        | refine JO.step (AO1.ncP rfl) rfl ?_
        | refine JO.step (AO1.fa rfl) rfl ?_
        | refine JO.nil ?_
        | refine JC.seq ?_
        | refine JC.reg ?_
        | refine JC.skip ?_
        | refine JC.blk ?_)
    refine JO.step (AO1.eq rfl rfl (eq_int _ _)) rfl ?_
    repeat (first
        | refine JO.step (AO1.mv rfl) rfl ?_
        | refine JO.step (AO1.ncP rfl) rfl ?_
        | refine JO.step (AO1.fa rfl) rfl ?_
        | refine JO.nil ?_
        | refine JC.seq ?_
        | refine JC.reg ?_
        | refine JC.skip ?_
        | refine JC.blk ?_)
    refine JC.cnd rfl (fun e1 => ?_) (fun n8 => ?_)
    · have e1 : r = 8 := of_decide_eq_true e1
      subst e1
      have hge : ¬ (ws.length : Int) < 1 := hge
      exact (JC.weak (l2 := L36 8 p) (h2 := F36 p (false, []) .sn .sn) ⟨rfl, rfl, rfl, rfl, rfl, rfl, rfl, rfl, rfl, rfl, trivial⟩ HS (br8 O (by show S.nxt ≤ S.nxt + 6; omega) )).mono fun x l N h k => k.bk
    have n8 : ¬ r = 8 := of_decide_eq_false n8
    repeat (first
        | refine JO.step (AO1.mv rfl) rfl ?_
        | refine JO.step (AO1.ncP rfl) rfl ?_
        | refine JO.step (AO1.fa rfl) rfl ?_
        | refine JO.nil ?_
        | refine JC.seq ?_
        | refine JC.reg ?_
        | refine JC.skip ?_
        | refine JC.blk ?_)
    refine ⟨rfl, ((false, []), .sn, .sn, [], S.nxt + 6), ⟨.nil, fun _ h => (by cases h), ?_⟩, ⟨rfl, rfl, rfl, rfl, trivial⟩, rfl, HS⟩
    show fin (false, []) = fin (linksC r ws)
    unfold linksC
    rw [if_neg n1, if_neg n2, if_neg n4, if_neg n5, if_neg n6, if_neg n7, if_neg n8]
end L32
end Go.Ev
namespace Go.Ev
open Go Go.Proofs
namespace L32
set_option maxRecDepth 100000
theorem links_nil {S : St} (g : Glob S) (r : Int) : GCall PP 36 [.i .i64 r, .sn] S (Ln S r []) := by
  obtain ⟨b, c, h5⟩ := g.g5
  refine (JF (h := [(0, .blk (.row 2 (T.ofList [.m 5]) 1)), (5, .blk (.rom (kindsE b) c))]) ok36 rfl ?_ (by simp) (Φ := LnH S r []) ?_).mono fun y S' k => LnH.ln k
  · intro x hx
    simp only [List.mem_cons, List.not_mem_nil, or_false] at hx
    rcases hx with rfl | rfl
    · exact ⟨g.g0, rfl⟩
    · exact ⟨h5, rfl⟩
  intro G
  refine JC.seq ?_
  refine JC.reg ?_
  refine JO.step (AO1.bx rfl) rfl ?_
  repeat (first
      | refine JO.step (AO1.mv rfl) rfl ?_
      | refine JO.step (AO1.ncP rfl) rfl ?_
      | refine JO.step (AO1.fa rfl) rfl ?_
      | refine JO.nil ?_
      | refine JC.seq ?_
      | refine JC.reg ?_
      | refine JC.skip ?_
      | refine JC.blk ?_)
  refine JO.step (AO1.ld1X (o := 0) 0 rfl rfl rfl rfl) rfl ?_
  repeat (first
      | refine JO.step (AO1.mv rfl) rfl ?_
      | refine JO.step (AO1.ncP rfl) rfl ?_
      | refine JO.step (AO1.fa rfl) rfl ?_
      | refine JO.nil ?_
      | refine JC.seq ?_
      | refine JC.reg ?_
      | refine JC.skip ?_
      | refine JC.blk ?_)
  rcases kinds_find b r with ⟨ki, kn, hf, hk⟩ | ⟨hf, hk, _⟩
  rotate_left
  · refine JO.step (AO1.lkR 1 rfl rfl rfl hf) rfl ?_
    repeat (first
        | refine JO.step (AO1.mv rfl) rfl ?_
        | refine JO.step (AO1.ncP rfl) rfl ?_
        | refine JO.step (AO1.fa rfl) rfl ?_
        | refine JO.nil ?_
        | refine JC.seq ?_
        | refine JC.reg ?_
        | refine JC.skip ?_
        | refine JC.blk ?_)
    refine JO.step (AO1.ex rfl rfl) rfl ?_
    refine JO.step (AO1.ex rfl rfl) rfl ?_
    refine JO.step AO1.al rfl ?_
    refine JO.step0 (AO1.st 3 rfl rfl rfl rfl rfl rfl rfl) ?_
    repeat (first
        | refine JO.step (AO1.mv rfl) rfl ?_
        | refine JO.step (AO1.ncP rfl) rfl ?_
        | refine JO.step (AO1.fa rfl) rfl ?_
        | refine JO.nil ?_
        | refine JC.seq ?_
        | refine JC.reg ?_
        | refine JC.skip ?_
        | refine JC.blk ?_)
    refine JO.step (AO1.un rfl rfl) rfl ?_
    repeat (first
        | refine JO.step (AO1.mv rfl) rfl ?_
        | refine JO.step (AO1.ncP rfl) rfl ?_
        | refine JO.step (AO1.fa rfl) rfl ?_
        | refine JO.nil ?_
        | refine JC.seq ?_
        | refine JC.reg ?_
        | refine JC.skip ?_
        | refine JC.blk ?_)
    refine JC.cnd rfl (fun _ => ?_) (fun h => by cases h)
    repeat (first
        | refine JO.step (AO1.mv rfl) rfl ?_
        | refine JO.step (AO1.ncP rfl) rfl ?_
        | refine JO.step (AO1.fa rfl) rfl ?_
        | refine JO.nil ?_
        | refine JC.seq ?_
        | refine JC.reg ?_
        | refine JC.skip ?_
        | refine JC.blk ?_)
    refine JC.ret ?_
    have e : resC r [] = (1, []) := by unfold resC; rw [if_pos hk]
    refine ⟨_, .t rfl (.t rfl (.t rfl .nil)), rfl, .sn, .sn, [], by rw [e]; rfl, by rw [e]; exact .nil, fun _ h => (by cases h), .same g.g0 (.same h5 (.drop (Nat.le_refl _) (.drop (Nat.le_succ _) .nil)))⟩
  refine JO.step (AO1.lkR 1 rfl rfl rfl hf) rfl ?_
  repeat (first
      | refine JO.step (AO1.mv rfl) rfl ?_
      | refine JO.step (AO1.ncP rfl) rfl ?_
      | refine JO.step (AO1.fa rfl) rfl ?_
      | refine JO.nil ?_
      | refine JC.seq ?_
      | refine JC.reg ?_
      | refine JC.skip ?_
      | refine JC.blk ?_)
  refine JO.step (AO1.ex rfl rfl) rfl ?_
  refine JO.step (AO1.ex rfl rfl) rfl ?_
  refine JO.step AO1.al rfl ?_
  refine JO.step0 (AO1.st 3 rfl rfl rfl rfl rfl rfl rfl) ?_
  repeat (first
      | refine JO.step (AO1.mv rfl) rfl ?_
      | refine JO.step (AO1.ncP rfl) rfl ?_
      | refine JO.step (AO1.fa rfl) rfl ?_
      | refine JO.nil ?_
      | refine JC.seq ?_
      | refine JC.reg ?_
      | refine JC.skip ?_
      | refine JC.blk ?_)
  refine JO.step (AO1.un rfl rfl) rfl ?_
  repeat (first
      | refine JO.step (AO1.mv rfl) rfl ?_
      | refine JO.step (AO1.ncP rfl) rfl ?_
      | refine JO.step (AO1.fa rfl) rfl ?_
      | refine JO.nil ?_
      | refine JC.seq ?_
      | refine JC.reg ?_
      | refine JC.skip ?_
      | refine JC.blk ?_)
  refine JC.cnd rfl (fun h => by cases h) (fun _ => ?_)
  repeat (first
      | refine JO.step (AO1.mv rfl) rfl ?_
      | refine JO.step (AO1.ncP rfl) rfl ?_
      | refine JO.step (AO1.fa rfl) rfl ?_
      | refine JO.nil ?_
      | refine JC.seq ?_
      | refine JC.reg ?_
      | refine JC.skip ?_
      | refine JC.blk ?_)
  refine JO.step (AO1.ld1 2 rfl rfl rfl) rfl ?_
  refine JO.step (AO1.lenSn rfl) rfl ?_
  refine JO.step (AO1.iaA (i := 1) (k := .i64) rfl rfl rfl) rfl ?_
  refine JO.step (AO1.ld1 3 (v := .i .i64 (leastK r)) rfl rfl rfl) rfl ?_
  refine JO.step (AO1.bn rfl rfl (bin_lss _ _)) rfl ?_
  repeat (first
      | refine JO.step (AO1.mv rfl) rfl ?_
      | refine JO.step (AO1.ncP rfl) rfl ?_
      | refine JO.step (AO1.fa rfl) rfl ?_
      | refine JO.nil ?_
      | refine JC.seq ?_
      | refine JC.reg ?_
      | refine JC.skip ?_
      | refine JC.blk ?_)
  refine JC.cnd rfl (fun hlt => ?_) (fun hge => ?_)
  · have hlt : (0 : Int) < leastK r := of_decide_eq_true hlt
    repeat (first
        | refine JO.step (AO1.mv rfl) rfl ?_
        | refine JO.step (AO1.ncP rfl) rfl ?_
        | refine JO.step (AO1.fa rfl) rfl ?_
        | refine JO.nil ?_
        | refine JC.seq ?_
        | refine JC.reg ?_
        | refine JC.skip ?_
        | refine JC.blk ?_)
    refine JC.ret ?_
    have e : resC r [] = (3, []) := by unfold resC; rw [if_neg (by rw [hk]; decide), if_pos (show (([] : List Int).length : Int) < leastK r from hlt)]
    refine ⟨_, .t rfl (.t rfl (.t rfl .nil)), rfl, .sn, .sn, [], by rw [e]; rfl, by rw [e]; exact .nil, fun _ h => (by cases h), .same g.g0 (.same h5 (.drop (Nat.le_refl _) (.drop (Nat.le_succ _) .nil)))⟩
  have hge : ¬ (0 : Int) < leastK r := of_decide_eq_false hge
  have h3 : r = 3 := by
    unfold leastK at hge
    repeat' split at hge
    all_goals omega
  subst h3
  repeat (first
      | refine JO.step (AO1.mv rfl) rfl ?_
      | refine JO.step (AO1.ncP rfl) rfl ?_
      | refine JO.step (AO1.fa rfl) rfl ?_
      | refine JO.nil ?_
      | refine JC.seq ?_
      | refine JC.reg ?_
      | refine JC.skip ?_
      | refine JC.blk ?_)
  refine JO.step AO1.al rfl ?_
  repeat (first
      | refine JO.step (AO1.mv rfl) rfl ?_
      | refine JO.step (AO1.ncP rfl) rfl ?_
      | refine JO.step (AO1.fa rfl) rfl ?_
      | refine JO.nil ?_
      | refine JC.seq ?_
      | refine JC.reg ?_
      | refine JC.skip ?_
      | refine JC.blk ?_)
  refine JO.step AO1.al rfl ?_
  repeat (first
      | refine JO.step (AO1.mv rfl) rfl ?_
      | refine JO.step (AO1.ncP rfl) rfl ?_
      | refine JO.step (AO1.fa rfl) rfl ?_
      | refine JO.nil ?_
      | refine JC.seq ?_
      | refine JC.reg ?_
      | refine JC.skip ?_
      | refine JC.blk ?_)
  refine JO.step AO1.al rfl ?_
  refine JO.step0 (AO1.st 6 rfl rfl rfl rfl rfl rfl rfl) ?_
  repeat (first
      | refine JO.step (AO1.mv rfl) rfl ?_
      | refine JO.step (AO1.ncP rfl) rfl ?_
      | refine JO.step (AO1.fa rfl) rfl ?_
      | refine JO.nil ?_
      | refine JC.seq ?_
      | refine JC.reg ?_
      | refine JC.skip ?_
      | refine JC.blk ?_)
  refine JO.step (AO1.mf rfl rfl) rfl ?_
  refine JO.step AO1.al rfl ?_
  refine JO.step0 (AO1.st 7 rfl rfl rfl rfl rfl rfl rfl) ?_
  repeat (first
      | refine JO.step (AO1.mv rfl) rfl ?_
      | refine JO.step (AO1.ncP rfl) rfl ?_
      | refine JO.step (AO1.fa rfl) rfl ?_
      | refine JO.nil ?_
      | refine JC.seq ?_
      | refine JC.reg ?_
      | refine JC.skip ?_
      | refine JC.blk ?_)
  refine JO.step (AO1.mf rfl rfl) rfl ?_
  repeat (first
      | refine JO.step (AO1.mv rfl) rfl ?_
      | refine JO.step (AO1.ncP rfl) rfl ?_
      | refine JO.step (AO1.fa rfl) rfl ?_
      | refine JO.nil ?_
      | refine JC.seq ?_
      | refine JC.reg ?_
      | refine JC.skip ?_
      | refine JC.blk ?_)
  refine JO.step (AO1.mf rfl rfl) rfl ?_
  repeat (first
      | refine JO.step (AO1.mv rfl) rfl ?_
      | refine JO.step (AO1.ncP rfl) rfl ?_
      | refine JO.step (AO1.fa rfl) rfl ?_
      | refine JO.nil ?_
      | refine JC.seq ?_
      | refine JC.reg ?_
      | refine JC.skip ?_
      | refine JC.blk ?_)
  refine JO.step (AO1.ld1 2 rfl rfl rfl) rfl ?_
  refine JO.callP (y := .i .i64 (([] : List Int).headD 0)) rfl rfl rfl (fun S1 G1 => first_c .nil) rfl ?_
  repeat (first
      | refine JO.step (AO1.mv rfl) rfl ?_
      | refine JO.step (AO1.ncP rfl) rfl ?_
      | refine JO.step (AO1.fa rfl) rfl ?_
      | refine JO.nil ?_
      | refine JC.seq ?_
      | refine JC.reg ?_
      | refine JC.skip ?_
      | refine JC.blk ?_)
  refine JO.step (AO1.eq (t := false) rfl rfl rfl) rfl ?_
  repeat (first
      | refine JO.step (AO1.mv rfl) rfl ?_
      | refine JO.step (AO1.ncP rfl) rfl ?_
      | refine JO.step (AO1.fa rfl) rfl ?_
      | refine JO.nil ?_
      | refine JC.seq ?_
      | refine JC.reg ?_
      | refine JC.skip ?_
      | refine JC.blk ?_)
  refine JC.cnd rfl (fun h => by cases h) (fun _ => ?_)
  repeat (first
      | refine JO.step (AO1.mv rfl) rfl ?_
      | refine JO.step (AO1.ncP rfl) rfl ?_
      | refine JO.step (AO1.fa rfl) rfl ?_
      | refine JO.nil ?_
      | refine JC.seq ?_
      | refine JC.reg ?_
      | refine JC.skip ?_
      | refine JC.blk ?_)
  refine JO.step (AO1.eq (t := false) rfl rfl rfl) rfl ?_
  repeat (first
      | refine JO.step (AO1.mv rfl) rfl ?_
      | refine JO.step (AO1.ncP rfl) rfl ?_
      | refine JO.step (AO1.fa rfl) rfl ?_
      | refine JO.nil ?_
      | refine JC.seq ?_
      | refine JC.reg ?_
      | refine JC.skip ?_
      | refine JC.blk ?_)
  refine JC.cnd rfl (fun h => by cases h) (fun _ => ?_)
  repeat (first
      | refine JO.step (AO1.mv rfl) rfl ?_
      | refine JO.step (AO1.ncP rfl) rfl ?_
      | refine JO.step (AO1.fa rfl) rfl ?_
      | refine JO.nil ?_
      | refine JC.seq ?_
      | refine JC.reg ?_
      | refine JC.skip ?_
      | refine JC.blk ?_)
  refine JO.step (AO1.eq (t := false) rfl rfl rfl) rfl ?_
  repeat (first
      | refine JO.step (AO1.mv rfl) rfl ?_
      | refine JO.step (AO1.ncP rfl) rfl ?_
      | refine JO.step (AO1.fa rfl) rfl ?_
      | refine JO.nil ?_
      | refine JC.seq ?_
      | refine JC.reg ?_
      | refine JC.skip ?_
      | refine JC.blk ?_)
  refine JC.cnd rfl (fun h => by cases h) (fun _ => ?_)
  repeat (first
      | refine JO.step (AO1.mv rfl) rfl ?_
      | refine JO.step (AO1.ncP rfl) rfl ?_
      | refine JO.step (AO1.fa rfl) rfl ?_
      | refine JO.nil ?_
      | refine JC.seq ?_
      | refine JC.reg ?_
      | refine JC.skip ?_
      | refine JC.blk ?_)
  refine JO.step (AO1.eq (t := false) rfl rfl rfl) rfl ?_
  repeat (first
      | refine JO.step (AO1.mv rfl) rfl ?_
      | refine JO.step (AO1.ncP rfl) rfl ?_
      | refine JO.step (AO1.fa rfl) rfl ?_
      | refine JO.nil ?_
      | refine JC.seq ?_
      | refine JC.reg ?_
      | refine JC.skip ?_
      | refine JC.blk ?_)
  refine JC.cnd rfl (fun h => by cases h) (fun _ => ?_)
  repeat (first
      | refine JO.step (AO1.mv rfl) rfl ?_
      | refine JO.step (AO1.ncP rfl) rfl ?_
      | refine JO.step (AO1.fa rfl) rfl ?_
      | refine JO.nil ?_
      | refine JC.seq ?_
      | refine JC.reg ?_
      | refine JC.skip ?_
      | refine JC.blk ?_)
  refine JO.step (AO1.eq (t := false) rfl rfl rfl) rfl ?_
  repeat (first
      | refine JO.step (AO1.mv rfl) rfl ?_
      | refine JO.step (AO1.ncP rfl) rfl ?_
      | refine JO.step (AO1.fa rfl) rfl ?_
      | refine JO.nil ?_
      | refine JC.seq ?_
      | refine JC.reg ?_
      | refine JC.skip ?_
      | refine JC.blk ?_)
  refine JC.cnd rfl (fun h => by cases h) (fun _ => ?_)
  repeat (first
      | refine JO.step (AO1.mv rfl) rfl ?_
      | refine JO.step (AO1.ncP rfl) rfl ?_
      | refine JO.step (AO1.fa rfl) rfl ?_
      | refine JO.nil ?_
      | refine JC.seq ?_
      | refine JC.reg ?_
      | refine JC.skip ?_
      | refine JC.blk ?_)
  refine JO.step (AO1.eq (t := false) rfl rfl rfl) rfl ?_
  repeat (first
      | refine JO.step (AO1.mv rfl) rfl ?_
      | refine JO.step (AO1.ncP rfl) rfl ?_
      | refine JO.step (AO1.fa rfl) rfl ?_
      | refine JO.nil ?_
      | refine JC.seq ?_
      | refine JC.reg ?_
      | refine JC.skip ?_
      | refine JC.blk ?_)
  refine JC.cnd rfl (fun h => by cases h) (fun _ => ?_)
  repeat (first
      | refine JO.step (AO1.mv rfl) rfl ?_
      | refine JO.step (AO1.ncP rfl) rfl ?_
      | refine JO.step (AO1.fa rfl) rfl ?_
      | refine JO.nil ?_
      | refine JC.seq ?_
      | refine JC.reg ?_
      | refine JC.skip ?_
      | refine JC.blk ?_)
  refine JO.step (AO1.eq (t := false) rfl rfl rfl) rfl ?_
  repeat (first
      | refine JO.step (AO1.mv rfl) rfl ?_
      | refine JO.step (AO1.ncP rfl) rfl ?_
      | refine JO.step (AO1.fa rfl) rfl ?_
      | refine JO.nil ?_
      | refine JC.seq ?_
      | refine JC.reg ?_
      | refine JC.skip ?_
      | refine JC.blk ?_)
  refine JC.cnd rfl (fun h => by cases h) (fun _ => ?_)
  repeat (first
      | refine JO.step (AO1.mv rfl) rfl ?_
      | refine JO.step (AO1.ncP rfl) rfl ?_
      | refine JO.step (AO1.fa rfl) rfl ?_
      | refine JO.nil ?_
      | refine JC.seq ?_
      | refine JC.reg ?_
      | refine JC.skip ?_
      | refine JC.blk ?_)
  refine JO.step (AO1.ld1 6 rfl rfl rfl) rfl ?_
  repeat (first
      | refine JO.step (AO1.mv rfl) rfl ?_
      | refine JO.step (AO1.ncP rfl) rfl ?_
      | refine JO.step (AO1.fa rfl) rfl ?_
      | refine JO.nil ?_
      | refine JC.seq ?_
      | refine JC.reg ?_
      | refine JC.skip ?_
      | refine JC.blk ?_)
  refine JC.cnd rfl (fun h => by cases h) (fun _ => ?_)
  repeat (first
      | refine JO.step (AO1.mv rfl) rfl ?_
      | refine JO.step (AO1.ncP rfl) rfl ?_
      | refine JO.step (AO1.fa rfl) rfl ?_
      | refine JO.nil ?_
      | refine JC.seq ?_
      | refine JC.reg ?_
      | refine JC.skip ?_
      | refine JC.blk ?_)
  refine JC.drw0 rfl ?_
  refine JD.cons ?_
  refine JI.op (AO1.ld1 4 rfl rfl rfl) rfl ?_
  refine JI.op (AO1.ld1 5 rfl rfl rfl) rfl ?_
  refine JI.op (AO1.mv rfl) rfl ?_
  refine JI.op (AO1.mv rfl) rfl ?_
  refine JI.op (AO1.mv rfl) rfl ?_
  refine JI.pr ?_
  refine JI.w0 ?_
  refine JD.nil ?_
  refine JC.ret ?_
  exact ⟨_, .t rfl (.t rfl (.t rfl .nil)), rfl, .sn, .sn, [], rfl, .nil, fun _ h => (by cases h), .same g.g0 (.same h5 (.drop (Nat.le_refl _) (.drop (Nat.le_succ _) (.drop (Nat.le_add_right _ 2) (.drop (Nat.le_add_right _ 3) (.drop (Nat.le_add_right _ 4) (.drop (Nat.le_add_right _ 5) .nil)))))))⟩
theorem links_c {S : St} (g : Glob S) {v : AV} {ws : List Int} (h : WV S v ws) (r : Int) : GCall PP 36 [.i .i64 r, v] S (Ln S r ws) := by
  cases h with
  | nil => exact links_nil g r
  | sl h6 R => exact links_sl g h6 R r
end L32
end Go.Ev
namespace Go.Ev
open Go Go.Proofs
namespace L32
set_option maxRecDepth 100000
theorem keepH {S S1 : St} {N : Nat} {h : Hp} (G : SH S N h S1) (hn : ∀ p ∈ h, S.nxt ≤ p.1) {β : Nat} {x : Blk} (e : S.heap.get β = some x) : S1.heap.get β = some x := by
  have hlt : β < S.nxt := by
    refine Nat.lt_of_not_le fun hle => ?_
    rw [G.wf β hle] at e; cases e
  rw [G.els β hlt (fun p hp e => by have := hn p hp; omega)]; exact e
theorem Glob.keep {S S1 : St} {N : Nat} {h : Hp} (g : Glob S) (G : SH S N h S1) (hn : ∀ p ∈ h, S.nxt ≤ p.1) : Glob S1 := by
  obtain ⟨b, c, k⟩ := g
  refine ⟨b, c, fun β hβ => ?_⟩
  have e := k β hβ
  have hs : ∃ x, (G1 b c).get β = some x := by
    match β, hβ with
    | 0, _ => exact ⟨_, rfl⟩
    | 1, _ => exact ⟨_, rfl⟩
    | 2, _ => exact ⟨_, rfl⟩
    | 3, _ => exact ⟨_, rfl⟩
    | 4, _ => exact ⟨_, rfl⟩
    | 5, _ => exact ⟨_, rfl⟩
  obtain ⟨x, hx⟩ := hs
  rw [hx] at e ⊢
  exact keepH G hn e
theorem Rd.keep {S S1 : St} {N W k m o : Nat} {t : T AV} {ws : List Int} {h : Hp} (R : Rd S W k t m o ws) (G : SH S N h S1) (hn : ∀ p ∈ h, S.nxt ≤ p.1) : Rd S1 W k t m o ws := ⟨keepH G hn R.h, R.le, R.ge⟩
theorem WV.keep {S S1 : St} {N : Nat} {v : AV} {ws : List Int} {h : Hp} (w : WV S v ws) (G : SH S N h S1) (hn : ∀ p ∈ h, S.nxt ≤ p.1) : WV S1 v ws := by
  cases w with
  | nil => exact .nil
  | sl h6 R => exact .sl h6 (R.keep G hn)
theorem trans0 {S S1 S2 : St} {N N' : Nat} {tl : Hp} (G : SH S N [] S1) (G' : SH S1 N' tl S2) : SH S N' tl S2 :=
  G.trans G' tl (fun _ hp => .inl hp) (fun _ hp => by cases hp) (fun p hp _ => ⟨p, hp, rfl⟩) G'.dis
theorem nohp {S : St} : ∀ p ∈ ([] : Hp), S.nxt ≤ p.1 := fun _ h => by cases h
theorem links7 {S : St} (g : Glob S) {v : AV} {ws : List Int} (h : WV S v ws) (r : Int) : GCall PP 7 [.i .i64 r, v] S (fun y S' => ∃ vO vP, y = .tu [vO, .i .i64 (resC r ws).1] ∧ Two S (resC r ws).2 vO vP S') := by
  refine (JF (h := []) ok7 rfl (nothing rfl) List.nodup_nil (Φ := fun y N' h' => ∃ vO vP tl, y = .tu [vO, .i .i64 (resC r ws).1] ∧ Tl (resC r ws).2 vO vP tl ∧ (∀ p ∈ tl, S.nxt ≤ p.1) ∧ HSub S h' tl) ?_).mono ?_
  · intro G
    repeat (first
        | refine JO.step (AO1.mv rfl) rfl ?_
        | refine JO.step (AO1.ncP rfl) rfl ?_
        | refine JO.step (AO1.fa rfl) rfl ?_
        | refine JO.nil ?_
        | refine JC.seq ?_
        | refine JC.reg ?_
        | refine JC.skip ?_
        | refine JC.blk ?_)
    refine JO.call (fun _ _ => rfl) rfl rfl rfl (fun S1 G1 => links_c (g.keep G1 nohp) (h.keep G1 nohp) r) (fun S1 G1 y S2 k => ?_) rfl
    obtain ⟨vO, vP, rfl, N', tl, hT, hl, G2⟩ := k
    have hle := G1.le
    rw [G1.nxt] at hl
    refine ⟨N', tl, trans0 G1 G2, ?_⟩
    repeat (first
        | refine JO.step (AO1.mv rfl) rfl ?_
        | refine JO.step (AO1.ncP rfl) rfl ?_
        | refine JO.step (AO1.fa rfl) rfl ?_
        | refine JO.nil ?_
        | refine JC.seq ?_
        | refine JC.reg ?_
        | refine JC.skip ?_
        | refine JC.blk ?_)
    refine JO.step (AO1.ex rfl rfl) rfl ?_
    refine JO.step (AO1.ex rfl rfl) rfl ?_
    refine JO.step (AO1.ex rfl rfl) rfl ?_
    repeat (first
        | refine JO.step (AO1.mv rfl) rfl ?_
        | refine JO.step (AO1.ncP rfl) rfl ?_
        | refine JO.step (AO1.fa rfl) rfl ?_
        | refine JO.nil ?_
        | refine JC.seq ?_
        | refine JC.reg ?_
        | refine JC.skip ?_
        | refine JC.blk ?_)
    refine JC.ret ?_
    exact ⟨_, .t rfl (.t rfl .nil), rfl, vO, vP, tl, rfl, hT, fun p hp => Nat.le_trans hle (hl p hp), HSub.refl _ _⟩
  · rintro y S' ⟨N', h', G', vO, vP, tl, e, hT, hl, hs⟩
    exact ⟨vO, vP, e, N', tl, hT, hl, G'.sub hs⟩
theorem places8 {S : St} (g : Glob S) {v : AV} {ws : List Int} (h : WV S v ws) (r : Int) : GCall PP 8 [.i .i64 r, v] S (fun y S' => ∃ vO vP, y = .tu [vP, .i .i64 (resC r ws).1] ∧ Two S (resC r ws).2 vO vP S') := by
  refine (JF (h := []) ok8 rfl (nothing rfl) List.nodup_nil (Φ := fun y N' h' => ∃ vO vP tl, y = .tu [vP, .i .i64 (resC r ws).1] ∧ Tl (resC r ws).2 vO vP tl ∧ (∀ p ∈ tl, S.nxt ≤ p.1) ∧ HSub S h' tl) ?_).mono ?_
  · intro G
    repeat (first
        | refine JO.step (AO1.mv rfl) rfl ?_
        | refine JO.step (AO1.ncP rfl) rfl ?_
        | refine JO.step (AO1.fa rfl) rfl ?_
        | refine JO.nil ?_
        | refine JC.seq ?_
        | refine JC.reg ?_
        | refine JC.skip ?_
        | refine JC.blk ?_)
    refine JO.call (fun _ _ => rfl) rfl rfl rfl (fun S1 G1 => links_c (g.keep G1 nohp) (h.keep G1 nohp) r) (fun S1 G1 y S2 k => ?_) rfl
    obtain ⟨vO, vP, rfl, N', tl, hT, hl, G2⟩ := k
    have hle := G1.le
    rw [G1.nxt] at hl
    refine ⟨N', tl, trans0 G1 G2, ?_⟩
    repeat (first
        | refine JO.step (AO1.mv rfl) rfl ?_
        | refine JO.step (AO1.ncP rfl) rfl ?_
        | refine JO.step (AO1.fa rfl) rfl ?_
        | refine JO.nil ?_
        | refine JC.seq ?_
        | refine JC.reg ?_
        | refine JC.skip ?_
        | refine JC.blk ?_)
    refine JO.step (AO1.ex rfl rfl) rfl ?_
    refine JO.step (AO1.ex rfl rfl) rfl ?_
    refine JO.step (AO1.ex rfl rfl) rfl ?_
    repeat (first
        | refine JO.step (AO1.mv rfl) rfl ?_
        | refine JO.step (AO1.ncP rfl) rfl ?_
        | refine JO.step (AO1.fa rfl) rfl ?_
        | refine JO.nil ?_
        | refine JC.seq ?_
        | refine JC.reg ?_
        | refine JC.skip ?_
        | refine JC.blk ?_)
    refine JC.ret ?_
    exact ⟨_, .t rfl (.t rfl .nil), rfl, vO, vP, tl, rfl, hT, fun p hp => Nat.le_trans hle (hl p hp), HSub.refl _ _⟩
  · rintro y S' ⟨N', h', G', vO, vP, tl, e, hT, hl, hs⟩
    exact ⟨vO, vP, e, N', tl, hT, hl, G'.sub hs⟩
end L32
end Go.Ev
namespace Go.Ev
open Go Go.Proofs
namespace L32
set_option maxRecDepth 100000
theorem flat1_get : ∀ (l : LL) (i : Nat), i < l.length → ∃ x, (flat1 l)[i]? = some (.i .i64 x)
  | p :: l, 0, _ => ⟨p.2.2, rfl⟩
  | p :: l, i + 1, h => by
    obtain ⟨x, e⟩ := flat1_get l i (by simpa using h)
    exact ⟨x, by show (flat1 l)[i]? = _; exact e⟩
theorem flat2_get : ∀ (l : LL) (i : Nat), i < l.length → ∃ x y, (flat2 l)[i * 2]? = some (.i .i64 x) ∧ (flat2 l)[i * 2 + 1]? = some (.i .i64 y)
  | p :: l, 0, _ => ⟨p.1, p.2.1, rfl, rfl⟩
  | p :: l, i + 1, h => by
    obtain ⟨x, y, e, e'⟩ := flat2_get l i (by simpa using h)
    refine ⟨x, y, ?_, ?_⟩
    · rw [show (i + 1) * 2 = i * 2 + 1 + 1 from by omega]; exact e
    · rw [show (i + 1) * 2 + 1 = i * 2 + 1 + 1 + 1 from by omega]; exact e'
theorem eqS_refl (x y : Int) : eqS [(0, 1), (1, 1)] (.ag [.i .i64 x, .i .i64 y]) (.ag [.i .i64 x, .i .i64 y]) = some true := by
  simp [eqS, eqL, eq_int]
/-- a list of places, a list of links -/
inductive PV (S : St) (l : LL) : AV → List Nat → Prop
  | nil (h : l = []) : PV S l .sn []
  | sl {B} (h : (HB.row 4 (flat1 l)).at (S.heap.get B)) : PV S l (.sl B 0 l.length none) [B]
inductive OV (S : St) (l : LL) : AV → List Nat → Prop
  | nil (h : l = []) : OV S l .sn []
  | sl {B} (h : (HB.row 5 (flat2 l)).at (S.heap.get B)) : OV S l (.sl B 0 l.length none) [B]
theorem same_ints {S : St} {l : LL} {u v : AV} {ia ib : List Nat} (hl : l.length ≤ 1000) (h1 : PV S l u ia) (h2 : PV S l v ib) (hd : ∀ a ∈ ia, ∀ b ∈ ib, a ≠ b) (hn : u = .sn ↔ v = .sn) : GCall PP 13 [u, v] S (isV (.b true) S) := by
  cases h1 with
  | nil h =>
    have hv : v = .sn := hn.1 rfl
    subst hv
    refine GCall.still (JF (h := []) ok13 rfl (nothing rfl) List.nodup_nil ?_) rfl
    intro G
    repeat (first
        | refine JO.step (AO1.mv rfl) rfl ?_
        | refine JO.step (AO1.ncP rfl) rfl ?_
        | refine JO.step (AO1.fa rfl) rfl ?_
        | refine JO.nil ?_
        | refine JC.seq ?_
        | refine JC.reg ?_
        | refine JC.skip ?_
        | refine JC.blk ?_)
    refine JO.step (AO1.lenSn rfl) rfl ?_
    repeat (first
        | refine JO.step (AO1.mv rfl) rfl ?_
        | refine JO.step (AO1.ncP rfl) rfl ?_
        | refine JO.step (AO1.fa rfl) rfl ?_
        | refine JO.nil ?_
        | refine JC.seq ?_
        | refine JC.reg ?_
        | refine JC.skip ?_
        | refine JC.blk ?_)
    refine JO.step (AO1.lenSn rfl) rfl ?_
    refine JO.step (AO1.eq (t := true) rfl rfl rfl) rfl ?_
    repeat (first
        | refine JO.step (AO1.mv rfl) rfl ?_
        | refine JO.step (AO1.ncP rfl) rfl ?_
        | refine JO.step (AO1.fa rfl) rfl ?_
        | refine JO.nil ?_
        | refine JC.seq ?_
        | refine JC.reg ?_
        | refine JC.skip ?_
        | refine JC.blk ?_)
    refine JC.cnd rfl (fun h => by cases h) (fun _ => ?_)
    repeat (first
        | refine JO.step (AO1.mv rfl) rfl ?_
        | refine JO.step (AO1.ncP rfl) rfl ?_
        | refine JO.step (AO1.fa rfl) rfl ?_
        | refine JO.nil ?_
        | refine JC.seq ?_
        | refine JC.reg ?_
        | refine JC.skip ?_
        | refine JC.blk ?_)
    refine JC.loop (fun _ : Unit => (5, .i .i64 0) :: entL [.sn, .sn] 0) (fun _ => S.nxt) (fun _ => []) (fun _ => 0) (fun _ => True) () trivial ⟨rfl, rfl, rfl, rfl, trivial⟩ rfl .nil ?_
    intro _ _
    repeat (first
        | refine JO.step (AO1.mv rfl) rfl ?_
        | refine JO.step (AO1.ncP rfl) rfl ?_
        | refine JO.step (AO1.fa rfl) rfl ?_
        | refine JO.nil ?_
        | refine JC.seq ?_
        | refine JC.reg ?_
        | refine JC.skip ?_
        | refine JC.blk ?_)
    refine JO.step (AO1.lenSn rfl) rfl ?_
    refine JO.step (AO1.bn (v := .b false) rfl rfl rfl) rfl ?_
    repeat (first
        | refine JO.step (AO1.mv rfl) rfl ?_
        | refine JO.step (AO1.ncP rfl) rfl ?_
        | refine JO.step (AO1.fa rfl) rfl ?_
        | refine JO.nil ?_
        | refine JC.seq ?_
        | refine JC.reg ?_
        | refine JC.skip ?_
        | refine JC.blk ?_)
    refine JC.cnd rfl (fun h => by cases h) (fun _ => ?_)
    refine JC.ex ?_
    repeat (first
        | refine JO.step (AO1.mv rfl) rfl ?_
        | refine JO.step (AO1.ncP rfl) rfl ?_
        | refine JO.step (AO1.fa rfl) rfl ?_
        | refine JO.nil ?_
        | refine JC.seq ?_
        | refine JC.reg ?_
        | refine JC.skip ?_
        | refine JC.blk ?_)
    refine JC.ret ?_
    exact ⟨_, .t rfl .nil, rfl, rfl, .nil⟩
  | sl k1 =>
    rename_i A
    cases h2 with
    | nil _ => cases hn.2 rfl
    | sl k2 =>
      rename_i B
      have hAB : A ≠ B := hd A (List.mem_singleton_self _) B (List.mem_singleton_self _)
      obtain ⟨c1, e1, g1⟩ := k1
      obtain ⟨c2, e2, g2⟩ := k2
      rw [flat1_length] at e1 e2 g1 g2
      refine GCall.still (JF (h := [(A, .blk (.row 4 c1 l.length)), (B, .blk (.row 4 c2 l.length))]) ok13 rfl ?_ (by simp [hAB]) ?_) rfl
      · intro x hx
        simp only [List.mem_cons, List.not_mem_nil, or_false] at hx
        rcases hx with rfl | rfl
        · exact ⟨e1, rfl⟩
        · exact ⟨e2, rfl⟩
      intro G
      repeat (first
          | refine JO.step (AO1.mv rfl) rfl ?_
          | refine JO.step (AO1.ncP rfl) rfl ?_
          | refine JO.step (AO1.fa rfl) rfl ?_
          | refine JO.nil ?_
          | refine JC.seq ?_
          | refine JC.reg ?_
          | refine JC.skip ?_
          | refine JC.blk ?_)
      refine JO.step (AO1.lenSlc rfl) rfl ?_
      repeat (first
          | refine JO.step (AO1.mv rfl) rfl ?_
          | refine JO.step (AO1.ncP rfl) rfl ?_
          | refine JO.step (AO1.fa rfl) rfl ?_
          | refine JO.nil ?_
          | refine JC.seq ?_
          | refine JC.reg ?_
          | refine JC.skip ?_
          | refine JC.blk ?_)
      refine JO.step (AO1.lenSlc rfl) rfl ?_
      refine JO.step (AO1.eq rfl rfl (eq_int _ _)) rfl ?_
      repeat (first
          | refine JO.step (AO1.mv rfl) rfl ?_
          | refine JO.step (AO1.ncP rfl) rfl ?_
          | refine JO.step (AO1.fa rfl) rfl ?_
          | refine JO.nil ?_
          | refine JC.seq ?_
          | refine JC.reg ?_
          | refine JC.skip ?_
          | refine JC.blk ?_)
      refine JC.cnd rfl (fun h => ?_) (fun _ => ?_)
      · have h : (!decide (Int.ofNat l.length = Int.ofNat l.length)) = true := h
        simp at h
      repeat (first
          | refine JO.step (AO1.mv rfl) rfl ?_
          | refine JO.step (AO1.ncP rfl) rfl ?_
          | refine JO.step (AO1.fa rfl) rfl ?_
          | refine JO.nil ?_
          | refine JC.seq ?_
          | refine JC.reg ?_
          | refine JC.skip ?_
          | refine JC.blk ?_)
      refine JC.loop (fun i : Nat => (5, .i .i64 (.ofNat i)) :: entL [.sl A 0 l.length none, .sl B 0 l.length none] 0) (fun _ => S.nxt) (fun _ => [(A, .blk (.row 4 c1 l.length)), (B, .blk (.row 4 c2 l.length))]) (fun i => l.length - i) (fun i => i ≤ l.length) 0 (Nat.zero_le _) ⟨rfl, rfl, rfl, rfl, trivial⟩ rfl (HSub.refl _ _) ?_
      intro i hi
      repeat (first
          | refine JO.step (AO1.mv rfl) rfl ?_
          | refine JO.step (AO1.ncP rfl) rfl ?_
          | refine JO.step (AO1.fa rfl) rfl ?_
          | refine JO.nil ?_
          | refine JC.seq ?_
          | refine JC.reg ?_
          | refine JC.skip ?_
          | refine JC.blk ?_)
      refine JO.step (AO1.lenSlc rfl) rfl ?_
      refine JO.step (AO1.bn rfl rfl (bin_lss _ _)) rfl ?_
      repeat (first
          | refine JO.step (AO1.mv rfl) rfl ?_
          | refine JO.step (AO1.ncP rfl) rfl ?_
          | refine JO.step (AO1.fa rfl) rfl ?_
          | refine JO.nil ?_
          | refine JC.seq ?_
          | refine JC.reg ?_
          | refine JC.skip ?_
          | refine JC.blk ?_)
      refine JC.cnd rfl (fun hlt => ?_) (fun hge => ?_)
      rotate_left
      · refine JC.ex ?_
        repeat (first
            | refine JO.step (AO1.mv rfl) rfl ?_
            | refine JO.step (AO1.ncP rfl) rfl ?_
            | refine JO.step (AO1.fa rfl) rfl ?_
            | refine JO.nil ?_
            | refine JC.seq ?_
            | refine JC.reg ?_
            | refine JC.skip ?_
            | refine JC.blk ?_)
        refine JC.ret ?_
        exact ⟨_, .t rfl .nil, rfl, rfl, .same e1 (.same e2 .nil)⟩
      have hlt : i < l.length := Int.ofNat_lt.1 (of_decide_eq_true hlt)
      repeat (first
          | refine JO.step (AO1.mv rfl) rfl ?_
          | refine JO.step (AO1.ncP rfl) rfl ?_
          | refine JO.step (AO1.fa rfl) rfl ?_
          | refine JO.nil ?_
          | refine JC.seq ?_
          | refine JC.reg ?_
          | refine JC.skip ?_
          | refine JC.blk ?_)
      refine JC.drw0 rfl ?_
      refine JD.cons ?_
      refine JI.op (AO1.mv rfl) rfl ?_
      refine JI.op (AO1.mv rfl) rfl ?_
      obtain ⟨x, hx⟩ := flat1_get l i hlt
      have z : Nat.add 0 (Nat.mul i 1) = i := by rw [show Nat.mul i 1 = i from Nat.mul_one i]; exact Nat.zero_add i
      refine JI.op (AO1.iaS rfl rfl (ble_of hlt)) rfl ?_
      refine JI.op (AO1.ld1X 0 rfl rfl (ble_of (by rw [z]; exact hlt)) (by rw [z, g1 i hlt]; exact hx)) rfl ?_
      refine JI.op (AO1.mv rfl) rfl ?_
      refine JI.op (AO1.mv rfl) rfl ?_
      refine JI.op (AO1.iaS rfl rfl (ble_of hlt)) rfl ?_
      refine JI.op (AO1.ld1X 1 rfl rfl (ble_of (by rw [z]; exact hlt)) (by rw [z, g2 i hlt]; exact hx)) rfl ?_
      refine JI.op (AO1.eq (t := true) rfl rfl (by rw [eq_int]; simp)) rfl ?_
      refine JI.pr ?_
      refine JI.w0 ?_
      refine JD.nil ?_
      refine JC.cnd rfl (fun h => ?_) (fun _ => ?_)
      · have h : (!true) = true := h
        cases h
      repeat (first
          | refine JO.step (AO1.mv rfl) rfl ?_
          | refine JO.step (AO1.ncP rfl) rfl ?_
          | refine JO.step (AO1.fa rfl) rfl ?_
          | refine JO.nil ?_
          | refine JC.seq ?_
          | refine JC.reg ?_
          | refine JC.skip ?_
          | refine JC.blk ?_)
      refine JO.step (AO1.bn (v := .i .i64 (.ofNat (i + 1))) rfl rfl (addN (a := i) (b := 1) (by omega))) rfl ?_
      repeat (first
          | refine JO.step (AO1.mv rfl) rfl ?_
          | refine JO.step (AO1.ncP rfl) rfl ?_
          | refine JO.step (AO1.fa rfl) rfl ?_
          | refine JO.nil ?_
          | refine JC.seq ?_
          | refine JC.reg ?_
          | refine JC.skip ?_
          | refine JC.blk ?_)
      exact ⟨i + 1, hlt, by show l.length - (i + 1) < l.length - i; omega, ⟨rfl, rfl, rfl, rfl, trivial⟩, rfl, HSub.refl _ _⟩
theorem same_links {S : St} {l : LL} {u v : AV} {ia ib : List Nat} (hl : l.length ≤ 1000) (h1 : OV S l u ia) (h2 : OV S l v ib) (hd : ∀ a ∈ ia, ∀ b ∈ ib, a ≠ b) (hn : u = .sn ↔ v = .sn) : GCall PP 12 [u, v] S (isV (.b true) S) := by
  cases h1 with
  | nil h =>
    have hv : v = .sn := hn.1 rfl
    subst hv
    refine GCall.still (JF (h := []) ok12 rfl (nothing rfl) List.nodup_nil ?_) rfl
    intro G
    repeat (first
        | refine JO.step (AO1.mv rfl) rfl ?_
        | refine JO.step (AO1.ncP rfl) rfl ?_
        | refine JO.step (AO1.fa rfl) rfl ?_
        | refine JO.nil ?_
        | refine JC.seq ?_
        | refine JC.reg ?_
        | refine JC.skip ?_
        | refine JC.blk ?_)
    refine JO.step (AO1.lenSn rfl) rfl ?_
    repeat (first
        | refine JO.step (AO1.mv rfl) rfl ?_
        | refine JO.step (AO1.ncP rfl) rfl ?_
        | refine JO.step (AO1.fa rfl) rfl ?_
        | refine JO.nil ?_
        | refine JC.seq ?_
        | refine JC.reg ?_
        | refine JC.skip ?_
        | refine JC.blk ?_)
    refine JO.step (AO1.lenSn rfl) rfl ?_
    refine JO.step (AO1.eq (t := true) rfl rfl rfl) rfl ?_
    repeat (first
        | refine JO.step (AO1.mv rfl) rfl ?_
        | refine JO.step (AO1.ncP rfl) rfl ?_
        | refine JO.step (AO1.fa rfl) rfl ?_
        | refine JO.nil ?_
        | refine JC.seq ?_
        | refine JC.reg ?_
        | refine JC.skip ?_
        | refine JC.blk ?_)
    refine JC.cnd rfl (fun h => by cases h) (fun _ => ?_)
    repeat (first
        | refine JO.step (AO1.mv rfl) rfl ?_
        | refine JO.step (AO1.ncP rfl) rfl ?_
        | refine JO.step (AO1.fa rfl) rfl ?_
        | refine JO.nil ?_
        | refine JC.seq ?_
        | refine JC.reg ?_
        | refine JC.skip ?_
        | refine JC.blk ?_)
    refine JC.loop (fun _ : Unit => (5, .i .i64 0) :: entL [.sn, .sn] 0) (fun _ => S.nxt) (fun _ => []) (fun _ => 0) (fun _ => True) () trivial ⟨rfl, rfl, rfl, rfl, trivial⟩ rfl .nil ?_
    intro _ _
    repeat (first
        | refine JO.step (AO1.mv rfl) rfl ?_
        | refine JO.step (AO1.ncP rfl) rfl ?_
        | refine JO.step (AO1.fa rfl) rfl ?_
        | refine JO.nil ?_
        | refine JC.seq ?_
        | refine JC.reg ?_
        | refine JC.skip ?_
        | refine JC.blk ?_)
    refine JO.step (AO1.lenSn rfl) rfl ?_
    refine JO.step (AO1.bn (v := .b false) rfl rfl rfl) rfl ?_
    repeat (first
        | refine JO.step (AO1.mv rfl) rfl ?_
        | refine JO.step (AO1.ncP rfl) rfl ?_
        | refine JO.step (AO1.fa rfl) rfl ?_
        | refine JO.nil ?_
        | refine JC.seq ?_
        | refine JC.reg ?_
        | refine JC.skip ?_
        | refine JC.blk ?_)
    refine JC.cnd rfl (fun h => by cases h) (fun _ => ?_)
    refine JC.ex ?_
    repeat (first
        | refine JO.step (AO1.mv rfl) rfl ?_
        | refine JO.step (AO1.ncP rfl) rfl ?_
        | refine JO.step (AO1.fa rfl) rfl ?_
        | refine JO.nil ?_
        | refine JC.seq ?_
        | refine JC.reg ?_
        | refine JC.skip ?_
        | refine JC.blk ?_)
    refine JC.ret ?_
    exact ⟨_, .t rfl .nil, rfl, rfl, .nil⟩
  | sl k1 =>
    rename_i A
    cases h2 with
    | nil _ => cases hn.2 rfl
    | sl k2 =>
      rename_i B
      have hAB : A ≠ B := hd A (List.mem_singleton_self _) B (List.mem_singleton_self _)
      obtain ⟨c1, e1, g1⟩ := k1
      obtain ⟨c2, e2, g2⟩ := k2
      rw [flat2_length] at e1 e2 g1 g2
      refine GCall.still (JF (h := [(A, .blk (.row 5 c1 (l.length * 2))), (B, .blk (.row 5 c2 (l.length * 2)))]) ok12 rfl ?_ (by simp [hAB]) ?_) rfl
      · intro x hx
        simp only [List.mem_cons, List.not_mem_nil, or_false] at hx
        rcases hx with rfl | rfl
        · exact ⟨e1, rfl⟩
        · exact ⟨e2, rfl⟩
      intro G
      repeat (first
          | refine JO.step (AO1.mv rfl) rfl ?_
          | refine JO.step (AO1.ncP rfl) rfl ?_
          | refine JO.step (AO1.fa rfl) rfl ?_
          | refine JO.nil ?_
          | refine JC.seq ?_
          | refine JC.reg ?_
          | refine JC.skip ?_
          | refine JC.blk ?_)
      refine JO.step (AO1.lenSlc rfl) rfl ?_
      repeat (first
          | refine JO.step (AO1.mv rfl) rfl ?_
          | refine JO.step (AO1.ncP rfl) rfl ?_
          | refine JO.step (AO1.fa rfl) rfl ?_
          | refine JO.nil ?_
          | refine JC.seq ?_
          | refine JC.reg ?_
          | refine JC.skip ?_
          | refine JC.blk ?_)
      refine JO.step (AO1.lenSlc rfl) rfl ?_
      refine JO.step (AO1.eq rfl rfl (eq_int _ _)) rfl ?_
      repeat (first
          | refine JO.step (AO1.mv rfl) rfl ?_
          | refine JO.step (AO1.ncP rfl) rfl ?_
          | refine JO.step (AO1.fa rfl) rfl ?_
          | refine JO.nil ?_
          | refine JC.seq ?_
          | refine JC.reg ?_
          | refine JC.skip ?_
          | refine JC.blk ?_)
      refine JC.cnd rfl (fun h => ?_) (fun _ => ?_)
      · have h : (!decide (Int.ofNat l.length = Int.ofNat l.length)) = true := h
        simp at h
      repeat (first
          | refine JO.step (AO1.mv rfl) rfl ?_
          | refine JO.step (AO1.ncP rfl) rfl ?_
          | refine JO.step (AO1.fa rfl) rfl ?_
          | refine JO.nil ?_
          | refine JC.seq ?_
          | refine JC.reg ?_
          | refine JC.skip ?_
          | refine JC.blk ?_)
      refine JC.loop (fun i : Nat => (5, .i .i64 (.ofNat i)) :: entL [.sl A 0 l.length none, .sl B 0 l.length none] 0) (fun _ => S.nxt) (fun _ => [(A, .blk (.row 5 c1 (l.length * 2))), (B, .blk (.row 5 c2 (l.length * 2)))]) (fun i => l.length - i) (fun i => i ≤ l.length) 0 (Nat.zero_le _) ⟨rfl, rfl, rfl, rfl, trivial⟩ rfl (HSub.refl _ _) ?_
      intro i hi
      repeat (first
          | refine JO.step (AO1.mv rfl) rfl ?_
          | refine JO.step (AO1.ncP rfl) rfl ?_
          | refine JO.step (AO1.fa rfl) rfl ?_
          | refine JO.nil ?_
          | refine JC.seq ?_
          | refine JC.reg ?_
          | refine JC.skip ?_
          | refine JC.blk ?_)
      refine JO.step (AO1.lenSlc rfl) rfl ?_
      refine JO.step (AO1.bn rfl rfl (bin_lss _ _)) rfl ?_
      repeat (first
          | refine JO.step (AO1.mv rfl) rfl ?_
          | refine JO.step (AO1.ncP rfl) rfl ?_
          | refine JO.step (AO1.fa rfl) rfl ?_
          | refine JO.nil ?_
          | refine JC.seq ?_
          | refine JC.reg ?_
          | refine JC.skip ?_
          | refine JC.blk ?_)
      refine JC.cnd rfl (fun hlt => ?_) (fun hge => ?_)
      rotate_left
      · refine JC.ex ?_
        repeat (first
            | refine JO.step (AO1.mv rfl) rfl ?_
            | refine JO.step (AO1.ncP rfl) rfl ?_
            | refine JO.step (AO1.fa rfl) rfl ?_
            | refine JO.nil ?_
            | refine JC.seq ?_
            | refine JC.reg ?_
            | refine JC.skip ?_
            | refine JC.blk ?_)
        refine JC.ret ?_
        exact ⟨_, .t rfl .nil, rfl, rfl, .same e1 (.same e2 .nil)⟩
      have hlt : i < l.length := Int.ofNat_lt.1 (of_decide_eq_true hlt)
      repeat (first
          | refine JO.step (AO1.mv rfl) rfl ?_
          | refine JO.step (AO1.ncP rfl) rfl ?_
          | refine JO.step (AO1.fa rfl) rfl ?_
          | refine JO.nil ?_
          | refine JC.seq ?_
          | refine JC.reg ?_
          | refine JC.skip ?_
          | refine JC.blk ?_)
      refine JC.drw0 rfl ?_
      refine JD.cons ?_
      refine JI.op (AO1.mv rfl) rfl ?_
      refine JI.op (AO1.mv rfl) rfl ?_
      obtain ⟨x, y, hx, hy⟩ := flat2_get l i hlt
      have z : Nat.add 0 (Nat.mul i 2) = i * 2 := Nat.zero_add _
      have rd : ∀ c : T AV, (∀ j, j < l.length * 2 → c.get j = (flat2 l)[j]?) → readCells c (Nat.add 0 (Nat.mul i 2)) 2 = some [.i .i64 x, .i .i64 y] := fun c g => rdT c 2 _ _ (fun j hj => by
        rw [z, g _ (by omega)]
        match j, hj with
        | 0, _ => exact hx
        | 1, _ => exact hy) rfl
      refine JI.op (AO1.iaS rfl rfl (ble_of hlt)) rfl ?_
      refine JI.op (AO1.ldnX 0 rfl rfl (ble_of (by rw [z]; show i * 2 + 2 ≤ _; omega)) (rd c1 g1)) rfl ?_
      refine JI.op (AO1.mv rfl) rfl ?_
      refine JI.op (AO1.mv rfl) rfl ?_
      refine JI.op (AO1.iaS rfl rfl (ble_of hlt)) rfl ?_
      refine JI.op (AO1.ldnX 1 rfl rfl (ble_of (by rw [z]; show i * 2 + 2 ≤ _; omega)) (rd c2 g2)) rfl ?_
      refine JI.op (AO1.eqs (t := true) rfl rfl (eqS_refl x y)) rfl ?_
      refine JI.pr ?_
      refine JI.w0 ?_
      refine JD.nil ?_
      refine JC.cnd rfl (fun h => ?_) (fun _ => ?_)
      · have h : (!true) = true := h
        cases h
      repeat (first
          | refine JO.step (AO1.mv rfl) rfl ?_
          | refine JO.step (AO1.ncP rfl) rfl ?_
          | refine JO.step (AO1.fa rfl) rfl ?_
          | refine JO.nil ?_
          | refine JC.seq ?_
          | refine JC.reg ?_
          | refine JC.skip ?_
          | refine JC.blk ?_)
      refine JO.step (AO1.bn (v := .i .i64 (.ofNat (i + 1))) rfl rfl (addN (a := i) (b := 1) (by omega))) rfl ?_
      repeat (first
          | refine JO.step (AO1.mv rfl) rfl ?_
          | refine JO.step (AO1.ncP rfl) rfl ?_
          | refine JO.step (AO1.fa rfl) rfl ?_
          | refine JO.nil ?_
          | refine JC.seq ?_
          | refine JC.reg ?_
          | refine JC.skip ?_
          | refine JC.blk ?_)
      exact ⟨i + 1, hlt, by show l.length - (i + 1) < l.length - i; omega, ⟨rfl, rfl, rfl, rfl, trivial⟩, rfl, HSub.refl _ _⟩
end L32
end Go.Ev
namespace Go.Ev
open Go Go.Proofs
namespace L32
set_option maxRecDepth 100000
/-! the links of a block, as the reference finds them -/
def addR (ws : List Int) (s : LS) (I : Ins) : LS := if I.2.2 = true ∧ ws.getD I.2.1 0 = 0 then s else if bad (ws.getD I.2.1 0) = true then (true, s.2) else (s.1, s.2 ++ [(I.1, ws.getD I.2.1 0, .ofNat I.2.1)])
def eR (s : LS) : AV := .i .i64 (cond s.1 3 0)
structure CxA (S : St) (s : LS) (vO vP : AV) (tl : Hp) (W k m o : Nat) (t : T AV) (ws : List Int) : Prop where
  hT : Tl s.2 vO vP tl
  R : Rd S W k t m o ws
  htl : ∀ p ∈ tl, p.2.at (S.heap.get p.1)
  dis : (W :: ids tl).Nodup
  len : s.2.length ≤ 1000
/-- what add leaves -/
def AddPost (S : St) (tl : Hp) (s : LS) (y : AV) (S' : St) : Prop :=
  ∃ N' vO vP tl', y = .ag [vO, vP, eR s] ∧ Tl s.2 vO vP tl' ∧ (∀ p ∈ tl', p.1 ∈ ids tl ∨ S.nxt ≤ p.1) ∧ SH (S.dels (ids tl)) N' tl' S'
theorem rightR_bad {x : Int} (h : ¬ x = 0) : (!rightB x) = bad x := by unfold bad; rw [decide_eq_false h, Bool.false_or]
theorem add_c {S : St} {s : LS} {vO vP : AV} {tl : Hp} {W k m o : Nat} {cp : Option Nat} {t : T AV} {ws : List Int} (X : CxA S s vO vP tl W k m o t ws) (role : Int) {i : Nat} (hi : i < ws.length) (none : Bool) :
    GCall PP 38 [.ag [vO, vP, eR s], .i .i64 role, .sl W o ws.length cp, .i .i64 (.ofNat i), .b none] S (AddPost S tl (addR ws s (role, i, none))) := by
  have nin : W ∉ ids tl := (List.nodup_cons.1 X.dis).1
  have sW : (S.dels (ids tl)).heap.get W = some (.row k t m) := by rw [St.dels_get, if_neg nin]; exact X.R.h
  have lim0 : ∀ i ∈ ids tl, (S.dels (ids tl)).heap.get i = Option.none := fun i hi => by rw [St.dels_get, if_pos hi]
  refine (JFD (h := (W, .blk (.row k t m)) :: tl) ok38 rfl (ids tl) ?_ ?_ ?_
    (Φ := fun y N' h' => ∃ vO vP tl', y = .ag [vO, vP, eR (addR ws s (role, i, none))] ∧ Tl (addR ws s (role, i, none)).2 vO vP tl' ∧ (∀ p ∈ tl', p.1 ∈ ids tl ∨ S.nxt ≤ p.1) ∧ HSub (S.dels (ids tl)) h' tl') ?_).mono ?_
  · intro p hp
    rcases List.mem_cons.1 hp with rfl | hp
    · exact ⟨X.R.h, rfl⟩
    · exact ⟨X.htl p hp, X.hT.on p hp⟩
  · exact X.dis
  · intro j hj
    obtain ⟨p, hp, e⟩ := List.mem_map.1 hj
    exact ⟨p, List.mem_cons_of_mem _ hp, e⟩
  rotate_left
  · rintro y S' ⟨N', h', G', vO', vP', tl', e, h1, h2, h3⟩
    exact ⟨N', vO', vP', tl', e, h1, h2, G'.sub h3⟩
  intro G0
  have dl : ∀ j, (S.dels (ids tl)).nxt ≤ S.nxt + j := fun j => by rw [St.dels_nxt]; exact Nat.le_add_right _ _
  obtain ⟨w, l⟩ := s
  have hT0 := X.hT
  have hlen : l.length ≤ 1000 := X.len
  cases hT0 with
  | nil =>
    repeat (first
        | refine JO.step (AO1.mv rfl) rfl ?_
        | refine JO.step (AO1.ncP rfl) rfl ?_
        | refine JO.step (AO1.fa rfl) rfl ?_
        | refine JO.nil ?_
        | refine JC.seq ?_
        | refine JC.reg ?_
        | refine JC.skip ?_
        | refine JC.blk ?_)
    refine JO.step (AO1.bx rfl) rfl ?_
    refine JO.step AO1.al rfl ?_
    repeat (first
        | refine JO.step (AO1.mv rfl) rfl ?_
        | refine JO.step (AO1.ncP rfl) rfl ?_
        | refine JO.step (AO1.fa rfl) rfl ?_
        | refine JO.nil ?_
        | refine JC.seq ?_
        | refine JC.reg ?_
        | refine JC.skip ?_
        | refine JC.blk ?_)
    refine JO.step (AO1.iaS rfl rfl (ble_of hi)) rfl ?_
    refine JO.step (AO1.ld1X 0 rfl rfl (X.R.ble hi) (X.R.get hi)) rfl ?_
    refine JO.step (AO1.eq rfl rfl (eq_int _ _)) rfl ?_
    repeat (first
        | refine JO.step (AO1.mv rfl) rfl ?_
        | refine JO.step (AO1.ncP rfl) rfl ?_
        | refine JO.step (AO1.fa rfl) rfl ?_
        | refine JO.nil ?_
        | refine JC.seq ?_
        | refine JC.reg ?_
        | refine JC.skip ?_
        | refine JC.blk ?_)
    by_cases h0 : ws.getD i 0 = 0
    · have e0 : cond false (!decide (ws.getD i 0 = 0)) (decide (ws.getD i 0 = 0)) = true := decide_eq_true h0
      refine JO.stepT rfl e0 (AO1.mv rfl) rfl ?_
      rw [e0]
      refine JO.step (AO1.pkT rfl rfl) rfl ?_
      repeat (first
          | refine JO.step (AO1.mv rfl) rfl ?_
          | refine JO.step (AO1.ncP rfl) rfl ?_
          | refine JO.step (AO1.fa rfl) rfl ?_
          | refine JO.nil ?_
          | refine JC.seq ?_
          | refine JC.reg ?_
          | refine JC.skip ?_
          | refine JC.blk ?_)
      refine JC.cnd rfl (fun hn => ?_) (fun hn => ?_)
      · have ea : addR ws (w, []) (role, i, none) = (w, []) := by unfold addR; rw [if_pos ⟨hn, h0⟩]
        repeat (first
            | refine JO.step (AO1.mv rfl) rfl ?_
            | refine JO.step (AO1.ncP rfl) rfl ?_
            | refine JO.step (AO1.fa rfl) rfl ?_
            | refine JO.nil ?_
            | refine JC.seq ?_
            | refine JC.reg ?_
            | refine JC.skip ?_
            | refine JC.blk ?_)
        refine JO.step (AO1.ldn 1 rfl rfl rfl rfl) rfl ?_
        refine JO.step0 (AO1.st 2 rfl rfl rfl rfl rfl rfl rfl) ?_
        repeat (first
            | refine JO.step (AO1.mv rfl) rfl ?_
            | refine JO.step (AO1.ncP rfl) rfl ?_
            | refine JO.step (AO1.fa rfl) rfl ?_
            | refine JO.nil ?_
            | refine JC.seq ?_
            | refine JC.reg ?_
            | refine JC.skip ?_
            | refine JC.blk ?_)
        refine JC.ret ?_
        exact ⟨_, .cn 2 rfl rfl rfl rfl .nil, rfl, _, _, [], by rw [ea]; rfl, by rw [ea]; exact X.hT, fun p hp => .inl (List.mem_map.2 ⟨p, hp, rfl⟩), .same sW (.drop (Nat.le_of_eq (St.dels_nxt _ _)) (.drop (by rw [St.dels_nxt]; exact Nat.le_succ _) .nil))⟩
      · have ea : addR ws (w, []) (role, i, none) = (true, ((w, []) : LS).2) := by
          unfold addR; rw [if_neg (fun h => by rw [hn] at h; cases h.1), if_pos (by unfold bad; rw [decide_eq_true h0]; rfl)]
        repeat (first
            | refine JO.step (AO1.mv rfl) rfl ?_
            | refine JO.step (AO1.ncP rfl) rfl ?_
            | refine JO.step (AO1.fa rfl) rfl ?_
            | refine JO.nil ?_
            | refine JC.seq ?_
            | refine JC.reg ?_
            | refine JC.skip ?_
            | refine JC.blk ?_)
        refine JO.step (AO1.iaS rfl rfl (ble_of hi)) rfl ?_
        refine JO.step (AO1.ld1X 0 rfl rfl (X.R.ble hi) (X.R.get hi)) rfl ?_
        refine JO.step (AO1.eq rfl rfl (eq_int _ _)) rfl ?_
        repeat (first
            | refine JO.step (AO1.mv rfl) rfl ?_
            | refine JO.step (AO1.ncP rfl) rfl ?_
            | refine JO.step (AO1.fa rfl) rfl ?_
            | refine JO.nil ?_
            | refine JC.seq ?_
            | refine JC.reg ?_
            | refine JC.skip ?_
            | refine JC.blk ?_)
        refine JO.skip rfl e0 rfl ?_
        refine JO.skip rfl e0 rfl ?_
        refine JO.skip rfl e0 rfl ?_
        refine JO.skip rfl e0 rfl ?_
        refine JO.skip rfl e0 rfl ?_
        refine JO.skip rfl e0 rfl ?_
        rw [e0]
        refine JO.step (AO1.pkT rfl rfl) rfl ?_
        repeat (first
            | refine JO.step (AO1.mv rfl) rfl ?_
            | refine JO.step (AO1.ncP rfl) rfl ?_
            | refine JO.step (AO1.fa rfl) rfl ?_
            | refine JO.nil ?_
            | refine JC.seq ?_
            | refine JC.reg ?_
            | refine JC.skip ?_
            | refine JC.blk ?_)
        refine JC.cnd rfl (fun _ => ?_) (fun h => by cases h)
        repeat (first
            | refine JO.step (AO1.mv rfl) rfl ?_
            | refine JO.step (AO1.ncP rfl) rfl ?_
            | refine JO.step (AO1.fa rfl) rfl ?_
            | refine JO.nil ?_
            | refine JC.seq ?_
            | refine JC.reg ?_
            | refine JC.skip ?_
            | refine JC.blk ?_)
        refine JO.step0 (AO1.st 1 rfl rfl rfl rfl rfl rfl rfl) ?_
        repeat (first
            | refine JO.step (AO1.mv rfl) rfl ?_
            | refine JO.step (AO1.ncP rfl) rfl ?_
            | refine JO.step (AO1.fa rfl) rfl ?_
            | refine JO.nil ?_
            | refine JC.seq ?_
            | refine JC.reg ?_
            | refine JC.skip ?_
            | refine JC.blk ?_)
        refine JO.step (AO1.ldn 1 rfl rfl rfl rfl) rfl ?_
        refine JO.step0 (AO1.st 2 rfl rfl rfl rfl rfl rfl rfl) ?_
        repeat (first
            | refine JO.step (AO1.mv rfl) rfl ?_
            | refine JO.step (AO1.ncP rfl) rfl ?_
            | refine JO.step (AO1.fa rfl) rfl ?_
            | refine JO.nil ?_
            | refine JC.seq ?_
            | refine JC.reg ?_
            | refine JC.skip ?_
            | refine JC.blk ?_)
        refine JC.ret ?_
        exact ⟨_, .cn 2 rfl rfl rfl rfl .nil, rfl, _, _, [], by rw [ea]; rfl, by rw [ea]; exact X.hT, fun p hp => .inl (List.mem_map.2 ⟨p, hp, rfl⟩), .same sW (.drop (Nat.le_of_eq (St.dels_nxt _ _)) (.drop (by rw [St.dels_nxt]; exact Nat.le_succ _) .nil))⟩
    have e0 : cond false (!decide (ws.getD i 0 = 0)) (decide (ws.getD i 0 = 0)) = !true := decide_eq_false h0
    have e1 : cond false (!decide (ws.getD i 0 = 0)) (decide (ws.getD i 0 = 0)) = false := e0
    refine JO.skip rfl e0 rfl ?_
    rw [e1]
    refine JO.step (AO1.pkF rfl rfl) rfl ?_
    repeat (first
        | refine JO.step (AO1.mv rfl) rfl ?_
        | refine JO.step (AO1.ncP rfl) rfl ?_
        | refine JO.step (AO1.fa rfl) rfl ?_
        | refine JO.nil ?_
        | refine JC.seq ?_
        | refine JC.reg ?_
        | refine JC.skip ?_
        | refine JC.blk ?_)
    refine JC.cnd rfl (fun h => by cases h) (fun _ => ?_)
    repeat (first
        | refine JO.step (AO1.mv rfl) rfl ?_
        | refine JO.step (AO1.ncP rfl) rfl ?_
        | refine JO.step (AO1.fa rfl) rfl ?_
        | refine JO.nil ?_
        | refine JC.seq ?_
        | refine JC.reg ?_
        | refine JC.skip ?_
        | refine JC.blk ?_)
    refine JO.step (AO1.iaS rfl rfl (ble_of hi)) rfl ?_
    refine JO.step (AO1.ld1X 0 rfl rfl (X.R.ble hi) (X.R.get hi)) rfl ?_
    refine JO.step (AO1.eq rfl rfl (eq_int _ _)) rfl ?_
    repeat (first
        | refine JO.step (AO1.mv rfl) rfl ?_
        | refine JO.step (AO1.ncP rfl) rfl ?_
        | refine JO.step (AO1.fa rfl) rfl ?_
        | refine JO.nil ?_
        | refine JC.seq ?_
        | refine JC.reg ?_
        | refine JC.skip ?_
        | refine JC.blk ?_)
    refine JO.stepT rfl e1 (AO1.mv rfl) rfl ?_
    refine JO.stepT rfl e1 (AO1.mv rfl) rfl ?_
    refine JO.stepT rfl e1 (AO1.iaS rfl rfl (ble_of hi)) rfl ?_
    refine JO.stepT rfl e1 (AO1.ld1X 0 rfl rfl (X.R.ble hi) (X.R.get hi)) rfl ?_
    refine JO.callPT rfl e1 rfl rfl rfl (fun S1 _ => rightR_c _ S1) rfl ?_
    refine JO.stepT rfl e1 (AO1.un rfl rfl) rfl ?_
    rw [e1]
    refine JO.step (AO1.pkF rfl rfl) rfl ?_
    repeat (first
        | refine JO.step (AO1.mv rfl) rfl ?_
        | refine JO.step (AO1.ncP rfl) rfl ?_
        | refine JO.step (AO1.fa rfl) rfl ?_
        | refine JO.nil ?_
        | refine JC.seq ?_
        | refine JC.reg ?_
        | refine JC.skip ?_
        | refine JC.blk ?_)
    refine JC.cnd rfl (fun hb => ?_) (fun hb => ?_)
    · have ea : addR ws (w, []) (role, i, none) = (true, ((w, []) : LS).2) := by
        unfold addR; rw [if_neg (fun h => h0 h.2), if_pos (by rw [← rightR_bad h0]; exact hb)]
      repeat (first
          | refine JO.step (AO1.mv rfl) rfl ?_
          | refine JO.step (AO1.ncP rfl) rfl ?_
          | refine JO.step (AO1.fa rfl) rfl ?_
          | refine JO.nil ?_
          | refine JC.seq ?_
          | refine JC.reg ?_
          | refine JC.skip ?_
          | refine JC.blk ?_)
      refine JO.step0 (AO1.st 1 rfl rfl rfl rfl rfl rfl rfl) ?_
      repeat (first
          | refine JO.step (AO1.mv rfl) rfl ?_
          | refine JO.step (AO1.ncP rfl) rfl ?_
          | refine JO.step (AO1.fa rfl) rfl ?_
          | refine JO.nil ?_
          | refine JC.seq ?_
          | refine JC.reg ?_
          | refine JC.skip ?_
          | refine JC.blk ?_)
      refine JO.step (AO1.ldn 1 rfl rfl rfl rfl) rfl ?_
      refine JO.step0 (AO1.st 2 rfl rfl rfl rfl rfl rfl rfl) ?_
      repeat (first
          | refine JO.step (AO1.mv rfl) rfl ?_
          | refine JO.step (AO1.ncP rfl) rfl ?_
          | refine JO.step (AO1.fa rfl) rfl ?_
          | refine JO.nil ?_
          | refine JC.seq ?_
          | refine JC.reg ?_
          | refine JC.skip ?_
          | refine JC.blk ?_)
      refine JC.ret ?_
      exact ⟨_, .cn 2 rfl rfl rfl rfl .nil, rfl, _, _, [], by rw [ea]; rfl, by rw [ea]; exact X.hT, fun p hp => .inl (List.mem_map.2 ⟨p, hp, rfl⟩), .same sW (.drop (Nat.le_of_eq (St.dels_nxt _ _)) (.drop (by rw [St.dels_nxt]; exact Nat.le_succ _) .nil))⟩
    have ea : addR ws (w, []) (role, i, none) = (((w, []) : LS).1, ((w, []) : LS).2 ++ [(role, ws.getD i 0, .ofNat i)]) := by
      unfold addR; rw [if_neg (fun h => h0 h.2), if_neg (by rw [← rightR_bad h0, hb]; decide)]
    repeat (first
        | refine JO.step (AO1.mv rfl) rfl ?_
        | refine JO.step (AO1.ncP rfl) rfl ?_
        | refine JO.step (AO1.fa rfl) rfl ?_
        | refine JO.nil ?_
        | refine JC.seq ?_
        | refine JC.reg ?_
        | refine JC.skip ?_
        | refine JC.blk ?_)
    refine JC.drw rfl [8] rfl ?_
    refine JD.cons ?_
    refine JI.op (AO1.fa rfl) rfl ?_
    refine JI.op (AO1.ld1 1 rfl rfl rfl) rfl ?_
    refine JI.op (AO1.mv rfl) rfl ?_
    refine JI.op (AO1.mv rfl) rfl ?_
    refine JI.op (AO1.mv rfl) rfl ?_
    refine JI.op (AO1.iaS rfl rfl (ble_of hi)) rfl ?_
    refine JI.op (AO1.ld1X 0 rfl rfl (X.R.ble hi) (X.R.get hi)) rfl ?_
    refine JI.op (AO1.bd rfl rfl) rfl ?_
    refine JI.pr ?_
    refine JI.al 3 8 rfl (nBs rfl rfl rfl) rfl ?_
    refine JI.w (AO1.appSn (n := 0) rfl rfl (Src.sl 3 rfl rfl rfl) rfl rfl) rfl rfl ?_
    refine JD.cons ?_
    refine JI.op (AO1.fa rfl) rfl ?_
    refine JI.pr ?_
    refine JI.wn (AO1.st 1 rfl rfl rfl rfl rfl rfl rfl) rfl ?_
    refine JD.cons ?_
    refine JI.pr ?_
    refine JI.w0 ?_
    refine JD.nil ?_
    repeat (first
        | refine JO.step (AO1.mv rfl) rfl ?_
        | refine JO.step (AO1.ncP rfl) rfl ?_
        | refine JO.step (AO1.fa rfl) rfl ?_
        | refine JO.nil ?_
        | refine JC.seq ?_
        | refine JC.reg ?_
        | refine JC.skip ?_
        | refine JC.blk ?_)
    refine JO.step (AO1.ld1 1 rfl rfl rfl) rfl ?_
    repeat (first
        | refine JO.step (AO1.mv rfl) rfl ?_
        | refine JO.step (AO1.ncP rfl) rfl ?_
        | refine JO.step (AO1.fa rfl) rfl ?_
        | refine JO.nil ?_
        | refine JC.seq ?_
        | refine JC.reg ?_
        | refine JC.skip ?_
        | refine JC.blk ?_)
    refine JO.step (AO1.bs rfl rfl rfl) rfl ?_
    refine JO.step (AO1.appSn (n := 0) rfl rfl (Src.sl 5 rfl rfl rfl) rfl rfl) rfl ?_
    repeat (first
        | refine JO.step (AO1.mv rfl) rfl ?_
        | refine JO.step (AO1.ncP rfl) rfl ?_
        | refine JO.step (AO1.fa rfl) rfl ?_
        | refine JO.nil ?_
        | refine JC.seq ?_
        | refine JC.reg ?_
        | refine JC.skip ?_
        | refine JC.blk ?_)
    refine JO.step0 (AO1.st 1 rfl rfl rfl rfl rfl rfl rfl) ?_
    repeat (first
        | refine JO.step (AO1.mv rfl) rfl ?_
        | refine JO.step (AO1.ncP rfl) rfl ?_
        | refine JO.step (AO1.fa rfl) rfl ?_
        | refine JO.nil ?_
        | refine JC.seq ?_
        | refine JC.reg ?_
        | refine JC.skip ?_
        | refine JC.blk ?_)
    refine JO.step (AO1.ldn 1 rfl rfl rfl rfl) rfl ?_
    refine JO.step0 (AO1.st 2 rfl rfl rfl rfl rfl rfl rfl) ?_
    repeat (first
        | refine JO.step (AO1.mv rfl) rfl ?_
        | refine JO.step (AO1.ncP rfl) rfl ?_
        | refine JO.step (AO1.fa rfl) rfl ?_
        | refine JO.nil ?_
        | refine JC.seq ?_
        | refine JC.reg ?_
        | refine JC.skip ?_
        | refine JC.blk ?_)
    refine JC.ret ?_
    refine ⟨_, .cn 2 rfl rfl rfl rfl .nil, rfl, .sl (Nat.add (S.nxt + 1 + 1) 12) 0 (([] : LL).length + (0 + 1)) Option.none, .sl (Nat.add (S.nxt + 1 + 1) 12 + 1 + 1) 0 (([] : LL).length + (0 + 1)) Option.none, [(Nat.add (S.nxt + 1 + 1) 12, .row 5 (flat2 ([] ++ [(role, ws.getD i 0, .ofNat i)]))), (Nat.add (S.nxt + 1 + 1) 12 + 1 + 1, .row 4 (flat1 ([] ++ [(role, ws.getD i 0, .ofNat i)])))], by rw [ea]; rfl, by rw [ea]; exact Tl.app, ?_, ?_⟩
    · intro p hp
      simp only [List.mem_cons, List.not_mem_nil, or_false] at hp
      rcases hp with rfl | rfl
      · right; show S.nxt ≤ S.nxt + 1 + 1 + 12; omega
      · right; show S.nxt ≤ S.nxt + 1 + 1 + 12 + 1 + 1; omega
    · exact .same sW (.drop (dl 0) (.drop (dl 1) (.drop (dl 10) (.keep (.drop (dl 15) (.keep .nil))))))
  | row hl =>
    rename_i A B
    repeat (first
        | refine JO.step (AO1.mv rfl) rfl ?_
        | refine JO.step (AO1.ncP rfl) rfl ?_
        | refine JO.step (AO1.fa rfl) rfl ?_
        | refine JO.nil ?_
        | refine JC.seq ?_
        | refine JC.reg ?_
        | refine JC.skip ?_
        | refine JC.blk ?_)
    refine JO.step (AO1.bx rfl) rfl ?_
    refine JO.step AO1.al rfl ?_
    repeat (first
        | refine JO.step (AO1.mv rfl) rfl ?_
        | refine JO.step (AO1.ncP rfl) rfl ?_
        | refine JO.step (AO1.fa rfl) rfl ?_
        | refine JO.nil ?_
        | refine JC.seq ?_
        | refine JC.reg ?_
        | refine JC.skip ?_
        | refine JC.blk ?_)
    refine JO.step (AO1.iaS rfl rfl (ble_of hi)) rfl ?_
    refine JO.step (AO1.ld1X 0 rfl rfl (X.R.ble hi) (X.R.get hi)) rfl ?_
    refine JO.step (AO1.eq rfl rfl (eq_int _ _)) rfl ?_
    repeat (first
        | refine JO.step (AO1.mv rfl) rfl ?_
        | refine JO.step (AO1.ncP rfl) rfl ?_
        | refine JO.step (AO1.fa rfl) rfl ?_
        | refine JO.nil ?_
        | refine JC.seq ?_
        | refine JC.reg ?_
        | refine JC.skip ?_
        | refine JC.blk ?_)
    by_cases h0 : ws.getD i 0 = 0
    · have e0 : cond false (!decide (ws.getD i 0 = 0)) (decide (ws.getD i 0 = 0)) = true := decide_eq_true h0
      refine JO.stepT rfl e0 (AO1.mv rfl) rfl ?_
      rw [e0]
      refine JO.step (AO1.pkT rfl rfl) rfl ?_
      repeat (first
          | refine JO.step (AO1.mv rfl) rfl ?_
          | refine JO.step (AO1.ncP rfl) rfl ?_
          | refine JO.step (AO1.fa rfl) rfl ?_
          | refine JO.nil ?_
          | refine JC.seq ?_
          | refine JC.reg ?_
          | refine JC.skip ?_
          | refine JC.blk ?_)
      refine JC.cnd rfl (fun hn => ?_) (fun hn => ?_)
      · have ea : addR ws (w, l) (role, i, none) = (w, l) := by unfold addR; rw [if_pos ⟨hn, h0⟩]
        repeat (first
            | refine JO.step (AO1.mv rfl) rfl ?_
            | refine JO.step (AO1.ncP rfl) rfl ?_
            | refine JO.step (AO1.fa rfl) rfl ?_
            | refine JO.nil ?_
            | refine JC.seq ?_
            | refine JC.reg ?_
            | refine JC.skip ?_
            | refine JC.blk ?_)
        refine JO.step (AO1.ldn 3 rfl rfl rfl rfl) rfl ?_
        refine JO.step0 (AO1.st 4 rfl rfl rfl rfl rfl rfl rfl) ?_
        repeat (first
            | refine JO.step (AO1.mv rfl) rfl ?_
            | refine JO.step (AO1.ncP rfl) rfl ?_
            | refine JO.step (AO1.fa rfl) rfl ?_
            | refine JO.nil ?_
            | refine JC.seq ?_
            | refine JC.reg ?_
            | refine JC.skip ?_
            | refine JC.blk ?_)
        refine JC.ret ?_
        exact ⟨_, .cn 4 rfl rfl rfl rfl .nil, rfl, _, _, [(A, .row 5 (flat2 l)), (B, .row 4 (flat1 l))], by rw [ea]; rfl, by rw [ea]; exact X.hT, fun p hp => .inl (List.mem_map.2 ⟨p, hp, rfl⟩), .same sW (.keep (.keep (.drop (dl 0) (.drop (dl 1) .nil))))⟩
      · have ea : addR ws (w, l) (role, i, none) = (true, ((w, l) : LS).2) := by
          unfold addR; rw [if_neg (fun h => by rw [hn] at h; cases h.1), if_pos (by unfold bad; rw [decide_eq_true h0]; rfl)]
        repeat (first
            | refine JO.step (AO1.mv rfl) rfl ?_
            | refine JO.step (AO1.ncP rfl) rfl ?_
            | refine JO.step (AO1.fa rfl) rfl ?_
            | refine JO.nil ?_
            | refine JC.seq ?_
            | refine JC.reg ?_
            | refine JC.skip ?_
            | refine JC.blk ?_)
        refine JO.step (AO1.iaS rfl rfl (ble_of hi)) rfl ?_
        refine JO.step (AO1.ld1X 0 rfl rfl (X.R.ble hi) (X.R.get hi)) rfl ?_
        refine JO.step (AO1.eq rfl rfl (eq_int _ _)) rfl ?_
        repeat (first
            | refine JO.step (AO1.mv rfl) rfl ?_
            | refine JO.step (AO1.ncP rfl) rfl ?_
            | refine JO.step (AO1.fa rfl) rfl ?_
            | refine JO.nil ?_
            | refine JC.seq ?_
            | refine JC.reg ?_
            | refine JC.skip ?_
            | refine JC.blk ?_)
        refine JO.skip rfl e0 rfl ?_
        refine JO.skip rfl e0 rfl ?_
        refine JO.skip rfl e0 rfl ?_
        refine JO.skip rfl e0 rfl ?_
        refine JO.skip rfl e0 rfl ?_
        refine JO.skip rfl e0 rfl ?_
        rw [e0]
        refine JO.step (AO1.pkT rfl rfl) rfl ?_
        repeat (first
            | refine JO.step (AO1.mv rfl) rfl ?_
            | refine JO.step (AO1.ncP rfl) rfl ?_
            | refine JO.step (AO1.fa rfl) rfl ?_
            | refine JO.nil ?_
            | refine JC.seq ?_
            | refine JC.reg ?_
            | refine JC.skip ?_
            | refine JC.blk ?_)
        refine JC.cnd rfl (fun _ => ?_) (fun h => by cases h)
        repeat (first
            | refine JO.step (AO1.mv rfl) rfl ?_
            | refine JO.step (AO1.ncP rfl) rfl ?_
            | refine JO.step (AO1.fa rfl) rfl ?_
            | refine JO.nil ?_
            | refine JC.seq ?_
            | refine JC.reg ?_
            | refine JC.skip ?_
            | refine JC.blk ?_)
        refine JO.step0 (AO1.st 3 rfl rfl rfl rfl rfl rfl rfl) ?_
        repeat (first
            | refine JO.step (AO1.mv rfl) rfl ?_
            | refine JO.step (AO1.ncP rfl) rfl ?_
            | refine JO.step (AO1.fa rfl) rfl ?_
            | refine JO.nil ?_
            | refine JC.seq ?_
            | refine JC.reg ?_
            | refine JC.skip ?_
            | refine JC.blk ?_)
        refine JO.step (AO1.ldn 3 rfl rfl rfl rfl) rfl ?_
        refine JO.step0 (AO1.st 4 rfl rfl rfl rfl rfl rfl rfl) ?_
        repeat (first
            | refine JO.step (AO1.mv rfl) rfl ?_
            | refine JO.step (AO1.ncP rfl) rfl ?_
            | refine JO.step (AO1.fa rfl) rfl ?_
            | refine JO.nil ?_
            | refine JC.seq ?_
            | refine JC.reg ?_
            | refine JC.skip ?_
            | refine JC.blk ?_)
        refine JC.ret ?_
        exact ⟨_, .cn 4 rfl rfl rfl rfl .nil, rfl, _, _, [(A, .row 5 (flat2 l)), (B, .row 4 (flat1 l))], by rw [ea]; rfl, by rw [ea]; exact X.hT, fun p hp => .inl (List.mem_map.2 ⟨p, hp, rfl⟩), .same sW (.keep (.keep (.drop (dl 0) (.drop (dl 1) .nil))))⟩
    have e0 : cond false (!decide (ws.getD i 0 = 0)) (decide (ws.getD i 0 = 0)) = !true := decide_eq_false h0
    have e1 : cond false (!decide (ws.getD i 0 = 0)) (decide (ws.getD i 0 = 0)) = false := e0
    refine JO.skip rfl e0 rfl ?_
    rw [e1]
    refine JO.step (AO1.pkF rfl rfl) rfl ?_
    repeat (first
        | refine JO.step (AO1.mv rfl) rfl ?_
        | refine JO.step (AO1.ncP rfl) rfl ?_
        | refine JO.step (AO1.fa rfl) rfl ?_
        | refine JO.nil ?_
        | refine JC.seq ?_
        | refine JC.reg ?_
        | refine JC.skip ?_
        | refine JC.blk ?_)
    refine JC.cnd rfl (fun h => by cases h) (fun _ => ?_)
    repeat (first
        | refine JO.step (AO1.mv rfl) rfl ?_
        | refine JO.step (AO1.ncP rfl) rfl ?_
        | refine JO.step (AO1.fa rfl) rfl ?_
        | refine JO.nil ?_
        | refine JC.seq ?_
        | refine JC.reg ?_
        | refine JC.skip ?_
        | refine JC.blk ?_)
    refine JO.step (AO1.iaS rfl rfl (ble_of hi)) rfl ?_
    refine JO.step (AO1.ld1X 0 rfl rfl (X.R.ble hi) (X.R.get hi)) rfl ?_
    refine JO.step (AO1.eq rfl rfl (eq_int _ _)) rfl ?_
    repeat (first
        | refine JO.step (AO1.mv rfl) rfl ?_
        | refine JO.step (AO1.ncP rfl) rfl ?_
        | refine JO.step (AO1.fa rfl) rfl ?_
        | refine JO.nil ?_
        | refine JC.seq ?_
        | refine JC.reg ?_
        | refine JC.skip ?_
        | refine JC.blk ?_)
    refine JO.stepT rfl e1 (AO1.mv rfl) rfl ?_
    refine JO.stepT rfl e1 (AO1.mv rfl) rfl ?_
    refine JO.stepT rfl e1 (AO1.iaS rfl rfl (ble_of hi)) rfl ?_
    refine JO.stepT rfl e1 (AO1.ld1X 0 rfl rfl (X.R.ble hi) (X.R.get hi)) rfl ?_
    refine JO.callPT rfl e1 rfl rfl rfl (fun S1 _ => rightR_c _ S1) rfl ?_
    refine JO.stepT rfl e1 (AO1.un rfl rfl) rfl ?_
    rw [e1]
    refine JO.step (AO1.pkF rfl rfl) rfl ?_
    repeat (first
        | refine JO.step (AO1.mv rfl) rfl ?_
        | refine JO.step (AO1.ncP rfl) rfl ?_
        | refine JO.step (AO1.fa rfl) rfl ?_
        | refine JO.nil ?_
        | refine JC.seq ?_
        | refine JC.reg ?_
        | refine JC.skip ?_
        | refine JC.blk ?_)
    refine JC.cnd rfl (fun hb => ?_) (fun hb => ?_)
    · have ea : addR ws (w, l) (role, i, none) = (true, ((w, l) : LS).2) := by
        unfold addR; rw [if_neg (fun h => h0 h.2), if_pos (by rw [← rightR_bad h0]; exact hb)]
      repeat (first
          | refine JO.step (AO1.mv rfl) rfl ?_
          | refine JO.step (AO1.ncP rfl) rfl ?_
          | refine JO.step (AO1.fa rfl) rfl ?_
          | refine JO.nil ?_
          | refine JC.seq ?_
          | refine JC.reg ?_
          | refine JC.skip ?_
          | refine JC.blk ?_)
      refine JO.step0 (AO1.st 3 rfl rfl rfl rfl rfl rfl rfl) ?_
      repeat (first
          | refine JO.step (AO1.mv rfl) rfl ?_
          | refine JO.step (AO1.ncP rfl) rfl ?_
          | refine JO.step (AO1.fa rfl) rfl ?_
          | refine JO.nil ?_
          | refine JC.seq ?_
          | refine JC.reg ?_
          | refine JC.skip ?_
          | refine JC.blk ?_)
      refine JO.step (AO1.ldn 3 rfl rfl rfl rfl) rfl ?_
      refine JO.step0 (AO1.st 4 rfl rfl rfl rfl rfl rfl rfl) ?_
      repeat (first
          | refine JO.step (AO1.mv rfl) rfl ?_
          | refine JO.step (AO1.ncP rfl) rfl ?_
          | refine JO.step (AO1.fa rfl) rfl ?_
          | refine JO.nil ?_
          | refine JC.seq ?_
          | refine JC.reg ?_
          | refine JC.skip ?_
          | refine JC.blk ?_)
      refine JC.ret ?_
      exact ⟨_, .cn 4 rfl rfl rfl rfl .nil, rfl, _, _, [(A, .row 5 (flat2 l)), (B, .row 4 (flat1 l))], by rw [ea]; rfl, by rw [ea]; exact X.hT, fun p hp => .inl (List.mem_map.2 ⟨p, hp, rfl⟩), .same sW (.keep (.keep (.drop (dl 0) (.drop (dl 1) .nil))))⟩
    have ea : addR ws (w, l) (role, i, none) = (((w, l) : LS).1, ((w, l) : LS).2 ++ [(role, ws.getD i 0, .ofNat i)]) := by
      unfold addR; rw [if_neg (fun h => h0 h.2), if_neg (by rw [← rightR_bad h0, hb]; decide)]
    repeat (first
        | refine JO.step (AO1.mv rfl) rfl ?_
        | refine JO.step (AO1.ncP rfl) rfl ?_
        | refine JO.step (AO1.fa rfl) rfl ?_
        | refine JO.nil ?_
        | refine JC.seq ?_
        | refine JC.reg ?_
        | refine JC.skip ?_
        | refine JC.blk ?_)
    refine JC.drw rfl [8] rfl ?_
    refine JD.cons ?_
    refine JI.op (AO1.fa rfl) rfl ?_
    refine JI.op (AO1.ld1 3 rfl rfl rfl) rfl ?_
    refine JI.op (AO1.mv rfl) rfl ?_
    refine JI.op (AO1.mv rfl) rfl ?_
    refine JI.op (AO1.mv rfl) rfl ?_
    refine JI.op (AO1.iaS rfl rfl (ble_of hi)) rfl ?_
    refine JI.op (AO1.ld1X 0 rfl rfl (X.R.ble hi) (X.R.get hi)) rfl ?_
    refine JI.op (AO1.bd rfl rfl) rfl ?_
    refine JI.pr ?_
    refine JI.al 5 8 rfl (nBs rfl rfl rfl) rfl ?_
    refine JI.w (AO1.appGrow 1 (n := 0) rfl rfl (Src.sl 5 rfl rfl rfl) rfl (capk rfl (by show (l.length + 1) * 16 ≤ _; omega)) rfl (ble_of (by show l.length * 2 ≤ (flat2 l).length; rw [flat2_length]; omega))) rfl rfl ?_
    refine JD.cons ?_
    refine JI.op (AO1.fa rfl) rfl ?_
    refine JI.pr ?_
    refine JI.wn (AO1.st 3 rfl rfl rfl rfl rfl rfl rfl) rfl ?_
    refine JD.cons ?_
    refine JI.pr ?_
    refine JI.w0 ?_
    refine JD.nil ?_
    repeat (first
        | refine JO.step (AO1.mv rfl) rfl ?_
        | refine JO.step (AO1.ncP rfl) rfl ?_
        | refine JO.step (AO1.fa rfl) rfl ?_
        | refine JO.nil ?_
        | refine JC.seq ?_
        | refine JC.reg ?_
        | refine JC.skip ?_
        | refine JC.blk ?_)
    refine JO.step (AO1.ld1 3 rfl rfl rfl) rfl ?_
    repeat (first
        | refine JO.step (AO1.mv rfl) rfl ?_
        | refine JO.step (AO1.ncP rfl) rfl ?_
        | refine JO.step (AO1.fa rfl) rfl ?_
        | refine JO.nil ?_
        | refine JC.seq ?_
        | refine JC.reg ?_
        | refine JC.skip ?_
        | refine JC.blk ?_)
    refine JO.step (AO1.bs rfl rfl rfl) rfl ?_
    refine JO.step (AO1.appGrow 2 (n := 0) rfl rfl (Src.sl 7 rfl rfl rfl) rfl (capk rfl (by show (l.length + 1) * 8 ≤ _; omega)) rfl (ble_of (by show l.length * 1 ≤ (flat1 l).length; rw [flat1_length]; omega))) rfl ?_
    repeat (first
        | refine JO.step (AO1.mv rfl) rfl ?_
        | refine JO.step (AO1.ncP rfl) rfl ?_
        | refine JO.step (AO1.fa rfl) rfl ?_
        | refine JO.nil ?_
        | refine JC.seq ?_
        | refine JC.reg ?_
        | refine JC.skip ?_
        | refine JC.blk ?_)
    refine JO.step0 (AO1.st 3 rfl rfl rfl rfl rfl rfl rfl) ?_
    repeat (first
        | refine JO.step (AO1.mv rfl) rfl ?_
        | refine JO.step (AO1.ncP rfl) rfl ?_
        | refine JO.step (AO1.fa rfl) rfl ?_
        | refine JO.nil ?_
        | refine JC.seq ?_
        | refine JC.reg ?_
        | refine JC.skip ?_
        | refine JC.blk ?_)
    refine JO.step (AO1.ldn 3 rfl rfl rfl rfl) rfl ?_
    refine JO.step0 (AO1.st 4 rfl rfl rfl rfl rfl rfl rfl) ?_
    repeat (first
        | refine JO.step (AO1.mv rfl) rfl ?_
        | refine JO.step (AO1.ncP rfl) rfl ?_
        | refine JO.step (AO1.fa rfl) rfl ?_
        | refine JO.nil ?_
        | refine JC.seq ?_
        | refine JC.reg ?_
        | refine JC.skip ?_
        | refine JC.blk ?_)
    refine JC.ret ?_
    refine ⟨_, .cn 4 rfl rfl rfl rfl .nil, rfl, .sl (Nat.add (S.nxt + 1 + 1) 12) 0 (l.length + (0 + 1)) Option.none, .sl (Nat.add (S.nxt + 1 + 1) 12 + 1 + 1) 0 (l.length + (0 + 1)) Option.none, [(Nat.add (S.nxt + 1 + 1) 12, .row 5 (flat2 (l ++ [(role, ws.getD i 0, .ofNat i)]))), (Nat.add (S.nxt + 1 + 1) 12 + 1 + 1, .row 4 (flat1 (l ++ [(role, ws.getD i 0, .ofNat i)])))], by rw [ea]; rfl, by rw [ea]; exact Tl.app, ?_, ?_⟩
    · intro p hp
      simp only [List.mem_cons, List.not_mem_nil, or_false] at hp
      rcases hp with rfl | rfl
      · right; show S.nxt ≤ S.nxt + 1 + 1 + 12; omega
      · right; show S.nxt ≤ S.nxt + 1 + 1 + 12 + 1 + 1; omega
    · exact .same sW (.gn (lim0 A (by simp [ids])) (.gn (lim0 B (by simp [ids])) (.drop (dl 0) (.drop (dl 1) (.drop (dl 10) (.keepE (by rw [flat2_take, flat2_app]; rfl) (.drop (dl 15) (.keepE (by rw [flat1_take, flat1_app]; rfl) .nil))))))))
end L32
end Go.Ev
namespace Go.Ev
open Go Go.Proofs
namespace L32
set_option maxRecDepth 100000
theorem AddPost.ctx {S0 S1 S2 : St} {N : Nat} {F tl : Hp} {s : LS} {y : AV} (G : SH S0 N (F ++ tl) S1) (hz : ∀ p ∈ tl, S0.nxt ≤ p.1) (k : AddPost S1 tl s y S2) :
    ∃ N' vO vP tl', y = .ag [vO, vP, eR s] ∧ Tl s.2 vO vP tl' ∧ (∀ p ∈ tl', S0.nxt ≤ p.1) ∧ N ≤ N' ∧ SH S0 N' (F ++ tl') S2 := by
  obtain ⟨N', vO, vP, tl', rfl, hT, hul, G'⟩ := k
  rw [G.nxt] at hul
  have hle : N ≤ N' := by have := G'.le; rw [St.dels_nxt, G.nxt] at this; exact this
  have hN := G.le
  have hdis := G.dis
  rw [List.map_append, List.nodup_append] at hdis
  obtain ⟨dF, dU, dFU⟩ := hdis
  have hF : ∀ p ∈ F, ∀ r ∈ tl', r.1 ≠ p.1 := fun p hp r hr e => by
    rcases hul r hr with h1 | h1
    · exact dFU p.1 (List.mem_map.2 ⟨p, hp, rfl⟩) r.1 h1 e.symm
    · have := G.lt p (List.mem_append_left _ hp)
      omega
  refine ⟨N', vO, vP, tl', rfl, hT, fun p hp => ?_, hle, ?_⟩
  · rcases hul p hp with h1 | h1
    · obtain ⟨r, hr, e⟩ := List.mem_map.1 h1
      rw [← e]; exact hz r hr
    · omega
  refine G.ctxD (ids tl) (fun j hj => ?_) G' _ (fun p hp => ?_) (fun p hp hlo => ?_) (fun p hp _ => ⟨p, List.mem_append_right _ hp, rfl⟩) ?_
  · obtain ⟨r, hr, rfl⟩ := List.mem_map.1 hj
    exact G.wf _ (hz r hr)
  · rcases List.mem_append.1 hp with hp | hp
    · exact .inr ⟨List.mem_append_left _ hp, fun hm => dFU p.1 (List.mem_map.2 ⟨p, hp, rfl⟩) p.1 hm rfl, fun r hr => hF p hp r hr⟩
    · exact .inl hp
  · rcases List.mem_append.1 hp with hp | hp
    · exact .inr ⟨p, List.mem_append_left _ hp, rfl⟩
    · exact .inl (List.mem_map.2 ⟨p, hp, rfl⟩)
  · rw [List.map_append, List.nodup_append]
    refine ⟨dF, G'.dis, fun a ha b hb => ?_⟩
    obtain ⟨p, hp, rfl⟩ := List.mem_map.1 ha
    obtain ⟨r, hr, rfl⟩ := List.mem_map.1 hb
    exact fun e => hF p hp r hr e.symm
/-! the reference's model, and that it is the program's -/
def runR (ws : List Int) (s : LS) (is : List Ins) : LS := is.foldl (addR ws) s
theorem runR_app (ws : List Int) (s : LS) (a b : List Ins) : runR ws s (a ++ b) = runR ws (runR ws s a) b := List.foldl_append
def Eqv (s s' : LS) : Prop := s.1 = s'.1 ∧ (s.1 = false → s.2 = s'.2)
theorem step_eqv (ws : List Int) {s s' : LS} (h : Eqv s s') (I : Ins) : Eqv (stepI ws s I) (addR ws s' I) := by
  obtain ⟨w, l⟩ := s
  obtain ⟨w', l'⟩ := s'
  obtain ⟨h1, h2⟩ := h
  simp only at h1 h2
  subst h1
  unfold stepI addR addL
  by_cases hc : I.2.2 = true ∧ ws.getD I.2.1 0 = 0
  · rw [if_pos hc, if_pos hc]; exact ⟨rfl, h2⟩
  · rw [if_neg hc, if_neg hc]
    cases hb : bad (ws.getD I.2.1 0) with
    | true => rw [if_pos rfl]; exact ⟨by simp, fun k => by simp at k⟩
    | false =>
      rw [if_neg (by decide)]
      refine ⟨by simp, fun k => ?_⟩
      have : w = false := by simpa using k
      simp only
      rw [h2 this]
theorem run_eqv (ws : List Int) : ∀ (is : List Ins) {s s' : LS}, Eqv s s' → Eqv (runI ws s is) (runR ws s' is)
  | [], _, _, h => h
  | I :: is, _, _, h => run_eqv ws is (step_eqv ws h I)
theorem Eqv.fin {s s' : LS} (h : Eqv s s') : fin s = fin s' := by
  unfold L32.fin
  rw [← h.1]
  cases hw : s.1 with
  | true => rfl
  | false => rw [if_neg (by decide), if_neg (by decide), h.2 hw]
theorem run_fin (ws : List Int) (is : List Ins) : fin (runI ws (false, []) is) = fin (runR ws (false, []) is) := (run_eqv ws is ⟨rfl, fun _ => rfl⟩).fin
end L32
end Go.Ev
namespace Go.Ev
open Go Go.Proofs
namespace L32
set_option maxRecDepth 100000
/-- what the reference's functions leave -/
def RPost (S : St) (s : LS) (y : AV) (S' : St) : Prop := ∃ vO vP, y = .ag [vO, vP, eR s] ∧ Two S s.2 vO vP S'
def RPostH (S : St) (s : LS) (y : AV) (_ : Nat) (h' : Hp) : Prop := ∃ vO vP tl, y = .ag [vO, vP, eR s] ∧ Tl s.2 vO vP tl ∧ (∀ p ∈ tl, S.nxt ≤ p.1) ∧ HSub S h' tl
theorem RPostH.rp {S : St} {s : LS} {y : AV} {S' : St} (k : ∃ N' h', SH S N' h' S' ∧ RPostH S s y N' h') : RPost S s y S' := by
  obtain ⟨N', h', G, vO, vP, tl, e, hT, hl, hs⟩ := k
  exact ⟨vO, vP, e, N', tl, hT, hl, G.sub hs⟩
/-- add in a frame -/
theorem addIn {S0 S1 : St} {N W k m o : Nat} {cp : Option Nat} {t : T AV} {ws : List Int} {F tl : Hp} {s : LS} {vO vP : AV} (R : Rd S0 W k t m o ws) (hT : Tl s.2 vO vP tl) (htl : ∀ p ∈ tl, S0.nxt ≤ p.1) (hlen : s.2.length ≤ 1000) (role : Int) {i : Nat} (hi : i < ws.length) (none : Bool) (G1 : SH S0 N ((W, .blk (.row k t m)) :: (F ++ tl)) S1) :
    GCall PP 38 [.ag [vO, vP, eR s], .i .i64 role, .sl W o ws.length cp, .i .i64 (.ofNat i), .b none] S1 (fun y S2 => ∃ N' uO uP tl', y = .ag [uO, uP, eR (addR ws s (role, i, none))] ∧ Tl (addR ws s (role, i, none)).2 uO uP tl' ∧ (∀ p ∈ tl', S0.nxt ≤ p.1) ∧ N ≤ N' ∧ SH S0 N' ((W, .blk (.row k t m)) :: (F ++ tl')) S2) := by
  refine (add_c (W := W) (k := k) (m := m) (t := t) (cp := cp) ⟨hT, ⟨G1.look (j := 0) rfl, R.le, R.ge⟩, fun r hr => G1.get r (List.mem_cons_of_mem _ (List.mem_append_right _ hr)), ?_, hlen⟩ role hi none).mono fun y S2 k' => ?_
  · have := G1.dis
    rw [List.map_cons, List.map_append] at this
    exact this.sublist (.cons_cons _ (List.sublist_append_right _ _))
  · obtain ⟨N', uO, uP, tl', e, h1, h2, h3, h4⟩ := k'.ctx (F := (W, .blk (.row k t m)) :: F) G1 htl
    exact ⟨N', uO, uP, tl', e, h1, h2, h3, h4⟩
def refC (r : Int) (ws : List Int) : LS :=
  if r = 1 then ((runR ws (false, []) [(2, 1, false)]).1 || !decide (ws.getD 0 0 = 1), (runR ws (false, []) [(2, 1, false)]).2)
  else if r = 2 then (if ws.getD 0 0 = 2 ∧ 0 ≤ ws.getD 1 0 ∧ ws.getD 1 0 ≤ 8 then runR ws (false, []) (dirI (ws.getD 1 0).toNat) else (true, []))
  else if r = 4 then (if 0 ≤ ws.getD 3 0 ∧ ws.getD 3 0 ≤ 4 then runR ws (false, []) ((5, 1, false) :: tabI (ws.getD 3 0).toNat) else (true, []))
  else if r = 5 then (if 1 ≤ ws.getD 0 0 ∧ ws.getD 0 0 ≤ 126 ∧ 1 + ws.getD 0 0 ≤ ws.length then runR ws (false, []) (bucI (ws.getD 0 0).toNat) else (true, []))
  else if r = 6 then runR ws (false, []) ((6, 0, true) :: nodI ws 3)
  else if r = 7 then runR ws (false, []) [(7, 3, true)]
  else if r = 8 then (if 1 ≤ ws.getD 0 0 ∧ ws.getD 0 0 ≤ 6 ∧ ws.getD 0 0 + 4 ≤ ws.length then runR ws (false, []) [(8, (ws.getD 0 0).toNat + 2, true), (8, (ws.getD 0 0).toNat + 3, true)] else (true, []))
  else (false, [])
theorem refC_fin (r : Int) (ws : List Int) : fin (linksC r ws) = fin (refC r ws) := by
  have e := fun is => run_fin ws is
  unfold linksC refC
  split
  · have h := run_eqv ws [(2, 1, false)] (s := (false, [])) (s' := (false, [])) ⟨rfl, fun _ => rfl⟩
    refine Eqv.fin ⟨by simp only [h.1], fun k => ?_⟩
    have : (runI ws (false, []) [(2, 1, false)]).1 = false := by
      simp only [Bool.or_eq_false_iff] at k; exact k.1
    exact h.2 this
  repeat' split
  all_goals first | exact e _ | rfl
theorem addR_len (ws : List Int) (s : LS) (I : Ins) : (addR ws s I).2.length ≤ s.2.length + 1 := by
  unfold addR; split
  · omega
  · split
    · show s.2.length ≤ _; omega
    · simp
theorem runR_len (ws : List Int) : ∀ (is : List Ins) (s : LS), (runR ws s is).2.length ≤ s.2.length + is.length
  | [], s => Nat.le_refl _
  | I :: is, s => by
    have h1 := runR_len ws is (addR ws s I)
    have h2 := addR_len ws s I
    show (runR ws (addR ws s I) is).2.length ≤ s.2.length + (is.length + 1)
    omega
end L32
end Go.Ev
namespace Go.Ev
open Go Go.Proofs
namespace L32
set_option maxRecDepth 100000
theorem Tl.ones {l : LL} {u v : AV} {tl : Hp} (h : Tl l u v tl) (s : LS) : Go.Ev.ones [u, v, eR s] = true := by cases h <;> rfl
theorem SH.perm {S0 S : St} {N : Nat} {h h2 : Hp} (G : SH S0 N h S) (k : h.Perm h2) : SH S0 N h2 S :=
  ⟨G.nxt, fun p hp => G.get p (k.mem_iff.2 hp), fun β b e => G.els β b (fun p hp => e p (k.mem_iff.1 hp)), (k.map _).nodup_iff.1 G.dis, fun p hp => G.lt p (k.mem_iff.2 hp), G.wf, G.le⟩
theorem JO.perm {P : Program} {S0 : St} {q : Option AV} {ops : List AO} {l : Fr} {N : Nat} {h h2 : Hp} {Ψ : Pst} (k : h.Perm h2) (H : JO P S0 q ops l N h2 Ψ) : JO P S0 q ops l N h Ψ := fun σ S F G => H σ S F (SH.perm G k)
theorem tree_c {S : St} {W k m o : Nat} {cp : Option Nat} {t : T AV} {ws : List Int} (R : Rd S W k t m o ws) (h1 : 1 ≤ ws.length) (hlen : ws.length ≤ 1000) : GCall PP 43 [.sl W o ws.length cp] S (RPost S (refC 8 ws)) := by
  refine (JF (h := [(W, .blk (.row k t m))]) ok43 rfl ?_ (by simp) (Φ := RPostH S (refC 8 ws)) ?_).mono fun y S' k => RPostH.rp k
  · intro x hx
    rw [List.mem_singleton] at hx; subst hx
    exact ⟨R.h, rfl⟩
  intro G
  have hC : refC 8 ws = if 1 ≤ ws.getD 0 0 ∧ ws.getD 0 0 ≤ 6 ∧ ws.getD 0 0 + 4 ≤ ws.length then runR ws (false, []) [(8, (ws.getD 0 0).toNat + 2, true), (8, (ws.getD 0 0).toNat + 3, true)] else (true, []) := by
    unfold refC
    rw [if_neg (by decide), if_neg (by decide), if_neg (by decide), if_neg (by decide), if_neg (by decide), if_neg (by decide), if_pos rfl]
  refine JC.seq ?_
  refine JC.reg ?_
  refine JO.step AO1.al rfl ?_
  repeat (first
      | refine JO.step (AO1.mv rfl) rfl ?_
      | refine JO.step (AO1.ncP rfl) rfl ?_
      | refine JO.step (AO1.fa rfl) rfl ?_
      | refine JO.nil ?_
      | refine JC.seq ?_
      | refine JC.reg ?_
      | refine JC.skip ?_
      | refine JC.blk ?_)
  refine JO.step (AO1.iaS (i := 0) rfl rfl (ble_of (by omega))) rfl ?_
  refine JO.step (AO1.ld1X 0 rfl rfl (R.ble (i := 0) (by omega)) (R.get (i := 0) (by omega))) rfl ?_
  refine JO.step (AO1.mv rfl) rfl ?_
  refine JO.nil ?_
  generalize hn : ws.getD 0 0 = n at *
  refine JC.seq ?_
  refine JC.cut [(20, .b (withinB false ws n 1 6 (fwrap .i64 (n + 4)))), (3, .i .i64 n), (2, .p S.nxt 0), (0, .sl W o ws.length cp), (dslot, .tu [])] (S.nxt + 1) [(W, .blk (.row k t m)), (S.nxt, .row 0 [.sn, .sn, .i .i64 0])] ?_ ?_
  · repeat (first
        | refine JO.step (AO1.mv rfl) rfl ?_
        | refine JO.step (AO1.ncP rfl) rfl ?_
        | refine JO.step (AO1.fa rfl) rfl ?_
        | refine JO.nil ?_
        | refine JC.seq ?_
        | refine JC.reg ?_
        | refine JC.skip ?_
        | refine JC.blk ?_)
    refine JO.step (AO1.bn rfl rfl (bin_lss _ _)) rfl ?_
    repeat (first
        | refine JO.step (AO1.mv rfl) rfl ?_
        | refine JO.step (AO1.ncP rfl) rfl ?_
        | refine JO.step (AO1.fa rfl) rfl ?_
        | refine JO.nil ?_
        | refine JC.seq ?_
        | refine JC.reg ?_
        | refine JC.skip ?_
        | refine JC.blk ?_)
    unfold withinB
    rw [Bool.false_or]
    cases decide (n < 1) with
    | true =>
      refine JO.skip rfl rfl rfl ?_
      refine JO.skip rfl rfl rfl ?_
      refine JO.step (AO1.pkT rfl rfl) rfl ?_
      repeat (first
          | refine JO.step (AO1.mv rfl) rfl ?_
          | refine JO.step (AO1.ncP rfl) rfl ?_
          | refine JO.step (AO1.fa rfl) rfl ?_
          | refine JO.nil ?_
          | refine JC.seq ?_
          | refine JC.reg ?_
          | refine JC.skip ?_
          | refine JC.blk ?_)
      refine JO.skip rfl rfl rfl ?_
      refine JO.skip rfl rfl rfl ?_
      refine JO.skip rfl rfl rfl ?_
      refine JO.skip rfl rfl rfl ?_
      refine JO.skip rfl rfl rfl ?_
      refine JO.step (AO1.pkT rfl rfl) rfl ?_
      repeat (first
          | refine JO.step (AO1.mv rfl) rfl ?_
          | refine JO.step (AO1.ncP rfl) rfl ?_
          | refine JO.step (AO1.fa rfl) rfl ?_
          | refine JO.nil ?_
          | refine JC.seq ?_
          | refine JC.reg ?_
          | refine JC.skip ?_
          | refine JC.blk ?_)
      exact ⟨rfl, ⟨rfl, rfl, rfl, rfl, rfl, trivial⟩, rfl, HSub.refl _ _⟩
    | false =>
      refine JO.stepT rfl rfl (AO1.mv rfl) rfl ?_
      refine JO.stepT rfl rfl (AO1.bn rfl rfl (bin_gtr _ _)) rfl ?_
      refine JO.step (AO1.pkF rfl rfl) rfl ?_
      repeat (first
          | refine JO.step (AO1.mv rfl) rfl ?_
          | refine JO.step (AO1.ncP rfl) rfl ?_
          | refine JO.step (AO1.fa rfl) rfl ?_
          | refine JO.nil ?_
          | refine JC.seq ?_
          | refine JC.reg ?_
          | refine JC.skip ?_
          | refine JC.blk ?_)
      rw [Bool.false_or]
      cases decide (6 < n) with
      | true =>
        refine JO.skip rfl rfl rfl ?_
        refine JO.skip rfl rfl rfl ?_
        refine JO.skip rfl rfl rfl ?_
        refine JO.skip rfl rfl rfl ?_
        refine JO.skip rfl rfl rfl ?_
        refine JO.step (AO1.pkT rfl rfl) rfl ?_
        repeat (first
            | refine JO.step (AO1.mv rfl) rfl ?_
            | refine JO.step (AO1.ncP rfl) rfl ?_
            | refine JO.step (AO1.fa rfl) rfl ?_
            | refine JO.nil ?_
            | refine JC.seq ?_
            | refine JC.reg ?_
            | refine JC.skip ?_
            | refine JC.blk ?_)
        exact ⟨rfl, ⟨rfl, rfl, rfl, rfl, rfl, trivial⟩, rfl, HSub.refl _ _⟩
      | false =>
        refine JO.stepT rfl rfl (AO1.mv rfl) rfl ?_
        refine JO.stepT rfl rfl (AO1.lenSlc rfl) rfl ?_
        refine JO.stepT rfl rfl (AO1.mv rfl) rfl ?_
        refine JO.stepT rfl rfl (AO1.bn (v := .i .i64 (fwrap .i64 (n + 4))) rfl rfl rfl) rfl ?_
        refine JO.stepT rfl rfl (AO1.bn rfl rfl (bin_lss _ _)) rfl ?_
        refine JO.step (AO1.pkF rfl rfl) rfl ?_
        repeat (first
            | refine JO.step (AO1.mv rfl) rfl ?_
            | refine JO.step (AO1.ncP rfl) rfl ?_
            | refine JO.step (AO1.fa rfl) rfl ?_
            | refine JO.nil ?_
            | refine JC.seq ?_
            | refine JC.reg ?_
            | refine JC.skip ?_
            | refine JC.blk ?_)
        exact ⟨rfl, ⟨rfl, rfl, rfl, rfl, rfl, trivial⟩, rfl, HSub.refl _ _⟩
  refine JC.cnd rfl (fun hw => ?_) (fun hw => ?_)
  · repeat (first
        | refine JO.step (AO1.mv rfl) rfl ?_
        | refine JO.step (AO1.ncP rfl) rfl ?_
        | refine JO.step (AO1.fa rfl) rfl ?_
        | refine JO.nil ?_
        | refine JC.seq ?_
        | refine JC.reg ?_
        | refine JC.skip ?_
        | refine JC.blk ?_)
    refine JO.step (AO1.bd rfl rfl) rfl ?_
    refine JO.step0 (AO1.st 1 rfl rfl rfl rfl rfl rfl rfl) ?_
    repeat (first
        | refine JO.step (AO1.mv rfl) rfl ?_
        | refine JO.step (AO1.ncP rfl) rfl ?_
        | refine JO.step (AO1.fa rfl) rfl ?_
        | refine JO.nil ?_
        | refine JC.seq ?_
        | refine JC.reg ?_
        | refine JC.skip ?_
        | refine JC.blk ?_)
    refine JC.ret ?_
    have e : refC 8 ws = (true, []) := by
      rw [hC, if_neg]
      intro ⟨a, b, c⟩
      rcases withinB_true hw with e | e
      · cases e
      · apply e
        rw [fwrap_in (by omega) (by omega)]
        exact ⟨a, b, c⟩
    exact ⟨_, .cn 1 rfl rfl rfl rfl .nil, rfl, .sn, .sn, [], by rw [e]; rfl, by rw [e]; exact .nil, fun _ h => (by cases h), .same R.h (.drop (Nat.le_refl _) .nil)⟩
  obtain ⟨_, l1, l6, ll⟩ := withinB_false hw
  rw [fwrap_in (by omega) (by omega)] at ll
  obtain ⟨j, hj⟩ := Int.eq_ofNat_of_zero_le (show 0 ≤ n by omega)
  have hj : n = .ofNat j := hj
  have e : refC 8 ws = runR ws (false, []) [(8, j + 2, true), (8, j + 3, true)] := by
    rw [hC, if_pos ⟨l1, l6, ll⟩, hj]; rfl
  have hj6 : j ≤ 6 := by rw [hj] at l6; exact Int.ofNat_le.1 l6
  have hjl : j + 4 ≤ ws.length := by
    rw [hj] at ll
    have : ((j : Int) + 4) ≤ (ws.length : Int) := ll
    omega
  subst hj
  repeat (first
      | refine JO.step (AO1.mv rfl) rfl ?_
      | refine JO.step (AO1.ncP rfl) rfl ?_
      | refine JO.step (AO1.fa rfl) rfl ?_
      | refine JO.nil ?_
      | refine JC.seq ?_
      | refine JC.reg ?_
      | refine JC.skip ?_
      | refine JC.blk ?_)
  refine JO.step (AO1.bd rfl rfl) rfl ?_
  repeat (first
      | refine JO.step (AO1.mv rfl) rfl ?_
      | refine JO.step (AO1.ncP rfl) rfl ?_
      | refine JO.step (AO1.fa rfl) rfl ?_
      | refine JO.nil ?_
      | refine JC.seq ?_
      | refine JC.reg ?_
      | refine JC.skip ?_
      | refine JC.blk ?_)
  refine JO.step (AO1.bn (v := .i .i64 (.ofNat (j + 2))) rfl rfl (addN (a := j) (b := 2) (by omega))) rfl ?_
  refine JO.call (fun _ _ => rfl) rfl rfl rfl (fun S1 G1 => addIn (F := [(S.nxt, .row 0 [.sn, .sn, .i .i64 0])]) (tl := []) (s := (false, [])) (vO := .sn) (vP := .sn) R .nil (fun _ h => by cases h) (Nat.zero_le _) 8 (i := j + 2) (by omega) true G1) (fun S1 G1 y S2 k => ?_) rfl
  obtain ⟨N1, uO, uP, ul, rfl, hT1, hl1, hN1, G2⟩ := k
  refine ⟨N1, _, G2, ?_⟩
  have hs1 := addR_len ws (false, []) (8, j + 2, true)
  generalize hs : addR ws (false, []) (8, j + 2, true) = s at *
  refine JO.step AO1.al rfl ?_
  refine JO.perm (h2 := (W, .blk (.row k t m)) :: (S.nxt, .row 0 [.sn, .sn, .i .i64 0]) :: (N1, .row 0 [.sn, .sn, .i .i64 0]) :: ul) (by exact .cons _ (.cons _ (List.perm_append_singleton (N1, HB.row 0 [.sn, .sn, .i .i64 0]) ul))) ?_
  refine JO.step0 (AO1.st 2 rfl rfl rfl rfl rfl rfl (hT1.ones s)) ?_
  repeat (first
      | refine JO.step (AO1.mv rfl) rfl ?_
      | refine JO.step (AO1.ncP rfl) rfl ?_
      | refine JO.step (AO1.fa rfl) rfl ?_
      | refine JO.nil ?_
      | refine JC.seq ?_
      | refine JC.reg ?_
      | refine JC.skip ?_
      | refine JC.blk ?_)
  refine JO.step (AO1.ldn 2 rfl rfl rfl rfl) rfl ?_
  repeat (first
      | refine JO.step (AO1.mv rfl) rfl ?_
      | refine JO.step (AO1.ncP rfl) rfl ?_
      | refine JO.step (AO1.fa rfl) rfl ?_
      | refine JO.nil ?_
      | refine JC.seq ?_
      | refine JC.reg ?_
      | refine JC.skip ?_
      | refine JC.blk ?_)
  refine JO.step (AO1.bn (v := .i .i64 (.ofNat (j + 3))) rfl rfl (addN (a := j) (b := 3) (by omega))) rfl ?_
  refine JO.call (fun _ _ => rfl) rfl rfl rfl (fun S1 G1 => addIn (F := [(S.nxt, .row 0 [.sn, .sn, .i .i64 0]), (N1, .row 0 [uO, uP, eR s])]) (tl := ul) (s := s) (vO := uO) (vP := uP) R hT1 hl1 (by simp only [List.length_nil] at hs1; omega) 8 (i := j + 3) (by omega) true G1) (fun S1 G1 y S2 k => ?_) rfl
  obtain ⟨N2, xO, xP, xl, rfl, hT2, hl2, hN2, G3⟩ := k
  refine ⟨N2, _, G3, ?_⟩
  refine JO.step0 (AO1.st 1 rfl rfl rfl rfl rfl rfl (hT2.ones _)) ?_
  repeat (first
      | refine JO.step (AO1.mv rfl) rfl ?_
      | refine JO.step (AO1.ncP rfl) rfl ?_
      | refine JO.step (AO1.fa rfl) rfl ?_
      | refine JO.nil ?_
      | refine JC.seq ?_
      | refine JC.reg ?_
      | refine JC.skip ?_
      | refine JC.blk ?_)
  refine JC.ret ?_
  have e2 : refC 8 ws = addR ws s (8, j + 3, true) := by rw [e, ← hs]; rfl
  exact ⟨_, .cn 1 rfl rfl rfl rfl .nil, rfl, xO, xP, xl, by rw [e2]; rfl, by rw [e2]; exact hT2, hl2, .same R.h (.drop (Nat.le_refl _) (.drop (Nat.le_trans (Nat.le_succ _) hN1) (HSub.refl _ _)))⟩
end L32
end Go.Ev
namespace Go.Ev
open Go Go.Proofs
namespace L32
set_option maxRecDepth 100000
abbrev AR := Nat × LS × AV × AV × Hp × Nat
theorem buckets_c {S : St} {W k m o : Nat} {cp : Option Nat} {t : T AV} {ws : List Int} (R : Rd S W k t m o ws) (h1 : 1 ≤ ws.length) (hlen : ws.length ≤ 1000) : GCall PP 41 [.sl W o ws.length cp] S (RPost S (refC 5 ws)) := by
  refine (JF (h := [(W, .blk (.row k t m))]) ok41 rfl ?_ (by simp) (Φ := RPostH S (refC 5 ws)) ?_).mono fun y S' k => RPostH.rp k
  · intro x hx
    rw [List.mem_singleton] at hx; subst hx
    exact ⟨R.h, rfl⟩
  intro G
  have hC : refC 5 ws = if 1 ≤ ws.getD 0 0 ∧ ws.getD 0 0 ≤ 126 ∧ 1 + ws.getD 0 0 ≤ ws.length then runR ws (false, []) (bucI (ws.getD 0 0).toNat) else (true, []) := by
    unfold refC
    rw [if_neg (by decide), if_neg (by decide), if_neg (by decide), if_pos rfl]
  refine JC.seq ?_
  refine JC.reg ?_
  refine JO.step AO1.al rfl ?_
  repeat (first
      | refine JO.step (AO1.mv rfl) rfl ?_
      | refine JO.step (AO1.ncP rfl) rfl ?_
      | refine JO.step (AO1.fa rfl) rfl ?_
      | refine JO.nil ?_
      | refine JC.seq ?_
      | refine JC.reg ?_
      | refine JC.skip ?_
      | refine JC.blk ?_)
  refine JO.step AO1.al rfl ?_
  repeat (first
      | refine JO.step (AO1.mv rfl) rfl ?_
      | refine JO.step (AO1.ncP rfl) rfl ?_
      | refine JO.step (AO1.fa rfl) rfl ?_
      | refine JO.nil ?_
      | refine JC.seq ?_
      | refine JC.reg ?_
      | refine JC.skip ?_
      | refine JC.blk ?_)
  refine JO.step (AO1.iaS (i := 0) rfl rfl (ble_of (by omega))) rfl ?_
  refine JO.step (AO1.ld1X 0 rfl rfl (R.ble (i := 0) (by omega)) (R.get (i := 0) (by omega))) rfl ?_
  refine JO.step (AO1.mv rfl) rfl ?_
  refine JO.nil ?_
  generalize hn : ws.getD 0 0 = n at *
  refine JC.seq ?_
  refine JC.cut [(21, .b (withinB false ws n 1 126 (fwrap .i64 (1 + n)))), (4, .i .i64 n), (3, .p (S.nxt + 1) 0), (2, .p S.nxt 0), (0, .sl W o ws.length cp), (dslot, .tu [])] (S.nxt + 1 + 1) [(W, .blk (.row k t m)), (S.nxt, .row 0 [.sn, .sn, .i .i64 0]), (S.nxt + 1, .row 0 [.sn, .sn, .i .i64 0])] ?_ ?_
  · repeat (first
        | refine JO.step (AO1.mv rfl) rfl ?_
        | refine JO.step (AO1.ncP rfl) rfl ?_
        | refine JO.step (AO1.fa rfl) rfl ?_
        | refine JO.nil ?_
        | refine JC.seq ?_
        | refine JC.reg ?_
        | refine JC.skip ?_
        | refine JC.blk ?_)
    refine JO.step (AO1.bn rfl rfl (bin_lss _ _)) rfl ?_
    repeat (first
        | refine JO.step (AO1.mv rfl) rfl ?_
        | refine JO.step (AO1.ncP rfl) rfl ?_
        | refine JO.step (AO1.fa rfl) rfl ?_
        | refine JO.nil ?_
        | refine JC.seq ?_
        | refine JC.reg ?_
        | refine JC.skip ?_
        | refine JC.blk ?_)
    unfold withinB
    rw [Bool.false_or]
    cases decide (n < 1) with
    | true =>
      refine JO.skip rfl rfl rfl ?_
      refine JO.skip rfl rfl rfl ?_
      refine JO.step (AO1.pkT rfl rfl) rfl ?_
      repeat (first
          | refine JO.step (AO1.mv rfl) rfl ?_
          | refine JO.step (AO1.ncP rfl) rfl ?_
          | refine JO.step (AO1.fa rfl) rfl ?_
          | refine JO.nil ?_
          | refine JC.seq ?_
          | refine JC.reg ?_
          | refine JC.skip ?_
          | refine JC.blk ?_)
      refine JO.skip rfl rfl rfl ?_
      refine JO.skip rfl rfl rfl ?_
      refine JO.skip rfl rfl rfl ?_
      refine JO.skip rfl rfl rfl ?_
      refine JO.skip rfl rfl rfl ?_
      refine JO.step (AO1.pkT rfl rfl) rfl ?_
      repeat (first
          | refine JO.step (AO1.mv rfl) rfl ?_
          | refine JO.step (AO1.ncP rfl) rfl ?_
          | refine JO.step (AO1.fa rfl) rfl ?_
          | refine JO.nil ?_
          | refine JC.seq ?_
          | refine JC.reg ?_
          | refine JC.skip ?_
          | refine JC.blk ?_)
      exact ⟨rfl, ⟨rfl, rfl, rfl, rfl, rfl, rfl, trivial⟩, rfl, HSub.refl _ _⟩
    | false =>
      refine JO.stepT rfl rfl (AO1.mv rfl) rfl ?_
      refine JO.stepT rfl rfl (AO1.bn rfl rfl (bin_gtr _ _)) rfl ?_
      refine JO.step (AO1.pkF rfl rfl) rfl ?_
      repeat (first
          | refine JO.step (AO1.mv rfl) rfl ?_
          | refine JO.step (AO1.ncP rfl) rfl ?_
          | refine JO.step (AO1.fa rfl) rfl ?_
          | refine JO.nil ?_
          | refine JC.seq ?_
          | refine JC.reg ?_
          | refine JC.skip ?_
          | refine JC.blk ?_)
      rw [Bool.false_or]
      cases decide (126 < n) with
      | true =>
        refine JO.skip rfl rfl rfl ?_
        refine JO.skip rfl rfl rfl ?_
        refine JO.skip rfl rfl rfl ?_
        refine JO.skip rfl rfl rfl ?_
        refine JO.skip rfl rfl rfl ?_
        refine JO.step (AO1.pkT rfl rfl) rfl ?_
        repeat (first
            | refine JO.step (AO1.mv rfl) rfl ?_
            | refine JO.step (AO1.ncP rfl) rfl ?_
            | refine JO.step (AO1.fa rfl) rfl ?_
            | refine JO.nil ?_
            | refine JC.seq ?_
            | refine JC.reg ?_
            | refine JC.skip ?_
            | refine JC.blk ?_)
        exact ⟨rfl, ⟨rfl, rfl, rfl, rfl, rfl, rfl, trivial⟩, rfl, HSub.refl _ _⟩
      | false =>
        refine JO.stepT rfl rfl (AO1.mv rfl) rfl ?_
        refine JO.stepT rfl rfl (AO1.lenSlc rfl) rfl ?_
        refine JO.stepT rfl rfl (AO1.mv rfl) rfl ?_
        refine JO.stepT rfl rfl (AO1.bn (v := .i .i64 (fwrap .i64 (1 + n))) rfl rfl rfl) rfl ?_
        refine JO.stepT rfl rfl (AO1.bn rfl rfl (bin_lss _ _)) rfl ?_
        refine JO.step (AO1.pkF rfl rfl) rfl ?_
        repeat (first
            | refine JO.step (AO1.mv rfl) rfl ?_
            | refine JO.step (AO1.ncP rfl) rfl ?_
            | refine JO.step (AO1.fa rfl) rfl ?_
            | refine JO.nil ?_
            | refine JC.seq ?_
            | refine JC.reg ?_
            | refine JC.skip ?_
            | refine JC.blk ?_)
        exact ⟨rfl, ⟨rfl, rfl, rfl, rfl, rfl, rfl, trivial⟩, rfl, HSub.refl _ _⟩
  refine JC.cnd rfl (fun hw => ?_) (fun hw => ?_)
  · repeat (first
        | refine JO.step (AO1.mv rfl) rfl ?_
        | refine JO.step (AO1.ncP rfl) rfl ?_
        | refine JO.step (AO1.fa rfl) rfl ?_
        | refine JO.nil ?_
        | refine JC.seq ?_
        | refine JC.reg ?_
        | refine JC.skip ?_
        | refine JC.blk ?_)
    refine JO.step (AO1.bd rfl rfl) rfl ?_
    refine JO.step0 (AO1.st 1 rfl rfl rfl rfl rfl rfl rfl) ?_
    repeat (first
        | refine JO.step (AO1.mv rfl) rfl ?_
        | refine JO.step (AO1.ncP rfl) rfl ?_
        | refine JO.step (AO1.fa rfl) rfl ?_
        | refine JO.nil ?_
        | refine JC.seq ?_
        | refine JC.reg ?_
        | refine JC.skip ?_
        | refine JC.blk ?_)
    refine JC.ret ?_
    have e : refC 5 ws = (true, []) := by
      rw [hC, if_neg]
      intro ⟨a, b, c⟩
      rcases withinB_true hw with e | e
      · cases e
      · apply e
        rw [fwrap_in (by omega) (by omega)]
        exact ⟨a, b, c⟩
    exact ⟨_, .cn 1 rfl rfl rfl rfl .nil, rfl, .sn, .sn, [], by rw [e]; rfl, by rw [e]; exact .nil, fun _ h => (by cases h), .same R.h (.drop (Nat.le_refl _) (.drop (Nat.le_succ _) .nil))⟩
  obtain ⟨_, l1, l6, ll⟩ := withinB_false hw
  rw [fwrap_in (by omega) (by omega)] at ll
  obtain ⟨j, hj⟩ := Int.eq_ofNat_of_zero_le (show 0 ≤ n by omega)
  have hj : n = .ofNat j := hj
  have e : refC 5 ws = runR ws (false, []) (bucI j) := by
    rw [hC, if_pos ⟨l1, l6, ll⟩, hj]; rfl
  have hj6 : j ≤ 126 := by rw [hj] at l6; exact Int.ofNat_le.1 l6
  have hjl : 1 + j ≤ ws.length := by
    rw [hj] at ll
    have : (1 + (j : Int)) ≤ (ws.length : Int) := ll
    omega
  subst hj
  repeat (first
      | refine JO.step (AO1.mv rfl) rfl ?_
      | refine JO.step (AO1.ncP rfl) rfl ?_
      | refine JO.step (AO1.fa rfl) rfl ?_
      | refine JO.nil ?_
      | refine JC.seq ?_
      | refine JC.reg ?_
      | refine JC.skip ?_
      | refine JC.blk ?_)
  refine JC.loop (fun a : AR => (5, .i .i64 (.ofNat (1 + a.1))) :: [(4, .i .i64 (.ofNat j)), (3, .p (S.nxt + 1) 0), (2, .p S.nxt 0), (0, .sl W o ws.length cp), (dslot, .tu [])]) (fun a => a.2.2.2.2.2) (fun a => (W, .blk (.row k t m)) :: ([(S.nxt, .row 0 [.sn, .sn, .i .i64 0]), (S.nxt + 1, .row 0 [a.2.2.1, a.2.2.2.1, eR a.2.1])] ++ a.2.2.2.2.1)) (fun a => j - a.1)
    (fun a => a.1 ≤ j ∧ S.nxt + 2 ≤ a.2.2.2.2.2 ∧ Tl a.2.1.2 a.2.2.1 a.2.2.2.1 a.2.2.2.2.1 ∧ (∀ q ∈ a.2.2.2.2.1, S.nxt ≤ q.1) ∧ a.2.1 = runR ws (false, []) (bucI a.1) ∧ a.2.1.2.length ≤ a.1)
    (0, (false, []), .sn, .sn, [], S.nxt + 1 + 1) ⟨Nat.zero_le _, Nat.le_refl _, .nil, fun _ h => (by cases h), rfl, Nat.le_refl _⟩ ⟨rfl, rfl, rfl, rfl, rfl, rfl, trivial⟩ rfl (HSub.refl _ _) ?_
  rintro ⟨i, s, uO, uP, ul, N⟩ ⟨hi, hN, hT, hul, hs, hsl⟩
  simp only at hi hN hT hul hs hsl ⊢
  repeat (first
      | refine JO.step (AO1.mv rfl) rfl ?_
      | refine JO.step (AO1.ncP rfl) rfl ?_
      | refine JO.step (AO1.fa rfl) rfl ?_
      | refine JO.nil ?_
      | refine JC.seq ?_
      | refine JC.reg ?_
      | refine JC.skip ?_
      | refine JC.blk ?_)
  refine JO.step (AO1.bn rfl rfl (bin_leq _ _)) rfl ?_
  repeat (first
      | refine JO.step (AO1.mv rfl) rfl ?_
      | refine JO.step (AO1.ncP rfl) rfl ?_
      | refine JO.step (AO1.fa rfl) rfl ?_
      | refine JO.nil ?_
      | refine JC.seq ?_
      | refine JC.reg ?_
      | refine JC.skip ?_
      | refine JC.blk ?_)
  refine JC.cnd rfl (fun hle => ?_) (fun hgt => ?_)
  · have hle : 1 + i ≤ j := Int.ofNat_le.1 (of_decide_eq_true hle)
    repeat (first
        | refine JO.step (AO1.mv rfl) rfl ?_
        | refine JO.step (AO1.ncP rfl) rfl ?_
        | refine JO.step (AO1.fa rfl) rfl ?_
        | refine JO.nil ?_
        | refine JC.seq ?_
        | refine JC.reg ?_
        | refine JC.skip ?_
        | refine JC.blk ?_)
    refine JO.step (AO1.ldn 2 rfl rfl rfl rfl) rfl ?_
    repeat (first
        | refine JO.step (AO1.mv rfl) rfl ?_
        | refine JO.step (AO1.ncP rfl) rfl ?_
        | refine JO.step (AO1.fa rfl) rfl ?_
        | refine JO.nil ?_
        | refine JC.seq ?_
        | refine JC.reg ?_
        | refine JC.skip ?_
        | refine JC.blk ?_)
    refine JO.call (fun _ _ => rfl) rfl rfl rfl (fun S1 G1 => addIn (F := [(S.nxt, .row 0 [.sn, .sn, .i .i64 0]), (S.nxt + 1, .row 0 [uO, uP, eR s])]) (tl := ul) (s := s) (vO := uO) (vP := uP) R hT hul (by omega) 6 (i := 1 + i) (by omega) true G1) (fun S1 G1 y S2 k => ?_) rfl
    obtain ⟨N2, xO, xP, xl, rfl, hT2, hl2, hN2, G3⟩ := k
    refine ⟨N2, _, G3, ?_⟩
    refine JO.step0 (AO1.st 2 rfl rfl rfl rfl rfl rfl (hT2.ones _)) ?_
    repeat (first
        | refine JO.step (AO1.mv rfl) rfl ?_
        | refine JO.step (AO1.ncP rfl) rfl ?_
        | refine JO.step (AO1.fa rfl) rfl ?_
        | refine JO.nil ?_
        | refine JC.seq ?_
        | refine JC.reg ?_
        | refine JC.skip ?_
        | refine JC.blk ?_)
    refine JO.step (AO1.bn (v := .i .i64 (.ofNat (1 + (i + 1)))) rfl rfl (addN (a := 1 + i) (b := 1) (by omega))) rfl ?_
    repeat (first
        | refine JO.step (AO1.mv rfl) rfl ?_
        | refine JO.step (AO1.ncP rfl) rfl ?_
        | refine JO.step (AO1.fa rfl) rfl ?_
        | refine JO.nil ?_
        | refine JC.seq ?_
        | refine JC.reg ?_
        | refine JC.skip ?_
        | refine JC.blk ?_)
    have hl3 := addR_len ws s (6, 1 + i, true)
    refine ⟨(i + 1, _, xO, xP, xl, N2), ⟨by show i + 1 ≤ j; omega, by show S.nxt + 2 ≤ N2; omega, hT2, hl2, ?_, by show (addR ws s (6, 1 + i, true)).2.length ≤ i + 1; omega⟩, by show j - (i + 1) < j - i; omega, ⟨rfl, rfl, rfl, rfl, rfl, rfl, trivial⟩, rfl, HSub.refl _ _⟩
    show addR ws s (6, 1 + i, true) = _
    rw [hs]
    exact (runR_app ws _ (bucI i) [(6, 1 + i, true)]).symm
  · have hgt : ¬ (1 + i ≤ j) := fun h => of_decide_eq_false hgt (Int.ofNat_le.2 h)
    refine JC.ex ?_
    repeat (first
        | refine JO.step (AO1.mv rfl) rfl ?_
        | refine JO.step (AO1.ncP rfl) rfl ?_
        | refine JO.step (AO1.fa rfl) rfl ?_
        | refine JO.nil ?_
        | refine JC.seq ?_
        | refine JC.reg ?_
        | refine JC.skip ?_
        | refine JC.blk ?_)
    refine JO.step (AO1.ldn 2 rfl rfl rfl rfl) rfl ?_
    refine JO.step0 (AO1.st 1 rfl rfl rfl rfl rfl rfl (hT.ones _)) ?_
    repeat (first
        | refine JO.step (AO1.mv rfl) rfl ?_
        | refine JO.step (AO1.ncP rfl) rfl ?_
        | refine JO.step (AO1.fa rfl) rfl ?_
        | refine JO.nil ?_
        | refine JC.seq ?_
        | refine JC.reg ?_
        | refine JC.skip ?_
        | refine JC.blk ?_)
    refine JC.ret ?_
    have e2 : refC 5 ws = s := by rw [e, hs, show j = i from by omega]
    exact ⟨_, .cn 1 rfl rfl rfl rfl .nil, rfl, uO, uP, ul, by rw [e2]; rfl, by rw [e2]; exact hT, hul, .same R.h (.drop (Nat.le_refl _) (.drop (Nat.le_succ _) (HSub.refl _ _)))⟩
end L32
end Go.Ev
namespace Go.Ev
open Go Go.Proofs
namespace L32
set_option maxRecDepth 100000
theorem node_c {S : St} {W k m o : Nat} {cp : Option Nat} {t : T AV} {ws : List Int} (R : Rd S W k t m o ws) (h7 : 7 ≤ ws.length) : GCall PP 42 [.sl W o ws.length cp] S (RPost S (refC 6 ws)) := by
  refine (JF (h := [(W, .blk (.row k t m))]) ok42 rfl ?_ (by simp) (Φ := RPostH S (refC 6 ws)) ?_).mono fun y S' k => RPostH.rp k
  · intro x hx
    rw [List.mem_singleton] at hx; subst hx
    exact ⟨R.h, rfl⟩
  intro G
  have hC : refC 6 ws = runR ws (false, []) ((6, 0, true) :: nodI ws 3) := by
    unfold refC
    rw [if_neg (by decide), if_neg (by decide), if_neg (by decide), if_neg (by decide), if_pos rfl]
  refine JC.seq ?_
  refine JC.reg ?_
  refine JO.step AO1.al rfl ?_
  repeat (first
      | refine JO.step (AO1.mv rfl) rfl ?_
      | refine JO.step (AO1.ncP rfl) rfl ?_
      | refine JO.step (AO1.fa rfl) rfl ?_
      | refine JO.nil ?_
      | refine JC.seq ?_
      | refine JC.reg ?_
      | refine JC.skip ?_
      | refine JC.blk ?_)
  refine JO.step (AO1.bd rfl rfl) rfl ?_
  repeat (first
      | refine JO.step (AO1.mv rfl) rfl ?_
      | refine JO.step (AO1.ncP rfl) rfl ?_
      | refine JO.step (AO1.fa rfl) rfl ?_
      | refine JO.nil ?_
      | refine JC.seq ?_
      | refine JC.reg ?_
      | refine JC.skip ?_
      | refine JC.blk ?_)
  refine JO.call (fun _ _ => rfl) rfl rfl rfl (fun S1 G1 => addIn (F := [(S.nxt, .row 0 [.sn, .sn, .i .i64 0])]) (tl := []) (s := (false, [])) (vO := .sn) (vP := .sn) R .nil (fun _ h => by cases h) (Nat.zero_le _) 6 (i := 0) (by omega) true G1) (fun S1 G1 y S2 k => ?_) rfl
  obtain ⟨N1, uO, uP, ul, rfl, hT1, hl1, hN1, G2⟩ := k
  refine ⟨N1, _, G2, ?_⟩
  have hs1 : (addR ws (false, []) (6, 0, true)).2.length ≤ 1 := addR_len ws (false, []) (6, 0, true)
  refine JO.step AO1.al rfl ?_
  refine JO.perm (h2 := (W, .blk (.row k t m)) :: (S.nxt, .row 0 [.sn, .sn, .i .i64 0]) :: (N1, .row 0 [.sn, .sn, .i .i64 0]) :: ul) (by exact .cons _ (.cons _ (List.perm_append_singleton (N1, HB.row 0 [.sn, .sn, .i .i64 0]) ul))) ?_
  refine JO.step0 (AO1.st 2 rfl rfl rfl rfl rfl rfl (hT1.ones _)) ?_
  repeat (first
      | refine JO.step (AO1.mv rfl) rfl ?_
      | refine JO.step (AO1.ncP rfl) rfl ?_
      | refine JO.step (AO1.fa rfl) rfl ?_
      | refine JO.nil ?_
      | refine JC.seq ?_
      | refine JC.reg ?_
      | refine JC.skip ?_
      | refine JC.blk ?_)
  refine JC.loop (fun a : AR => (4, .i .i64 (.ofNat a.1)) :: [(3, .p N1 0), (2, .p S.nxt 0), (0, .sl W o ws.length cp), (dslot, .tu [])]) (fun a => a.2.2.2.2.2) (fun a => (W, .blk (.row k t m)) :: ([(S.nxt, .row 0 [.sn, .sn, .i .i64 0]), (N1, .row 0 [a.2.2.1, a.2.2.2.1, eR a.2.1])] ++ a.2.2.2.2.1)) (fun a => 3 - a.1)
    (fun a => a.1 ≤ 3 ∧ N1 + 1 ≤ a.2.2.2.2.2 ∧ Tl a.2.1.2 a.2.2.1 a.2.2.2.1 a.2.2.2.2.1 ∧ (∀ q ∈ a.2.2.2.2.1, S.nxt ≤ q.1) ∧ a.2.1 = runR ws (addR ws (false, []) (6, 0, true)) (nodI ws a.1) ∧ a.2.1.2.length ≤ 1 + a.1)
    (0, addR ws (false, []) (6, 0, true), uO, uP, ul, N1 + 1) ⟨Nat.zero_le _, Nat.le_refl _, hT1, hl1, rfl, hs1⟩ ⟨rfl, rfl, rfl, rfl, rfl, trivial⟩ rfl (HSub.refl _ _) ?_
  rintro ⟨i, s, uO, uP, ul, N⟩ ⟨hi, hN, hT, hul, hs, hsl⟩
  simp only at hi hN hT hul hs hsl ⊢
  repeat (first
      | refine JO.step (AO1.mv rfl) rfl ?_
      | refine JO.step (AO1.ncP rfl) rfl ?_
      | refine JO.step (AO1.fa rfl) rfl ?_
      | refine JO.nil ?_
      | refine JC.seq ?_
      | refine JC.reg ?_
      | refine JC.skip ?_
      | refine JC.blk ?_)
  refine JO.step (AO1.bn rfl rfl (bin_lss _ _)) rfl ?_
  repeat (first
      | refine JO.step (AO1.mv rfl) rfl ?_
      | refine JO.step (AO1.ncP rfl) rfl ?_
      | refine JO.step (AO1.fa rfl) rfl ?_
      | refine JO.nil ?_
      | refine JC.seq ?_
      | refine JC.reg ?_
      | refine JC.skip ?_
      | refine JC.blk ?_)
  refine JC.cnd rfl (fun hle => ?_) (fun hgt => ?_)
  · have hle : ((i : Nat) : Int) < 3 := of_decide_eq_true hle
    repeat (first
        | refine JO.step (AO1.mv rfl) rfl ?_
        | refine JO.step (AO1.ncP rfl) rfl ?_
        | refine JO.step (AO1.fa rfl) rfl ?_
        | refine JO.nil ?_
        | refine JC.seq ?_
        | refine JC.reg ?_
        | refine JC.skip ?_
        | refine JC.blk ?_)
    refine JO.step (AO1.bn (v := .i .i64 (.ofNat (2 * i))) rfl rfl (mulN (a := 2) (b := i) (by omega))) rfl ?_
    refine JO.step (AO1.bn (v := .i .i64 (.ofNat (1 + 2 * i))) rfl rfl (addN (a := 1) (b := 2 * i) (by omega))) rfl ?_
    refine JO.step (AO1.iaS rfl rfl (ble_of (by show 1 + 2 * i + 1 ≤ _; omega))) rfl ?_
    refine JO.step (AO1.ld1X 0 rfl rfl (R.ble (i := 1 + 2 * i) (by omega)) (R.get (i := 1 + 2 * i) (by omega))) rfl ?_
    refine JO.step (AO1.eq rfl rfl (eq_int _ _)) rfl ?_
    repeat (first
        | refine JO.step (AO1.mv rfl) rfl ?_
        | refine JO.step (AO1.ncP rfl) rfl ?_
        | refine JO.step (AO1.fa rfl) rfl ?_
        | refine JO.nil ?_
        | refine JC.seq ?_
        | refine JC.reg ?_
        | refine JC.skip ?_
        | refine JC.blk ?_)
    refine JC.cnd rfl (fun h0 => ?_) (fun h0 => ?_)
    · have h0 : ws.getD (1 + 2 * i) 0 ≠ 0 := by
        have h0 : (!decide (ws.getD (1 + 2 * i) 0 = 0)) = true := h0
        simpa using h0
      repeat (first
          | refine JO.step (AO1.mv rfl) rfl ?_
          | refine JO.step (AO1.ncP rfl) rfl ?_
          | refine JO.step (AO1.fa rfl) rfl ?_
          | refine JO.nil ?_
          | refine JC.seq ?_
          | refine JC.reg ?_
          | refine JC.skip ?_
          | refine JC.blk ?_)
      refine JO.step (AO1.ldn 2 rfl rfl rfl rfl) rfl ?_
      repeat (first
          | refine JO.step (AO1.mv rfl) rfl ?_
          | refine JO.step (AO1.ncP rfl) rfl ?_
          | refine JO.step (AO1.fa rfl) rfl ?_
          | refine JO.nil ?_
          | refine JC.seq ?_
          | refine JC.reg ?_
          | refine JC.skip ?_
          | refine JC.blk ?_)
      refine JO.step (AO1.bn (v := .i .i64 (.ofNat (2 * i))) rfl rfl (mulN (a := 2) (b := i) (by omega))) rfl ?_
      refine JO.step (AO1.bn (v := .i .i64 (.ofNat (2 + 2 * i))) rfl rfl (addN (a := 2) (b := 2 * i) (by omega))) rfl ?_
      refine JO.call (fun _ _ => rfl) rfl rfl rfl (fun S1 G1 => addIn (F := [(S.nxt, .row 0 [.sn, .sn, .i .i64 0]), (N1, .row 0 [uO, uP, eR s])]) (tl := ul) (s := s) (vO := uO) (vP := uP) R hT hul (by omega) 7 (i := 2 + 2 * i) (by omega) false G1) (fun S1 G1 y S2 k => ?_) rfl
      obtain ⟨N2, xO, xP, xl, rfl, hT2, hl2, hN2, G3⟩ := k
      refine ⟨N2, _, G3, ?_⟩
      refine JO.step0 (AO1.st 2 rfl rfl rfl rfl rfl rfl (hT2.ones _)) ?_
      repeat (first
          | refine JO.step (AO1.mv rfl) rfl ?_
          | refine JO.step (AO1.ncP rfl) rfl ?_
          | refine JO.step (AO1.fa rfl) rfl ?_
          | refine JO.nil ?_
          | refine JC.seq ?_
          | refine JC.reg ?_
          | refine JC.skip ?_
          | refine JC.blk ?_)
      refine JO.step (AO1.bn (v := .i .i64 (.ofNat (i + 1))) rfl rfl (addN (a := i) (b := 1) (by omega))) rfl ?_
      repeat (first
          | refine JO.step (AO1.mv rfl) rfl ?_
          | refine JO.step (AO1.ncP rfl) rfl ?_
          | refine JO.step (AO1.fa rfl) rfl ?_
          | refine JO.nil ?_
          | refine JC.seq ?_
          | refine JC.reg ?_
          | refine JC.skip ?_
          | refine JC.blk ?_)
      have hl3 := addR_len ws s (7, 2 + 2 * i, false)
      refine ⟨(i + 1, _, xO, xP, xl, N2), ⟨by show i + 1 ≤ 3; omega, by show N1 + 1 ≤ N2; omega, hT2, hl2, ?_, by show (addR ws s (7, 2 + 2 * i, false)).2.length ≤ 1 + (i + 1); omega⟩, by show 3 - (i + 1) < 3 - i; omega, ⟨rfl, rfl, rfl, rfl, rfl, trivial⟩, rfl, HSub.refl _ _⟩
      show addR ws s (7, 2 + 2 * i, false) = runR ws _ (nodI ws i ++ (if ws.getD (1 + 2 * i) 0 = 0 then [] else [(7, 2 + 2 * i, false)]))
      rw [hs, if_neg h0]
      exact (runR_app ws _ (nodI ws i) [(7, 2 + 2 * i, false)]).symm
    · have h0 : ws.getD (1 + 2 * i) 0 = 0 := by
        have h0 : (!decide (ws.getD (1 + 2 * i) 0 = 0)) = false := h0
        simpa using h0
      repeat (first
          | refine JO.step (AO1.mv rfl) rfl ?_
          | refine JO.step (AO1.ncP rfl) rfl ?_
          | refine JO.step (AO1.fa rfl) rfl ?_
          | refine JO.nil ?_
          | refine JC.seq ?_
          | refine JC.reg ?_
          | refine JC.skip ?_
          | refine JC.blk ?_)
      refine JO.step (AO1.bn (v := .i .i64 (.ofNat (i + 1))) rfl rfl (addN (a := i) (b := 1) (by omega))) rfl ?_
      repeat (first
          | refine JO.step (AO1.mv rfl) rfl ?_
          | refine JO.step (AO1.ncP rfl) rfl ?_
          | refine JO.step (AO1.fa rfl) rfl ?_
          | refine JO.nil ?_
          | refine JC.seq ?_
          | refine JC.reg ?_
          | refine JC.skip ?_
          | refine JC.blk ?_)
      refine ⟨(i + 1, s, uO, uP, ul, N), ⟨by show i + 1 ≤ 3; omega, hN, hT, hul, ?_, by show s.2.length ≤ 1 + (i + 1); omega⟩, by show 3 - (i + 1) < 3 - i; omega, ⟨rfl, rfl, rfl, rfl, rfl, trivial⟩, rfl, HSub.refl _ _⟩
      show s = runR ws _ (nodI ws i ++ (if ws.getD (1 + 2 * i) 0 = 0 then [] else [(7, 2 + 2 * i, false)]))
      rw [if_pos h0, List.append_nil]; exact hs
  · have hgt : ¬ (((i : Nat) : Int) < 3) := of_decide_eq_false hgt
    refine JC.ex ?_
    repeat (first
        | refine JO.step (AO1.mv rfl) rfl ?_
        | refine JO.step (AO1.ncP rfl) rfl ?_
        | refine JO.step (AO1.fa rfl) rfl ?_
        | refine JO.nil ?_
        | refine JC.seq ?_
        | refine JC.reg ?_
        | refine JC.skip ?_
        | refine JC.blk ?_)
    refine JO.step (AO1.ldn 2 rfl rfl rfl rfl) rfl ?_
    refine JO.step0 (AO1.st 1 rfl rfl rfl rfl rfl rfl (hT.ones _)) ?_
    repeat (first
        | refine JO.step (AO1.mv rfl) rfl ?_
        | refine JO.step (AO1.ncP rfl) rfl ?_
        | refine JO.step (AO1.fa rfl) rfl ?_
        | refine JO.nil ?_
        | refine JC.seq ?_
        | refine JC.reg ?_
        | refine JC.skip ?_
        | refine JC.blk ?_)
    refine JC.ret ?_
    have e2 : refC 6 ws = s := by rw [hC, hs, show i = 3 from by omega]; rfl
    exact ⟨_, .cn 1 rfl rfl rfl rfl .nil, rfl, uO, uP, ul, by rw [e2]; rfl, by rw [e2]; exact hT, hul, .same R.h (.drop (Nat.le_refl _) (.drop (Nat.le_trans (Nat.le_succ _) hN1) (HSub.refl _ _)))⟩
end L32
end Go.Ev
namespace Go.Ev
open Go Go.Proofs
namespace L32
set_option maxRecDepth 100000
/-- whether a number is outside of two bounds -/
def outB (x lo hi : Int) : Bool := decide (x < lo) || decide (hi < x)
theorem outB_true {x lo hi : Int} (h : outB x lo hi = true) : ¬ (lo ≤ x ∧ x ≤ hi) := by
  unfold outB at h
  simp only [Bool.or_eq_true, decide_eq_true_eq] at h
  omega
theorem outB_false {x lo hi : Int} (h : outB x lo hi = false) : lo ≤ x ∧ x ≤ hi := by
  unfold outB at h
  simp only [Bool.or_eq_false_iff, decide_eq_false_iff_not] at h
  omega
theorem table_c {S : St} {W k m o : Nat} {cp : Option Nat} {t : T AV} {ws : List Int} (R : Rd S W k t m o ws) (h8 : 8 ≤ ws.length) : GCall PP 40 [.sl W o ws.length cp] S (RPost S (refC 4 ws)) := by
  refine (JF (h := [(W, .blk (.row k t m))]) ok40 rfl ?_ (by simp) (Φ := RPostH S (refC 4 ws)) ?_).mono fun y S' k => RPostH.rp k
  · intro x hx
    rw [List.mem_singleton] at hx; subst hx
    exact ⟨R.h, rfl⟩
  intro G
  have hC : refC 4 ws = if 0 ≤ ws.getD 3 0 ∧ ws.getD 3 0 ≤ 4 then runR ws (false, []) ((5, 1, false) :: tabI (ws.getD 3 0).toNat) else (true, []) := by
    unfold refC
    rw [if_neg (by decide), if_neg (by decide), if_pos rfl]
  refine JC.seq ?_
  refine JC.reg ?_
  refine JO.step AO1.al rfl ?_
  repeat (first
      | refine JO.step (AO1.mv rfl) rfl ?_
      | refine JO.step (AO1.ncP rfl) rfl ?_
      | refine JO.step (AO1.fa rfl) rfl ?_
      | refine JO.nil ?_
      | refine JC.seq ?_
      | refine JC.reg ?_
      | refine JC.skip ?_
      | refine JC.blk ?_)
  refine JO.step (AO1.bd rfl rfl) rfl ?_
  repeat (first
      | refine JO.step (AO1.mv rfl) rfl ?_
      | refine JO.step (AO1.ncP rfl) rfl ?_
      | refine JO.step (AO1.fa rfl) rfl ?_
      | refine JO.nil ?_
      | refine JC.seq ?_
      | refine JC.reg ?_
      | refine JC.skip ?_
      | refine JC.blk ?_)
  refine JO.call (fun _ _ => rfl) rfl rfl rfl (fun S1 G1 => addIn (F := [(S.nxt, .row 0 [.sn, .sn, .i .i64 0])]) (tl := []) (s := (false, [])) (vO := .sn) (vP := .sn) R .nil (fun _ h => by cases h) (Nat.zero_le _) 5 (i := 1) (by omega) false G1) (fun S1 G1 y S2 k => ?_) rfl
  obtain ⟨N1, uO, uP, ul, rfl, hT1, hl1, hN1, G2⟩ := k
  refine ⟨N1, _, G2, ?_⟩
  have hs1 : (addR ws (false, []) (5, 1, false)).2.length ≤ 1 := addR_len ws (false, []) (5, 1, false)
  refine JO.step AO1.al rfl ?_
  refine JO.perm (h2 := (W, .blk (.row k t m)) :: (S.nxt, .row 0 [.sn, .sn, .i .i64 0]) :: (N1, .row 0 [.sn, .sn, .i .i64 0]) :: ul) (by exact .cons _ (.cons _ (List.perm_append_singleton (N1, HB.row 0 [.sn, .sn, .i .i64 0]) ul))) ?_
  refine JO.step0 (AO1.st 2 rfl rfl rfl rfl rfl rfl (hT1.ones _)) ?_
  refine JO.nil ?_
  refine JC.seq ?_
  refine JC.cut [(17, .b (outB (ws.getD 3 0) 0 4)), (3, .p N1 0), (2, .p S.nxt 0), (0, .sl W o ws.length cp), (dslot, .tu [])] (N1 + 1) ((W, .blk (.row k t m)) :: ([(S.nxt, .row 0 [.sn, .sn, .i .i64 0]), (N1, .row 0 [uO, uP, eR (addR ws (false, []) (5, 1, false))])] ++ ul)) ?_ ?_
  · repeat (first
        | refine JO.step (AO1.mv rfl) rfl ?_
        | refine JO.step (AO1.ncP rfl) rfl ?_
        | refine JO.step (AO1.fa rfl) rfl ?_
        | refine JO.nil ?_
        | refine JC.seq ?_
        | refine JC.reg ?_
        | refine JC.skip ?_
        | refine JC.blk ?_)
    refine JO.step (AO1.iaS (i := 3) rfl rfl (ble_of (by omega))) rfl ?_
    refine JO.step (AO1.ld1X 0 rfl rfl (R.ble (i := 3) (by omega)) (R.get (i := 3) (by omega))) rfl ?_
    refine JO.step (AO1.bn rfl rfl (bin_lss _ _)) rfl ?_
    repeat (first
        | refine JO.step (AO1.mv rfl) rfl ?_
        | refine JO.step (AO1.ncP rfl) rfl ?_
        | refine JO.step (AO1.fa rfl) rfl ?_
        | refine JO.nil ?_
        | refine JC.seq ?_
        | refine JC.reg ?_
        | refine JC.skip ?_
        | refine JC.blk ?_)
    unfold outB
    cases decide (ws.getD 3 0 < 0) with
    | true =>
      refine JO.skip rfl rfl rfl ?_
      refine JO.skip rfl rfl rfl ?_
      refine JO.skip rfl rfl rfl ?_
      refine JO.skip rfl rfl rfl ?_
      refine JO.step (AO1.pkT rfl rfl) rfl ?_
      repeat (first
          | refine JO.step (AO1.mv rfl) rfl ?_
          | refine JO.step (AO1.ncP rfl) rfl ?_
          | refine JO.step (AO1.fa rfl) rfl ?_
          | refine JO.nil ?_
          | refine JC.seq ?_
          | refine JC.reg ?_
          | refine JC.skip ?_
          | refine JC.blk ?_)
      exact ⟨rfl, ⟨rfl, rfl, rfl, rfl, rfl, trivial⟩, rfl, HSub.refl _ _⟩
    | false =>
      refine JO.stepT rfl rfl (AO1.mv rfl) rfl ?_
      refine JO.stepT rfl rfl (AO1.iaS (i := 3) rfl rfl (ble_of (by omega))) rfl ?_
      refine JO.stepT rfl rfl (AO1.ld1X 0 rfl rfl (R.ble (i := 3) (by omega)) (R.get (i := 3) (by omega))) rfl ?_
      refine JO.stepT rfl rfl (AO1.bn rfl rfl (bin_gtr _ _)) rfl ?_
      refine JO.step (AO1.pkF rfl rfl) rfl ?_
      repeat (first
          | refine JO.step (AO1.mv rfl) rfl ?_
          | refine JO.step (AO1.ncP rfl) rfl ?_
          | refine JO.step (AO1.fa rfl) rfl ?_
          | refine JO.nil ?_
          | refine JC.seq ?_
          | refine JC.reg ?_
          | refine JC.skip ?_
          | refine JC.blk ?_)
      exact ⟨rfl, ⟨rfl, rfl, rfl, rfl, rfl, trivial⟩, rfl, HSub.refl _ _⟩
  refine JC.cnd rfl (fun hw => ?_) (fun hw => ?_)
  · repeat (first
        | refine JO.step (AO1.mv rfl) rfl ?_
        | refine JO.step (AO1.ncP rfl) rfl ?_
        | refine JO.step (AO1.fa rfl) rfl ?_
        | refine JO.nil ?_
        | refine JC.seq ?_
        | refine JC.reg ?_
        | refine JC.skip ?_
        | refine JC.blk ?_)
    refine JO.step (AO1.bd rfl rfl) rfl ?_
    refine JO.step0 (AO1.st 1 rfl rfl rfl rfl rfl rfl rfl) ?_
    repeat (first
        | refine JO.step (AO1.mv rfl) rfl ?_
        | refine JO.step (AO1.ncP rfl) rfl ?_
        | refine JO.step (AO1.fa rfl) rfl ?_
        | refine JO.nil ?_
        | refine JC.seq ?_
        | refine JC.reg ?_
        | refine JC.skip ?_
        | refine JC.blk ?_)
    refine JC.ret ?_
    have e : refC 4 ws = (true, []) := by rw [hC, if_neg (outB_true hw)]
    exact ⟨_, .cn 1 rfl rfl rfl rfl .nil, rfl, .sn, .sn, [], by rw [e]; rfl, by rw [e]; exact .nil, fun _ h => (by cases h), .same R.h (.drop (Nat.le_refl _) (.drop (Nat.le_trans (Nat.le_succ _) hN1) (HSub.drops hl1)))⟩
  have hb := outB_false hw
  obtain ⟨j, hj⟩ := Int.eq_ofNat_of_zero_le hb.1
  have e : refC 4 ws = runR ws (false, []) ((5, 1, false) :: tabI j) := by rw [hC, if_pos hb, hj]; rfl
  have hj4 : j ≤ 4 := by have := hb.2; rw [hj] at this; omega
  repeat (first
      | refine JO.step (AO1.mv rfl) rfl ?_
      | refine JO.step (AO1.ncP rfl) rfl ?_
      | refine JO.step (AO1.fa rfl) rfl ?_
      | refine JO.nil ?_
      | refine JC.seq ?_
      | refine JC.reg ?_
      | refine JC.skip ?_
      | refine JC.blk ?_)
  refine JC.loop (fun a : AR => (4, .i .i64 (.ofNat a.1)) :: [(3, .p N1 0), (2, .p S.nxt 0), (0, .sl W o ws.length cp), (dslot, .tu [])]) (fun a => a.2.2.2.2.2) (fun a => (W, .blk (.row k t m)) :: ([(S.nxt, .row 0 [.sn, .sn, .i .i64 0]), (N1, .row 0 [a.2.2.1, a.2.2.2.1, eR a.2.1])] ++ a.2.2.2.2.1)) (fun a => j - a.1)
    (fun a => a.1 ≤ j ∧ N1 + 1 ≤ a.2.2.2.2.2 ∧ Tl a.2.1.2 a.2.2.1 a.2.2.2.1 a.2.2.2.2.1 ∧ (∀ q ∈ a.2.2.2.2.1, S.nxt ≤ q.1) ∧ a.2.1 = runR ws (addR ws (false, []) (5, 1, false)) (tabI a.1) ∧ a.2.1.2.length ≤ 1 + a.1)
    (0, addR ws (false, []) (5, 1, false), uO, uP, ul, N1 + 1) ⟨Nat.zero_le _, Nat.le_refl _, hT1, hl1, rfl, hs1⟩ ⟨rfl, rfl, rfl, rfl, rfl, trivial⟩ rfl (HSub.refl _ _) ?_
  rintro ⟨i, s, uO, uP, ul, N⟩ ⟨hi, hN, hT, hul, hs, hsl⟩
  simp only at hi hN hT hul hs hsl ⊢
  repeat (first
      | refine JO.step (AO1.mv rfl) rfl ?_
      | refine JO.step (AO1.ncP rfl) rfl ?_
      | refine JO.step (AO1.fa rfl) rfl ?_
      | refine JO.nil ?_
      | refine JC.seq ?_
      | refine JC.reg ?_
      | refine JC.skip ?_
      | refine JC.blk ?_)
  refine JO.step (AO1.iaS (i := 3) rfl rfl (ble_of (by omega))) rfl ?_
  refine JO.step (AO1.ld1X 0 rfl rfl (R.ble (i := 3) (by omega)) (R.get (i := 3) (by omega))) rfl ?_
  refine JO.step (AO1.bn rfl rfl (bin_lss _ _)) rfl ?_
  repeat (first
      | refine JO.step (AO1.mv rfl) rfl ?_
      | refine JO.step (AO1.ncP rfl) rfl ?_
      | refine JO.step (AO1.fa rfl) rfl ?_
      | refine JO.nil ?_
      | refine JC.seq ?_
      | refine JC.reg ?_
      | refine JC.skip ?_
      | refine JC.blk ?_)
  refine JC.cnd rfl (fun hle => ?_) (fun hgt => ?_)
  · have hle : ((i : Nat) : Int) < ws.getD 3 0 := of_decide_eq_true hle
    repeat (first
        | refine JO.step (AO1.mv rfl) rfl ?_
        | refine JO.step (AO1.ncP rfl) rfl ?_
        | refine JO.step (AO1.fa rfl) rfl ?_
        | refine JO.nil ?_
        | refine JC.seq ?_
        | refine JC.reg ?_
        | refine JC.skip ?_
        | refine JC.blk ?_)
    refine JO.step (AO1.ldn 2 rfl rfl rfl rfl) rfl ?_
    repeat (first
        | refine JO.step (AO1.mv rfl) rfl ?_
        | refine JO.step (AO1.ncP rfl) rfl ?_
        | refine JO.step (AO1.fa rfl) rfl ?_
        | refine JO.nil ?_
        | refine JC.seq ?_
        | refine JC.reg ?_
        | refine JC.skip ?_
        | refine JC.blk ?_)
    refine JO.step (AO1.bn (v := .i .i64 (.ofNat (4 + i))) rfl rfl (addN (a := 4) (b := i) (by omega))) rfl ?_
    refine JO.call (fun _ _ => rfl) rfl rfl rfl (fun S1 G1 => addIn (F := [(S.nxt, .row 0 [.sn, .sn, .i .i64 0]), (N1, .row 0 [uO, uP, eR s])]) (tl := ul) (s := s) (vO := uO) (vP := uP) R hT hul (by omega) 8 (i := 4 + i) (by omega) true G1) (fun S1 G1 y S2 k => ?_) rfl
    obtain ⟨N2, xO, xP, xl, rfl, hT2, hl2, hN2, G3⟩ := k
    refine ⟨N2, _, G3, ?_⟩
    refine JO.step0 (AO1.st 2 rfl rfl rfl rfl rfl rfl (hT2.ones _)) ?_
    repeat (first
        | refine JO.step (AO1.mv rfl) rfl ?_
        | refine JO.step (AO1.ncP rfl) rfl ?_
        | refine JO.step (AO1.fa rfl) rfl ?_
        | refine JO.nil ?_
        | refine JC.seq ?_
        | refine JC.reg ?_
        | refine JC.skip ?_
        | refine JC.blk ?_)
    refine JO.step (AO1.bn (v := .i .i64 (.ofNat (i + 1))) rfl rfl (addN (a := i) (b := 1) (by omega))) rfl ?_
    repeat (first
        | refine JO.step (AO1.mv rfl) rfl ?_
        | refine JO.step (AO1.ncP rfl) rfl ?_
        | refine JO.step (AO1.fa rfl) rfl ?_
        | refine JO.nil ?_
        | refine JC.seq ?_
        | refine JC.reg ?_
        | refine JC.skip ?_
        | refine JC.blk ?_)
    have hl3 := addR_len ws s (8, 4 + i, true)
    refine ⟨(i + 1, _, xO, xP, xl, N2), ⟨by show i + 1 ≤ j; omega, by show N1 + 1 ≤ N2; omega, hT2, hl2, ?_, by show (addR ws s (8, 4 + i, true)).2.length ≤ 1 + (i + 1); omega⟩, by show j - (i + 1) < j - i; omega, ⟨rfl, rfl, rfl, rfl, rfl, trivial⟩, rfl, HSub.refl _ _⟩
    show addR ws s (8, 4 + i, true) = _
    rw [hs]
    exact (runR_app ws _ (tabI i) [(8, 4 + i, true)]).symm
  · have hgt : ¬ (((i : Nat) : Int) < ws.getD 3 0) := of_decide_eq_false hgt
    refine JC.ex ?_
    repeat (first
        | refine JO.step (AO1.mv rfl) rfl ?_
        | refine JO.step (AO1.ncP rfl) rfl ?_
        | refine JO.step (AO1.fa rfl) rfl ?_
        | refine JO.nil ?_
        | refine JC.seq ?_
        | refine JC.reg ?_
        | refine JC.skip ?_
        | refine JC.blk ?_)
    refine JO.step (AO1.ldn 2 rfl rfl rfl rfl) rfl ?_
    refine JO.step0 (AO1.st 1 rfl rfl rfl rfl rfl rfl (hT.ones _)) ?_
    repeat (first
        | refine JO.step (AO1.mv rfl) rfl ?_
        | refine JO.step (AO1.ncP rfl) rfl ?_
        | refine JO.step (AO1.fa rfl) rfl ?_
        | refine JO.nil ?_
        | refine JC.seq ?_
        | refine JC.reg ?_
        | refine JC.skip ?_
        | refine JC.blk ?_)
    refine JC.ret ?_
    have e2 : refC 4 ws = s := by rw [e, hs, show j = i from by omega]; rfl
    exact ⟨_, .cn 1 rfl rfl rfl rfl .nil, rfl, uO, uP, ul, by rw [e2]; rfl, by rw [e2]; exact hT, hul, .same R.h (.drop (Nat.le_refl _) (.drop (Nat.le_trans (Nat.le_succ _) hN1) (HSub.refl _ _)))⟩
end L32
end Go.Ev
