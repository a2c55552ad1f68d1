/-
  Where a call begins.
-/
import Derived.Test.YtfkbgacmpalafaaGreatDoorEv10
import Derived.ProofKit
import Derived.LaidMore
import Derived.OpenShut
import Derived.ChangeSame
import Derived.Carry
import Derived.Test.YtfkbgacmpalafaaGreatDoorTie
import Derived.Test.YtfkbgacmpalafaaGreatDoorCards
import Derived.Stop.Joined
import Derived.SevenTiedAt
namespace Go.Ev
open Go Go.ChangeShapes Go.WideShapes Go.WideElems Go.RowKit
section
variable {H : Type} {enc : TypeId × Value → H} {P : Program} {w : World} {base : Nat} {spare : Nat → Bool} {held : Bool}
/-- the cells of an array of numbers -/
theorem ints_arr {t e : TypeId} {n : Nat} {k : IntKind} {fuel : Nat} {cs : List Value} {x : DataW H × List MemPlace} {l : List Int} (ht : P.underlying t = some (.array n e)) (he : P.underlying e = some (.int k)) (hc : P.cellsOf e = 1) (hct : P.cellsOf t = l.length)
    (h : DataW.trod enc P w base spare held fuel t cs = some x) (hx : x.1 = .agg (l.map fun z => .lit (.int k z))) : cs = l.map fun z => .int k z := by
  obtain ⟨xs, m, rfl, rfl, hlen, hn, hel⟩ := DataW.trod_array ht h
  have hx : xs.map (·.1) = l.map fun z => .lit (.int k z) := by simpa using hx
  have hxl : xs.length = l.length := by simpa using congrArg List.length hx
  refine List.ext_getElem? fun i => ?_
  by_cases hi : i < l.length
  · have h1 := hel i (by omega)
    obtain ⟨y, hy⟩ : ∃ y, xs[i]? = some y := ⟨_, List.getElem?_eq_getElem (by omega)⟩
    rw [hy, hc, Nat.mul_one] at h1
    obtain ⟨z, e1, e2, _⟩ := DataW.trod_int he h1
    have h2 : (xs.map (·.1))[i]? = (l.map fun z => (DataW.lit (.int k z) : DataW H))[i]? := by rw [hx]
    rw [List.getElem?_map, List.getElem?_map, hy, List.getElem?_eq_getElem hi, e2] at h2
    have h3 : z = l[i] := by simpa using h2
    have h4 : cs[i]? = some (.int k z) := by
      have := congrArg (fun l => l[0]?) e1
      simpa [List.getElem?_take, List.getElem?_drop] using this
    rw [h4, List.getElem?_map, List.getElem?_eq_getElem hi, h3]; rfl
  · rw [List.getElem?_eq_none (by omega), List.getElem?_eq_none (by simpa using hi)]
theorem chunks {α β : Type} {f : β → List α} : ∀ {l : List β} {cs : List α}, cs.length = 2 * l.length → (∀ p ∈ l, (f p).length = 2) → (∀ i (hi : i < l.length), (cs.drop (i * 2)).take 2 = f l[i]) → cs = l.flatMap f
  | [], cs, h, _, _ => by simpa using h
  | p :: l, a :: b :: cs, h, hf, hg => by
    have h0 := hg 0 (by simp)
    simp only [Nat.zero_mul, List.drop_zero, List.getElem_cons_zero] at h0
    have h0 : [a, b] = f p := by simpa using h0
    rw [List.flatMap_cons, ← h0]
    show a :: b :: cs = a :: b :: l.flatMap f
    rw [← chunks (l := l) (cs := cs) (by simp only [List.length_cons] at h; omega) (fun q hq => hf q (List.mem_cons_of_mem _ hq)) (fun i hi => by
      have := hg (i + 1) (by simpa using hi)
      simpa [Nat.succ_mul] using this)]
  | p :: l, [], h, _, _ => by simp at h
  | p :: l, [a], h, _, _ => by simp only [List.length_cons, List.length_nil] at h; omega
theorem pairs_arr {t e : TypeId} {f0 f1 : Field} {n : Nat} {k : IntKind} {fuel : Nat} {cs : List Value} {x : DataW H × List MemPlace} {l : List (Int × Int)} (ht : P.underlying t = some (.array n e)) (he : P.underlying e = some (.struct #[f0, f1]))
    (h0 : P.underlying f0.type = some (.int k)) (h1 : P.underlying f1.type = some (.int k)) (o0 : f0.offset = 0) (o1 : f1.offset = 1) (c0 : P.cellsOf f0.type = 1) (c1 : P.cellsOf f1.type = 1) (hc : P.cellsOf e = 2) (hct : P.cellsOf t = 2 * l.length)
    (h : DataW.trod enc P w base spare held fuel t cs = some x) (hx : x.1 = .agg (l.map fun p => .agg [.lit (.int k p.1), .lit (.int k p.2)])) : cs = l.flatMap fun p => [.int k p.1, .int k p.2] := by
  obtain ⟨xs, m, rfl, rfl, hlen, hn, hel⟩ := DataW.trod_array ht h
  have hx : xs.map (·.1) = l.map fun p => .agg [.lit (.int k p.1), .lit (.int k p.2)] := by simpa using hx
  have hxl : xs.length = l.length := by simpa using congrArg List.length hx
  refine chunks (by omega) (fun _ _ => rfl) fun i hi => ?_
  have e1 := hel i (by omega)
  obtain ⟨y, hy⟩ : ∃ y, xs[i]? = some y := ⟨_, List.getElem?_eq_getElem (by omega)⟩
  rw [hy, hc] at e1
  obtain ⟨y0, y1, m', rfl, hl2, r0, r1⟩ := trod_struct2 he e1
  rw [o0, c0] at r0
  rw [o1, c1] at r1
  obtain ⟨z0, a0, b0, _⟩ := DataW.trod_int h0 r0
  obtain ⟨z1, a1, b1, _⟩ := DataW.trod_int h1 r1
  have h2 : (xs.map (·.1))[i]? = (l.map fun p => (DataW.agg [.lit (.int k p.1), .lit (.int k p.2)] : DataW H))[i]? := by rw [hx]
  rw [List.getElem?_map, List.getElem?_map, hy, List.getElem?_eq_getElem hi, b0, b1] at h2
  have h3 : z0 = l[i].1 ∧ z1 = l[i].2 := by simpa using h2
  rw [← h3.1, ← h3.2]
  rw [hc] at hl2
  generalize (cs.drop (i * 2)).take 2 = d at a0 a1 hl2
  match d, hl2 with
  | [u, v], _ =>
    simp only [List.drop_zero, List.take_succ_cons, List.take_zero, List.cons.injEq, and_true] at a0
    simp only [List.drop_succ_cons, List.drop_zero, List.take_succ_cons, List.take_zero, List.cons.injEq, and_true] at a1
    rw [a0, a1]
theorem perm_map_inv {α β : Type} {f : α → β} : ∀ {L : List β} {l : List α}, (l.map f).Perm L → ∃ l' : List α, l'.Perm l ∧ l'.map f = L
  | [], l, h => by
    have := h.eq_nil
    rw [List.map_eq_nil_iff] at this
    subst this
    exact ⟨[], .nil, rfl⟩
  | b :: L, l, h => by
    have hb : b ∈ l.map f := h.mem_iff.2 (List.mem_cons_self ..)
    obtain ⟨a, ha, rfl⟩ := List.mem_map.1 hb
    obtain ⟨s, t, rfl⟩ := List.append_of_mem ha
    have h2 : ((s ++ t).map f).Perm L := by
      have : ((a :: (s ++ t)).map f).Perm (f a :: L) := (List.perm_middle.symm.map f).trans h
      rw [List.map_cons] at this
      exact this.cons_inv
    obtain ⟨l', p, e⟩ := perm_map_inv h2
    exact ⟨a :: l', (p.cons a).trans List.perm_middle.symm, by rw [List.map_cons, e]⟩
theorem map_swap {α β γ δ : Type} {f : α → β} {g : α → γ} {D : δ → β} {V : δ → γ} : ∀ {l : List α} {L : List δ}, (∀ c ∈ l, ∀ p, f c = D p → g c = V p) → l.map f = L.map D → l.map g = L.map V
  | [], [], _, _ => rfl
  | a :: l, p :: L, h, e => by
    rw [List.map_cons, List.map_cons, List.cons.injEq] at e
    rw [List.map_cons, List.map_cons, h a (List.mem_cons_self ..) p e.1, map_swap (fun c hc => h c (List.mem_cons_of_mem _ hc)) e.2]
  | [], _ :: _, _, e => by cases e
  | _ :: _, [], _, e => by cases e
/-- the entries of a map from numbers to pairs -/
theorem map_entries {k e ei : TypeId} {clock n : Nat} {es : Array MapEntry} {L : List (Int × Int × Int)} (hk : P.underlying k = some (.int .i64)) (he : P.underlying e = some (.array 2 ei)) (hei : P.underlying ei = some (.int .i64)) (hci : P.cellsOf ei = 1) (hce : P.cellsOf e = 2)
    (F : Fit P k (elemAt enc P w base spare held n e) es clock)
    (hx : (es.toList.map (rg P k (elemAt enc P w base spare held n e))).foldr DataW.insert [] = L.map fun p => (.int .i64 p.1, .agg [.lit (.int .i64 p.2.1), .lit (.int .i64 p.2.2)])) :
    ∃ l' : List MapEntry, l'.Perm es.toList ∧ l'.map (fun c => (c.key, c.val)) = L.map fun p => (.int .i64 p.1, .agg #[.int .i64 p.2.1, .int .i64 p.2.2]) := by
  have hp := (sorted_perm (es.toList.map (rg P k (elemAt enc P w base spare held n e)))).symm
  rw [hx] at hp
  obtain ⟨l', h1, h2⟩ := perm_map_inv hp
  refine ⟨l', h1, map_swap (fun c hc p e1 => ?_) h2⟩
  obtain ⟨y, hy⟩ := F.reads c (h1.mem_iff.1 hc)
  rw [rg_of hy] at e1
  subst e1
  have hkey := rd_key hy
  obtain ⟨z, hz, ez⟩ := rd_val hy
  have k1 : c.key = .int .i64 p.1 := by
    unfold keyOf at hkey
    rw [hk] at hkey
    unfold mapKey at hkey
    rw [hk] at hkey
    cases hv : c.key with
    | int q m =>
      rw [hv] at hkey
      simp only at hkey
      split at hkey
      · rename_i h3
        cases hkey
        rw [h3.1]
      · cases hkey
    | _ => rw [hv] at hkey; cases hkey
  have k2 : c.val = .agg #[.int .i64 p.2.1, .int .i64 p.2.2] := by
    unfold elemAt at hz
    split at hz
    · rename_i hf
      have hcells := ints_arr (l := [p.2.1, p.2.2]) he hei hci (by rw [hce]; rfl) hz ez.symm
      cases hv : c.val with
      | agg cs =>
        rw [hv] at hcells
        have : cs.toList = [.int .i64 p.2.1, .int .i64 p.2.2] := hcells
        rw [← this]
      | tuple cs => rw [hv] at hf; cases hf
      | _ => rw [hv] at hf; simp [Value.formed, he] at hf
    · cases hz
  rw [k1, k2]
end
end Go.Ev
namespace Go.Ev
open Go Go.Proofs Go.ChangeShapes Go.WideShapes Go.RowKit
namespace L32
set_option maxRecDepth 100000
open Go.Proofs.YtfkbgacmpalafaaGreatDoor (Tryz.pinned)
/-! where a call begins -/
theorem own : ownKnob Tryz.prog.godebug = none := by kernel_rfl
theorem laidOut : laidOutB Tryz.prog = true := by kernel_rfl
abbrev laidL : List (String × DataW Unit) := [("alum/pointer.pointers", YtfkbgacmpalafaaGreatDoor.Rows.laid_alum_pointer_pointers), ("alum/pointer.headers", YtfkbgacmpalafaaGreatDoor.Rows.laid_alum_pointer_headers), ("math/bits.deBruijn32tab", YtfkbgacmpalafaaGreatDoor.Rows.laid_math_bits_deBruijn32tab), ("math/bits.deBruijn64tab", YtfkbgacmpalafaaGreatDoor.Rows.laid_math_bits_deBruijn64tab), ("alum/collect.kinds", YtfkbgacmpalafaaGreatDoor.Rows.laid_alum_collect_kinds)]
theorem gn0 : Tryz.prog.globalNamed "alum/collect.kinds" = some 0 := by kernel_rfl
theorem gn1 : Tryz.prog.globalNamed "alum/pointer.pointers" = some 1 := by kernel_rfl
theorem gn2 : Tryz.prog.globalNamed "alum/pointer.headers" = some 2 := by kernel_rfl
theorem gn3 : Tryz.prog.globalNamed "math/bits.deBruijn32tab" = some 3 := by kernel_rfl
theorem gn4 : Tryz.prog.globalNamed "math/bits.deBruijn64tab" = some 4 := by kernel_rfl
theorem gt0 : (Tryz.prog.globals[0]?).map (·.type) = some 95 := by kernel_rfl
theorem gt1 : (Tryz.prog.globals[1]?).map (·.type) = some 191 := by kernel_rfl
theorem gt2 : (Tryz.prog.globals[2]?).map (·.type) = some 269 := by kernel_rfl
theorem gt3 : (Tryz.prog.globals[3]?).map (·.type) = some 280 := by kernel_rfl
theorem gt4 : (Tryz.prog.globals[4]?).map (·.type) = some 281 := by kernel_rfl
theorem gsize : Tryz.prog.globals.size = 5 := by kernel_rfl
theorem cell5 : Tryz.prog.cellsOf 5 = 1 := by kernel_rfl
theorem cell3 : Tryz.prog.cellsOf 3 = 1 := by kernel_rfl
theorem cell94 : Tryz.prog.cellsOf 94 = 2 := by kernel_rfl
theorem cell190 : Tryz.prog.cellsOf 190 = 2 := by kernel_rfl
theorem cell191 : Tryz.prog.cellsOf 191 = 4 := by kernel_rfl
theorem cell269 : Tryz.prog.cellsOf 269 = 6 := by kernel_rfl
theorem cell280 : Tryz.prog.cellsOf 280 = 32 := by kernel_rfl
theorem cell281 : Tryz.prog.cellsOf 281 = 64 := by kernel_rfl
theorem var_cells {P : Program} {W : World} {n : String} {g : Nat} {cs : Array Value} (hg : P.globalNamed n = some g) (hv : W.var? P n = some cs) : ∃ t fr, W.heap[g]? = some (.cells cs t fr) := by
  unfold World.var? at hv
  rw [hg, Option.bind_some] at hv
  split at hv
  · cases hv; exact ⟨_, _, ‹_›⟩
  · cases hv
def vI (k : IntKind) (l : List Int) : List Value := l.map fun z => .int k z
def HasRow (W : World) (g : Nat) (l : List Value) : Prop := ∃ t fr, W.heap[g]? = some (.cells l.toArray t fr)
/-- what the package's variables hold -/
structure LaidAt (W : World) (bm clock : Nat) (b : Nat → Nat) (es' : Ents) : Prop where
  g0 : HasRow W 0 [.map (some bm)]
  g1 : HasRow W 1 (vI .i64 [0, 12, 12, 20])
  g2 : HasRow W 2 (vI .i64 [0, 4, 4, 3, 7, 20])
  g3 : HasRow W 3 (vI .u8 tab32)
  g4 : HasRow W 4 (vI .u8 tab64)
  g5 : ∃ ces, W.heap[bm]? = some (.map ces clock) ∧ es'.Perm (kindsE b) ∧ ∀ ι, ERs ι es' ces.toList
theorem hasRow_of {W : World} {g : Nat} {l : List Value} {cs : Array Value} (h : ∃ t fr, W.heap[g]? = some (.cells cs t fr)) (e : cs.toList = l) : HasRow W g l := by
  obtain ⟨t, fr, h⟩ := h
  exact ⟨t, fr, by rw [← e]; exact h⟩
def avOf : Value → AV
  | .int k n => .i k n
  | .agg cs => .ag (cs.toList.map fun | .int k n => .i k n | _ => .undef)
  | _ => .undef
def absE (c : MapEntry) : AV × AV × Nat := (avOf c.key, avOf c.val, c.born)
def kinds8 : List (Int × Int × Int) := [(1, 6, 2), (2, 6, 35), (3, 6, 0), (4, 5, 8), (5, 3, 1), (6, 2, 7), (7, 1, 4), (8, 4, 1)]
theorem kinds8_abs {l' : List MapEntry} (h : l'.map (fun c => (c.key, c.val)) = kinds8.map fun p => (.int .i64 p.1, .agg #[.int .i64 p.2.1, .int .i64 p.2.2])) : ∃ b, l'.map absE = kindsE b := by
  have hl : l'.length = 8 := by simpa [kinds8] using congrArg List.length h
  match l', hl, h with
  | [c0, c1, c2, c3, c4, c5, c6, c7], _, h =>
    simp only [kinds8, List.map_cons, List.map_nil, List.cons.injEq, Prod.mk.injEq, and_true] at h
    obtain ⟨⟨a0, b0⟩, ⟨a1, b1⟩, ⟨a2, b2⟩, ⟨a3, b3⟩, ⟨a4, b4⟩, ⟨a5, b5⟩, ⟨a6, b6⟩, ⟨a7, b7⟩⟩ := h
    refine ⟨fun n => (([c0, c1, c2, c3, c4, c5, c6, c7].map (·.born))[n]?).getD 0, ?_⟩
    simp only [List.map_cons, List.map_nil, absE, a0, a1, a2, a3, a4, a5, a6, a7, b0, b1, b2, b3, b4, b5, b6, b7]
    rfl
theorem entry_er {c : MapEntry} {p : Int × Int × Int} (h : (c.key, c.val) = (.int .i64 p.1, .agg #[.int .i64 p.2.1, .int .i64 p.2.2])) (ι : Im) : ER ι (absE c) c := by
  rw [Prod.mk.injEq] at h
  refine ⟨?_, ?_, rfl⟩
  · show VR ι (avOf c.key) c.key
    rw [h.1]; exact .i _ _
  · show VR ι (avOf c.val) c.val
    rw [h.2]
    exact .ag (vs := [.int .i64 p.2.1, .int .i64 p.2.2]) (.cons (.i _ _) (.cons (.i _ _) .nil))
theorem ers_map (ι : Im) : ∀ {l : List MapEntry}, (∀ c ∈ l, ER ι (absE c) c) → ERs ι (l.map absE) l
  | [], _ => .nil
  | c :: l, h => .cons (h c (List.mem_cons_self ..)) (ers_map ι fun d hd => h d (List.mem_cons_of_mem _ hd))
theorem of_laid {W : World} (h : laidMetH Tryz.prog laidL W) : ∃ bm clock b es', LaidAt W bm clock b es' := by
  rw [MakeChecks.laidMetH_plain _ _ _ (by kernel_rfl)] at h
  obtain ⟨ps, ⟨a1, t1, cs1, f1, p1, q1, hg1, ht1, hv1, hd1, ⟨a2, t2, cs2, f2, p2, q2, hg2, ht2, hv2, hd2, ⟨a3, t3, cs3, f3, p3, q3, hg3, ht3, hv3, hd3, ⟨a4, t4, cs4, f4, p4, q4, hg4, ht4, hv4, hd4, ⟨a0, t0, cs0, f0, p0, q0, hg0, ht0, hv0, hd0, _, _⟩, _⟩, _⟩, _⟩, _⟩, _, _⟩ := h
  obtain rfl := Option.some.inj (gn0.symm.trans hg0)
  obtain rfl := Option.some.inj (gn1.symm.trans hg1)
  obtain rfl := Option.some.inj (gn2.symm.trans hg2)
  obtain rfl := Option.some.inj (gn3.symm.trans hg3)
  obtain rfl := Option.some.inj (gn4.symm.trans hg4)
  obtain rfl := Option.some.inj (gt0.symm.trans ht0)
  obtain rfl := Option.some.inj (gt1.symm.trans ht1)
  obtain rfl := Option.some.inj (gt2.symm.trans ht2)
  obtain rfl := Option.some.inj (gt3.symm.trans ht3)
  obtain rfl := Option.some.inj (gt4.symm.trans ht4)
  have e1 := pairs_arr (l := [(0, 12), (12, 20)]) Tryz.underlying191 Tryz.underlying190 Tryz.underlying3 Tryz.underlying3 rfl rfl cell3 cell3 cell190 (by rw [cell191]; rfl) hd1 rfl
  have e2 := pairs_arr (l := [(0, 4), (4, 3), (7, 20)]) Tryz.underlying269 Tryz.underlying190 Tryz.underlying3 Tryz.underlying3 rfl rfl cell3 cell3 cell190 (by rw [cell269]; rfl) hd2 rfl
  have e3 := ints_arr (l := tab32) Tryz.underlying280 Tryz.underlying5 cell5 (by rw [cell280]; rfl) hd3 rfl
  have e4 := ints_arr (l := tab64) Tryz.underlying281 Tryz.underlying5 cell5 (by rw [cell281]; rfl) hd4 rfl
  rcases Go.WideElems.open_map Tryz.underlying95 hd0 with ⟨_, hx⟩ | ⟨bm, es, clock, n, rfl, hcs, hb, _, F, hx⟩
  · simp [YtfkbgacmpalafaaGreatDoor.Rows.laid_alum_collect_kinds] at hx
  simp only [Prod.mk.injEq] at hx
  obtain ⟨l', hp, hl'⟩ := map_entries (L := kinds8) Tryz.underlying3 Tryz.underlying94 Tryz.underlying3 cell3 cell94 F (by
    have := hx.1
    unfold YtfkbgacmpalafaaGreatDoor.Rows.laid_alum_collect_kinds at this
    exact (DataW.map.inj this).symm)
  obtain ⟨b, hb'⟩ := kinds8_abs hl'
  refine ⟨bm, clock, b, es.toList.map absE, hasRow_of (var_cells gn0 hv0) hcs, hasRow_of (var_cells gn1 hv1) e1, hasRow_of (var_cells gn2 hv2) e2, hasRow_of (var_cells gn3 hv3) e3, hasRow_of (var_cells gn4 hv4) e4, es, hb, ?_, fun ι => ers_map ι fun c hc => ?_⟩
  · rw [← hb']; exact (hp.map absE).symm
  · obtain ⟨i, hi⟩ := List.getElem?_of_mem (hp.mem_iff.2 hc)
    have h1 : (l'.map (fun c => (c.key, c.val)))[i]? = (kinds8.map fun p => ((.int .i64 p.1, .agg #[.int .i64 p.2.1, .int .i64 p.2.2]) : Value × Value))[i]? := by rw [hl']
    rw [List.getElem?_map, List.getElem?_map, hi] at h1
    cases hk : kinds8[i]? with
    | none => rw [hk] at h1; cases h1
    | some p => rw [hk] at h1; exact entry_er (Option.some.inj h1) ι
def K0 (W : World) : Pins := ⟨fun b => W.heap[b]?, fun _ => False, W.heap.size⟩
theorem sim0 {P : Program} {W : World} {S : St} {ι : Im} (h : ∀ β x, S.heap.get β = some x → x.isRo = true ∧ ∃ L, ι β = some L ∧ BR P (K0 W) ι L W x) (hl : ∀ β, S.nxt ≤ β → ι β = none ∧ S.heap.get β = none) : Sim P W (K0 W) ι S W :=
  ⟨Sam.refl W, fun _ _ e => e, fun β x e => (h β x e).2, fun β γ x y L M _ e1 e2 _ _ r => (by
    rw [(h β x e1).1, (h γ y e2).1] at r
    rcases r with r | r <;> cases r), hl, fun _ k => k.elim, Nat.le_refl _⟩
theorem row0 {P : Program} {W : World} {ι : Im} {b o : Nat} {arr : Array Value} {t : TypeId} {fr : Nat × Nat} {l : List AV} (h : W.heap[b]? = some (.cells arr t fr)) (hs : o + l.length ≤ arr.size) (hc : ∀ i (hi : i < l.length), ∃ v, arr[o + i]? = some v ∧ VR ι l[i] v) : BR P (K0 W) ι ⟨b, o, l.length, 0⟩ W (.row 2 (T.ofList l) l.length) :=
  ⟨⟨arr, t, fr, h, hs, fun i hi a ha => by
    rw [T.get_ofList, List.getElem?_eq_getElem hi] at ha
    cases ha
    exact hc i hi, fun k => absurd rfl k⟩, Nat.le_refl _, fun k => absurd rfl k, fun z e => by omega, fun _ => ⟨rfl, heap_lt h⟩⟩
theorem rowI {P : Program} {W : World} {ι : Im} {g : Nat} {k : IntKind} {l : List Int} (h : HasRow W g (vI k l)) : BR P (K0 W) ι ⟨g, 0, l.length, 0⟩ W (rowOf 2 (l.map fun n => .i k n)) := by
  obtain ⟨t, fr, h⟩ := h
  have := row0 (P := P) (ι := ι) (o := 0) (l := l.map fun n => AV.i k n) h (by simp [vI]) fun i hi => by
    refine ⟨.int k (l[i]'(by simpa using hi)), ?_, ?_⟩
    · have hi' : i < l.length := by simpa using hi
      simp [vI, hi']
    · rw [List.getElem_map]; exact .i _ _
  rw [List.length_map] at this
  unfold rowOf
  rw [List.length_map]
  exact this
/-- names of the package's variables, and of one block more -/
def im6 (bm : Nat) (x : Option Loc) : Im
  | 0 => some ⟨0, 0, 1, 0⟩
  | 1 => some ⟨1, 0, 4, 0⟩
  | 2 => some ⟨2, 0, 6, 0⟩
  | 3 => some ⟨3, 0, 32, 0⟩
  | 4 => some ⟨4, 0, 64, 0⟩
  | 5 => some ⟨bm, 0, 0, 0⟩
  | 6 => x
  | _ => none
theorem kinds_rom (b : Nat → Nat) : RomOk (kindsE b) := by
  refine ⟨fun e he => ?_, ?_⟩
  · simp only [kindsE, List.mem_cons, List.not_mem_nil, or_false] at he
    rcases he with rfl | rfl | rfl | rfl | rfl | rfl | rfl | rfl <;> exact ⟨_, rfl⟩
  · simp [kindsE]
theorem laid_br {W : World} {bm clock : Nat} {b : Nat → Nat} {es' : Ents} (L : LaidAt W bm clock b es') (x : Option Loc) (β : Nat) (hβ : β < 6) {X : Blk} (e : (G1 b clock).get β = some X) : X.isRo = true ∧ ∃ M, im6 bm x β = some M ∧ BR PP (K0 W) (im6 bm x) M W X := by
  unfold G1 at e
  rw [T.get_ofList] at e
  match β, hβ with
  | 0, _ =>
    cases e
    obtain ⟨t, fr, h⟩ := L.g0
    exact ⟨rfl, _, rfl, row0 (o := 0) (l := [.m 5]) h (Nat.le_refl _) fun i hi => by
      have : i = 0 := by simpa using hi
      subst this
      exact ⟨_, rfl, .m (L := ⟨bm, 0, 0, 0⟩) rfl⟩⟩
  | 1, _ => cases e; exact ⟨rfl, _, rfl, rowI L.g1⟩
  | 2, _ => cases e; exact ⟨rfl, _, rfl, rowI L.g2⟩
  | 3, _ => cases e; exact ⟨rfl, _, rfl, rowI L.g3⟩
  | 4, _ => cases e; exact ⟨rfl, _, rfl, rowI (l := tab64) L.g4⟩
  | 5, _ =>
    cases e
    obtain ⟨ces, h, hp, hr⟩ := L.g5
    exact ⟨rfl, _, rfl, ⟨heap_lt h, kinds_rom b⟩, ces, h, es', hp, hr _⟩
noncomputable def S6 (b : Nat → Nat) (c : Nat) : Option Blk → St
  | none => ⟨G1 b c, 6, 0⟩
  | some X => ⟨(G1 b c).set 6 X, 7, 0⟩
theorem G1_none {b : Nat → Nat} {c β : Nat} (h : 6 ≤ β) : (G1 b c).get β = none := by
  unfold G1
  rw [T.get_ofList, List.getElem?_eq_none (by simpa using h)]
theorem S6_glob (b : Nat → Nat) (c : Nat) (x : Option Blk) : Glob (S6 b c x) := by
  refine ⟨b, c, fun β hβ => ?_⟩
  cases x with
  | none => rfl
  | some X => show ((G1 b c).set 6 X).get β = _; rw [T.get_set, if_neg (by omega)]
theorem S6_sim {W : World} {bm clock : Nat} {b : Nat → Nat} {es' : Ents} (L : LaidAt W bm clock b es') (x : Option (Loc × Blk)) (hx : ∀ M X, x = some (M, X) → X.isRo = true ∧ ∀ y, BR PP (K0 W) (im6 bm y) M W X) : Sim PP W (K0 W) (im6 bm (x.map (·.1))) (S6 b clock (x.map (·.2))) W := by
  refine sim0 (fun β X e => ?_) fun β hβ => ?_
  · rcases Nat.lt_or_ge β 6 with k | k
    · refine laid_br L _ β k ?_
      cases x with
      | none => exact e
      | some p =>
        have e : ((G1 b clock).set 6 p.2).get β = some X := e
        rw [T.get_set, if_neg (by omega)] at e
        exact e
    · cases x with
      | none =>
        have e : (G1 b clock).get β = some X := e
        rw [G1_none k] at e; cases e
      | some p =>
        have e : ((G1 b clock).set 6 p.2).get β = some X := e
        rw [T.get_set] at e
        by_cases hb : β = 6
        · subst hb
          rw [if_pos rfl] at e; cases e
          exact ⟨(hx p.1 p.2 rfl).1, p.1, rfl, (hx p.1 p.2 rfl).2 _⟩
        · rw [if_neg hb, G1_none k] at e; cases e
  · cases x with
    | none =>
      have hβ : 6 ≤ β := hβ
      refine ⟨?_, G1_none hβ⟩
      match β, hβ with
      | 6, _ => rfl
      | n + 7, _ => rfl
    | some p =>
      have hβ : 7 ≤ β := hβ
      refine ⟨?_, ?_⟩
      · match β, hβ with
        | n + 7, _ => rfl
      · show ((G1 b clock).set 6 p.2).get β = none
        rw [T.get_set, if_neg (by omega)]; exact G1_none (by omega)
theorem im6_gr (bm : Nat) (x : Option Loc) : GR PP (im6 bm x) := fun g hg => by
  have hg : g < 5 := by rw [← gsize]; exact hg
  match g, hg with
  | 0, _ => exact ⟨_, rfl, rfl, rfl⟩
  | 1, _ => exact ⟨_, rfl, rfl, rfl⟩
  | 2, _ => exact ⟨_, rfl, rfl, rfl⟩
  | 3, _ => exact ⟨_, rfl, rfl, rfl⟩
  | 4, _ => exact ⟨_, rfl, rfl, rfl⟩
theorem Sim.below {P : Program} {W W' : World} {ι : Im} {S : St} (h : Sim P W (K0 W) ι S W') : Below W.heap.size W W' :=
  ⟨h.sam.os, h.sam.tape, h.sam.output, h.sam.size, fun k hk => by
    have e : W.heap[k]? = some W.heap[k] := Array.getElem?_eq_getElem hk
    rw [e]; exact h.pin k _ e⟩
end L32
end Go.Ev
