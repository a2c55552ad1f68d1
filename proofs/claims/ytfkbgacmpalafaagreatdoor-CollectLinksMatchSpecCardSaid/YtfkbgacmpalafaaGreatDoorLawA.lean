/-
  CollectLinksMatchSpec: for every role and all words the call returns true and leaves its arguments as they were; the package-level variables read as listed when the call begins.
-/
import Derived.Test.YtfkbgacmpalafaaGreatDoorEv11
namespace Go.Proofs.YtfkbgacmpalafaaGreatDoor
open Go Go.ChangeShapes Go.WideShapes Go.RowKit Go.Ev Go.Ev.L32
theorem S6_get (b : Nat → Nat) (c : Nat) (X : Blk) : (S6 b c (some X)).heap.get 6 = some X := by
  show ((G1 b c).set 6 X).get 6 = _
  rw [T.get_set, if_pos rfl]
theorem cells_at {W : World} {a : Addr} {n : Nat} {k : IntKind} {zs : List Int} (hn : 0 < n) (h : ∀ i, i < n → W.cell? (a.add i) = some (.int k (zs.getD i 0))) : a.spot = none ∧ ∃ arr t fr, W.heap[a.block]? = some (.cells arr t fr) ∧ ∀ i, i < n → arr[a.off + i]? = some (.int k (zs.getD i 0)) := by
  have h0 := h 0 hn
  rw [show a.add 0 = a from if_pos rfl] at h0
  unfold World.cell? at h0
  split at h0
  · rename_i c t fr hh
    have hs : a.spot = none := by
      cases hs : a.spot with
      | none => rfl
      | some x => rw [hs] at h0; cases h0
    rw [hs] at h0
    refine ⟨hs, c, t, fr, hh, fun i hi => ?_⟩
    rcases Nat.eq_zero_or_pos i with rfl | hp
    · exact h0
    · have h1 := h i hi
      rw [show a.add i = { a with off := a.off + i, spot := none } from if_neg (by omega)] at h1
      unfold World.cell? at h1
      simp only [hh] at h1
      exact h1
  · cases h0
set_option maxRecDepth 100000 in
theorem matchSpec_contract {H : Type} {enc : TypeId × Value → H} (W : World) (base : Nat) (args : Array Value) (ds gs : List (DataW H)) (before : List MemPlace)
    (hval0 : ∀ (j : Nat) t v, Tryz.f3.params[j]? = some t → args[j]? = some v → Value.okWide Tryz.checked.prog W .any base t v)
    (hW : DataW.Whole enc Tryz.checked.prog Tryz.f3.params.toList Rows.collectLinksMatchSpecSpec.vars false W args.toList ds gs before) (hL : laidMetH Tryz.prog laidL W) :
    Calls Tryz.checked.prog 3 args W fun e W' => ∃ v, e = .returned v ∧ Rows.collectLinksMatchSpecSpec.post enc Tryz.checked.prog Tryz.f3 false true false false W args v W' := by
  have hval : ∀ (j : Nat) t v, Tryz.f3.params[j]? = some t → args[j]? = some v → Value.okWide Tryz.prog W .any base t v := hval0
  have hW' := hW
  obtain ⟨p, q, hA0, hV, rfl, hfz, hnd⟩ := hW
  have hA : DataW.TrodAll enc Tryz.prog W 0 (fun _ => true) true Tryz.f3.params.toList args.toList ds p := hA0
  rw [Tryz.params3] at hA hval
  obtain ⟨v0, v1, d0, d1, p0, p1, rfl, rfl, rfl, h0, h1⟩ := trodAll_two hA
  obtain ⟨rfl, rfl⟩ := trodVars_none hV
  obtain ⟨r, rfl, rfl, rfl, wr⟩ := open_int Tryz.underlying3 (hval 0 3 v0 rfl rfl) h0
  clear hA0 hval0
  simp only [List.append_nil] at hW'
  obtain ⟨bm, clock, b, es', L⟩ := of_laid hL
  have fin : ∀ {x : Option (Ev.Loc × Blk)} {v : AV} {ws : List Int}, (∀ M X, x = some (M, X) → X.isRo = true ∧ ∀ y, BR PP (K0 W) (im6 bm y) M W X) → WV (S6 b clock (x.map (·.2))) v ws → VR (im6 bm (x.map (·.1))) v v1 →
      Calls Tryz.checked.prog 3 #[.int .i64 r, v1] W fun e W' => ∃ v, e = .returned v ∧ Rows.collectLinksMatchSpecSpec.post enc Tryz.checked.prog Tryz.f3 false true false false W #[.int .i64 r, v1] v W' := fun {x v ws} hx hv hr => by
    have h2 := (law_c (S6_glob b clock (x.map (·.2))) hv r).2 W (K0 W) (im6 bm (x.map (·.1))) W [.int .i64 r, v1] (S6_sim L x hx) (im6_gr bm _) (.cons (.i _ _) (.cons hr .nil))
    refine (h2.calls fun k => by simp [Fence.room, Fence.wide]).mono fun e W' k => ?_
    obtain ⟨y, S', κ, u, rfl, ⟨rfl, _⟩, hu, _, hS⟩ := k
    cases hu
    have hb := L32.Sim.below hS
    refine ⟨_, rfl, [.lit (.int .i64 r), d1], [], [] ++ p1, [], [] ++ p1, [], hW', trodAll_mk1 (shut_bool Tryz.underlying4 true), trodAll_mk2 (shut_int Tryz.underlying3 wr) ?_, rfl, hb.frame _, fun q => by cases q⟩
    exact Below.trod laidOut (by kernel_rfl) (of_decide_eq_true (by kernel_rfl)) h1 hb fun z hz => hW'.lt z hz
  obtain ⟨oa, len, cap, rfl⟩ := okWide_slice Tryz.underlying22 (hval 1 22 v1 rfl rfl)
  obtain ⟨fuel, h1'⟩ := h1
  rcases open_ints Tryz.underlying22 Tryz.underlying3 cell3 h1' with ⟨e1, _⟩ | ⟨a, len', cap', zs, e1, _, hlc, _, hzl, _, hcell, _⟩
  · obtain ⟨rfl, rfl, rfl⟩ : oa = none ∧ len = 0 ∧ cap = 0 := by simpa [Value.cells] using e1
    exact fin (x := none) (fun _ _ q => by cases q) .nil .sn
  · obtain ⟨rfl, rfl, rfl⟩ : oa = some a ∧ len = len' ∧ cap = cap' := by simpa [Value.cells] using e1
    have hzl : zs.length = cap := hzl
    rcases Nat.eq_zero_or_pos cap with h0' | hpos
    · subst h0'
      obtain rfl : len = 0 := by omega
      obtain ⟨t, fr, hh⟩ := L.g1
      exact fin (x := some (⟨1, 0, 0, 0⟩, .row 2 (T.ofList []) 0)) (v := .sl 6 0 ([] : List Int).length (some 0)) (ws := []) (fun M X q => by cases q; exact ⟨rfl, fun y => row0 (o := 0) (l := []) hh (Nat.zero_le _) fun i hi => by cases hi⟩)
        (.sl (Nat.le_refl _) ⟨S6_get b clock _, Nat.le_refl _, fun i hi => by cases hi⟩) (.sl rfl (.inl rfl) ⟨rfl, Nat.le_refl _⟩)
    · obtain ⟨hsp, arr, t, fr, hh, harr⟩ := cells_at (n := cap) hpos (fun i hi => hcell i (by omega))
      have hlen : (zs.take len).length = len := by rw [List.length_take]; omega
      have hsz : a.off + len ≤ arr.size := by
        have : a.off + (cap - 1) < arr.size := by
          have := harr (cap - 1) (by omega)
          rcases Nat.lt_or_ge (a.off + (cap - 1)) arr.size with q | q
          · exact q
          · rw [Array.getElem?_eq_none q] at this; cases this
        omega
      have hget : ∀ i (hi : i < (ints (zs.take len)).length), ∃ v, arr[a.off + i]? = some v ∧ ∀ ι : Im, VR ι (ints (zs.take len))[i] v := fun i hi => by
        have hi' : i < len := by rw [ints, List.length_map, hlen] at hi; exact hi
        refine ⟨_, harr i (by omega), fun ι => ?_⟩
        have : (ints (zs.take len))[i] = .i .i64 (zs.getD i 0) := by
          simp only [ints, List.getElem_map, List.getElem_take]
          rw [List.getD_eq_getElem?_getD, List.getElem?_eq_getElem (by omega)]; rfl
        rw [this]; exact .i _ _
      have hl2 : (ints (zs.take len)).length = len := by rw [ints, List.length_map, hlen]
      have hv : VR (im6 bm (some ⟨a.block, a.off, (ints (zs.take len)).length, 0⟩)) (.sl 6 0 (zs.take len).length (some cap)) (.slice (some a) len cap) := by
        rw [hlen]
        refine .sl (L := ⟨a.block, a.off, (ints (zs.take len)).length, 0⟩) rfl (.inr ?_) ⟨rfl, hlc⟩
        cases a; cases hsp; rfl
      exact fin (x := some (⟨a.block, a.off, (ints (zs.take len)).length, 0⟩, .row 2 (T.ofList (ints (zs.take len))) (ints (zs.take len)).length)) (v := .sl 6 0 (zs.take len).length (some cap)) (ws := zs.take len)
        (fun M X q => by
          cases q
          exact ⟨rfl, fun y => row0 hh (by rw [hl2]; exact hsz) fun i hi => let ⟨v, e, r⟩ := hget i hi; ⟨v, e, r _⟩⟩)
        (.sl (Nat.le_refl _) ⟨S6_get b clock _, by rw [hl2, hlen]; exact Nat.le_of_eq (Nat.zero_add _), fun i hi => by
          rw [Nat.zero_add, T.get_ofList, List.getElem?_eq_getElem (by rw [hl2]; rw [hlen] at hi; exact hi)]
          simp only [ints, List.getElem_map]⟩) hv
set_option maxRecDepth 100000 in
theorem matchSpec_lifted (os : Os) (started : os.Started) (H : Type) (enc : TypeId × Value → H) :
    ReturnsInHanded {} Tryz.checked os 3 .any (fun w args => (Rows.collectLinksMatchSpecSpec.pre enc Tryz.prog Tryz.f3 [] false w args ∧ laidMetH Tryz.prog laidL w) ∧ sizedMet enc Tryz.prog Tryz.f3 (OpenSpec.ofChange Rows.collectLinksMatchSpecSpec) false w args)
      (Rows.collectLinksMatchSpecSpec.post enc Tryz.prog Tryz.f3 false true false false) := by
  refine returnsInHanded_of_change_and (C := Tryz.checked) (X := fun w _ => laidMetH Tryz.prog laidL w) (fun _ _ _ hh h => h.of_heap hh) own started (by kernel_rfl) Tryz.func3
    (ChangeSpec.witness_shaped (enc := enc) (C := Tryz.checked) (os := os) (X := fun w _ => laidMetH Tryz.prog laidL w) false (World.doorLaid Tryz.prog 87 os) #[.int .i64 0, .slice none 0 0] 8 rfl (World.shaped_of_RefB (by kernel_rfl) (by kernel_rfl)) (by kernel_rfl) (by kernel_rfl) (by kernel_rfl)
      (laidMetH_of_parts3 (fuel := 8) (laidMet_of_run' 8 (by kernel_rfl) (by kernel_rfl)) (by kernel_rfl) (by kernel_rfl))) ?_
  exact fun W base args ds gs before hval0 hW _ _ hL _ => matchSpec_contract W base args ds gs before hval0 hW hL
theorem matchSpec_holds : Rows.CollectLinksMatchSpecSaid :=
  OpenClaim.holds_of_wide 3 Tryz.f3 rfl rfl rfl rfl rfl rfl rfl ⟨rfl, rfl, rfl, rfl, rfl⟩ rfl rfl rfl rfl rfl (by kernel_rfl) Tryz.func3 (by kernel_rfl)
    (of_decide_eq_true (by kernel_rfl)) (by unfold Func.isWrapper; first | (rw [if_pos (by decide +kernel)]; kernel_rfl) | (rw [if_neg (by decide +kernel)]; exact ⟨rfl, rfl⟩))
    (fun os started H enc _ => matchSpec_lifted os started H enc)
theorem collectLinksMatchSpec_card : Rows.CollectLinksMatchSpecCardSaid :=
  Claim7.holds_tied_plain_at .later [] [.data, .data, .data, .data, .mapped] true (true, "9b6295027cad09bef53b16c47bf57b001fa59cb211a448ea5546f93de57dbd20") false
    matchSpec_holds (fun _ h => by cases h) (by kernel_rfl) (fun _ h => by cases h) collectLinksMatchSpec_row_tie rfl ⟨rfl, rfl⟩ (by kernel_rfl) rfl
    (fun f fn hf hfn => by
      obtain rfl : f = 3 := Option.some.inj ((show Tryz.prog.funcNamed "alum/alumlaw32.CollectLinksMatchSpec" = some 3 by kernel_rfl).symm.trans hf) |>.symm
      obtain rfl : fn = Tryz.f3 := (Option.some.inj (Tryz.func3.symm.trans hfn)).symm
      exact ⟨by kernel_rfl, fun j t ht => by
        rw [Tryz.params3] at ht
        have hm : t ∈ [3, 22] := by simpa using Array.mem_of_getElem? ht
        have hall : ([3, 22].all fun u => !Tryz.prog.wantsStandIn u) = true := by kernel_rfl
        exact (show Tryz.prog.wantsStandIn t = false by simpa using List.all_eq_true.1 hall t hm)⟩)
    (by kernel_rfl)
#print axioms collectLinksMatchSpec_card
end Go.Proofs.YtfkbgacmpalafaaGreatDoor
