/-
  The evaluator is sound; rules for symbolic runs.
-/
import Derived.Test.YtfkbgacmpalafaaGreatDoorEv3
namespace Go.Ev
open Go
structure Ctx (P : Program) (ops : Array Oper) (σ0 σs : T AV) (base : Nat) (si : List SStg) (tr : List StgTr) (H : Nat → St) (S0 Ss : St) : Prop where
  hs : SchOk ops (ops.toList.map (cOper P ops)) (masksFrom ops.toList []) si
  ht : StgsOk P ops base si tr
  hc : Chain P ops (allE tr) σ0 S0 σs Ss
  h0 : H 0 = S0
  hH : ∀ m t, tr[m]? = some t → (∀ e ∈ t.pr, e.S = H m ∧ e.S1 = H m) ∧ (∀ e ∈ t.w, e.S = preS P ops base t (H m) ∧ e.S1 = H (m + 1)) ∧ (m + 1 = tr.length → t.w = [] → Ss = preS P ops base t (H m))
section
variable {P : Program} {ops : Array Oper} {σ0 σs : T AV} {base : Nat} {si : List SStg} {tr : List StgTr} {H : Nat → St} {S0 Ss : St}
theorem Ctx.len (h : Ctx P ops σ0 σs base si tr H S0 Ss) : tr.length = si.length := (stgs_get h.ht).1
theorem Ctx.idx (h : Ctx P ops σ0 σs base si tr H S0 Ss) {e : Rec1} (he : e ∈ allE tr) : e.i < ops.size := by
  have := ents_mem he
  rw [ents_all h.ht] at this
  exact h.hs.idx _ this
theorem Ctx.frames (h : Ctx P ops σ0 σs base si tr H S0 Ss) : (∀ d, (∀ q ∈ opsE (allE tr), (aoAt P ops q).dst ≠ some d) → getU σs d = getU σ0 d) ∧
      ∀ e ∈ allE tr, (∀ d ∈ aoT (aoAt P ops e.i), getU e.σ d = rdOf P ops σ0 σs e.i d ∧ ((∃ j, j < ops.size ∧ (aoAt P ops j).dst = some d ∧ reaches (masksFrom ops.toList []) e.i j = true) ∨ ∀ j, j < ops.size → (aoAt P ops j).dst = some d → reaches (masksFrom ops.toList []) j e.i = true)) ∧ (e.ck = false → ∀ d, (aoAt P ops e.i).dst = some d → getU σs d = e.y) ∧ (e.ck = true → ∀ d, (aoAt P ops e.i).dst = some d → getU σs d = getU e.σ d) := by
  have hord := h.hs.ord
  rw [← ents_all h.ht] at hord
  refine chain_frames h.hs.dec (allE tr) [] σ0 S0 Ss (fun e he => h.idx he) (fun j hj => by cases hj) hord h.hc (fun _ _ => rfl) (fun j hj => by cases hj) (fun j hj => .inr ?_)
  obtain ⟨e, he, hi, hk⟩ := ent_exists (ents_all h.ht) (h.hs.cnt j hj)
  unfold opsE opsIn
  refine List.mem_map.2 ⟨(e.i, e.ck), List.mem_filter.2 ⟨ents_mem he, by simp [hk]⟩, hi⟩
theorem Ctx.opsE_lt (h : Ctx P ops σ0 σs base si tr H S0 Ss) {q : Nat} (hq : q ∈ opsE (allE tr)) : q < ops.size := by
  unfold opsE opsIn ents at hq
  simp only [List.mem_map, List.mem_filter] at hq
  obtain ⟨p, ⟨⟨x, hx, rfl⟩, _⟩, rfl⟩ := hq
  exact h.idx hx
/-- the entry of an operation -/
theorem Ctx.ent (h : Ctx P ops σ0 σs base si tr H S0 Ss) {i : Nat} (hi : i < ops.size) : ∃ e, e ∈ allE tr ∧ e.i = i ∧ e.ck = false ∧ entOf tr i = some e ∧ ∀ e', e' ∈ allE tr → e'.i = i → e'.ck = false → e' = e := by
  have he := ents_all h.ht
  have hcnt := h.hs.cnt i hi
  obtain ⟨e, h1, h2, h3⟩ := ent_exists he hcnt
  have uniq : ∀ e', e' ∈ allE tr → e'.i = i → e'.ck = false → e' = e := fun e' q1 q2 q3 => ent_uniq he hcnt q1 h1 q2 h2 q3 h3
  refine ⟨e, h1, h2, h3, ?_, uniq⟩
  unfold entOf
  cases hf : (allE tr).find? (fun e => !e.ck && e.i == i) with
  | none =>
    have := List.find?_eq_none.1 hf e h1
    simp [h2, h3] at this
  | some e' =>
    have m := List.mem_of_find?_eq_some hf
    have p := List.find?_some hf
    simp only [Bool.and_eq_true, Bool.not_eq_true', beq_iff_eq] at p
    rw [uniq e' m p.2 p.1]
end
end Go.Ev
namespace Go.Ev
open Go
section
variable {P : Program} {ops : Array Oper} {σ0 σs : T AV} {base : Nat} {si : List SStg} {tr : List StgTr} {H : Nat → St} {S0 Ss : St}
theorem Ctx.opd (h : Ctx P ops σ0 σs base si tr H S0 Ss) : ∀ i, i < ops.size → ∀ d ∈ aoT (aoAt P ops i), (rdOf P ops σ0 σs i d = getU σs d ∧ ∃ j, j < ops.size ∧ (aoAt P ops j).dst = some d ∧ Reach ops i j) ∨ (rdOf P ops σ0 σs i d = getU σ0 d ∧ ∀ j, j < ops.size → (aoAt P ops j).dst = some d → Reach ops j i) := fun i hi d hd => by
  obtain ⟨e, he, rfl, hk, _, _⟩ := h.ent hi
  obtain ⟨_, hor⟩ := (h.frames.2 e he).1 d hd
  cases ha : (List.range ops.size).any (fun j => decide ((aoAt P ops j).dst = some d) && reaches (masksFrom ops.toList []) e.i j) with
  | true =>
    left
    obtain ⟨j, hj, hq⟩ := List.any_eq_true.1 ha
    simp only [Bool.and_eq_true, decide_eq_true_eq] at hq
    exact ⟨by unfold rdOf; rw [if_pos ha], j, List.mem_range.1 hj, hq.1, reaches_ok hq.2⟩
  | false =>
    right
    refine ⟨by unfold rdOf; rw [if_neg (by rw [ha]; simp)], ?_⟩
    rcases hor with ⟨j, hj, hq, hr⟩ | hor
    · exfalso
      have : (List.range ops.size).any (fun j => decide ((aoAt P ops j).dst = some d) && reaches (masksFrom ops.toList []) e.i j) = true := List.any_eq_true.2 ⟨j, List.mem_range.2 hj, by simp [hq, hr]⟩
      rw [ha] at this; cases this
    · exact fun j hj hq => reaches_ok (hor j hj hq)
theorem Ctx.els (h : Ctx P ops σ0 σs base si tr H S0 Ss) : ∀ d, (∀ i, i < ops.size → (aoAt P ops i).dst ≠ some d) → getU σs d = getU σ0 d := fun d hd =>
  h.frames.1 d fun q hq => hd q (h.opsE_lt hq)
/-- what an entry's operation reads in a frame that it sees -/
theorem Ctx.agr (h : Ctx P ops σ0 σs base si tr H S0 Ss) {e : Rec1} (he : e ∈ allE tr) {τ : T AV} (hτ : ∀ d ∈ aoT (aoAt P ops e.i), getU τ d = rdOf P ops σ0 σs e.i d) : Agr (aoT (aoAt P ops e.i)) e.σ τ := fun d hd => by
  rw [((h.frames.2 e he).1 d hd).1, hτ d hd]
theorem Ctx.slots (h : Ctx P ops σ0 σs base si tr H S0 Ss) (hwf : ∀ i, i < ops.size → ∀ d, (aoAt P ops i).dst = some d → d < dslot) : getDefers σs = getDefers σ0 ∧ σs.get rslot = σ0.get rslot := by
  have key : ∀ (es : List Rec1) (σ : T AV) (S : St), (∀ e ∈ es, e.i < ops.size) → Chain P ops es σ S σs Ss → getDefers σs = getDefers σ ∧ σs.get rslot = σ.get rslot := by
    intro es
    induction es with
    | nil => intro σ S _ hc; rw [hc.1]; exact ⟨rfl, rfl⟩
    | cons e es ih =>
      intro σ S hi hc
      obtain ⟨h1, h2, h3⟩ := hc
      obtain ⟨g1, g2⟩ := ih _ _ (fun x hx => hi x (List.mem_cons_of_mem _ hx)) h3
      have hlt := hi e (List.mem_cons_self ..)
      rw [g1, g2]
      unfold Rec1.next
      split
      · rw [h1]; exact ⟨rfl, rfl⟩
      · cases hd : (aoAt P ops e.i).dst with
        | none => rw [← h1]; exact ⟨rfl, rfl⟩
        | some d =>
          have hds := hwf e.i hlt d hd
          rw [h1]
          refine ⟨getDefers_set (by omega), ?_⟩
          show (σ.set d _).get rslot = _
          rw [T.get_set, if_neg (by simp only [dslot] at hds; simp only [rslot]; omega)]
  exact key (allE tr) σ0 S0 (fun e he => h.idx he) h.hc
end
end Go.Ev
namespace Go.Ev
open Go
section
variable {P : Program} {ops : Array Oper} {σ0 σs : T AV} {base : Nat} {si : List SStg} {tr : List StgTr} {H : Nat → St} {S0 Ss : St}
theorem Ctx.xv (h : Ctx P ops σ0 σs base si tr H S0 Ss) {e : Rec1} (he : e ∈ allE tr) (hk : e.ck = false) (τ : T AV) : putDst (aoAt P ops e.i).dst e.y τ = putDst (aoAt P ops e.i).dst ((drawOf P ops σ0 σs base si tr H).xv e.i) τ := by
  have := (h.frames.2 e he).2.1 hk
  cases hd : (aoAt P ops e.i).dst with
  | none => rfl
  | some d =>
    have hx : (drawOf P ops σ0 σs base si tr H).xv e.i = getU σs d := by simp only [drawOf, hd]
    rw [hx, this d hd]
theorem gop_val {ao : AO} {σ τ : T AV} {S S1 : St} {y : AV} (hw : wanted ao.guard σ = true) (ha : aop ao.op none σ S = .v y S1) (hag : Agr (aoT ao) σ τ) : GOp P ao τ S (isS (putDst ao.dst y τ) S1) :=
  .val (by rw [← wanted_agr (Agr.left hag)]; exact hw) fun ch => ⟨y, S1, by rw [← aop_agr (Agr.right hag)]; exact aop_ch ha _, rfl, rfl⟩
theorem gop_skip {ao : AO} {σ τ : T AV} {S : St} (hw : wanted ao.guard σ = false) (hag : Agr (aoT ao) σ τ) : GOp P ao τ S (isS (putDst ao.dst .undef τ) S) :=
  .skip (by rw [← wanted_agr (Agr.left hag)]; exact hw) ⟨rfl, rfl⟩
/-- where an entry stands -/
theorem Ctx.place (h : Ctx P ops σ0 σs base si tr H S0 Ss) {e : Rec1} (he : e ∈ allE tr) : ∃ m s t, si[m]? = some s ∧ tr[m]? = some t ∧ (∃ X, StgOk P ops base s t X) ∧ StgGood P ops base t ∧ okStg ops (ops.toList.map (cOper P ops)) (masksFrom ops.toList []) si m s = true ∧ (e ∈ t.pr ∨ e ∈ t.ns ∨ e ∈ t.w) := by
  obtain ⟨m, t, h1, h2⟩ := mem_allE.1 he
  obtain ⟨s, X, h3, h4⟩ := (stgs_get h.ht).2 m t h1
  refine ⟨m, s, t, h3, h1, ⟨X, h4⟩, stg_good h.hs h3 h4, h.hs.stg m s h3, ?_⟩
  simpa [StgTr.all] using h2
theorem w_of {s : SStg} {t : StgTr} {X : St} (h : StgOk P ops base s t X) {e : Rec1} (he : e ∈ t.w) : s.w = some e.i ∧ e.ck = false := by
  have := ents_mem he
  rw [h.w] at this
  split at this
  · rename_i w hw
    rw [List.mem_singleton] at this
    exact ⟨by rw [hw]; exact congrArg some (congrArg Prod.fst this).symm, congrArg Prod.snd this⟩
  · cases this
theorem wAt_of {m : Nat} {s : SStg} (h : si[m]? = some s) : wAt si m = s.w := by unfold wAt; rw [h]
end
end Go.Ev
namespace Go.Ev
open Go
section
variable {P : Program} {ops : Array Oper} {σ0 σs : T AV} {base : Nat} {si : List SStg} {tr : List StgTr} {H : Nat → St} {S0 Ss : St}
theorem wReach_ok {k i : Nat} (h : wReach (masksFrom ops.toList []) si k i = true) : ∃ w, wAt si k = some w ∧ Reach ops w i := by
  unfold wReach at h
  split at h
  · rename_i w hw; exact ⟨w, hw, reaches_ok h⟩
  · cases h
theorem reachW_ok {k i : Nat} (h : reachW (masksFrom ops.toList []) si i k = true) : ∃ w, wAt si k = some w ∧ Reach ops i w := by
  unfold reachW at h
  split at h
  · rename_i w hw; exact ⟨w, hw, reaches_ok h⟩
  · cases h
theorem kind0 {i : Nat} {D : Draw P ops σ0 σs} (hD : D = drawOf P ops σ0 σs base si tr H) (hk : D.kind i = 0) : (∀ k, k < si.length → wAt si k ≠ some i) ∧ ∀ e, entOf tr i = some e → lays P ops e = false := by
  subst hD
  simp only [drawOf] at hk
  split at hk
  · cases hk
  · rename_i hn
    refine ⟨fun k hk' e => hn (List.any_eq_true.2 ⟨k, List.mem_range.2 hk', by rw [e]; simp⟩), fun e he => ?_⟩
    rw [he] at hk
    simp only at hk
    cases hl : lays P ops e with
    | true => rw [hl] at hk; cases hk
    | false => rfl
theorem Ctx.pr (h : Ctx P ops σ0 σs base si tr H S0 Ss) {D : Draw P ops σ0 σs} (hD : D = drawOf P ops σ0 σs base si tr H) : ∀ i, i < ops.size → D.kind i = 0 → ∀ m, m ≤ D.M → (∀ k, k < D.M → Reach ops (D.W k) i → m ≤ k) → (∀ k, k < D.M → Reach ops i (D.W k) → k < m) →
    ∀ σ, D.Sees i σ → GOp P (aoAt P ops i) σ (D.H m) (isS (putDst (aoAt P ops i).dst (D.xv i) σ) (D.H m)) := by
  intro i hi hk m hm hA hB σ hsee
  obtain ⟨hnw, hnl⟩ := kind0 hD hk
  obtain ⟨e, he, rfl, hck, hent, huniq⟩ := h.ent hi
  have hlay := hnl e hent
  subst hD
  have hag : Agr (aoT (aoAt P ops e.i)) e.σ σ := h.agr he hsee
  rw [← h.xv (H := H) (base := base) he hck σ]
  obtain ⟨m', s, t, h1, h2, ⟨X, h3⟩, h4, h5, h6⟩ := h.place he
  have hm'lt : m' < si.length := (List.getElem?_eq_some_iff.1 h1).1
  have hnotw : e ∉ t.w := fun q => hnw m' hm'lt (by rw [wAt_of h1]; exact (w_of h3 q).1)
  have hok : EntOk P ops base e := by
    rcases h6 with q | q | q
    · exact (h4.pr e q).2.2
    · exact (h4.ns e q).2.2.2
    · exact absurd q hnotw
  rcases hok with ⟨hw, _, hy⟩ | ⟨hw, hok⟩
  · rw [hy hck]
    exact gop_skip hw hag
  · have hla : layAt ops e.i = false := by
      simp only [lays, hw, Bool.and_true] at hlay
      exact hlay
    rcases hok with ⟨q, _⟩ | ⟨_, ha, _⟩
    · rw [hla] at q; cases q
    · have hkind : kindAt ops (ops.toList.map (cOper P ops)) e.i ≤ 1 := by
        rcases h6 with q | q | q
        · exact (h4.pr e q).2.1
        · rcases (h4.ns e q).2.2.1 with q | q
          · omega
          · rw [hla] at q; cases q
        · exact absurd q hnotw
      obtain ⟨_, hcls⟩ := kind_le (P := P) hi hkind
      rcases Nat.lt_or_ge 0 (kindAt ops (ops.toList.map (cOper P ops)) e.i) with hk1 | hk0
      · -- a load
        have hk1 : kindAt ops (ops.toList.map (cOper P ops)) e.i = 1 := by omega
        have hpr : e ∈ t.pr := by
          rcases h6 with q | q | q
          · exact q
          · rcases (h4.ns e q).2.2.1 with q | q
            · omega
            · rw [hla] at q; cases q
          · exact absurd q hnotw
        have hS := (h.hH m' t h2).1 e hpr
        have hmem : (e.i, e.ck) ∈ s.pr := by rw [← h3.pr]; exact ents_mem hpr
        simp only [okStg, Bool.and_eq_true, List.all_eq_true] at h5
        have hrd := (h5.1 _ hmem).2
        rw [hck, hk1] at hrd
        have hrd : okRead (masksFrom ops.toList []) si m' e.i = true := by simpa using hrd
        simp only [okRead, Bool.and_eq_true, List.all_eq_true] at hrd
        obtain ⟨hlo, hhi⟩ := hrd
        have hM : (drawOf P ops σ0 σs base si tr H).M = si.length - 1 := rfl
        rw [hM] at hm hA hB
        have hge : m' ≤ m := by
          rcases Nat.lt_or_ge m m' with q | q
          · obtain ⟨w, hw1, hw2⟩ := reachW_ok (hlo m (List.mem_range.2 q))
            have := hB m (by omega) (by show Reach ops e.i ((wAt si m).getD 0); rw [hw1]; exact hw2)
            omega
          · exact q
        rcases Nat.lt_or_ge m' m with hgt | hle
        · have := hhi m (List.mem_range.2 (by omega))
          simp only [Bool.or_eq_true] at this
          rcases this with q | q | q
          · have := ble_true q; omega
          · obtain ⟨w, hw1, hw2⟩ := wReach_ok q
            have := hA (m - 1) (by omega) (by show Reach ops ((wAt si (m - 1)).getD 0) e.i; rw [hw1]; exact hw2)
            omega
          · -- the load once more
            unfold hasCk at q
            split at q
            case h_2 => cases q
            rename_i s2 hs2
            have hmem2 : (e.i, true) ∈ s2.pr := by simpa using q
            have hmlt : m < tr.length := by rw [h.len]; exact (List.getElem?_eq_some_iff.1 hs2).1
            have ht2 : tr[m]? = some tr[m] := List.getElem?_eq_getElem hmlt
            obtain ⟨s2', X2, g1, g2⟩ := (stgs_get h.ht).2 m _ ht2
            rw [hs2] at g1; cases g1
            rw [← g2.pr] at hmem2
            obtain ⟨c, hc1, hc2⟩ := List.mem_map.1 hmem2
            have hci : c.i = e.i := congrArg Prod.fst hc2
            have hcc : c.ck = true := congrArg Prod.snd hc2
            have hcall : c ∈ allE tr := mem_allE.2 ⟨m, _, ht2, by simp only [StgTr.all]; exact List.mem_append_left _ hc1⟩
            have hcS := (h.hH m _ ht2).1 c hc1
            have hagc : Agr (aoT (aoAt P ops e.i)) c.σ σ := by
              have := h.agr hcall (τ := σ) (by rw [hci]; exact hsee)
              rw [hci] at this; exact this
            have hage : Agr (aoT (aoAt P ops e.i)) e.σ c.σ := fun d hd => by rw [hag d hd, hagc d hd]
            have hwc : wanted (aoAt P ops e.i).guard c.σ = true := by rw [← wanted_agr (Agr.left hage)]; exact hw
            have hcok := (stg_good h.hs hs2 g2).pr c hc1
            have hyc : ∀ d, (aoAt P ops e.i).dst = some d → c.y = e.y := fun d hd => by
              have a1 := (h.frames.2 e he).2.1 hck d hd
              have a2 := (h.frames.2 c hcall).2.2 hcc d (by rw [hci]; exact hd)
              rcases hcok.2.2 with ⟨q1, _⟩ | ⟨_, ⟨_, q2, _⟩ | ⟨_, _, hv⟩⟩
              · rw [hci, hwc] at q1; cases q1
              · rw [hcc] at q2; cases q2
              · rw [← hv hcc d (by rw [hci]; exact hd), ← a2, a1]
            rcases hcok.2.2 with ⟨q1, _⟩ | ⟨_, ⟨_, q2, _⟩ | ⟨_, hac, _⟩⟩
            · rw [hci, hwc] at q1; cases q1
            · rw [hcc] at q2; cases q2
            · rw [hci] at hac
              have := gop_val (P := P) hwc hac hagc
              rw [hcS.2, hcS.1] at this
              have hpd : putDst (aoAt P ops e.i).dst c.y σ = putDst (aoAt P ops e.i).dst e.y σ := by
                cases hd : (aoAt P ops e.i).dst with
                | none => rfl
                | some d => rw [hyc d hd]
              rw [hpd] at this
              exact this
        · have : m = m' := by omega
          subst this
          have := gop_val (P := P) hw ha hag
          rw [hS.2, hS.1] at this
          exact this
      · have := (pure_op (by rw [hcls]; omega) ha (ch' := none) (H m)).2
        exact gop_val hw this hag
end
end Go.Ev
namespace Go.Ev
open Go
section
variable {P : Program} {ops : Array Oper} {σ0 σs : T AV} {base : Nat} {si : List SStg} {tr : List StgTr} {H : Nat → St} {S0 Ss : St}
theorem Ctx.wsome (h : Ctx P ops σ0 σs base si tr H S0 Ss) {k : Nat} (hk : k < si.length - 1) : ∃ w, wAt si k = some w := by
  have hlt : k < si.length := by omega
  have hs := h.hs.stg k si[k] (List.getElem?_eq_getElem hlt)
  simp only [okStg, Bool.and_eq_true, beq_iff_eq] at hs
  have hb : Nat.blt (k + 1) si.length = true := Nat.ble_eq.mpr (by omega)
  rw [hb] at hs
  rw [wAt_of (List.getElem?_eq_getElem hlt)]
  exact Option.isSome_iff_exists.1 hs.2.2
theorem Ctx.wall (h : Ctx P ops σ0 σs base si tr H S0 Ss) {D : Draw P ops σ0 σs} (hD : D = drawOf P ops σ0 σs base si tr H) : ∀ i, i < ops.size → D.kind i = 2 → ∃ k, k < D.M ∧ i = D.W k := by
  intro i _ hk
  subst hD
  simp only [drawOf] at hk ⊢
  split at hk
  · rename_i ha
    obtain ⟨k, hk1, hk2⟩ := List.any_eq_true.1 ha
    have hk2 : wAt si k = some i := by simpa using hk2
    have hlt := List.mem_range.1 hk1
    refine ⟨k, ?_, by rw [hk2]; rfl⟩
    rcases Nat.lt_or_ge k (si.length - 1) with q | q
    · exact q
    · exfalso
      have hs := h.hs.stg k si[k] (List.getElem?_eq_getElem hlt)
      simp only [okStg, Bool.and_eq_true, beq_iff_eq] at hs
      rw [wAt_of (List.getElem?_eq_getElem hlt)] at hk2
      rw [hk2] at hs
      have : Nat.blt (k + 1) si.length = true := hs.2.2.symm
      have := blt_true this
      omega
  · split at hk
    · split at hk <;> cases hk
    · cases hk
end
end Go.Ev
namespace Go.Ev
open Go
section
variable {P : Program} {ops : Array Oper} {σ0 σs : T AV} {base : Nat} {si : List SStg} {tr : List StgTr} {H : Nat → St} {S0 Ss : St}
/-- the entry that makes a stage's write -/
theorem Ctx.wEnt (h : Ctx P ops σ0 σs base si tr H S0 Ss) {k w : Nat} (hw : wAt si k = some w) : ∃ t e, tr[k]? = some t ∧ e ∈ t.w ∧ e.i = w ∧ e.ck = false ∧ e ∈ allE tr ∧ WOk P ops e := by
  unfold wAt at hw
  split at hw
  case h_2 => cases hw
  rename_i s hs
  have hlt : k < tr.length := by rw [h.len]; exact (List.getElem?_eq_some_iff.1 hs).1
  have ht : tr[k]? = some tr[k] := List.getElem?_eq_getElem hlt
  obtain ⟨s', X, g1, g2⟩ := (stgs_get h.ht).2 k _ ht
  rw [hs] at g1; cases g1
  have hm : (w, false) ∈ ents tr[k].w := by rw [g2.w, hw]; exact List.mem_singleton.2 rfl
  obtain ⟨e, he, hq⟩ := List.mem_map.1 hm
  exact ⟨_, e, ht, he, congrArg Prod.fst hq, congrArg Prod.snd hq, mem_allE.2 ⟨k, _, ht, by simp only [StgTr.all]; exact List.mem_append_right _ (List.mem_append_right _ he)⟩, g2.wOk e he⟩
theorem Ctx.chainW (h : Ctx P ops σ0 σs base si tr H S0 Ss) {D : Draw P ops σ0 σs} (hD : D = drawOf P ops σ0 σs base si tr H) : ∀ k k', k < k' → k' < D.M → Reach ops (D.W k') (D.W k) := by
  subst hD
  intro k k' hkk hk'
  induction k' with
  | zero => omega
  | succ k' ih =>
    have hk1 : k' + 1 < si.length - 1 := hk'
    obtain ⟨w, hw⟩ := h.wsome hk1
    have := h.hs.chain k' w (by omega) hw
    obtain ⟨w', hw', hr⟩ := reachW_ok this
    have e1 : (drawOf P ops σ0 σs base si tr H).W (k' + 1) = w := by simp only [drawOf, hw]; rfl
    have e2 : (drawOf P ops σ0 σs base si tr H).W k' = w' := by simp only [drawOf, hw']; rfl
    rw [e1]
    rcases Nat.lt_succ_iff_lt_or_eq.1 hkk with q | q
    · have := ih q (by show k' < si.length - 1; omega)
      rw [e2] at this
      exact hr.trans this
    · subst q; rw [e2]; exact hr
end
end Go.Ev
namespace Go.Ev
open Go
section
/-- an operation stands in one stage -/
theorem flat_count {i : Nat} : ∀ {si : List SStg} {m : Nat} {s : SStg}, si[m]? = some s → ((flatS s).filter fun p => !p.2 && p.1 == i).length ≤ ((flat si).filter fun p => !p.2 && p.1 == i).length
  | [], m, s, h => by simp at h
  | x :: l, m, s, h => by
    simp only [flat, List.filter_append, List.length_append]
    cases m with
    | zero => rw [List.getElem?_cons_zero] at h; cases h; omega
    | succ m => rw [List.getElem?_cons_succ] at h; have := flat_count (i := i) h; omega
theorem flat_count2 {i : Nat} : ∀ {si : List SStg} {m m' : Nat} {s s' : SStg}, m < m' → si[m]? = some s → si[m']? = some s' →
    ((flatS s).filter fun p => !p.2 && p.1 == i).length + ((flatS s').filter fun p => !p.2 && p.1 == i).length ≤ ((flat si).filter fun p => !p.2 && p.1 == i).length
  | [], m, _, s, _, _, h, _ => by simp at h
  | x :: l, m, m', s, s', hm, h, h' => by
    simp only [flat, List.filter_append, List.length_append]
    cases m' with
    | zero => omega
    | succ m' =>
      rw [List.getElem?_cons_succ] at h'
      cases m with
      | zero => rw [List.getElem?_cons_zero] at h; cases h; have := flat_count (i := i) h'; omega
      | succ m => rw [List.getElem?_cons_succ] at h; have := flat_count2 (i := i) (by omega) h h'; omega
theorem count_pos {i : Nat} {s : SStg} (h : (i, false) ∈ flatS s) : 1 ≤ ((flatS s).filter fun p => !p.2 && p.1 == i).length := by
  have : (i, false) ∈ (flatS s).filter fun p => !p.2 && p.1 == i := List.mem_filter.2 ⟨h, by simp⟩
  exact List.length_pos_iff.2 (List.ne_nil_of_mem this)
theorem stage_uniq {si : List SStg} {i m m' : Nat} {s s' : SStg} (hc : ((flat si).filter fun p => !p.2 && p.1 == i).length = 1) (h : si[m]? = some s) (h' : si[m']? = some s') (hi : (i, false) ∈ flatS s) (hi' : (i, false) ∈ flatS s') : m = m' := by
  have a := count_pos hi
  have b := count_pos hi'
  rcases Nat.lt_trichotomy m m' with q | q | q
  · have := flat_count2 (i := i) q h h'; omega
  · exact q
  · have := flat_count2 (i := i) q h' h; omega
end
end Go.Ev
namespace Go.Ev
open Go
section
variable {P : Program} {ops : Array Oper} {σ0 σs : T AV} {base : Nat} {si : List SStg} {tr : List StgTr} {H : Nat → St} {S0 Ss : St}
theorem Ctx.W_eq {D : Draw P ops σ0 σs} (hD : D = drawOf P ops σ0 σs base si tr H) {k w : Nat} (hw : wAt si k = some w) : D.W k = w := by
  subst hD; simp only [drawOf, hw]; rfl
theorem flatS_w {s : SStg} {w : Nat} (h : s.w = some w) : (w, false) ∈ flatS s := by
  unfold flatS; rw [h]; exact List.mem_append_right _ (List.mem_append_right _ (List.mem_singleton.2 rfl))
theorem wAt_some {k w : Nat} (h : wAt si k = some w) : ∃ s, si[k]? = some s ∧ s.w = some w := by
  unfold wAt at h
  split at h
  · exact ⟨_, ‹_›, h⟩
  · cases h
theorem Ctx.inj (h : Ctx P ops σ0 σs base si tr H S0 Ss) {D : Draw P ops σ0 σs} (hD : D = drawOf P ops σ0 σs base si tr H) : ∀ k k', k < D.M → k' < D.M → D.W k = D.W k' → k = k' := by
  intro k k' hk hk' he
  have hM : D.M = si.length - 1 := by rw [hD]; rfl
  obtain ⟨w, hw⟩ := h.wsome (by omega : k < si.length - 1)
  obtain ⟨w', hw'⟩ := h.wsome (by omega : k' < si.length - 1)
  rw [Ctx.W_eq hD hw, Ctx.W_eq hD hw'] at he
  subst he
  obtain ⟨s, hs, hsw⟩ := wAt_some hw
  obtain ⟨s', hs', hsw'⟩ := wAt_some hw'
  have hlt : w < ops.size := h.hs.idx (w, false) (mem_flat hs (flatS_w hsw))
  exact stage_uniq (h.hs.cnt w hlt) hs hs' (flatS_w hsw) (flatS_w hsw')
theorem Ctx.pre (h : Ctx P ops σ0 σs base si tr H S0 Ss) {D : Draw P ops σ0 σs} (hD : D = drawOf P ops σ0 σs base si tr H) {m : Nat} {t : StgTr} (ht : tr[m]? = some t) : D.pre m = preS P ops base t (H m) := by
  subst hD
  unfold Draw.pre preS
  have : (drawOf P ops σ0 σs base si tr H).ns m = (t.ns.filter (lays P ops)).map (·.i) := by simp only [drawOf, ht]
  rw [this, List.foldl_map]
  have hmem : ∀ e ∈ t.ns.filter (lays P ops), (drawOf P ops σ0 σs base si tr H).lv e.i = cellsOf P ops base e := fun e he => by
    have he := (List.mem_filter.1 he).1
    have hall : e ∈ allE tr := mem_allE.2 ⟨m, t, ht, by simp only [StgTr.all]; exact List.mem_append_right _ (List.mem_append_left _ he)⟩
    obtain ⟨e', _, _, _, h4, h5⟩ := h.ent (h.idx hall)
    obtain ⟨s, X, g1, g2⟩ := (stgs_get h.ht).2 m t ht
    have hck := ((stg_good h.hs g1 g2).ns e he).2.1
    have := h5 e hall rfl hck
    subst this
    simp only [drawOf, h4]
  have : ∀ (l : List Rec1) (S : St), (∀ e ∈ l, (drawOf P ops σ0 σs base si tr H).lv e.i = cellsOf P ops base e) → l.foldl (fun S e => S.lay ((drawOf P ops σ0 σs base si tr H).idn e.i) ((drawOf P ops σ0 σs base si tr H).lv e.i)) S = l.foldl (fun S e => S.lay (base + e.i) (cellsOf P ops base e)) S := by
    intro l
    induction l with
    | nil => intro S _; rfl
    | cons e l ih =>
      intro S hl
      rw [List.foldl_cons, List.foldl_cons, hl e (List.mem_cons_self ..)]
      exact ih _ fun x hx => hl x (List.mem_cons_of_mem _ hx)
  exact this _ _ hmem
end
end Go.Ev
namespace Go.Ev
open Go
section
variable {P : Program} {ops : Array Oper} {σ0 σs : T AV} {base : Nat} {si : List SStg} {tr : List StgTr} {H : Nat → St} {S0 Ss : St}
theorem Ctx.w (h : Ctx P ops σ0 σs base si tr H S0 Ss) {D : Draw P ops σ0 σs} (hD : D = drawOf P ops σ0 σs base si tr H) : ∀ k, k < D.M → D.W k < ops.size ∧ D.kind (D.W k) = 2 ∧ ∀ σ, D.Sees (D.W k) σ → GOp P (aoAt P ops (D.W k)) σ (D.pre k) (isS (putDst (aoAt P ops (D.W k)).dst (D.xv (D.W k)) σ) (D.H (k + 1))) := by
  intro k hk
  have hM : D.M = si.length - 1 := by rw [hD]; rfl
  obtain ⟨w, hw⟩ := h.wsome (by omega : k < si.length - 1)
  obtain ⟨t, e, ht, het, rfl, hck, hall, hok⟩ := h.wEnt hw
  have hW := Ctx.W_eq hD hw
  refine ⟨by rw [hW]; exact h.idx hall, ?_, fun σ hsee => ?_⟩
  · rw [hW]
    subst hD
    simp only [drawOf]
    rw [if_pos]
    exact List.any_eq_true.2 ⟨k, List.mem_range.2 (by omega), by rw [hw]; simp⟩
  · rw [hW] at hsee ⊢
    have hpre := h.pre hD ht
    obtain ⟨q1, q2⟩ := (h.hH k t ht).2.1 e het
    have hag : Agr (aoT (aoAt P ops e.i)) e.σ σ := h.agr hall (by subst hD; exact hsee)
    have := hok σ hag
    rw [h.xv (H := H) (base := base) hall hck σ, q1, q2] at this
    rw [hpre]
    subst hD
    exact this
theorem Ctx.knd {D : Draw P ops σ0 σs} (hD : D = drawOf P ops σ0 σs base si tr H) (i : Nat) : D.kind i = 0 ∨ D.kind i = 1 ∨ D.kind i = 2 := by
  subst hD
  simp only [drawOf]
  split
  · exact .inr (.inr rfl)
  · split
    · split
      · exact .inr (.inl rfl)
      · exact .inl rfl
    · exact .inl rfl
end
end Go.Ev
namespace Go.Ev
open Go
section
variable {P : Program} {ops : Array Oper} {σ0 σs : T AV} {base : Nat} {si : List SStg} {tr : List StgTr} {H : Nat → St} {S0 Ss : St}
theorem Ctx.stOf (h : Ctx P ops σ0 σs base si tr H S0 Ss) {D : Draw P ops σ0 σs} (hD : D = drawOf P ops σ0 σs base si tr H) {m i : Nat} {s : SStg} (hs : si[m]? = some s) (hi : i ∈ s.ns) (hlt : i < ops.size) : D.st i = m := by
  subst hD
  simp only [drawOf]
  have hmlt : m < si.length := (List.getElem?_eq_some_iff.1 hs).1
  have hp : (match si[m]? with | some s => s.ns.contains i | none => false) = true := by rw [hs]; simpa using hi
  cases hf : (List.range si.length).find? (fun m => match si[m]? with | some s => s.ns.contains i | none => false) with
  | none =>
    have := List.find?_eq_none.1 hf m (List.mem_range.2 hmlt)
    exact absurd hp this
  | some m' =>
    have hq := List.find?_some hf
    split at hq
    · rename_i s' hs'
      have hi' : i ∈ s'.ns := by simpa using hq
      have fl : ∀ {x : SStg}, i ∈ x.ns → (i, false) ∈ flatS x := fun hx => by
        unfold flatS
        exact List.mem_append_right _ (List.mem_append_left _ (List.mem_map.2 ⟨i, hx, rfl⟩))
      exact stage_uniq (h.hs.cnt i hlt) hs' hs (fl hi') (fl hi)
    · cases hq
theorem Ctx.layE (h : Ctx P ops σ0 σs base si tr H S0 Ss) {D : Draw P ops σ0 σs} (hD : D = drawOf P ops σ0 σs base si tr H) {i : Nat} (hi : i < ops.size) (hk : D.kind i = 1) :
    ∃ e m s t, entOf tr i = some e ∧ e ∈ allE tr ∧ e.i = i ∧ e.ck = false ∧ lays P ops e = true ∧ si[m]? = some s ∧ tr[m]? = some t ∧ e ∈ t.ns ∧ D.st i = m ∧ EntOk P ops base e ∧ cls (aoAt P ops i).op = 2 ∧ (m + 1 = si.length ∨ wReach (masksFrom ops.toList []) si m i = true) := by
  obtain ⟨e, he, rfl, hck, hent, _⟩ := h.ent hi
  have hk' := hk
  rw [hD] at hk'
  simp only [drawOf] at hk'
  split at hk'
  · cases hk'
  rename_i hn
  rw [hent] at hk'
  simp only at hk'
  have hlay : lays P ops e = true := by
    cases hl : lays P ops e with
    | true => rfl
    | false => rw [hl] at hk'; cases hk'
  have hla : layAt ops e.i = true := by simp only [lays, Bool.and_eq_true] at hlay; exact hlay.1
  obtain ⟨m, s, t, h1, h2, ⟨X, h3⟩, h4, h5, h6⟩ := h.place he
  have hmlt : m < si.length := (List.getElem?_eq_some_iff.1 h1).1
  have hns : e ∈ t.ns := by
    rcases h6 with q | q | q
    · have := (kind_le (P := P) hi (h4.pr e q).2.1).1
      rw [hla] at this; cases this
    · exact q
    · exfalso
      exact hn (List.any_eq_true.2 ⟨m, List.mem_range.2 hmlt, by rw [wAt_of h1, (w_of h3 q).1]; simp⟩)
  have hm := ents_mem hns
  rw [h3.ns] at hm
  obtain ⟨i', hi2, hp⟩ := List.mem_map.1 hm
  have e1 : i' = e.i := congrArg Prod.fst hp
  subst e1
  simp only [okStg, Bool.and_eq_true, List.all_eq_true] at h5
  have hq := h5.2.1 e.i hi2
  have hk2 : kindAt ops (ops.toList.map (cOper P ops)) e.i = 2 := by unfold kindAt; rw [hla]; rfl
  rw [hk2] at hq
  simp only [Bool.or_eq_true, Bool.and_eq_true, beq_iff_eq] at hq
  have hq := hq.resolve_left (by simp)
  refine ⟨e, m, s, t, hent, he, rfl, hck, hlay, h1, h2, hns, h.stOf hD h1 hi2 hi, (h4.ns e hns).2.2.2, ?_, ?_⟩
  · rw [← clsAt_eq hi]; exact hq.2.1
  · rcases hq.2.2 with q | q
    · exact .inl (beq_true q)
    · exact .inr q
theorem Ctx.nW (h : Ctx P ops σ0 σs base si tr H S0 Ss) {D : Draw P ops σ0 σs} (hD : D = drawOf P ops σ0 σs base si tr H) : ∀ i, i < ops.size → D.kind i = 1 → D.st i < D.M → Reach ops (D.W (D.st i)) i := by
  intro i hi hk hlt
  obtain ⟨e, m, s, t, _, _, _, _, _, _, _, _, hst, _, _, hor⟩ := h.layE hD hi hk
  have hM : D.M = si.length - 1 := by rw [hD]; rfl
  rw [hst] at hlt ⊢
  rcases hor with q | q
  · omega
  · obtain ⟨w, hw, hr⟩ := wReach_ok q
    rw [Ctx.W_eq hD hw]; exact hr
end
end Go.Ev
namespace Go.Ev
open Go
section
variable {P : Program} {ops : Array Oper} {σ0 σs : T AV} {base : Nat} {si : List SStg} {tr : List StgTr} {H : Nat → St} {S0 Ss : St}
theorem nOp_agr {β : Nat} {op : AOp} {σ τ : T AV} (h : Agr (aopT op) σ τ) : nOp β σ op = nOp β τ op := by
  cases op <;> first | rfl | skip
  case bx u => simp only [nOp]; rw [opd_agr (by simpa [aopT] using h)]
  case bs z len esz ps => simp only [nOp]; rw [partsOf_agr (by simpa [aopT] using h)]
theorem Ctx.nField (h : Ctx P ops σ0 σs base si tr H S0 Ss) {D : Draw P ops σ0 σs} (hD : D = drawOf P ops σ0 σs base si tr H) (kk : Nat) (hkk : ∀ i, i < ops.size → layAt ops i = true → i < kk) : ∀ i o, ops[i]? = some o → D.kind i = 1 → layOp o.op = true ∧ (∃ op, cOp P o.op = some op ∧ ∀ σ, D.Sees i σ → wanted (aoAt P ops i).guard σ = true ∧ nOp (D.idn i) σ op = some (D.xv i, D.lv i)) ∧
    D.st i ≤ D.M ∧ i ∈ D.ns (D.st i) ∧ base ≤ D.idn i ∧ D.idn i < base + kk ∧ ∀ s, (aoAt P ops i).op ≠ .bad s := by
  intro i o ho hk
  have hi := lt_of_some ho
  obtain ⟨e, m, s, t, hent, he, rfl, hck, hlay, h1, h2, hns, hst, hok, hcls, _⟩ := h.layE hD hi hk
  have hlay' := hlay
  simp only [lays, Bool.and_eq_true] at hlay'
  have hlo : layOp o.op = true := by have := hlay'.1; unfold layAt at this; rw [ho] at this; exact this
  have hnb : ∀ s, (aoAt P ops e.i).op ≠ .bad s := fun s q => by rw [q] at hcls; cases hcls
  have hop := (cOper_op (P := P) (ops := ops) (o := o) rfl (by rw [← aoAt_some (P := P) ho]; exact hnb)).1
  have hM : D.M = si.length - 1 := by rw [hD]; rfl
  have hmlt : m < si.length := (List.getElem?_eq_some_iff.1 h1).1
  refine ⟨hlo, ⟨_, hop, fun σ hsee => ?_⟩, by omega, ?_, by rw [hD]; exact Nat.le_add_right _ _, by rw [hD]; show base + e.i < base + kk; have := hkk e.i hi hlay'.1; omega, hnb⟩
  · have hag : Agr (aoT (aoAt P ops e.i)) e.σ σ := h.agr he (by subst hD; exact hsee)
    refine ⟨by rw [← wanted_agr (Agr.left hag)]; exact hlay'.2, ?_⟩
    rw [← aoAt_some (P := P) ho]
    rcases hok with ⟨q, _⟩ | ⟨_, ⟨_, _, l, q1, _⟩ | ⟨q, _⟩⟩
    · rw [hlay'.2] at q; cases q
    · have hid : D.idn e.i = base + e.i := by rw [hD]; rfl
      rw [hid, ← nOp_agr (Agr.right hag), q1]
      have hlv : D.lv e.i = l := by
        rw [hD]; simp only [drawOf, hent, cellsOf, q1]
      have hxv : D.xv e.i = e.y := by
        rw [hD]
        cases hd : (aoAt P ops e.i).dst with
        | none => simp only [drawOf, hd, hent]
        | some d => simp only [drawOf, hd]; exact (h.frames.2 e he).2.1 hck d hd
      rw [hlv, hxv]
    · rcases q with q | q
      · rw [hlay'.1] at q; cases q
      · rw [hck] at q; cases q
  · rw [hst, hD]
    simp only [drawOf, h2]
    exact List.mem_map.2 ⟨e, List.mem_filter.2 ⟨hns, hlay⟩, rfl⟩
end
end Go.Ev
namespace Go.Ev
open Go
section
variable {P : Program} {ops : Array Oper} {σ0 σs : T AV} {base : Nat} {si : List SStg} {tr : List StgTr} {H : Nat → St} {S0 Ss : St}
theorem nodup_of_count {l : List Nat} (h : ∀ i ∈ l, (l.filter fun j => j == i).length ≤ 1) : l.Nodup := by
  induction l with
  | nil => exact List.nodup_nil
  | cons x l ih =>
    rw [List.nodup_cons]
    refine ⟨fun hx => ?_, ih fun i hi => ?_⟩
    · have := h x (List.mem_cons_self ..)
      rw [List.filter_cons, if_pos (by simp)] at this
      have : 1 ≤ (l.filter fun j => j == x).length := List.length_pos_iff.2 (List.ne_nil_of_mem (List.mem_filter.2 ⟨hx, by simp⟩))
      simp only [List.length_cons] at *
      omega
    · have := h i (List.mem_cons_of_mem _ hi)
      rw [List.filter_cons] at this
      split at this
      · simp only [List.length_cons] at this; omega
      · exact this
theorem ns_nodup {si : List SStg} {n m : Nat} {s : SStg} (hc : ∀ i, i < n → ((flat si).filter fun p => !p.2 && p.1 == i).length = 1) (hi : ∀ p ∈ flat si, p.1 < n) (hs : si[m]? = some s) : s.ns.Nodup := by
  refine nodup_of_count fun i hm => ?_
  have hfl : (i, false) ∈ flatS s := by
    unfold flatS; exact List.mem_append_right _ (List.mem_append_left _ (List.mem_map.2 ⟨i, hm, rfl⟩))
  have h1 := hc i (hi _ (mem_flat hs hfl))
  have h2 := flat_count (i := i) hs
  unfold flatS at h2
  simp only [List.filter_append, List.length_append] at h2
  have h3 : ((s.ns.map fun i => (i, false)).filter fun p => !p.2 && p.1 == i).length = (s.ns.filter fun j => j == i).length := by
    rw [List.filter_map, List.length_map]
    rfl
  omega
theorem Ctx.nsField (h : Ctx P ops σ0 σs base si tr H S0 Ss) {D : Draw P ops σ0 σs} (hD : D = drawOf P ops σ0 σs base si tr H) : ∀ m, m ≤ D.M → (D.ns m).Nodup ∧ ∀ i ∈ D.ns m, i < ops.size ∧ D.kind i = 1 ∧ D.st i = m := by
  intro m hm
  have hM : D.M = si.length - 1 := by rw [hD]; rfl
  have hne : si.length ≠ 0 := fun q => h.hs.ne (List.length_eq_zero_iff.1 q)
  have hmlt : m < tr.length := by rw [h.len]; omega
  have ht : tr[m]? = some tr[m] := List.getElem?_eq_getElem hmlt
  obtain ⟨s, X, g1, g2⟩ := (stgs_get h.ht).2 m _ ht
  have hgood := stg_good h.hs g1 g2
  have hns : D.ns m = (tr[m].ns.filter (lays P ops)).map (·.i) := by rw [hD]; simp only [drawOf, ht]
  have hsi : tr[m].ns.map (·.i) = s.ns := by
    have := congrArg (List.map Prod.fst) g2.ns
    simp only [ents, List.map_map] at this
    simpa [Function.comp_def] using this
  rw [hns]
  refine ⟨?_, fun i hi => ?_⟩
  · have hnd : s.ns.Nodup := ns_nodup h.hs.cnt h.hs.idx g1
    rw [← hsi] at hnd
    exact hnd.sublist ((List.filter_sublist).map _)
  · obtain ⟨e, he, rfl⟩ := List.mem_map.1 hi
    obtain ⟨he, hl⟩ := List.mem_filter.1 he
    have hall : e ∈ allE tr := mem_allE.2 ⟨m, _, ht, by simp only [StgTr.all]; exact List.mem_append_right _ (List.mem_append_left _ he)⟩
    have hlt := h.idx hall
    have hck := (hgood.ns e he).2.1
    obtain ⟨e', _, _, _, h4, h5⟩ := h.ent hlt
    have := h5 e hall rfl hck
    subst this
    have hin : e.i ∈ s.ns := by rw [← hsi]; exact List.mem_map.2 ⟨e, he, rfl⟩
    refine ⟨hlt, ?_, h.stOf hD g1 hin hlt⟩
    subst hD
    simp only [drawOf]
    rw [if_neg, h4]
    · simp only [hl, if_true]
    · intro ha
      obtain ⟨k, hk1, hk2⟩ := List.any_eq_true.1 ha
      have hk2 : wAt si k = some e.i := by simpa using hk2
      obtain ⟨s', hs', hw'⟩ := wAt_some hk2
      have hkm : k = m := stage_uniq (h.hs.cnt e.i hlt) hs' g1 (flatS_w hw') (by unfold flatS; exact List.mem_append_right _ (List.mem_append_left _ (List.mem_map.2 ⟨e.i, hin, rfl⟩)))
      subst hkm
      rw [g1] at hs'; cases hs'
      have h2 := flat_count (i := e.i) g1
      rw [h.hs.cnt e.i hlt] at h2
      unfold flatS at h2
      simp only [List.filter_append, List.length_append, hw'] at h2
      have a1 : 1 ≤ ((s.ns.map fun i => (i, false)).filter fun p => !p.2 && p.1 == e.i).length := List.length_pos_iff.2 (List.ne_nil_of_mem (List.mem_filter.2 ⟨List.mem_map.2 ⟨e.i, hin, rfl⟩, by simp⟩))
      have a2 : (([(e.i, false)] : List (Nat × Bool)).filter fun p => !p.2 && p.1 == e.i).length = 1 := by simp
      omega
end
end Go.Ev
namespace Go.Ev
open Go
section
variable {P : Program} {ops : Array Oper} {σ0 σs : T AV} {base : Nat} {si : List SStg} {tr : List StgTr} {H : Nat → St} {S0 Ss : St}
theorem Ctx.ok (h : Ctx P ops σ0 σs base si tr H S0 Ss) {D : Draw P ops σ0 σs} (hD : D = drawOf P ops σ0 σs base si tr H) (hwf : ∀ i, i < ops.size → ∀ d, (aoAt P ops i).dst = some d → d < dslot) (kk : Nat) (hkk : ∀ i, i < ops.size → layAt ops i = true → i < kk) : D.Ok base kk where
  opd := fun i hi d hd => by
    have := h.opd i hi d hd
    subst hD
    exact this
  val := fun i hi d hd => by subst hD; simp only [drawOf, hd]
  els := h.els
  dfs := (h.slots hwf).1
  rsl := (h.slots hwf).2
  knd := fun i _ => Ctx.knd hD i
  pr := h.pr hD
  n := h.nField hD kk hkk
  nW := h.nW hD
  ns := h.nsField hD
  idn := fun i j _ _ _ _ he => by subst hD; have : base + i = base + j := he; omega
  w := h.w hD
  wall := h.wall hD
  chain := h.chainW hD
  inj := h.inj hD
  rank := fun i o ho e he hb => by
    have := h.hs.dec i o ho e he hb
    have hlt := lt_of_some ho
    exact ⟨by omega, by subst hD; exact this⟩
end
theorem inv_drw {P : Program} {c : Code} {k : Nat} {sts : List Stg} (h : cCode P c = .drw k sts) : ∃ id ops, c = .region id ops true ∧ okSch ops (ops.toList.map (cOper P ops)) (masksFrom ops.toList []) (schedule ops (ops.toList.map (cOper P ops)) (masksFrom ops.toList [])) = true ∧
    sts = (schedule ops (ops.toList.map (cOper P ops)) (masksFrom ops.toList [])).map (toStg ops (ops.toList.map (cOper P ops))) ∧ k = (if ops.any (fun o => layOp o.op) then ops.size else 0) := by
  cases c <;> simp only [cCode] at h <;> first | (cases h; done) | (split at h <;> cases h; done) | skip
  rename_i id ops d
  cases d with
  | false => cases h
  | true =>
    simp only [cReg, cDraw, cDraw1, cDraw2] at h
    split at h
    · rename_i hok
      cases h
      exact ⟨id, ops, rfl, hok, rfl, rfl⟩
    · cases h
theorem mem_flat_inv {p : Nat × Bool} : ∀ {si : List SStg}, p ∈ flat si → ∃ s ∈ si, p ∈ flatS s
  | [], h => by cases h
  | s :: si, h => by
    rcases List.mem_append.1 h with h | h
    · exact ⟨s, List.mem_cons_self .., h⟩
    · obtain ⟨s', h1, h2⟩ := mem_flat_inv h
      exact ⟨s', List.mem_cons_of_mem _ h1, h2⟩
theorem dsWf_to {P : Program} {ops : Array Oper} {N i : Nat} {b : Bool} (hi : i < ops.size) (h : dsWf N (toDS ops (ops.toList.map (cOper P ops)) (i, b)) = true) : aoWf N (aoAt P ops i) = true := by
  unfold toDS at h
  rw [show (ops.toList.map (cOper P ops))[(i, b).1]? = some (aoAt P ops i) from aos_lt hi] at h
  simp only at h
  split at h
  · exact h
  · split at h <;> exact h
theorem stgWf_all {P : Program} {ops : Array Oper} {N i : Nat} {b : Bool} {s : SStg} (hi : i < ops.size) (h : stgWf N (toStg ops (ops.toList.map (cOper P ops)) s) = true) (hm : (i, b) ∈ flatS s) : aoWf N (aoAt P ops i) = true := by
  simp only [stgWf, toStg, Bool.and_eq_true, List.all_eq_true] at h
  obtain ⟨h1, h2, h3⟩ := h
  unfold flatS at hm
  rcases List.mem_append.1 hm with hm | hm
  · exact dsWf_to hi (h1 _ (List.mem_map.2 ⟨_, hm, rfl⟩))
  · rcases List.mem_append.1 hm with hm | hm
    · obtain ⟨j, hj, e⟩ := List.mem_map.1 hm
      cases e
      exact dsWf_to hi (h2 _ (List.mem_map.2 ⟨_, hj, rfl⟩))
    · cases hw : s.w with
      | none => rw [hw] at hm; cases hm
      | some w =>
        rw [hw] at hm h3
        rw [List.mem_singleton] at hm
        cases hm
        simp only [aos_lt hi] at h3
        exact h3
theorem dn_rep {n i : Nat} : dn (Array.replicate n false) i = false := by
  unfold dn
  rw [Array.getD_eq_getD_getElem?, Array.getElem?_replicate]
  split <;> rfl
theorem cntF_le (p : Nat → Bool) : ∀ n, cntF p n ≤ n
  | 0 => Nat.le_refl _
  | n + 1 => by
    have := cntF_le p n
    simp only [cntF]
    split <;> omega
theorem code_drw {P : Program} {e : Ev} (hm : P.follows .mixedOrders = true) (he : EvOk P e) {k : Nat} {sts : List Stg} {σ : T AV} {S : St} {x : X} {σ' : T AV} {S' : St} (h : drwK e S.nxt sts σ ⟨S.heap, Nat.add S.nxt k, S.drw⟩ = .c x σ' S') : GCode P (.drw k sts) σ S (isC x σ' S') := by
  intro code N r w0 K ι a w hc hw hI
  obtain ⟨id, ops, rfl, hok, hsts, hk⟩ := inv_drw hc
  subst hsts
  have hs := okSch_ok hok
  obtain ⟨rfl, tr, htr, hch⟩ := stgs_ok (P := P) he _ σ _ hs.idx h
  have hgood : ∀ t ∈ tr, StgGood P ops S.nxt t := fun t ht => by
    obtain ⟨m, hlt, rfl⟩ := List.getElem_of_mem ht
    obtain ⟨s, X, g1, g2⟩ := (stgs_get htr).2 m _ (List.getElem?_eq_getElem hlt)
    exact stg_good hs g1 g2
  obtain ⟨H, hH0, hH⟩ := stage_states tr σ σ' _ S' hgood hch
  have ctx : Ctx P ops σ σ' S.nxt (schedule ops (ops.toList.map (cOper P ops)) (masksFrom ops.toList [])) tr H ⟨S.heap, Nat.add S.nxt k, S.drw⟩ S' := ⟨hs, htr, hch, hH0, hH⟩
  have hlen := ctx.len
  have hne : tr.length ≠ 0 := fun q => hs.ne (List.length_eq_zero_iff.1 (by omega))
  -- the code's own wf
  have hwf : ∀ i, i < ops.size → aoWf N (aoAt P ops i) = true := fun i hi => by
    obtain ⟨e, he, rfl, hck, _, _⟩ := ctx.ent hi
    have hm := ents_mem he
    rw [ents_all htr] at hm
    obtain ⟨s, hs1, hs2⟩ := mem_flat_inv hm
    simp only [wf, List.all_eq_true] at hw
    exact stgWf_all hi (hw _ (List.mem_map.2 ⟨s, hs1, rfl⟩)) hs2
  have hdst : ∀ i, i < ops.size → ∀ d, (aoAt P ops i).dst = some d → d < dslot := fun i hi d hd => by
    have := hwf i hi
    simp only [aoWf, Bool.and_eq_true] at this
    exact dst_ne this.1 d hd
  have hkk : ∀ i, i < ops.size → layAt ops i = true → i < k := fun i hi hl => by
    rw [hk, if_pos]
    · exact hi
    · rw [Array.any_eq_true]
      refine ⟨i, hi, ?_⟩
      unfold layAt at hl
      rw [Array.getElem?_eq_getElem hi] at hl
      exact hl
  have hD := ctx.ok rfl hdst k hkk
  generalize hDe : drawOf P ops σ σ' S.nxt (schedule ops (ops.toList.map (cOper P ops)) (masksFrom ops.toList [])) tr H = D at hD
  -- the last state
  have hM : D.M = tr.length - 1 := by rw [← hDe, hlen]; rfl
  have hlt : tr.length - 1 < tr.length := by omega
  have ht : tr[tr.length - 1]? = some tr[tr.length - 1] := List.getElem?_eq_getElem hlt
  have hpre : D.pre D.M = S' := by
    rw [hM, ctx.pre hDe.symm ht]
    obtain ⟨s, X, g1, g2⟩ := (stgs_get htr).2 _ _ ht
    refine ((hH _ _ ht).2.2 (by omega) ?_).symm
    have hst := hs.stg _ _ g1
    simp only [okStg, Bool.and_eq_true, beq_iff_eq] at hst
    have h3 := hst.2.2
    have hb : Nat.blt (tr.length - 1 + 1) (schedule ops (ops.toList.map (cOper P ops)) (masksFrom ops.toList [])).length = false := by
      rw [← hlen]
      cases q : Nat.blt (tr.length - 1 + 1) tr.length with
      | false => rfl
      | true => have := blt_true q; omega
    rw [hb] at h3
    have hwn : s.w = none := by
      cases q : s.w with
      | none => rfl
      | some _ => rw [q] at h3; cases h3
    have := g2.w
    rw [hwn] at this
    simpa [ents] using this
  refine wpIn_region_any hm ?_
  have hS0 := (hI.sim.reserve k).drew
  have hH0' : D.H 0 = ⟨S.heap, S.nxt + k, S.drw⟩ := by rw [← hDe]; exact hH0
  refine draw_any (w0 := w0) (K := K) (ι0 := ι) hD hwf (fun β hβ => (hI.sim.res β hβ).2) (fun ι' a' w' hle hI' => ?_) ops.size _ a _ 0 ι σ ⟨K.get, fun β => K.res β ∨ (S.nxt ≤ β ∧ β < S.nxt + k), K.lo⟩ ?_ (cntF_le _ _)
  · rw [hpre] at hI'
    exact ⟨.nrm, σ', S', ι', ⟨rfl, rfl, rfl⟩, rfl, hle, hI'⟩
  · refine ⟨by simp, fun i o _ hd => (by rw [dn_rep] at hd; cases hd), Nat.zero_le _, fun k' hk' => ⟨fun q => (by rw [dn_rep] at q; cases q), fun q => absurd q (Nat.not_lt_zero _)⟩, Im.le.refl _, fun d => .inl ⟨rfl, fun i _ _ => dn_rep⟩, rfl, rfl, ?_, ?_⟩
    · rw [hH0']; exact ⟨hS0, hI.fr, hI.df, hI.rr⟩
    · refine ⟨fun _ _ q => q, fun _ q => .inl q, rfl, fun i hi hk' _ => ?_, fun i _ _ q => (by rw [dn_rep] at q; cases q), fun i j l l' _ _ _ _ _ q => (by rw [dn_rep] at q; cases q)⟩
      obtain ⟨_, _, _, _, b1, b2, _⟩ := hD.n i ops[i] (Array.getElem?_eq_getElem hi) hk'
      exact .inr ⟨b1, b2⟩
end Go.Ev
namespace Go.Ev
open Go
section
variable {P : Program} {U : Sums} {F : Nat → Option AF}
theorem ev_ok (hm : P.follows .mixedOrders = true) (HF : ∀ f af, F f = some af → FnOk P f af) (HU : ∀ f g args S r, U f = some g → g args S = some r → GCall P f args S (isV r.1 r.2)) : ∀ n, EvOk P (ev U F n)
  | 0 => fun t S => by
    cases t <;> (intro x; intros; rename_i h; cases h)
  | n + 1 => step_ok (ev_ok hm HF HU n) HF HU fun k l σ S x σ' S' h => code_drw hm (ev_ok hm HF HU n) h
end
end Go.Ev
namespace Go.Ev
open Go
noncomputable section
/-! symbolic frames and heaps: lists -/
abbrev Fr := List (Nat × AV)
def lk (l : Fr) (n : Nat) : Option AV := @List.rec (Nat × AV) (fun _ => Option AV) none (fun p _ ih => cond (Nat.beq p.1 n) (some p.2) ih) l
def opdL (l : Fr) : Opd → Option AV
  | .t n => lk l n
  | .c v => some v
  | .g n => some (.p n 0)
  | .fn n => some (.f (.func n) [] [])
def opdsL (l : Fr) : List Opd → Option (List AV)
  | [] => some []
  | x :: r => match opdL l x with
    | some v => match opdsL l r with
      | some vs => some (v :: vs)
      | none => none
    | none => none
structure FS (q : Option AV) (σ : T AV) (l : Fr) : Prop where
  get : ∀ n v, lk l n = some v → getU σ n = v
  rs : σ.get rslot = q
theorem FS.mono {q : Option AV} {σ : T AV} {l l' : Fr} (h : FS q σ l) (hl : ∀ n v, lk l' n = some v → lk l n = some v) : FS q σ l' := ⟨fun n v e => h.get n v (hl n v e), h.rs⟩
theorem lk_cons (d : Nat) (v : AV) (l : Fr) (n : Nat) : lk ((d, v) :: l) n = if d = n then some v else lk l n := by
  show cond (Nat.beq d n) (some v) (lk l n) = _
  by_cases h : d = n
  · subst h; rw [show Nat.beq d d = true from Nat.beq_refl d, if_pos rfl]; rfl
  · rw [if_neg h]
    cases e : Nat.beq d n with
    | true => exact absurd (Nat.eq_of_beq_eq_true e) h
    | false => rfl
theorem FS.put {q : Option AV} {σ : T AV} {l : Fr} (h : FS q σ l) {d : Nat} {v : AV} (hd : Nat.beq d rslot = false) : FS q (σ.set d v) ((d, v) :: l) := by
  have hne : d ≠ rslot := fun e => by rw [e, show Nat.beq rslot rslot = true from Nat.beq_refl _] at hd; cases hd
  refine ⟨fun n x e => ?_, by rw [T.get_set, if_neg (fun e => hne e.symm)]; exact h.rs⟩
  rw [lk_cons] at e
  rw [getU_set]
  by_cases hn : d = n
  · rw [if_pos hn] at e; rw [if_pos hn.symm]; exact Option.some.inj e
  · rw [if_neg hn] at e; rw [if_neg (fun q => hn q.symm)]; exact h.get n x e
theorem FS.val {q : Option AV} {σ : T AV} {l : Fr} (h : FS q σ l) {x : Opd} {v : AV} (hx : opdL l x = some v) : opd x σ = v := by
  cases x with
  | t n => exact h.get n v hx
  | c v' => exact Option.some.inj hx
  | g n => exact Option.some.inj hx
  | fn n => exact Option.some.inj hx
theorem FS.vals {q : Option AV} {σ : T AV} {l : Fr} (h : FS q σ l) : ∀ {xs : List Opd} {vs : List AV}, opdsL l xs = some vs → opds xs σ = vs
  | [], vs, hx => by cases hx; rfl
  | x :: r, vs, hx => by
    simp only [opdsL] at hx
    split at hx
    · rename_i v hv
      split at hx
      · rename_i vs' hvs
        cases hx
        show opd x σ :: opds r σ = _
        rw [h.val hv, h.vals hvs]
      · cases hx
    · cases hx
inductive HB where
  | row (k : Nat) (l : List AV)
  /-- a row whose cells are `t` but for those from `o` on -/
  | win (k : Nat) (t : T AV) (n : Nat) (o : Nat) (w : List AV)
  /-- a row whose cells a function tells -/
  | fn (k : Nat) (n : Nat) (g : Nat → Option AV)
  | blk (x : Blk)
  | gone
def HB.at : HB → Option Blk → Prop
  | .row k l, o => ∃ c, o = some (.row k c l.length) ∧ ∀ i, i < l.length → c.get i = l[i]?
  | .win k t n p w, o => ∃ c, o = some (.row k c n) ∧ p + w.length ≤ n ∧ ∀ i, i < n → c.get i = if p ≤ i ∧ i < p + w.length then w[i - p]? else t.get i
  | .fn k n g, o => ∃ c, o = some (.row k c n) ∧ ∀ i, i < n → c.get i = g i
  | .blk x, o => o = some x
  | .gone, o => o = none
abbrev Hp := List (Nat × HB)
def hat (h : Hp) (n : Nat) : Option (Nat × HB) := @List.rec (Nat × HB) (fun _ => Nat → Option (Nat × HB)) (fun _ => none) (fun p _ ih n => @Nat.rec (fun _ => Option (Nat × HB)) (some p) (fun m _ => ih m) n) h n
def hset (h : Hp) (x : HB) (n : Nat) : Hp := @List.rec (Nat × HB) (fun _ => Nat → Hp) (fun _ => []) (fun p t ih n => @Nat.rec (fun _ => Hp) ((p.1, x) :: t) (fun m _ => p :: ih m) n) h n
theorem hat_eq : ∀ (h : Hp) (n : Nat), hat h n = h[n]?
  | [], n => by simp [hat]
  | p :: t, 0 => rfl
  | p :: t, n + 1 => by rw [List.getElem?_cons_succ]; exact hat_eq t n
theorem hset_eq : ∀ (h : Hp) (x : HB) (n : Nat) (p : Nat × HB), h[n]? = some p → hset h x n = h.set n (p.1, x)
  | [], _, n, p, e => by simp at e
  | q :: t, x, 0, p, e => by rw [List.getElem?_cons_zero] at e; cases e; rfl
  | q :: t, x, n + 1, p, e => by rw [List.getElem?_cons_succ] at e; rw [List.set_cons_succ, ← hset_eq t x n p e]; rfl
structure SH (S0 : St) (N : Nat) (h : Hp) (S : St) : Prop where
  nxt : S.nxt = N
  get : ∀ p ∈ h, p.2.at (S.heap.get p.1)
  els : ∀ β, β < S0.nxt → (∀ p ∈ h, p.1 ≠ β) → S.heap.get β = S0.heap.get β
  dis : (h.map (·.1)).Nodup
  lt : ∀ p ∈ h, p.1 < N
  wf : ∀ β, S0.nxt ≤ β → S0.heap.get β = none
  le : S0.nxt ≤ N
section
variable {S0 S : St} {N : Nat} {h : Hp}
theorem SH.look (H : SH S0 N h S) {j b : Nat} {x : HB} (e : hat h j = some (b, x)) : x.at (S.heap.get b) := by
  rw [hat_eq] at e
  exact H.get (b, x) (List.mem_of_getElem? e)
theorem SH.put (H : SH S0 N h S) {j b : Nat} {x x' : HB} (e : hat h j = some (b, x)) {S' : St} (hn : S'.nxt = S.nxt) (hb : x'.at (S'.heap.get b)) (ho : ∀ β, β ≠ b → S'.heap.get β = S.heap.get β) : SH S0 N (hset h x' j) S' := by
  rw [hat_eq] at e
  rw [hset_eq h x' j _ e]
  have hlt := (List.getElem?_eq_some_iff.1 e).1
  have hids : (h.set j (b, x')).map (·.1) = h.map (·.1) := by
    rw [List.map_set]
    refine List.ext_getElem? fun i => ?_
    rw [List.getElem?_set]
    by_cases hij : j = i
    · subst hij; rw [if_pos rfl, List.getElem?_map, e]; simp [hlt]
    · rw [if_neg hij]
  have hmem : ∀ p ∈ h.set j (b, x'), p = (b, x') ∨ (p ∈ h ∧ p.1 ≠ b) := fun p hp => by
    obtain ⟨i, hi⟩ := List.getElem?_of_mem hp
    rw [List.getElem?_set] at hi
    by_cases hij : j = i
    · rw [if_pos hij] at hi
      rw [if_pos (by omega)] at hi
      exact .inl (Option.some.inj hi).symm
    · rw [if_neg hij] at hi
      refine .inr ⟨List.mem_of_getElem? hi, fun q => hij ?_⟩
      have hnd := List.pairwise_iff_getElem.1 H.dis
      obtain ⟨hi1, hi2⟩ := List.getElem?_eq_some_iff.1 hi
      obtain ⟨hj1, hj2⟩ := List.getElem?_eq_some_iff.1 e
      rcases Nat.lt_trichotomy j i with hlt' | he | hlt'
      · exfalso
        refine hnd j i (by simpa using hj1) (by simpa using hi1) hlt' ?_
        simp only [List.getElem_map]
        rw [hi2, hj2, q]
      · exact he
      · exfalso
        refine hnd i j (by simpa using hi1) (by simpa using hj1) hlt' ?_
        simp only [List.getElem_map]
        rw [hi2, hj2, q]
  refine ⟨hn.trans H.nxt, fun p hp => ?_, fun β hlo hβ => ?_, by rw [hids]; exact H.dis, fun p hp => ?_, H.wf, H.le⟩
  · rcases hmem p hp with rfl | ⟨h1, h2⟩
    · exact hb
    · rw [ho _ h2]; exact H.get p h1
  · have hne : β ≠ b := fun q => by
      have : (b, x') ∈ h.set j (b, x') := List.mem_of_getElem? (i := j) (by rw [List.getElem?_set, if_pos rfl, if_pos hlt])
      exact hβ _ this q.symm
    rw [ho β hne]
    refine H.els β hlo fun p hp q => ?_
    obtain ⟨i, hi⟩ := List.getElem?_of_mem hp
    have : (h.set j (b, x')).map (·.1) = h.map (·.1) := hids
    have hi2 : ((h.set j (b, x')).map (·.1))[i]? = some p.1 := by rw [this, List.getElem?_map, hi]; rfl
    rw [List.getElem?_map] at hi2
    obtain ⟨p', hp', e'⟩ := Option.map_eq_some_iff.1 hi2
    exact hβ p' (List.mem_of_getElem? hp') (by rw [e', q])
  · rcases hmem p hp with rfl | ⟨h1, _⟩
    · exact H.lt (b, x) (List.mem_of_getElem? e)
    · exact H.lt p h1
theorem SH.add (H : SH S0 N h S) {x : HB} {S' : St} (hn : S'.nxt = N + 1) (hb : x.at (S'.heap.get N)) (ho : ∀ β, β ≠ N → S'.heap.get β = S.heap.get β) : SH S0 (N + 1) (h ++ [(N, x)]) S' := by
  refine ⟨hn, fun p hp => ?_, fun β hlo hβ => ?_, ?_, fun p hp => ?_, H.wf, Nat.le_succ_of_le H.le⟩
  · rcases List.mem_append.1 hp with hp | hp
    · rw [ho _ (fun q => by have := H.lt p hp; omega)]; exact H.get p hp
    · rw [List.mem_singleton] at hp; subst hp; exact hb
  · rw [ho β (fun q => hβ (N, x) (List.mem_append_right _ (List.mem_singleton.2 rfl)) q.symm)]
    exact H.els β hlo fun p hp => hβ p (List.mem_append_left _ hp)
  · rw [List.map_append, List.nodup_append]
    refine ⟨H.dis, by simp, fun a ha b hb => ?_⟩
    obtain ⟨p, hp, rfl⟩ := List.mem_map.1 ha
    simp only [List.map_cons, List.map_nil, List.mem_singleton] at hb
    have := H.lt p hp
    omega
  · rcases List.mem_append.1 hp with hp | hp
    · have := H.lt p hp; omega
    · rw [List.mem_singleton] at hp; subst hp; exact Nat.lt_succ_self _
theorem SH.new (H : SH S0 N h S) {x : HB} {X : Blk} (hb : x.at (some X)) : SH S0 (N + 1) (h ++ [(N, x)]) (S.new X) := by
  have hn := H.nxt
  refine H.add (by show Nat.succ S.nxt = _; omega) ?_ fun β hβ => ?_
  · show x.at ((S.heap.set S.nxt X).get N)
    rw [T.get_set, if_pos hn.symm]; exact hb
  · show (S.heap.set S.nxt X).get β = _
    rw [T.get_set, if_neg (by omega)]
theorem HB.at_row (k : Nat) (l : List AV) : (HB.row k l).at (some (.row k (T.ofList l) l.length)) := ⟨_, rfl, fun i _ => T.get_ofList l i⟩
theorem SH.newRow (H : SH S0 N h S) (k : Nat) (l : List AV) : SH S0 (N + 1) (h ++ [(N, .row k l)]) (S.newRow k l) := H.new (HB.at_row k l)
theorem SH.setBlk (H : SH S0 N h S) {j b : Nat} {x x' : HB} {X : Blk} (e : hat h j = some (b, x)) (hb : x'.at (some X)) : SH S0 N (hset h x' j) (S.setBlk b X) := by
  refine H.put e rfl ?_ fun β hβ => ?_
  · show x'.at ((S.heap.set b X).get b)
    rw [T.get_set, if_pos rfl]; exact hb
  · show (S.heap.set b X).get β = _
    rw [T.get_set, if_neg hβ]
theorem SH.delBlk (H : SH S0 N h S) {j b : Nat} {x : HB} (e : hat h j = some (b, x)) : SH S0 N (hset h .gone j) (S.delBlk b) := by
  refine H.put e rfl ?_ fun β hβ => ?_
  · show ((S.heap.del b).get b) = none
    rw [T.get_del, if_pos rfl]
  · show (S.heap.del b).get β = _
    rw [T.get_del, if_neg hβ]
/-! cells of rows -/
def updL (l : List AV) (o : Nat) (vs : List AV) : List AV := @List.rec AV (fun _ => Nat → List AV → List AV) (fun _ l => l) (fun v _ ih o l => ih (Nat.succ o) (l.set o v)) vs o l
theorem updL_length : ∀ (vs l : List AV) (o : Nat), (updL l o vs).length = l.length
  | [], l, o => rfl
  | v :: vs, l, o => by show (updL (l.set o v) (o + 1) vs).length = _; rw [updL_length vs]; simp
theorem updL_get : ∀ (vs l : List AV) (o i : Nat), o + vs.length ≤ l.length → (updL l o vs)[i]? = if o ≤ i ∧ i < o + vs.length then vs[i - o]? else l[i]?
  | [], l, o, i, _ => by rw [if_neg (by simp only [List.length_nil]; omega)]; rfl
  | v :: vs, l, o, i, h => by
    simp only [List.length_cons] at h
    show (updL (l.set o v) (o + 1) vs)[i]? = _
    rw [updL_get vs _ _ _ (by simp; omega)]
    by_cases hi : o + 1 ≤ i ∧ i < o + 1 + vs.length
    · rw [if_pos hi, if_pos (by simp; omega)]
      have : i - o = (i - (o + 1)) + 1 := by omega
      rw [this, List.getElem?_cons_succ]
    · rw [if_neg hi, List.getElem?_set]
      by_cases ho : o = i
      · subst ho; rw [if_pos rfl, if_pos (by omega), if_pos (by simp)]; simp
      · rw [if_neg ho, if_neg (by simp; omega)]
def rdL (l : List AV) (o n : Nat) : Option (List AV) := @Nat.rec (fun _ => Nat → Option (List AV)) (fun _ => some [])
    (fun _ ih o => @Option.rec AV (fun _ => Option (List AV)) none (fun v => @Option.rec (List AV) (fun _ => Option (List AV)) none (fun r => some (v :: r)) (ih (Nat.succ o))) l[o]?) n o
theorem rdL_le : ∀ {n : Nat} {l : List AV} {o : Nat} {vs : List AV}, rdL l o n = some vs → n = 0 ∨ o + n ≤ l.length
  | 0, _, _, _, _ => .inl rfl
  | n + 1, l, o, vs, h => by
    right
    change @Option.rec AV (fun _ => Option (List AV)) none (fun v => @Option.rec (List AV) (fun _ => Option (List AV)) none (fun r => some (v :: r)) (rdL l (Nat.succ o) n)) l[o]? = some vs at h
    cases hv : l[o]? with
    | none => rw [hv] at h; cases h
    | some v =>
      rw [hv] at h
      have hlt := (List.getElem?_eq_some_iff.1 hv).1
      cases hr : rdL l (Nat.succ o) n with
      | none => rw [hr] at h; cases h
      | some r => rcases rdL_le hr with q | q <;> omega
theorem readCells_rdL {c : T AV} {l : List AV} (hc : ∀ i, i < l.length → c.get i = l[i]?) : ∀ {n o : Nat} {vs : List AV}, rdL l o n = some vs → readCells c o n = some vs
  | 0, _, _, h => h
  | n + 1, o, vs, h => by
    change @Option.rec AV (fun _ => Option (List AV)) none (fun v => @Option.rec (List AV) (fun _ => Option (List AV)) none (fun r => some (v :: r)) (rdL l (Nat.succ o) n)) l[o]? = some vs at h
    show @Option.rec AV (fun _ => Option (List AV)) none (fun v => @Option.rec (List AV) (fun _ => Option (List AV)) none (fun r => some (v :: r)) (readCells c (Nat.succ o) n)) (c.get o) = some vs
    cases hv : l[o]? with
    | none => rw [hv] at h; cases h
    | some v =>
      rw [hv] at h
      rw [hc o (List.getElem?_eq_some_iff.1 hv).1, hv]
      cases hr : rdL l (Nat.succ o) n with
      | none => rw [hr] at h; cases h
      | some r => rw [hr] at h; rw [readCells_rdL hc hr]; exact h
theorem ble_of {a b : Nat} (h : a ≤ b) : Nat.ble a b = true := Nat.ble_eq.mpr h
theorem SH.ld1 (H : SH S0 N h S) {j b o k : Nat} {l : List AV} {v : AV} (e : hat h j = some (b, .row k l)) (hv : l[o]? = some v) : ldCell S b o = some v := by
  obtain ⟨c, hc, hg⟩ := H.look e
  have hlt := (List.getElem?_eq_some_iff.1 hv).1
  show @Option.rec Blk (fun _ => Option AV) none (rowCell o) (S.heap.get b) = _
  rw [hc]
  show @Bool.rec (fun _ => Option AV) none (c.get o) (Nat.ble (Nat.succ o) l.length) = _
  rw [ble_of (show Nat.succ o ≤ _ from hlt)]
  show c.get o = _
  rw [hg o hlt, hv]
theorem SH.ldn (H : SH S0 N h S) {j b o k n : Nat} {l vs : List AV} (e : hat h j = some (b, .row k l)) (hn : Nat.ble (Nat.add o n) l.length = true) (hv : rdL l o n = some vs) : ldCells S b o n = some vs := by
  obtain ⟨c, hc, hg⟩ := H.look e
  show @Option.rec Blk (fun _ => Option (List AV)) none (rowCells o n) (S.heap.get b) = _
  rw [hc]
  show @Bool.rec (fun _ => Option (List AV)) none (readCells c o n) (Nat.ble (Nat.add o n) l.length) = _
  rw [hn]
  exact readCells_rdL hg hv
theorem SH.st (H : SH S0 N h S) {j b o k : Nat} {l vs : List AV} (e : hat h j = some (b, .row k l)) (hk : Nat.beq k 2 = false) (hn : Nat.ble (Nat.add o vs.length) l.length = true) (h1 : ones vs = true) :
    ∃ S', stCells S b o vs = some S' ∧ SH S0 N (hset h (.row k (updL l o vs)) j) S' := by
  obtain ⟨c, hc, hg⟩ := H.look e
  refine ⟨S.setBlk b (.row k (setCells vs c o) l.length), ?_, H.setBlk e ⟨setCells vs c o, by rw [updL_length], fun i hi => ?_⟩⟩
  · unfold stCells
    rw [hc]
    have : putRow vs o (.row k c l.length) = some (.row k (setCells vs c o) l.length) := by
      show @Bool.rec (fun _ => Option Blk) none _ (and (Nat.ble (Nat.add o vs.length) l.length) (and (not (Nat.beq k 2)) (ones vs))) = _
      rw [hn, hk, h1]; rfl
    simp only [this]
  · rw [updL_length] at hi
    rw [get_setCells, updL_get _ _ _ _ (by have := ble_true hn; exact this)]
    split
    · rfl
    · exact hg i hi
end
end
end Go.Ev
namespace Go.Ev
open Go
noncomputable section
/-- one operation without a call, symbolically -/
def AO1 (S0 : St) (q : Option AV) (op : AOp) (l : Fr) (N : Nat) (h : Hp) (v : AV) (N' : Nat) (h' : Hp) : Prop :=
  ∀ σ S, FS q σ l → SH S0 N h S → ∃ S', aop op none σ S = .v v S' ∧ SH S0 N' h' S'
section
variable {S0 : St} {q : Option AV} {l : Fr} {N : Nat} {h : Hp} {v w x y z : AV} {a b c d : Opd}
theorem AO1.mv (ha : opdL l a = some v) : AO1 S0 q (.mv a) l N h v N h := fun σ S F H => ⟨S, by show OR.v (opd a σ) S = _; rw [F.val ha], H⟩
theorem AO1.pkT (hc : opdL l c = some (.b true)) (ha : opdL l a = some v) : AO1 S0 q (.pk c a b) l N h v N h := fun σ S F H => ⟨S, by show opPk S (opd a σ) (opd b σ) (opd c σ) = _; rw [F.val hc, F.val ha]; rfl, H⟩
theorem AO1.pkF (hc : opdL l c = some (.b false)) (hb : opdL l b = some v) : AO1 S0 q (.pk c a b) l N h v N h := fun σ S F H => ⟨S, by show opPk S (opd a σ) (opd b σ) (opd c σ) = _; rw [F.val hc, F.val hb]; rfl, H⟩
theorem AO1.al {zs : List AV} : AO1 S0 q (.al zs) l N h (.p N 0) (N + 1) (h ++ [(N, .row 0 zs)]) := fun σ S F H => ⟨S.newRow 0 zs, by show OR.v (.p S.nxt 0) _ = _; rw [H.nxt], H.newRow 0 zs⟩
theorem AO1.bx (ha : opdL l a = some v) : AO1 S0 q (.bx a) l N h (.p N 0) (N + 1) (h ++ [(N, .row 0 v.cells)]) := fun σ S F H => ⟨S.newRow 0 v.cells, by show OR.v (.p S.nxt 0) (S.newRow 0 (opd a σ).cells) = _; rw [H.nxt, F.val ha], H.newRow 0 _⟩
def partsL (l : Fr) : List (Nat × Nat × Opd) → Option (List (Nat × Nat × AV))
  | [] => some []
  | p :: r => match opdL l p.2.2 with
    | some v => match partsL l r with
      | some vs => some ((p.1, p.2.1, v) :: vs)
      | none => none
    | none => none
theorem FS.parts {σ : T AV} (F : FS q σ l) : ∀ {ps : List (Nat × Nat × Opd)} {vs : List (Nat × Nat × AV)}, partsL l ps = some vs → partsOf ps σ = vs
  | [], vs, hx => by cases hx; rfl
  | p :: r, vs, hx => by
    simp only [partsL] at hx
    split at hx
    · rename_i v hv
      split at hx
      · rename_i vs' hvs
        cases hx
        show (p.1, p.2.1, Go.Ev.opd p.2.2 σ) :: partsOf r σ = _
        rw [F.val hv, F.parts hvs]
      · cases hx
    · cases hx
theorem AO1.bd {zs : List AV} {ps : List (Nat × Nat × Opd)} {vs : List (Nat × Nat × AV)} {r : List AV} (hp : partsL l ps = some vs) (hf : fill zs vs = some r) : AO1 S0 q (.bd zs ps) l N h (.ag r) N h :=
  fun σ S F H => ⟨S, by show opBd S (fill zs (partsOf ps σ)) = _; rw [F.parts hp, hf]; rfl, H⟩
theorem AO1.bs {zs : List AV} {n esz : Nat} {ps : List (Nat × Nat × Opd)} {vs : List (Nat × Nat × AV)} {r : List AV} (hp : partsL l ps = some vs) (hf : fill (zeros zs n) vs = some r) (hz : Nat.beq zs.length esz = true) :
    AO1 S0 q (.bs zs n esz ps) l N h (.sl N 0 n (some n)) (N + 1) (h ++ [(N, .row 0 r)]) :=
  fun σ S F H => ⟨S.newRow 0 r, by show opBs n esz zs.length S (fill (zeros zs n) (partsOf ps σ)) = _; rw [F.parts hp, hf]; simp only [opBs, hz]; rw [H.nxt], H.newRow 0 r⟩
theorem AO1.ld1 (j : Nat) {b o k : Nat} {L : List AV} (ha : opdL l a = some (.p b o)) (hj : hat h j = some (b, .row k L)) (hv : L[o]? = some v) : AO1 S0 q (.ld1 a) l N h v N h :=
  fun σ S F H => ⟨S, by show opLd1 S (opd a σ) = _; rw [F.val ha]; show OR.o (ldCell S b o) S = _; rw [H.ld1 hj hv]; rfl, H⟩
theorem AO1.ldn (j : Nat) {b o k n : Nat} {L vs : List AV} (ha : opdL l a = some (.p b o)) (hj : hat h j = some (b, .row k L)) (hn : Nat.ble (Nat.add o n) L.length = true) (hv : rdL L o n = some vs) : AO1 S0 q (.ldn n a) l N h (.ag vs) N h :=
  fun σ S F H => ⟨S, by show opLdn n S (opd a σ) = _; rw [F.val ha]; simp only [opLdn, H.ldn hj hn hv], H⟩
theorem AO1.st (j : Nat) {bb o k n : Nat} {L : List AV} (ha : opdL l a = some (.p bb o)) (hb : opdL l b = some v) (hn : Nat.beq v.cells.length n = true) (hj : hat h j = some (bb, .row k L)) (hk : Nat.beq k 2 = false) (hL : Nat.ble (Nat.add o v.cells.length) L.length = true) (h1 : ones v.cells = true) :
    AO1 S0 q (.st n a b) l N h .undef N (hset h (.row k (updL L o v.cells)) j) := fun σ S F H => by
  obtain ⟨S', e, H'⟩ := H.st hj hk hL h1
  refine ⟨S', ?_, H'⟩
  show opSt n S (opd b σ) (opd a σ) = _
  rw [F.val ha, F.val hb]
  simp only [opSt, hn, e]
theorem AO1.ncP {b o : Nat} (ha : opdL l a = some (.p b o)) : AO1 S0 q (.nc a) l N h (.p b o) N h := fun σ S F H => ⟨S, by show opNc S (opd a σ) = _; rw [F.val ha]; rfl, H⟩
theorem AO1.ncF {n : Nat} {as cs : List AV} (ha : opdL l a = some (.f (.func n) as cs)) : AO1 S0 q (.nc a) l N h (.f (.func n) as cs) N h := fun σ S F H => ⟨S, by show opNc S (opd a σ) = _; rw [F.val ha]; rfl, H⟩
theorem AO1.bn {op : BinOp} (ha : opdL l a = some x) (hb : opdL l b = some y) (hv : bin op x y = some v) : AO1 S0 q (.bn op a b) l N h v N h := fun σ S F H => ⟨S, by show OR.o (bin op (opd a σ) (opd b σ)) S = _; rw [F.val ha, F.val hb, hv]; rfl, H⟩
theorem AO1.eq {neg t : Bool} {tag : Nat} (ha : opdL l a = some x) (hb : opdL l b = some y) (hv : eqT tag x y = some t) : AO1 S0 q (.eq neg tag a b) l N h (.b (cond neg (not t) t)) N h :=
  fun σ S F H => ⟨S, by show opEq neg S (eqT tag (opd a σ) (opd b σ)) = _; rw [F.val ha, F.val hb, hv]; cases neg <;> rfl, H⟩
theorem AO1.eqs {neg t : Bool} {os : List (Nat × Nat)} (ha : opdL l a = some x) (hb : opdL l b = some y) (hv : eqS os x y = some t) : AO1 S0 q (.eqs neg os a b) l N h (.b (cond neg (not t) t)) N h :=
  fun σ S F H => ⟨S, by show opEq neg S (eqS os (opd a σ) (opd b σ)) = _; rw [F.val ha, F.val hb, hv]; cases neg <;> rfl, H⟩
theorem AO1.un {op : UnOp} (ha : opdL l a = some x) (hv : Go.Ev.un op x = some v) : AO1 S0 q (.un op a) l N h v N h := fun σ S F H => ⟨S, by show OR.o (Go.Ev.un op (opd a σ)) S = _; rw [F.val ha, hv]; rfl, H⟩
theorem AO1.cvi {k k' : IntKind} {n : Int} (ha : opdL l a = some (.i k' n)) : AO1 S0 q (.cvi k a) l N h (.i k (fwrap k n)) N h := fun σ S F H => ⟨S, by show opCvi k S (opd a σ) = _; rw [F.val ha]; rfl, H⟩
theorem AO1.cvs {s : List UInt8} (ha : opdL l a = some (.s s)) : AO1 S0 q (.cvs a) l N h (.s s) N h := fun σ S F H => ⟨S, by show opCvs S (opd a σ) = _; rw [F.val ha]; rfl, H⟩
theorem AO1.mf {fn : Fn} {as cs : List Opd} {xs ys : List AV} (ha : opdsL l as = some xs) (hc : opdsL l cs = some ys) : AO1 S0 q (.mf fn as cs) l N h (.f fn xs ys) N h := fun σ S F H => ⟨S, by show OR.v (.f fn (opds as σ) (opds cs σ)) S = _; rw [F.vals ha, F.vals hc], H⟩
theorem AO1.mm : AO1 S0 q .mm l N h (.m N) (N + 1) (h ++ [(N, .blk (.map [] 0))]) := fun σ S F H => ⟨S.new (.map [] 0), by show OR.v (.m S.nxt) _ = _; rw [H.nxt], H.new rfl⟩
theorem AO1.ms {zs : List AV} {bytes m n : Nat} {k k' : IntKind} (ha : opdL l a = some (.i k (.ofNat m))) (hb : opdL l b = some (.i k' (.ofNat n))) (hc : (Nat.ble m n && Nat.ble (Nat.mul n bytes) 1099511627776) = true) :
    AO1 S0 q (.ms zs bytes a b) l N h (.sl N 0 m (some n)) (N + 1) (h ++ [(N, .row 0 ((List.range (n * zs.length)).map fun j => (zs[j % zs.length]?).getD .undef))]) := fun σ S F H => by
  refine ⟨_, by show opMs zs bytes S (opd a σ) (opd b σ) = _; rw [F.val ha, F.val hb]; simp only [opMs, show and (Nat.ble m n) (Nat.ble (Nat.mul n bytes) 1099511627776) = true from hc]; rw [H.nxt], H.new ?_⟩
  refine ⟨T.tab (fun j => (zs[Nat.mod j zs.length]?).getD .undef) (Nat.mul n zs.length) (Nat.succ (Nat.mul n zs.length)) 0 1, by rw [List.length_map, List.length_range]; rfl, fun i hi => ?_⟩
  rw [List.length_map, List.length_range] at hi
  rw [T.get_tab _ _ _ _ _ _ (Nat.le_refl 1) (by omega), if_pos (by show 0 + 1 * i < n * zs.length; omega)]
  rw [List.getElem?_map, List.getElem?_range hi]
  simp only [Nat.zero_add, Nat.one_mul, Option.map_some]
  rfl
def opdOL (l : Fr) : Option Opd → Option (Option AV)
  | none => some none
  | some x => match opdL l x with
    | some v => some (some v)
    | none => none
theorem FS.valO {σ : T AV} (F : FS q σ l) {a : Option Opd} {v : Option AV} (ha : opdOL l a = some v) : opdO a σ = v := by
  cases a with
  | none => cases ha; rfl
  | some x =>
    simp only [opdOL] at ha
    split at ha
    · rename_i u hu; cases ha; show some (Go.Ev.opd x σ) = _; rw [F.val hu]
    · cases ha
theorem AO1.slC {esz bb off len cp : Nat} {lo hi mx : Option Opd} {lo' hi' mx' : Option AV} (ha : opdL l a = some (.sl bb off len (some cp))) (h1 : opdOL l lo = some lo') (h2 : opdOL l hi = some hi') (h3 : opdOL l mx = some mx') (hv : slicesC esz bb off len cp lo' hi' mx' = some v) :
    AO1 S0 q (.sl esz a lo hi mx) l N h v N h := fun σ S F H => ⟨S, by show opSl esz S (opdO lo σ) (opdO hi σ) (opdO mx σ) (opd a σ) = _; rw [F.val ha, F.valO h1, F.valO h2, F.valO h3]; simp only [opSl, hv]; rfl, H⟩
theorem AO1.slNil {esz : Nat} {lo hi mx : Option Opd} {lo' hi' mx' : Option AV} (ha : opdL l a = some .sn) (h1 : opdOL l lo = some lo') (h2 : opdOL l hi = some hi') (h3 : opdOL l mx = some mx') (hv : slicesC esz 0 0 0 0 lo' hi' mx' = some v) :
    AO1 S0 q (.sl esz a lo hi mx) l N h .sn N h := fun σ S F H => ⟨S, by show opSl esz S (opdO lo σ) (opdO hi σ) (opdO mx σ) (opd a σ) = _; rw [F.val ha, F.valO h1, F.valO h2, F.valO h3]; simp only [opSl, hv], H⟩
theorem AO1.slN (j : Nat) {esz bb off len k : Nat} {L : List AV} {lo hi : Option Opd} {lo' hi' : Option AV} (ha : opdL l a = some (.sl bb off len none)) (h1 : opdOL l lo = some lo') (h2 : opdOL l hi = some hi') (hj : hat h j = some (bb, .row k L)) {i' j' : Nat} (hb2 : bound len len hi' = some j') (hb1 : bound 0 j' lo' = some i') (hk : Nat.beq k (Nat.add 3 esz) = true) :
    AO1 S0 q (.sl esz a lo hi none) l N h (.sl bb (off + i' * esz) (j' - i') none) N h := fun σ S F H => by
  obtain ⟨c, hc, _⟩ := H.look hj
  refine ⟨S, ?_, H⟩
  show opSl esz S (opdO lo σ) (opdO hi σ) (opdO none σ) (opd a σ) = _
  rw [F.val ha, F.valO h1, F.valO h2]
  simp only [opSl, opdO, opSlN, hc, slicesN, hb2, hb1, Option.bind_some, hk]
  rfl
theorem AO1.sla {n esz bb off : Nat} {lo hi mx : Option Opd} {lo' hi' mx' : Option AV} (ha : opdL l a = some (.p bb off)) (h1 : opdOL l lo = some lo') (h2 : opdOL l hi = some hi') (h3 : opdOL l mx = some mx') (hv : slicesC esz bb off n n lo' hi' mx' = some v) :
    AO1 S0 q (.sla n esz a lo hi mx) l N h v N h := fun σ S F H => ⟨S, by show opSla n esz S (opdO lo σ) (opdO hi σ) (opdO mx σ) (opd a σ) = _; rw [F.val ha, F.valO h1, F.valO h2, F.valO h3]; simp only [opSla, hv]; rfl, H⟩
theorem AO1.fa {off b o : Nat} (ha : opdL l a = some (.p b o)) : AO1 S0 q (.fa off a) l N h (.p b (Nat.add o off)) N h := fun σ S F H => ⟨S, by show opFa off S (opd a σ) = _; rw [F.val ha]; rfl, H⟩
theorem AO1.fdA {off n : Nat} {L : List AV} (ha : opdL l a = some (.ag L)) : AO1 S0 q (.fd off n true a) l N h (.ag ((L.drop off).take n)) N h := fun σ S F H => ⟨S, by show opFd off n true S (opd a σ) = _; rw [F.val ha]; rfl, H⟩
theorem AO1.fd1 {off n : Nat} {L : List AV} (ha : opdL l a = some (.ag L)) (hv : L[off]? = some v) : AO1 S0 q (.fd off n false a) l N h v N h := fun σ S F H => ⟨S, by show opFd off n false S (opd a σ) = _; rw [F.val ha]; show OR.o L[off]? S = _; rw [hv]; rfl, H⟩
theorem AO1.iaA {n esz bb o i : Nat} {k : IntKind} (ha : opdL l a = some (.p bb o)) (hb : opdL l b = some (.i k (.ofNat i))) (hi : Nat.ble (Nat.succ i) n = true) : AO1 S0 q (.iaA n esz a b) l N h (.p bb (Nat.add o (Nat.mul i esz))) N h :=
  fun σ S F H => ⟨S, by show opIaA n esz S (opd b σ) (opd a σ) = _; rw [F.val ha, F.val hb]; simp only [opIaA, hi], H⟩
theorem AO1.iaS {esz bb o len i : Nat} {cp : Option Nat} {k : IntKind} (ha : opdL l a = some (.sl bb o len cp)) (hb : opdL l b = some (.i k (.ofNat i))) (hi : Nat.ble (Nat.succ i) len = true) : AO1 S0 q (.iaS esz a b) l N h (.p bb (Nat.add o (Nat.mul i esz))) N h :=
  fun σ S F H => ⟨S, by show opIaS esz S (opd b σ) (opd a σ) = _; rw [F.val ha, F.val hb]; simp only [opIaS, hi], H⟩
theorem AO1.ixA1 {n esz i : Nat} {L : List AV} {k : IntKind} (ha : opdL l a = some (.ag L)) (hb : opdL l b = some (.i k (.ofNat i))) (hi : Nat.ble (Nat.succ i) n = true) (hv : L[Nat.mul i esz]? = some v) : AO1 S0 q (.ixA n esz false a b) l N h v N h :=
  fun σ S F H => ⟨S, by show opIxA n esz false S (opd b σ) (opd a σ) = _; rw [F.val ha, F.val hb]; simp only [opIxA, hi, hv]; rfl, H⟩
theorem AO1.ixAA {n esz i : Nat} {L : List AV} {k : IntKind} (ha : opdL l a = some (.ag L)) (hb : opdL l b = some (.i k (.ofNat i))) (hi : Nat.ble (Nat.succ i) n = true) : AO1 S0 q (.ixA n esz true a b) l N h (.ag ((L.drop (Nat.mul i esz)).take esz)) N h :=
  fun σ S F H => ⟨S, by show opIxA n esz true S (opd b σ) (opd a σ) = _; rw [F.val ha, F.val hb]; simp only [opIxA, hi], H⟩
theorem AO1.ixS {i : Nat} {s : List UInt8} {k : IntKind} {u : UInt8} (ha : opdL l a = some (.s s)) (hb : opdL l b = some (.i k (.ofNat i))) (hv : s[i]? = some u) : AO1 S0 q (.ixS a b) l N h (.i .u8 (.ofNat u.toNat)) N h :=
  fun σ S F H => ⟨S, by show opIxS S (opd b σ) (opd a σ) = _; rw [F.val ha, F.val hb]; simp only [opIxS, hv], H⟩
theorem AO1.ex {n : Nat} {L : List AV} (ha : opdL l a = some (.tu L)) (hv : L[n]? = some v) : AO1 S0 q (.ex a n) l N h v N h := fun σ S F H => ⟨S, by show opEx n S (opd a σ) = _; rw [F.val ha]; show OR.o L[n]? S = _; rw [hv]; rfl, H⟩
theorem AO1.mi {t : TypeId} (ha : opdL l a = some v) : AO1 S0 q (.mi t a) l N h (.ifc t v) N h := fun σ S F H => ⟨S, by show OR.v (.ifc t (opd a σ)) S = _; rw [F.val ha], H⟩
/-! maps -/
theorem SH.map {S : St} (H : SH S0 N h S) {j b : Nat} {es : List (AV × AV × Nat)} {c : Nat} (e : hat h j = some (b, .blk (.map es c))) : mapOf S b = some (es, c) ∧ mapW S b = some (es, c) := by
  have : S.heap.get b = some (.map es c) := H.look e
  exact ⟨by simp only [mapOf, this], by simp only [mapW, this]⟩
theorem SH.rom {S : St} (H : SH S0 N h S) {j b : Nat} {es : List (AV × AV × Nat)} {c : Nat} (e : hat h j = some (b, .blk (.rom es c))) : mapOf S b = some (es, c) := by
  have : S.heap.get b = some (.rom es c) := H.look e
  simp only [mapOf, this]
theorem AO1.lkM (j : Nat) {tag bb c : Nat} {es : List (AV × AV × Nat)} {ok : Bool} {r : Option (Nat × AV × Nat)} (ha : opdL l a = some (.m bb)) (hb : opdL l b = some y) (hj : hat h j = some (bb, .blk (.map es c))) (hf : findKey tag y es = some r) :
    AO1 S0 q (.lk tag z ok a b) l N h (cond ok (match r with | some (_, v, _) => .tu [v, .b true] | none => .tu [z, .b false]) (match r with | some (_, v, _) => v | none => z)) N h := fun σ S F H => by
  refine ⟨S, ?_, H⟩
  show opLk tag z ok S (opd b σ) (opd a σ) = _
  rw [F.val ha, F.val hb]
  simp only [opLk, (H.map hj).1, hf]
  cases r with
  | none => cases ok <;> rfl
  | some r => obtain ⟨i, v, n⟩ := r; cases ok <;> rfl
theorem AO1.lkR (j : Nat) {tag bb c : Nat} {es : List (AV × AV × Nat)} {ok : Bool} {r : Option (Nat × AV × Nat)} (ha : opdL l a = some (.m bb)) (hb : opdL l b = some y) (hj : hat h j = some (bb, .blk (.rom es c))) (hf : findKey tag y es = some r) :
    AO1 S0 q (.lk tag z ok a b) l N h (cond ok (match r with | some (_, v, _) => .tu [v, .b true] | none => .tu [z, .b false]) (match r with | some (_, v, _) => v | none => z)) N h := fun σ S F H => by
  refine ⟨S, ?_, H⟩
  show opLk tag z ok S (opd b σ) (opd a σ) = _
  rw [F.val ha, F.val hb]
  simp only [opLk, H.rom hj, hf]
  cases r with
  | none => cases ok <;> rfl
  | some r => obtain ⟨i, v, n⟩ := r; cases ok <;> rfl
theorem AO1.muOld (j : Nat) {tag bb c i n : Nat} {es : List (AV × AV × Nat)} {u : AV} (ha : opdL l a = some (.m bb)) (hb : opdL l b = some y) (hc : opdL l d = some v) (hj : hat h j = some (bb, .blk (.map es c))) (hf : findKey tag y es = some (some (i, u, n))) :
    AO1 S0 q (.mu tag a b d) l N h .undef N (hset h (.blk (.map (setEntry es i y v) c)) j) := fun σ S F H => ⟨_, by
  show opMu tag S (opd b σ) (opd d σ) (opd a σ) = _
  rw [F.val ha, F.val hb, F.val hc]
  simp only [opMu, (H.map hj).2, hf], H.setBlk hj rfl⟩
theorem AO1.muNew (j : Nat) {tag bb c : Nat} {es : List (AV × AV × Nat)} (ha : opdL l a = some (.m bb)) (hb : opdL l b = some y) (hc : opdL l d = some v) (hj : hat h j = some (bb, .blk (.map es c))) (hf : findKey tag y es = some none) :
    AO1 S0 q (.mu tag a b d) l N h .undef N (hset h (.blk (.map (es ++ [(y, v, c)]) (c + 1))) j) := fun σ S F H => ⟨_, by
  show opMu tag S (opd b σ) (opd d σ) (opd a σ) = _
  rw [F.val ha, F.val hb, F.val hc]
  simp only [opMu, (H.map hj).2, hf], H.setBlk hj rfl⟩
theorem AO1.dlOld (j : Nat) {tag bb c i n : Nat} {es : List (AV × AV × Nat)} {u : AV} (ha : opdL l a = some (.m bb)) (hb : opdL l b = some y) (hj : hat h j = some (bb, .blk (.map es c))) (hf : findKey tag y es = some (some (i, u, n))) :
    AO1 S0 q (.bi (.delete tag) [a, b]) l N h (.tu []) N (hset h (.blk (.map (es.eraseIdx i) c)) j) := fun σ S F H => ⟨_, by
  show biDelete tag S (opd a σ) (opd b σ) = _
  rw [F.val ha, F.val hb]
  simp only [biDelete, (H.map hj).2, hf], H.setBlk hj rfl⟩
theorem AO1.dlNone (j : Nat) {tag bb c : Nat} {es : List (AV × AV × Nat)} (ha : opdL l a = some (.m bb)) (hb : opdL l b = some y) (hj : hat h j = some (bb, .blk (.map es c))) (hf : findKey tag y es = some none) :
    AO1 S0 q (.bi (.delete tag) [a, b]) l N h (.tu []) N (hset h (.blk (.map es c)) j) := fun σ S F H => ⟨_, by
  show biDelete tag S (opd a σ) (opd b σ) = _
  rw [F.val ha, F.val hb]
  simp only [biDelete, (H.map hj).2, hf], H.setBlk hj rfl⟩
theorem AO1.clr (j : Nat) {bb c : Nat} {es : List (AV × AV × Nat)} (ha : opdL l a = some (.m bb)) (hj : hat h j = some (bb, .blk (.map es c))) :
    AO1 S0 q (.bi .clear [a]) l N h (.tu []) N (hset h (.blk (.map [] c)) j) := fun σ S F H => ⟨_, by
  show biClear S (opd a σ) = _
  rw [F.val ha]
  simp only [biClear, (H.map hj).2], H.setBlk hj rfl⟩
theorem AO1.rgm (j : Nat) {bb c : Nat} {es : List (AV × AV × Nat)} (ha : opdL l a = some (.m bb)) (hj : hat h j = some (bb, .blk (.map es c))) :
    AO1 S0 q (.rgm a) l N h (.p N 0) (N + 1) (h ++ [(N, .blk (.miter (some bb) c [] c))]) := fun σ S F H => ⟨_, by
  show opRgm S (opd a σ) = _
  rw [F.val ha]
  simp only [opRgm, (H.map hj).2, H.nxt], H.new rfl⟩
/-! builtins -/
theorem AO1.lenS {s : List UInt8} (ha : opdL l a = some (.s s)) : AO1 S0 q (.bi (.len none 2) [a]) l N h (.i .i64 (.ofNat s.length)) N h := fun σ S F H => ⟨S, by
  show biLenO 2 S none (opd a σ) = _; rw [F.val ha]; rfl, H⟩
theorem AO1.lenSlc {bb o n : Nat} {cp : Option Nat} (ha : opdL l a = some (.sl bb o n cp)) : AO1 S0 q (.bi (.len none 4) [a]) l N h (.i .i64 (.ofNat n)) N h := fun σ S F H => ⟨S, by
  show biLenO 4 S none (opd a σ) = _; rw [F.val ha]; rfl, H⟩
theorem AO1.lenSn (ha : opdL l a = some .sn) : AO1 S0 q (.bi (.len none 4) [a]) l N h (.i .i64 0) N h := fun σ S F H => ⟨S, by
  show biLenO 4 S none (opd a σ) = _; rw [F.val ha]; rfl, H⟩
theorem AO1.lenA {n tag : Nat} (ha : opdL l a = some v) : AO1 S0 q (.bi (.len (some n) tag) [a]) l N h (.i .i64 (.ofNat n)) N h := fun σ S F H => ⟨S, by
  show biLenO tag S (some n) (opd a σ) = _; rfl, H⟩
theorem AO1.lenM (j : Nat) {bb c : Nat} {es : List (AV × AV × Nat)} (ha : opdL l a = some (.m bb)) (hj : hat h j = some (bb, .blk (.map es c))) : AO1 S0 q (.bi (.len none 5) [a]) l N h (.i .i64 (.ofNat es.length)) N h := fun σ S F H => ⟨S, by
  show biLenO 5 S none (opd a σ) = _
  rw [F.val ha]
  have : S.heap.get bb = some (.map es c) := H.look hj
  show biLen S (.m bb) = _
  simp only [biLen, this, biLenM]; rfl, H⟩
theorem AO1.cap {bb o n c : Nat} (ha : opdL l a = some (.sl bb o n (some c))) : AO1 S0 q (.bi .cap [a]) l N h (.i .i64 (.ofNat c)) N h := fun σ S F H => ⟨S, by
  show biCap S (opd a σ) = _; rw [F.val ha]; rfl, H⟩
theorem AO1.capSn (ha : opdL l a = some .sn) : AO1 S0 q (.bi .cap [a]) l N h (.i .i64 0) N h := fun σ S F H => ⟨S, by
  show biCap S (opd a σ) = _; rw [F.val ha]; rfl, H⟩
theorem AO1.max {as : List Opd} {vs : List AV} (ha : opdL l a = some x) (hs : opdsL l as = some vs) (hv : foldAV maxInt vs x = some v) : AO1 S0 q (.bi .max (a :: as)) l N h v N h := fun σ S F H => ⟨S, by
  show OR.o (foldAV maxInt (opds as σ) (opd a σ)) S = _; rw [F.val ha, F.vals hs, hv]; rfl, H⟩
theorem AO1.min {as : List Opd} {vs : List AV} (ha : opdL l a = some x) (hs : opdsL l as = some vs) (hv : foldAV minInt vs x = some v) : AO1 S0 q (.bi .min (a :: as)) l N h v N h := fun σ S F H => ⟨S, by
  show OR.o (foldAV minInt (opds as σ) (opd a σ)) S = _; rw [F.val ha, F.vals hs, hv]; rfl, H⟩
end
end
end Go.Ev
namespace Go.Ev
open Go
noncomputable section
section
variable {S0 : St} {q : Option AV} {l : Fr} {N : Nat} {h : Hp} {v w x y z : AV} {a b c d : Opd}
/-- what an append or a copy takes -/
def Src (S0 : St) (N : Nat) (h : Hp) (esz : Nat) (x : AV) (n : Nat) (xs : List AV) : Prop := lenOf x = some n ∧ ∀ S m, SH S0 N h S → m ≤ n → srcCells S esz m x = some (xs.take (m * esz))
theorem rdL_take : ∀ {n : Nat} {L : List AV} {o : Nat} {xs : List AV}, rdL L o n = some xs → xs.length = n ∧ ∀ m, m ≤ n → rdL L o m = some (xs.take m)
  | 0, L, o, xs, h => by
    cases h
    refine ⟨rfl, fun m hm => ?_⟩
    obtain rfl : m = 0 := Nat.le_zero.1 hm
    rfl
  | n + 1, L, o, xs, h => by
    change @Option.rec AV (fun _ => Option (List AV)) none (fun v => @Option.rec (List AV) (fun _ => Option (List AV)) none (fun r => some (v :: r)) (rdL L (Nat.succ o) n)) L[o]? = some xs at h
    cases hv : L[o]? with
    | none => rw [hv] at h; cases h
    | some u =>
      rw [hv] at h
      cases hr : rdL L (Nat.succ o) n with
      | none => rw [hr] at h; cases h
      | some r =>
        rw [hr] at h
        cases h
        obtain ⟨h1, h2⟩ := rdL_take hr
        refine ⟨by simp [h1], fun m hm => ?_⟩
        cases m with
        | zero => rfl
        | succ m =>
          show @Option.rec AV (fun _ => Option (List AV)) none (fun v => @Option.rec (List AV) (fun _ => Option (List AV)) none (fun r => some (v :: r)) (rdL L (Nat.succ o) m)) L[o]? = _
          rw [hv, h2 m (by omega)]; rfl
theorem rdL_of (L : List AV) : ∀ (n o : Nat), o + n ≤ L.length → rdL L o n = some ((L.drop o).take n)
  | 0, o, _ => by rw [List.take_zero]; rfl
  | n + 1, o, h => by
    show @Option.rec AV (fun _ => Option (List AV)) none (fun v => @Option.rec (List AV) (fun _ => Option (List AV)) none (fun r => some (v :: r)) (rdL L (Nat.succ o) n)) L[o]? = _
    rw [rdL_of L n (o + 1) (by omega), List.getElem?_eq_getElem (by omega), List.drop_eq_getElem_cons (by omega : o < L.length), List.take_succ_cons]
theorem Src.sl (j : Nat) {esz b o n k : Nat} {cp : Option Nat} {L xs : List AV} (hj : hat h j = some (b, .row k L)) (hn : Nat.ble (Nat.add o (Nat.mul n esz)) L.length = true) (hr : rdL L o (Nat.mul n esz) = some xs) : Src S0 N h esz (.sl b o n cp) n xs :=
  ⟨rfl, fun S m H hm => by
    show ldCells S b o (Nat.mul m esz) = _
    have : m * esz ≤ n * esz := Nat.mul_le_mul_right _ hm
    refine H.ldn hj (ble_of ?_) ((rdL_take hr).2 _ this)
    have := ble_true hn
    show o + m * esz ≤ L.length
    have h2 : o + n * esz ≤ L.length := this
    omega⟩
theorem Src.sn {esz : Nat} : Src S0 N h esz .sn 0 [] := ⟨rfl, fun S m H hm => by simp [srcCells]⟩
theorem Src.full {esz : Nat} {n : Nat} {xs : List AV} {S : St} (H : SH S0 N h S) (hs : Src S0 N h esz x n xs) (hl : xs.length = n * esz) : srcCells S esz n x = some xs := by
  rw [hs.2 S n H (Nat.le_refl _), ← hl, List.take_length]
theorem biAppend_eq {S : St} {esz bytes n ls : Nat} {zs : List AV} {s x : AV} {xs : List AV} (h1 : lenOf x = some n) (h2 : srcCells S esz n x = some xs) (h3 : lenSl s = some ls) (h4 : (ones xs && Nat.ble (Nat.mul (Nat.add ls n) bytes) 1099511627776) = true) : biAppend S esz bytes false zs s x = appendTo S esz s n xs := by
  simp only [biAppend, h1, h2, appChk, h3, show and (ones xs) (Nat.ble (Nat.mul (Nat.add ls n) bytes) 1099511627776) = true from h4]
theorem AO1.app0 {esz bytes ls : Nat} {zs : List AV} (ha : opdL l a = some v) (hb : opdL l b = some x) (hs : Src S0 N h esz x 0 []) (hl : lenSl v = some ls) (hc : Nat.ble (Nat.mul (Nat.add ls 0) bytes) 1099511627776 = true) :
    AO1 S0 q (.bi (.append esz bytes false zs) [a, b]) l N h v N h := fun σ S F H => ⟨S, by
  show biAppend S esz bytes false zs (opd a σ) (opd b σ) = _
  rw [F.val ha, F.val hb, biAppend_eq hs.1 (hs.full H (by simp)) hl (by rw [hc]; rfl)]; rfl, H⟩
theorem AO1.appSn {esz bytes n : Nat} {zs xs : List AV} (ha : opdL l a = some .sn) (hb : opdL l b = some x) (hs : Src S0 N h esz x (n + 1) xs) (hl : xs.length = (n + 1) * esz) (hc : (ones xs && Nat.ble (Nat.mul (Nat.add 0 (n + 1)) bytes) 1099511627776) = true) :
    AO1 S0 q (.bi (.append esz bytes false zs) [a, b]) l N h (.sl N 0 (n + 1) none) (N + 1) (h ++ [(N, .row (3 + esz) xs)]) := fun σ S F H => ⟨S.newRow (Nat.add 3 esz) xs, by
  show biAppend S esz bytes false zs (opd a σ) (opd b σ) = _
  rw [F.val ha, F.val hb, biAppend_eq hs.1 (hs.full H hl) rfl hc]
  show OR.v (.sl S.nxt 0 (n + 1) none) _ = _
  rw [H.nxt], H.newRow _ _⟩
/-- there is room -/
theorem AO1.appFit (j : Nat) {esz bytes n bb off len cp k : Nat} {zs xs L : List AV} (ha : opdL l a = some (.sl bb off len (some cp))) (hb : opdL l b = some x) (hs : Src S0 N h esz x (n + 1) xs) (hl : xs.length = (n + 1) * esz) (hc : (ones xs && Nat.ble (Nat.mul (Nat.add len (n + 1)) bytes) 1099511627776) = true)
    (hf : Nat.ble (Nat.add len (n + 1)) cp = true) (hj : hat h j = some (bb, .row k L)) (hk : Nat.beq k 2 = false) (hL : Nat.ble (Nat.add (Nat.add off (Nat.mul len esz)) xs.length) L.length = true) :
    AO1 S0 q (.bi (.append esz bytes false zs) [a, b]) l N h (.sl bb off (len + (n + 1)) (some cp)) N (hset h (.row k (updL L (off + len * esz) xs)) j) := fun σ S F H => by
  obtain ⟨S', e, H'⟩ := H.st hj hk hL (by rw [Bool.and_eq_true] at hc; exact hc.1)
  refine ⟨S', ?_, H'⟩
  show biAppend S esz bytes false zs (opd a σ) (opd b σ) = _
  rw [F.val ha, F.val hb, biAppend_eq hs.1 (hs.full H hl) rfl hc]
  show appFix S esz bb off len cp (n + 1) xs = _
  simp only [appFix, hf, e]; rfl
/-- there is no room -/
theorem AO1.appOver (j : Nat) {esz bytes n bb off len cp k : Nat} {zs xs L old : List AV} (ha : opdL l a = some (.sl bb off len (some cp))) (hb : opdL l b = some x) (hs : Src S0 N h esz x (n + 1) xs) (hl : xs.length = (n + 1) * esz) (hc : (ones xs && Nat.ble (Nat.mul (Nat.add len (n + 1)) bytes) 1099511627776) = true)
    (hf : Nat.ble (Nat.add len (n + 1)) cp = false) (hj : hat h j = some (bb, .row k L)) (hL : Nat.ble (Nat.add off (Nat.mul len esz)) L.length = true) (ho : rdL L off (Nat.mul len esz) = some old) :
    AO1 S0 q (.bi (.append esz bytes false zs) [a, b]) l N h (.sl N 0 (len + (n + 1)) none) (N + 1) (h ++ [(N, .row (3 + esz) (old ++ xs))]) := fun σ S F H => ⟨S.newRow (Nat.add 3 esz) (old ++ xs), by
  show biAppend S esz bytes false zs (opd a σ) (opd b σ) = _
  rw [F.val ha, F.val hb, biAppend_eq hs.1 (hs.full H hl) rfl hc]
  show appFix S esz bb off len cp (n + 1) xs = _
  simp only [appFix, hf, H.ldn hj hL ho, H.nxt]; rfl, H.newRow _ _⟩
/-- a slice that an append has made -/
theorem AO1.appGrow (j : Nat) {esz bytes n bb len : Nat} {zs xs L : List AV} (ha : opdL l a = some (.sl bb 0 len none)) (hb : opdL l b = some x) (hs : Src S0 N h esz x (n + 1) xs) (hl : xs.length = (n + 1) * esz) (hc : (ones xs && Nat.ble (Nat.mul (Nat.add len (n + 1)) bytes) 1099511627776) = true)
    (hj : hat h j = some (bb, .row (3 + esz) L)) (hL : Nat.ble (Nat.mul len esz) L.length = true) :
    AO1 S0 q (.bi (.append esz bytes false zs) [a, b]) l N h (.sl N 0 (len + (n + 1)) none) (N + 1) (hset h .gone j ++ [(N, .row (3 + esz) (L.take (len * esz) ++ xs))]) := fun σ S F H => by
  obtain ⟨c, hcc, hg⟩ := H.look hj
  have hL' : len * esz ≤ L.length := ble_true hL
  refine ⟨(S.delBlk bb).new (.row (Nat.add 3 esz) (setCells xs c (Nat.mul len esz)) (Nat.add (Nat.mul len esz) xs.length)), ?_, (H.delBlk hj).new ⟨setCells xs c (Nat.mul len esz), ?_, fun i hi => ?_⟩⟩
  · show biAppend S esz bytes false zs (opd a σ) (opd b σ) = _
    rw [F.val ha, F.val hb, biAppend_eq hs.1 (hs.full H hl) rfl hc]
    show (match S.heap.get bb with | some x => appRow S esz bb 0 len (Nat.succ n) xs x | none => OR.er "append: no block") = _
    rw [hcc]
    show appRow S esz bb 0 len (n + 1) xs (.row (3 + esz) c L.length) = _
    have hb3 : Nat.beq (3 + esz) (Nat.add 3 esz) = true := Nat.beq_refl _
    simp only [appRow, hb3, Go.Ev.appGrow, hL]
    show OR.v (.sl S.nxt 0 (len + (n + 1)) none) _ = _
    rw [H.nxt]
  · rw [List.length_append, List.length_take, Nat.min_eq_left hL']; rfl
  · rw [List.length_append, List.length_take, Nat.min_eq_left hL'] at hi
    rw [get_setCells]
    by_cases h1 : i < len * esz
    · rw [if_neg (by show ¬ (len * esz ≤ i ∧ _); omega), List.getElem?_append_left (by rw [List.length_take]; omega), List.getElem?_take_of_lt h1]
      exact hg i (by omega)
    · rw [if_pos (by show len * esz ≤ i ∧ i < len * esz + _; omega), List.getElem?_append_right (by rw [List.length_take]; omega), List.length_take, Nat.min_eq_left hL']; rfl
theorem AO1.cpy (j : Nat) {esz bb off len n k m : Nat} {cp : Option Nat} {xs L : List AV} (ha : opdL l a = some (.sl bb off len cp)) (hb : opdL l b = some x) (hs : Src S0 N h esz x n xs) (hm : Nat.min n len = m) (hl : (xs.take (m * esz)).length = m * esz) (h1 : ones (xs.take (m * esz)) = true) (hp : 0 < m * esz)
    (hj : hat h j = some (bb, .row k L)) (hk : Nat.beq k 2 = false) (hL : Nat.ble (Nat.add off (xs.take (m * esz)).length) L.length = true) :
    AO1 S0 q (.bi (.copy esz) [a, b]) l N h (.i .i64 (.ofNat m)) N (hset h (.row k (updL L off (xs.take (m * esz)))) j) := fun σ S F H => by
  obtain ⟨S', e, H'⟩ := H.st hj hk hL h1
  refine ⟨S', ?_, H'⟩
  show biCopy S esz (opd a σ) (opd b σ) = _
  rw [F.val ha, F.val hb]
  have := hs.2 S m H (by rw [← hm]; exact Nat.min_le_left _ _)
  simp only [biCopy, lenSl, hs.1, hm, this]
  cases e2 : xs.take (m * esz) with
  | nil => rw [e2] at hl; simp at hl; omega
  | cons u us => rw [e2] at e; simp only [biCopyTo, e]; rfl
theorem AO1.cpy0 {esz n ls : Nat} {xs : List AV} (ha : opdL l a = some v) (hb : opdL l b = some x) (hs : Src S0 N h esz x n xs) (hl : lenSl v = some ls) (hm : Nat.min n ls = 0) :
    AO1 S0 q (.bi (.copy esz) [a, b]) l N h (.i .i64 0) N h := fun σ S F H => by
  refine ⟨S, ?_, H⟩
  show biCopy S esz (opd a σ) (opd b σ) = _
  rw [F.val ha, F.val hb]
  have := hs.2 S 0 H (Nat.zero_le _)
  simp only [Nat.zero_mul, List.take_zero] at this
  simp only [biCopy, hl, hs.1, hm, this]
  cases v <;> rfl
end
end
end Go.Ev
namespace Go.Ev
open Go
noncomputable section
/-! regions whose order is open, an evaluator a stage -/
def drwKs (base : Nat) (l : List Stg) : (Nat → Ev) → T AV → St → R :=
  @List.rec Stg (fun _ => (Nat → Ev) → T AV → St → R) (fun _ σ S => .c .nrm σ S)
    (fun s _ ih es => dssK base s.pr (dssK base s.ns (fun σ S => stgW (es 0) s.w σ S (ih fun i => es (i + 1))))) l
section
variable {P : Program} {ops : Array Oper} {x : X} {σ' : T AV} {S' : St}
theorem stgs_okE {base : Nat} : ∀ (si : List SStg) (es : Nat → Ev) (_ : ∀ i, EvOk P (es i)) (σ : T AV) (S : St), (∀ p ∈ flat si, p.1 < ops.size) → drwKs base (si.map (toStg ops (ops.toList.map (cOper P ops)))) es σ S = .c x σ' S' →
    x = .nrm ∧ ∃ tr, StgsOk P ops base si tr ∧ Chain P ops (allE tr) σ S σ' S'
  | [], es, he, σ, S, _, h => by cases h; exact ⟨rfl, [], trivial, rfl, rfl⟩
  | s :: si, es, he, σ, S, hl, h => by
    change dssK base (s.pr.map (toDS ops (ops.toList.map (cOper P ops)))) (dssK base (s.ns.map (fun i => toDS ops (ops.toList.map (cOper P ops)) (i, false))) (fun σ S => stgW (es 0) (match s.w with | some w => (ops.toList.map (cOper P ops))[w]? | none => none) σ S (drwKs base (si.map (toStg ops (ops.toList.map (cOper P ops)))) fun i => es (i + 1)))) σ S = _ at h
    have hmem : ∀ p ∈ flatS s, p.1 < ops.size := fun p hp => hl p (by simp only [flat]; exact List.mem_append_left _ hp)
    have hrest : ∀ p ∈ flat si, p.1 < ops.size := fun p hp => hl p (by simp only [flat]; exact List.mem_append_right _ hp)
    obtain ⟨es1, σ1, S1, a1, a2, a3, h⟩ := items_ok s.pr σ S (fun p hp => hmem p (by simp only [flatS]; exact List.mem_append_left _ hp)) h
    have hns : s.ns.map (fun i => toDS ops (ops.toList.map (cOper P ops)) (i, false)) = (s.ns.map fun i => (i, false)).map (toDS ops (ops.toList.map (cOper P ops))) := by rw [List.map_map]; rfl
    rw [hns] at h
    obtain ⟨es2, σ2, S2, b1, b2, b3, h⟩ := items_ok (s.ns.map fun i => (i, false)) σ1 S1 (fun p hp => hmem p (by simp only [flatS]; exact List.mem_append_right _ (List.mem_append_left _ hp))) h
    cases hw : s.w with
    | none =>
      rw [hw] at h
      change drwKs base (si.map (toStg ops (ops.toList.map (cOper P ops)))) (fun i => es (i + 1)) σ2 S2 = _ at h
      obtain ⟨rfl, tr, c1, c2⟩ := stgs_okE si (fun i => es (i + 1)) (fun i => he (i + 1)) σ2 S2 hrest h
      refine ⟨rfl, ⟨es1, es2, []⟩ :: tr, ⟨⟨S, a1, b1, by rw [hw]; rfl, a3, b3, fun _ h => by cases h⟩, c1⟩, ?_⟩
      simp only [allE, StgTr.all, List.append_nil]
      exact (a2.append b2).append c2
    | some wi =>
      rw [hw] at h
      have hwi : wi < ops.size := hmem (wi, false) (by simp [flatS, hw])
      simp only [aos_lt hwi] at h
      change opK (es 0) σ2 S2 _ (aoAt P ops wi) = _ at h
      obtain ⟨y, S3, h, hg⟩ := opK_ok2 (he 0) h
      obtain ⟨rfl, tr, c1, c2⟩ := stgs_okE si (fun i => es (i + 1)) (fun i => he (i + 1)) _ S3 hrest h
      refine ⟨rfl, ⟨es1, es2, [⟨wi, false, σ2, S2, S3, y⟩]⟩ :: tr, ⟨⟨S, a1, b1, by rw [hw]; rfl, a3, b3, fun e' h' => by
        rw [List.mem_singleton] at h'; subst h'; exact hg⟩, c1⟩, ?_⟩
      simp only [allE, StgTr.all]
      exact (a2.append (b2.append (show Chain P ops [⟨wi, false, σ2, S2, S3, y⟩] σ2 S2 _ S3 from ⟨rfl, rfl, rfl, rfl⟩))).append c2
end
theorem code_drwE {P : Program} {es : Nat → Ev} (hm : P.follows .mixedOrders = true) (he : ∀ i, EvOk P (es i)) {k : Nat} {sts : List Stg} {σ : T AV} {S : St} {x : X} {σ' : T AV} {S' : St} (h : drwKs S.nxt sts es σ ⟨S.heap, Nat.add S.nxt k, S.drw⟩ = .c x σ' S') : GCode P (.drw k sts) σ S (isC x σ' S') := by
  intro code N r w0 K ι a w hc hw hI
  obtain ⟨id, ops, rfl, hok, hsts, hk⟩ := inv_drw hc
  subst hsts
  have hs := okSch_ok hok
  obtain ⟨rfl, tr, htr, hch⟩ := stgs_okE (P := P) _ es he σ _ hs.idx h
  have hgood : ∀ t ∈ tr, StgGood P ops S.nxt t := fun t ht => by
    obtain ⟨m, hlt, rfl⟩ := List.getElem_of_mem ht
    obtain ⟨s, X, g1, g2⟩ := (stgs_get htr).2 m _ (List.getElem?_eq_getElem hlt)
    exact stg_good hs g1 g2
  obtain ⟨H, hH0, hH⟩ := stage_states tr σ σ' _ S' hgood hch
  have ctx : Ctx P ops σ σ' S.nxt (schedule ops (ops.toList.map (cOper P ops)) (masksFrom ops.toList [])) tr H ⟨S.heap, Nat.add S.nxt k, S.drw⟩ S' := ⟨hs, htr, hch, hH0, hH⟩
  have hlen := ctx.len
  have hne : tr.length ≠ 0 := fun q => hs.ne (List.length_eq_zero_iff.1 (by omega))
  -- the code's own wf
  have hwf : ∀ i, i < ops.size → aoWf N (aoAt P ops i) = true := fun i hi => by
    obtain ⟨e, he, rfl, hck, _, _⟩ := ctx.ent hi
    have hm := ents_mem he
    rw [ents_all htr] at hm
    obtain ⟨s, hs1, hs2⟩ := mem_flat_inv hm
    simp only [wf, List.all_eq_true] at hw
    exact stgWf_all hi (hw _ (List.mem_map.2 ⟨s, hs1, rfl⟩)) hs2
  have hdst : ∀ i, i < ops.size → ∀ d, (aoAt P ops i).dst = some d → d < dslot := fun i hi d hd => by
    have := hwf i hi
    simp only [aoWf, Bool.and_eq_true] at this
    exact dst_ne this.1 d hd
  have hkk : ∀ i, i < ops.size → layAt ops i = true → i < k := fun i hi hl => by
    rw [hk, if_pos]
    · exact hi
    · rw [Array.any_eq_true]
      refine ⟨i, hi, ?_⟩
      unfold layAt at hl
      rw [Array.getElem?_eq_getElem hi] at hl
      exact hl
  have hD := ctx.ok rfl hdst k hkk
  generalize hDe : drawOf P ops σ σ' S.nxt (schedule ops (ops.toList.map (cOper P ops)) (masksFrom ops.toList [])) tr H = D at hD
  -- the last state
  have hM : D.M = tr.length - 1 := by rw [← hDe, hlen]; rfl
  have hlt : tr.length - 1 < tr.length := by omega
  have ht : tr[tr.length - 1]? = some tr[tr.length - 1] := List.getElem?_eq_getElem hlt
  have hpre : D.pre D.M = S' := by
    rw [hM, ctx.pre hDe.symm ht]
    obtain ⟨s, X, g1, g2⟩ := (stgs_get htr).2 _ _ ht
    refine ((hH _ _ ht).2.2 (by omega) ?_).symm
    have hst := hs.stg _ _ g1
    simp only [okStg, Bool.and_eq_true, beq_iff_eq] at hst
    have h3 := hst.2.2
    have hb : Nat.blt (tr.length - 1 + 1) (schedule ops (ops.toList.map (cOper P ops)) (masksFrom ops.toList [])).length = false := by
      rw [← hlen]
      cases q : Nat.blt (tr.length - 1 + 1) tr.length with
      | false => rfl
      | true => have := blt_true q; omega
    rw [hb] at h3
    have hwn : s.w = none := by
      cases q : s.w with
      | none => rfl
      | some _ => rw [q] at h3; cases h3
    have := g2.w
    rw [hwn] at this
    simpa [ents] using this
  refine wpIn_region_any hm ?_
  have hS0 := (hI.sim.reserve k).drew
  have hH0' : D.H 0 = ⟨S.heap, S.nxt + k, S.drw⟩ := by rw [← hDe]; exact hH0
  refine draw_any (w0 := w0) (K := K) (ι0 := ι) hD hwf (fun β hβ => (hI.sim.res β hβ).2) (fun ι' a' w' hle hI' => ?_) ops.size _ a _ 0 ι σ ⟨K.get, fun β => K.res β ∨ (S.nxt ≤ β ∧ β < S.nxt + k), K.lo⟩ ?_ (cntF_le _ _)
  · rw [hpre] at hI'
    exact ⟨.nrm, σ', S', ι', ⟨rfl, rfl, rfl⟩, rfl, hle, hI'⟩
  · refine ⟨by simp, fun i o _ hd => (by rw [dn_rep] at hd; cases hd), Nat.zero_le _, fun k' hk' => ⟨fun q => (by rw [dn_rep] at q; cases q), fun q => absurd q (Nat.not_lt_zero _)⟩, Im.le.refl _, fun d => .inl ⟨rfl, fun i _ _ => dn_rep⟩, rfl, rfl, ?_, ?_⟩
    · rw [hH0']; exact ⟨hS0, hI.fr, hI.df, hI.rr⟩
    · refine ⟨fun _ _ q => q, fun _ q => .inl q, rfl, fun i hi hk' _ => ?_, fun i _ _ q => (by rw [dn_rep] at q; cases q), fun i j l l' _ _ _ _ _ q => (by rw [dn_rep] at q; cases q)⟩
      obtain ⟨_, _, _, _, b1, b2, _⟩ := hD.n i ops[i] (Array.getElem?_eq_getElem hi) hk'
      exact .inr ⟨b1, b2⟩
end
end Go.Ev
namespace Go.Ev
open Go
noncomputable section
/-! a region whose order is open, as a relation -/
def DsR (base : Nat) : List DS → T AV → St → (T AV → St → Prop) → Prop
  | [], σ, S, k => k σ S
  | .op o :: r, σ, S, k => if wanted o.guard σ then ∃ y S', aop o.op none σ S = .v y S' ∧ DsR base r (putDst o.dst y σ) S' k else DsR base r (putDst o.dst .undef σ) S k
  | .ck o :: r, σ, S, k => if wanted o.guard σ then ∃ y S', aop o.op none σ S = .v y S' ∧ (∀ d, o.dst = some d → eqA y (getU σ d) = true) ∧ DsR base r σ S' k else DsR base r σ S k
  | .al i o :: r, σ, S, k => if wanted o.guard σ then ∃ y l, nOp (Nat.add base i) σ o.op = some (y, l) ∧ DsR base r (putDst o.dst y σ) ⟨S.heap.set (Nat.add base i) (.row 0 (T.ofList l) l.length), S.nxt, S.drw⟩ k else DsR base r (putDst o.dst .undef σ) S k
def isCall : AOp → Bool
  | .call _ _ => true
  | .df _ _ => true
  | _ => false
def OpR (P : Program) (o : AO) (σ : T AV) (S : St) (k : T AV → St → Prop) : Prop :=
  if wanted o.guard σ then (isCall o.op = false ∧ ∃ y S', aop o.op none σ S = .v y S' ∧ k (putDst o.dst y σ) S') ∨
    (∃ f args g as, o.op = .call f args ∧ opCall S (opds args σ) (opd f σ) = .enter g as S ∧ ∃ y S', GCall P g as S (isV y S') ∧ k (putDst o.dst y σ) S')
  else k (putDst o.dst .undef σ) S
def DrwR (P : Program) (base : Nat) : List Stg → T AV → St → (T AV → St → Prop) → Prop
  | [], σ, S, k => k σ S
  | s :: r, σ, S, k => DsR base s.pr σ S fun σ S => DsR base s.ns σ S fun σ S => match s.w with
    | none => DrwR P base r σ S k
    | some o => OpR P o σ S fun σ S => DrwR P base r σ S k
section
variable {P : Program} {base : Nat} {σ σ' : T AV} {S S' : St} {k : T AV → St → Prop}
/-- an evaluator that knows one call -/
def ev1 (g : Nat) (as : List AV) (S : St) (y : AV) (S' : St) : Ev := fun t T => @ite R (t = .call g as ∧ T = S) (Classical.propDecidable _) (.v y S') (.er "")
theorem ev1_ok {g : Nat} {as : List AV} {y : AV} (h : GCall P g as S (isV y S')) : EvOk P (ev1 g as S y S') := fun t T => by
  unfold ev1
  split
  · rename_i e
    obtain ⟨rfl, rfl⟩ := e
    intro y2 S2 e
    cases e; exact h
  · cases t <;> (intro x; intros; rename_i h; cases h)
def evN : Ev := fun _ _ => .er ""
theorem evN_ok : EvOk P evN := fun t T => by cases t <;> (intro x; intros; rename_i h; cases h)
theorem drwR_run : ∀ {l : List Stg} {σ : T AV} {S : St}, DrwR P base l σ S k → ∃ es : Nat → Ev, (∀ i, EvOk P (es i)) ∧ ∃ σ' S', drwKs base l es σ S = .c .nrm σ' S' ∧ k σ' S' := by
  intro l
  induction l with
  | nil => intro σ S h; exact ⟨fun _ => evN, fun _ => evN_ok, σ, S, rfl, h⟩
  | cons s r ih =>
    intro σ S h
    simp only [DrwR] at h
    -- the states behind the values of this stage, and the evaluators
    have key : ∀ {l : List DS} {σ : T AV} {S : St} {k : T AV → St → Prop}, DsR base l σ S k → ∃ σ1 S1, k σ1 S1 ∧ ∀ R : T AV → St → R, dssK base l R σ S = R σ1 S1 := by
      intro l
      induction l with
      | nil => intro σ S k h; exact ⟨σ, S, h, fun R => rfl⟩
      | cons d l ihl =>
        intro σ S k h
        cases d with
        | op o =>
          simp only [DsR] at h
          cases hw : wanted o.guard σ with
          | false =>
            rw [hw] at h
            obtain ⟨σ1, S1, h1, h2⟩ := ihl h
            exact ⟨σ1, S1, h1, fun R => by
              change (@Bool.rec (fun _ => Go.Ev.R) (dssK base l R (putDst o.dst .undef σ) S) (contV (aop o.op none σ S) o.dst σ (dssK base l R)) (wanted o.guard σ)) = _
              rw [hw]; exact h2 R⟩
          | true =>
            rw [hw, if_pos rfl] at h
            obtain ⟨y, S2, e, h⟩ := h
            obtain ⟨σ1, S1, h1, h2⟩ := ihl h
            exact ⟨σ1, S1, h1, fun R => by
              change (@Bool.rec (fun _ => Go.Ev.R) (dssK base l R (putDst o.dst .undef σ) S) (contV (aop o.op none σ S) o.dst σ (dssK base l R)) (wanted o.guard σ)) = _
              rw [hw, e]; exact h2 R⟩
        | ck o =>
          simp only [DsR] at h
          cases hw : wanted o.guard σ with
          | false =>
            rw [hw] at h
            obtain ⟨σ1, S1, h1, h2⟩ := ihl h
            exact ⟨σ1, S1, h1, fun R => by
              change (@Bool.rec (fun _ => Go.Ev.R) (dssK base l R σ S) (ckK o.dst σ S (dssK base l R) (aop o.op none σ S)) (wanted o.guard σ)) = _
              rw [hw]; exact h2 R⟩
          | true =>
            rw [hw, if_pos rfl] at h
            obtain ⟨y, S2, e, he, h⟩ := h
            obtain ⟨σ1, S1, h1, h2⟩ := ihl h
            exact ⟨σ1, S1, h1, fun R => by
              change (@Bool.rec (fun _ => Go.Ev.R) (dssK base l R σ S) (ckK o.dst σ S (dssK base l R) (aop o.op none σ S)) (wanted o.guard σ)) = _
              rw [hw, e]
              show ckK o.dst σ S (dssK base l R) (.v y S2) = _
              cases hd : o.dst with
              | none => exact h2 R
              | some d => simp only [ckK, he d hd]; exact h2 R⟩
        | al i o =>
          simp only [DsR] at h
          cases hw : wanted o.guard σ with
          | false =>
            rw [hw] at h
            obtain ⟨σ1, S1, h1, h2⟩ := ihl h
            exact ⟨σ1, S1, h1, fun R => by
              change (@Bool.rec (fun _ => Go.Ev.R) (dssK base l R (putDst o.dst .undef σ) S) (alK (Nat.add base i) o.dst σ S (dssK base l R) (nOp (Nat.add base i) σ o.op)) (wanted o.guard σ)) = _
              rw [hw]; exact h2 R⟩
          | true =>
            rw [hw, if_pos rfl] at h
            obtain ⟨y, L, e, h⟩ := h
            obtain ⟨σ1, S1, h1, h2⟩ := ihl h
            exact ⟨σ1, S1, h1, fun R => by
              change (@Bool.rec (fun _ => Go.Ev.R) (dssK base l R (putDst o.dst .undef σ) S) (alK (Nat.add base i) o.dst σ S (dssK base l R) (nOp (Nat.add base i) σ o.op)) (wanted o.guard σ)) = _
              rw [hw, e]; exact h2 R⟩
    obtain ⟨σ1, S1, h, e1⟩ := key h
    obtain ⟨σ2, S2, h, e2⟩ := key h
    have hdr : ∀ es, drwKs base (s :: r) es σ S = stgW (es 0) s.w σ2 S2 (drwKs base r fun i => es (i + 1)) := fun es => by
      show dssK base s.pr (dssK base s.ns (fun σ S => stgW (es 0) s.w σ S (drwKs base r fun i => es (i + 1)))) σ S = _
      rw [e1, e2]
    cases hw : s.w with
    | none =>
      rw [hw] at h
      obtain ⟨es, hes, σ', S', g1, g2⟩ := ih h
      exact ⟨fun i => match i with | 0 => evN | i + 1 => es i, fun i => by cases i with | zero => exact evN_ok | succ i => exact hes i, σ', S', by rw [hdr, hw]; exact g1, g2⟩
    | some o =>
      rw [hw] at h
      simp only [OpR] at h
      cases hg : wanted o.guard σ2 with
      | false =>
        rw [hg] at h
        obtain ⟨es, hes, σ', S', g1, g2⟩ := ih h
        exact ⟨fun i => match i with | 0 => evN | i + 1 => es i, fun i => by cases i with | zero => exact evN_ok | succ i => exact hes i, σ', S', by
          rw [hdr, hw]
          show (@Bool.rec (fun _ => Go.Ev.R) _ _ (wanted o.guard σ2)) = _
          rw [hg]; exact g1, g2⟩
      | true =>
        rw [hg, if_pos rfl] at h
        rcases h with ⟨hc, y, S3, e, h⟩ | ⟨f, args, g, as, ho, hoc, y, S3, hcall, h⟩
        · obtain ⟨es, hes, σ', S', g1, g2⟩ := ih h
          refine ⟨fun i => match i with | 0 => evN | i + 1 => es i, fun i => by cases i with | zero => exact evN_ok | succ i => exact hes i, σ', S', ?_, g2⟩
          rw [hdr, hw]
          show (@Bool.rec (fun _ => Go.Ev.R) _ (runOp evN o.dst σ2 S2 (drwKs base r es) o.op) (wanted o.guard σ2)) = _
          rw [hg]
          show runOp evN o.dst σ2 S2 (drwKs base r es) o.op = _
          have : runOp evN o.dst σ2 S2 (drwKs base r es) o.op = contV (aop o.op none σ2 S2) o.dst σ2 (drwKs base r es) := by
            generalize o.op = op at hc
            cases op <;> first | rfl | cases hc
          rw [this, e]; exact g1
        · obtain ⟨es, hes, σ', S', g1, g2⟩ := ih h
          refine ⟨fun i => match i with | 0 => ev1 g as S2 y S3 | i + 1 => es i, fun i => by cases i with | zero => exact ev1_ok hcall | succ i => exact hes i, σ', S', ?_, g2⟩
          rw [hdr, hw]
          show (@Bool.rec (fun _ => Go.Ev.R) _ (runOp (ev1 g as S2 y S3) o.dst σ2 S2 (drwKs base r es) o.op) (wanted o.guard σ2)) = _
          rw [hg, ho]
          show contO (opCall S2 (opds args σ2) (opd f σ2)) (ev1 g as S2 y S3) o.dst σ2 (drwKs base r es) = _
          rw [hoc]
          show contR (ev1 g as S2 y S3 (.call g as) S2) o.dst σ2 (drwKs base r es) = _
          have : ev1 g as S2 y S3 (.call g as) S2 = .v y S3 := if_pos ⟨rfl, rfl⟩
          rw [this]; exact g1
theorem GCode.drw (hm : P.follows .mixedOrders = true) {n : Nat} {l : List Stg} (h : DrwR P S.nxt l σ ⟨S.heap, Nat.add S.nxt n, S.drw⟩ k) : GCode P (.drw n l) σ S (fun x σ' S' => x = .nrm ∧ k σ' S') := by
  obtain ⟨es, hes, σ', S', g1, g2⟩ := drwR_run h
  exact (code_drwE hm hes g1).mono fun x τ T hh => by obtain ⟨rfl, rfl, rfl⟩ := hh; exact ⟨rfl, g2⟩
end
end
end Go.Ev
namespace Go.Ev
open Go
noncomputable section
theorem FS.got {q : Option AV} {σ : T AV} {l : Fr} (F : FS q σ l) {n : Nat} {v : AV} (h : lk l n = some v) (hv : v ≠ .undef) : σ.get n = some v := by
  have := F.get n v h
  unfold getU at this
  cases e : σ.get n with
  | none => rw [e] at this; exact absurd this.symm hv
  | some u => rw [e] at this; exact congrArg some this
theorem FS.wantT {q : Option AV} {σ : T AV} {l : Fr} (F : FS q σ l) {g : Nat} {t w : Bool} (h : lk l g = some (.b t)) (e : t = w) : wanted (some (g, w)) σ = true := by
  show @Option.rec AV (fun _ => Bool) false (isB w) (σ.get g) = true
  rw [F.got h (by intro q; cases q)]
  subst e
  show (t == t) = true
  simp
theorem FS.wantF {q : Option AV} {σ : T AV} {l : Fr} (F : FS q σ l) {g : Nat} {t w : Bool} (h : lk l g = some (.b t)) (e : t = !w) : wanted (some (g, w)) σ = false := by
  show @Option.rec AV (fun _ => Bool) false (isB w) (σ.get g) = false
  rw [F.got h (by intro q; cases q)]
  subst e
  show ((!w) == w) = false
  cases w <;> rfl
theorem FS.wantU {q : Option AV} {σ : T AV} {l : Fr} (F : FS q σ l) {g : Nat} {w : Bool} (h : lk l g = some .undef) : wanted (some (g, w)) σ = false := by
  have e := F.get g _ h
  unfold getU at e
  show @Option.rec AV (fun _ => Bool) false (isB w) (σ.get g) = false
  cases e2 : σ.get g with
  | none => rfl
  | some u => rw [e2] at e; have : u = .undef := e; subst this; rfl
/-! operations one after the other -/
abbrev Pst := Fr → Nat → Hp → Prop
def En (S0 : St) (q : Option AV) (Ψ : Pst) (σ' : T AV) (S' : St) : Prop := ∃ l' N' h', FS q σ' l' ∧ SH S0 N' h' S' ∧ Ψ l' N' h'
def JO (P : Program) (S0 : St) (q : Option AV) (ops : List AO) (l : Fr) (N : Nat) (h : Hp) (Ψ : Pst) : Prop :=
  ∀ σ S, FS q σ l → SH S0 N h S → GOps P ops σ S (En S0 q Ψ)
section
variable {P : Program} {S0 : St} {q : Option AV} {l : Fr} {N N' : Nat} {h h' : Hp} {Ψ : Pst} {d : Nat} {op : AOp} {v : AV} {ops : List AO}
theorem JO.nil (H : Ψ l N h) : JO P S0 q [] l N h Ψ := fun σ S F G => ⟨l, N, h, F, G, H⟩
theorem JO.step (A : AO1 S0 q op l N h v N' h') (hd : Nat.beq d rslot = false) (nx : JO P S0 q ops ((d, v) :: l) N' h' Ψ) : JO P S0 q (⟨some d, op, none⟩ :: ops) l N h Ψ := fun σ S F G => by
  obtain ⟨S', e, G'⟩ := A σ S F G
  exact GOp.val rfl fun ch => ⟨v, S', aop_ch e _, nx _ _ (F.put hd) G'⟩
theorem JO.step0 (A : AO1 S0 q op l N h v N' h') (nx : JO P S0 q ops l N' h' Ψ) : JO P S0 q (⟨none, op, none⟩ :: ops) l N h Ψ := fun σ S F G => by
  obtain ⟨S', e, G'⟩ := A σ S F G
  exact GOp.val rfl fun ch => ⟨v, S', aop_ch e _, nx _ _ F G'⟩
theorem JO.stepT {g : Nat} {t w : Bool} (hg : lk l g = some (.b t)) (et : t = w) (A : AO1 S0 q op l N h v N' h') (hd : Nat.beq d rslot = false) (nx : JO P S0 q ops ((d, v) :: l) N' h' Ψ) : JO P S0 q (⟨some d, op, some (g, w)⟩ :: ops) l N h Ψ := fun σ S F G => by
  obtain ⟨S', e, G'⟩ := A σ S F G
  exact GOp.val (F.wantT hg et) fun ch => ⟨v, S', aop_ch e _, nx _ _ (F.put hd) G'⟩
theorem JO.step0T {g : Nat} {t w : Bool} (hg : lk l g = some (.b t)) (et : t = w) (A : AO1 S0 q op l N h v N' h') (nx : JO P S0 q ops l N' h' Ψ) : JO P S0 q (⟨none, op, some (g, w)⟩ :: ops) l N h Ψ := fun σ S F G => by
  obtain ⟨S', e, G'⟩ := A σ S F G
  exact GOp.val (F.wantT hg et) fun ch => ⟨v, S', aop_ch e _, nx _ _ F G'⟩
theorem JO.skip {g : Nat} {t w : Bool} (hg : lk l g = some (.b t)) (et : t = !w) (hd : Nat.beq d rslot = false) (nx : JO P S0 q ops ((d, .undef) :: l) N h Ψ) : JO P S0 q (⟨some d, op, some (g, w)⟩ :: ops) l N h Ψ := fun σ S F G =>
  GOp.skip (F.wantF hg et) (nx _ _ (F.put hd) G)
theorem JO.skipU {g : Nat} {w : Bool} (hg : lk l g = some .undef) (hd : Nat.beq d rslot = false) (nx : JO P S0 q ops ((d, .undef) :: l) N h Ψ) : JO P S0 q (⟨some d, op, some (g, w)⟩ :: ops) l N h Ψ := fun σ S F G =>
  GOp.skip (F.wantU hg) (nx _ _ (F.put hd) G)
theorem JO.skip0 {g : Nat} {t w : Bool} (hg : lk l g = some (.b t)) (et : t = !w) (nx : JO P S0 q ops l N h Ψ) : JO P S0 q (⟨none, op, some (g, w)⟩ :: ops) l N h Ψ := fun σ S F G =>
  GOp.skip (F.wantF hg et) (nx _ _ F G)
/-! calls -/
theorem FS.call {σ : T AV} {S : St} (F : FS q σ l) {f : Opd} {ys : List Opd} {g : Nat} {first caps as : List AV} (hf : opdL l f = some (.f (.func g) first caps)) (ha : opdsL l ys = some as) : opCall S (opds ys σ) (opd f σ) = .enter g (first ++ (as ++ caps)) S := by
  rw [F.val hf, F.vals ha]; rfl
theorem JO.call {f : Opd} {ys : List Opd} {g : Nat} {first caps as args : List AV} {gd : Option (Nat × Bool)} (hgd : ∀ σ, FS q σ l → wanted gd σ = true) (hf : opdL l f = some (.f (.func g) first caps)) (ha : opdsL l ys = some as) (hx : first ++ (as ++ caps) = args)
    {Φ : St → AV → St → Prop} (hc : ∀ S, SH S0 N h S → GCall P g args S (Φ S)) (nx : ∀ S, SH S0 N h S → ∀ y S', Φ S y S' → ∃ N' h', SH S0 N' h' S' ∧ JO P S0 q ops ((d, y) :: l) N' h' Ψ) (hd : Nat.beq d rslot = false) : JO P S0 q (⟨some d, .call f ys, gd⟩ :: ops) l N h Ψ := fun σ S F G => by
  subst hx
  refine GOp.call rfl (hgd σ F) (F.call hf ha) (hc S G) fun y S' k => ?_
  obtain ⟨N', h', G', J⟩ := nx S G y S' k
  exact J _ _ (F.put hd) G'
theorem JO.call0 {f : Opd} {ys : List Opd} {g : Nat} {first caps as args : List AV} {gd : Option (Nat × Bool)} (hgd : ∀ σ, FS q σ l → wanted gd σ = true) (hf : opdL l f = some (.f (.func g) first caps)) (ha : opdsL l ys = some as) (hx : first ++ (as ++ caps) = args)
    {Φ : St → AV → St → Prop} (hc : ∀ S, SH S0 N h S → GCall P g args S (Φ S)) (nx : ∀ S, SH S0 N h S → ∀ y S', Φ S y S' → ∃ N' h', SH S0 N' h' S' ∧ JO P S0 q ops l N' h' Ψ) : JO P S0 q (⟨none, .call f ys, gd⟩ :: ops) l N h Ψ := fun σ S F G => by
  subst hx
  refine GOp.call rfl (hgd σ F) (F.call hf ha) (hc S G) fun y S' k => ?_
  obtain ⟨N', h', G', J⟩ := nx S G y S' k
  exact J _ _ F G'
/-- a call that only yields a value -/
theorem JO.callP {f : Opd} {ys : List Opd} {g : Nat} {first caps as args : List AV} {y : AV} (hf : opdL l f = some (.f (.func g) first caps)) (ha : opdsL l ys = some as) (hx : first ++ (as ++ caps) = args)
    (hc : ∀ S, SH S0 N h S → GCall P g args S (isV y S)) (hd : Nat.beq d rslot = false) (nx : JO P S0 q ops ((d, y) :: l) N h Ψ) : JO P S0 q (⟨some d, .call f ys, none⟩ :: ops) l N h Ψ := fun σ S F G => by
  subst hx
  refine GOp.call rfl rfl (F.call hf ha) (hc S G) fun y' S' k => ?_
  obtain ⟨rfl, rfl⟩ := k
  exact nx _ _ (F.put hd) G
theorem JO.callPT {f : Opd} {ys : List Opd} {g n : Nat} {t w : Bool} {first caps as args : List AV} {y : AV} (hg : lk l n = some (.b t)) (et : t = w) (hf : opdL l f = some (.f (.func g) first caps)) (ha : opdsL l ys = some as) (hx : first ++ (as ++ caps) = args)
    (hc : ∀ S, SH S0 N h S → GCall P g args S (isV y S)) (hd : Nat.beq d rslot = false) (nx : JO P S0 q ops ((d, y) :: l) N h Ψ) : JO P S0 q (⟨some d, .call f ys, some (n, w)⟩ :: ops) l N h Ψ := fun σ S F G => by
  subst hx
  refine GOp.call rfl (F.wantT hg et) (F.call hf ha) (hc S G) fun y' S' k => ?_
  obtain ⟨rfl, rfl⟩ := k
  exact nx _ _ (F.put hd) G
/-- a call that changes the heap -/
theorem JO.callH {f : Opd} {ys : List Opd} {g : Nat} {first caps as args : List AV} {y : AV} (hf : opdL l f = some (.f (.func g) first caps)) (ha : opdsL l ys = some as) (hx : first ++ (as ++ caps) = args)
    (hc : ∀ S, SH S0 N h S → GCall P g args S (fun y' S' => y' = y ∧ SH S0 N' h' S')) (hd : Nat.beq d rslot = false) (nx : JO P S0 q ops ((d, y) :: l) N' h' Ψ) : JO P S0 q (⟨some d, .call f ys, none⟩ :: ops) l N h Ψ := fun σ S F G => by
  subst hx
  refine GOp.call rfl rfl (F.call hf ha) (hc S G) fun y' S' k => ?_
  obtain ⟨rfl, G'⟩ := k
  exact nx _ _ (F.put hd) G'
end
/-! code -/
abbrev Pc := X → Fr → Nat → Hp → Prop
def JC (P : Program) (S0 : St) (q : Option AV) (c : AC) (l : Fr) (N : Nat) (h : Hp) (Φ : Pc) : Prop :=
  ∀ σ S, FS q σ l → SH S0 N h S → GCode P c σ S fun x σ' S' => En S0 q (Φ x) σ' S'
def sqP (P : Program) (S0 : St) (q : Option AV) (b : AC) (Φ : Pc) (x : X) (l : Fr) (N : Nat) (h : Hp) : Prop := match x with
  | .nrm => JC P S0 q b l N h Φ
  | x => Φ x l N h
def bkP (id : Nat) (Φ : Pc) (x : X) (l : Fr) (N : Nat) (h : Hp) : Prop := match x with
  | .ex j => cond (Nat.beq j id) (Φ .nrm l N h) (Φ (.ex j) l N h)
  | x => Φ x l N h
def rnP (next : Pst) (Φ : Pc) (x : X) (l : Fr) (N : Nat) (h : Hp) : Prop := match x with
  | .nrm => next l N h
  | x => Φ x l N h
def FSub (l : Fr) : Fr → Prop
  | [] => True
  | p :: r => lk l p.1 = some p.2 ∧ FSub l r
theorem FSub.all {l : Fr} : ∀ {l2 : Fr}, FSub l l2 → ∀ n v, lk l2 n = some v → lk l n = some v
  | [], _, n, v, e => by cases e
  | p :: r, h, n, v, e => by
    rw [show lk (p :: r) n = if p.1 = n then some p.2 else lk r n from lk_cons p.1 p.2 r n] at e
    by_cases hp : p.1 = n
    · rw [if_pos hp] at e; cases e; rw [← hp]; exact h.1
    · rw [if_neg hp] at e; exact FSub.all h.2 n v e
inductive HSub (m : St) : Hp → Hp → Prop
  | nil : HSub m [] []
  | keep {p h h2} (t : HSub m h h2) : HSub m (p :: h) (p :: h2)
  | drop {p h h2} (hm : m.nxt ≤ p.1) (t : HSub m h h2) : HSub m (p :: h) h2
  | same {b x h h2} (hx : m.heap.get b = some x) (t : HSub m h h2) : HSub m ((b, .blk x) :: h) h2
  | gn {b h h2} (hx : m.heap.get b = none) (t : HSub m h h2) : HSub m ((b, .gone) :: h) h2
theorem HSub.keepE {m : St} {p p2 : Nat × HB} {h h2 : Hp} (e : p = p2) (t : HSub m h h2) : HSub m (p :: h) (p2 :: h2) := by subst e; exact .keep t
theorem HSub.refl (m : St) : ∀ h, HSub m h h
  | [] => .nil
  | _ :: h => .keep (HSub.refl m h)
theorem HSub.sub {m : St} : ∀ {h h2 : Hp}, HSub m h h2 → h2.Sublist h
  | _, _, .nil => .slnil
  | _, _, .keep t => .cons_cons _ t.sub
  | _, _, .drop _ t => .cons _ t.sub
  | _, _, .same _ t => .cons _ t.sub
  | _, _, .gn _ t => .cons _ t.sub
theorem HSub.els {S0 S : St} {β : Nat} (hβ : β < S0.nxt) : ∀ {h h2 : Hp}, HSub S0 h h2 → (∀ p ∈ h, p.2.at (S.heap.get p.1)) → ((∀ p ∈ h, p.1 ≠ β) → S.heap.get β = S0.heap.get β) → (∀ p ∈ h2, p.1 ≠ β) → S.heap.get β = S0.heap.get β
  | _, _, .nil, _, k, e => k e
  | p :: _, _, .keep t, hg, k, e => HSub.els hβ t (fun r hr => hg r (List.mem_cons_of_mem _ hr)) (fun e2 => k fun r hr => by
      rcases List.mem_cons.1 hr with rfl | hr
      · exact e _ (List.mem_cons_self ..)
      · exact e2 r hr) fun r hr => e r (List.mem_cons_of_mem _ hr)
  | p :: _, _, .drop hm t, hg, k, e => HSub.els hβ t (fun r hr => hg r (List.mem_cons_of_mem _ hr)) (fun e2 => k fun r hr => by
      rcases List.mem_cons.1 hr with rfl | hr
      · omega
      · exact e2 r hr) e
  | (b, .blk x) :: _, _, .same hx t, hg, k, e => by
    by_cases hb : b = β
    · subst hb
      have : S.heap.get b = some x := hg (b, .blk x) (List.mem_cons_self ..)
      rw [this, hx]
    · exact HSub.els hβ t (fun r hr => hg r (List.mem_cons_of_mem _ hr)) (fun e2 => k fun r hr => by
        rcases List.mem_cons.1 hr with rfl | hr
        · exact hb
        · exact e2 r hr) e
  | (b, .gone) :: _, _, .gn hx t, hg, k, e => by
    by_cases hb : b = β
    · subst hb
      have : S.heap.get b = none := hg (b, .gone) (List.mem_cons_self ..)
      rw [this, hx]
    · exact HSub.els hβ t (fun r hr => hg r (List.mem_cons_of_mem _ hr)) (fun e2 => k fun r hr => by
        rcases List.mem_cons.1 hr with rfl | hr
        · exact hb
        · exact e2 r hr) e
theorem SH.sub {S0 S : St} {N : Nat} {h h2 : Hp} (H : SH S0 N h S) (k : HSub S0 h h2) : SH S0 N h2 S :=
  ⟨H.nxt, fun p hp => H.get p (k.sub.subset hp), fun β hlo hβ => k.els hlo H.get (H.els β hlo) hβ, H.dis.sublist (k.sub.map _), fun p hp => H.lt p (k.sub.subset hp), H.wf, H.le⟩
section
variable {P : Program} {S0 : St} {q : Option AV} {l l2 : Fr} {N N' : Nat} {h h2 : Hp} {Φ Φ' : Pc} {a b : AC}
theorem JC.weak (hl : FSub l l2) (hh : HSub S0 h h2) (H : JC P S0 q a l2 N h2 Φ) : JC P S0 q a l N h Φ := fun σ S F G => H σ S (F.mono hl.all) (G.sub hh)
theorem JC.mono (H : JC P S0 q a l N h Φ) (hm : ∀ x l N h, Φ x l N h → Φ' x l N h) : JC P S0 q a l N h Φ' := fun σ S F G => (H σ S F G).mono fun x σ' S' ⟨l', N', h', F', G', k⟩ => ⟨l', N', h', F', G', hm _ _ _ _ k⟩
theorem JC.skip (H : Φ .nrm l N h) : JC P S0 q .skip l N h Φ := fun σ S F G => .skip ⟨l, N, h, F, G, H⟩
theorem JC.ret (H : Φ .ret l N h) : JC P S0 q .ret l N h Φ := fun σ S F G => .ret ⟨l, N, h, F, G, H⟩
theorem JC.ex {id : Nat} (H : Φ (.ex id) l N h) : JC P S0 q (.ex id) l N h Φ := fun σ S F G => .ex ⟨l, N, h, F, G, H⟩
theorem JC.reg {ops : List AO} (H : JO P S0 q ops l N h (Φ .nrm)) : JC P S0 q (.reg ops) l N h Φ := fun σ S F G => .reg (H σ S F G)
theorem JC.seq (H : JC P S0 q a l N h (sqP P S0 q b Φ)) : JC P S0 q (.seq a b) l N h Φ := fun σ S F G =>
  .seq ((H σ S F G).mono fun x σ' S' ⟨l', N', h', F', G', k⟩ => by
    cases x with
    | nrm => exact k σ' S' F' G'
    | ex id => exact ⟨l', N', h', F', G', k⟩
    | ret => exact ⟨l', N', h', F', G', k⟩)
theorem JC.cnd {u : Opd} {t : Bool} (hu : opdL l u = some (.b t)) (hT : t = true → JC P S0 q a l N h Φ) (hF : t = false → JC P S0 q b l N h Φ) : JC P S0 q (.cnd u a b) l N h Φ := fun σ S F G => by
  refine .cnd (F.val hu) ?_
  cases t with
  | true => exact hT rfl σ S F G
  | false => exact hF rfl σ S F G
theorem JC.blk {id : Nat} (H : JC P S0 q b l N h (bkP id Φ)) : JC P S0 q (.blk id b) l N h Φ := fun σ S F G =>
  .blk ((H σ S F G).mono fun x σ' S' ⟨l', N', h', F', G', k⟩ => by
    cases x with
    | nrm => exact ⟨l', N', h', F', G', k⟩
    | ret => exact ⟨l', N', h', F', G', k⟩
    | ex j =>
      show if j = id then _ else _
      change cond (Nat.beq j id) (Φ .nrm l' N' h') (Φ (.ex j) l' N' h') at k
      by_cases hj : j = id
      · rw [if_pos hj]
        rw [hj, show Nat.beq id id = true from Nat.beq_refl id] at k
        exact ⟨l', N', h', F', G', k⟩
      · rw [if_neg hj]
        have : Nat.beq j id = false := by
          cases e : Nat.beq j id with
          | false => rfl
          | true => exact absurd (Nat.eq_of_beq_eq_true e) hj
        rw [this] at k
        exact ⟨l', N', h', F', G', k⟩)
/-- a loop with an invariant: `A` says what holds at the head of a round -/
theorem JC.loop {α : Type} (Lf : α → Fr) (Nf : α → Nat) (Hf : α → Hp) (m : α → Nat) (I : α → Prop) (a0 : α) (h0 : I a0) (hl : FSub l (Lf a0)) (hN : N = Nf a0) (hh : HSub S0 h (Hf a0))
    (rd : ∀ a, I a → JC P S0 q b (Lf a) (Nf a) (Hf a) (rnP (fun l' N' h' => ∃ a', I a' ∧ m a' < m a ∧ FSub l' (Lf a') ∧ N' = Nf a' ∧ HSub S0 h' (Hf a')) Φ)) : JC P S0 q (.loop b) l N h Φ := fun σ S F G => by
  have key : ∀ n a, I a → m a < n → ∀ σ S, FS q σ (Lf a) → SH S0 (Nf a) (Hf a) S → GRounds P b (fun x σ' S' => En S0 q (Φ x) σ' S') n σ S := by
    intro n
    induction n with
    | zero => intro a _ h; omega
    | succ n ih =>
      intro a ha hn σ S F G
      refine (rd a ha σ S F G).mono fun x σ' S' ⟨l', N', h', F', G', k⟩ => ?_
      cases x with
      | nrm =>
        obtain ⟨a', k1, k2, k3, rfl, k5⟩ := k
        exact ih a' k1 (by omega) σ' S' (F'.mono k3.all) (G'.sub k5)
      | ex id => exact ⟨l', N', h', F', G', k⟩
      | ret => exact ⟨l', N', h', F', G', k⟩
  subst hN
  exact .loop (m a0 + 1) (key _ a0 h0 (Nat.lt_succ_self _) σ S (F.mono hl.all) (G.sub hh))
end
end
end Go.Ev
namespace Go.Ev
open Go
noncomputable section
/-! regions whose order is open -/
def JD (P : Program) (S0 : St) (q : Option AV) (base : Nat) (st : List Stg) (l : Fr) (N : Nat) (h : Hp) (Ψ : Pst) : Prop :=
  ∀ σ S, FS q σ l → SH S0 N h S → DrwR P base st σ S (En S0 q Ψ)
/-- within a stage -/
def JI (P : Program) (S0 : St) (q : Option AV) (base : Nat) (pr ns : List DS) (w : Option AO) (st : List Stg) (l : Fr) (N : Nat) (h : Hp) (Ψ : Pst) : Prop :=
  ∀ σ S, FS q σ l → SH S0 N h S → DsR base pr σ S fun σ S => DsR base ns σ S fun σ S => match w with
    | none => DrwR P base st σ S (En S0 q Ψ)
    | some o => OpR P o σ S fun σ S => DrwR P base st σ S (En S0 q Ψ)
def simpleA1 : AV → Bool
  | .b _ | .i _ _ | .s _ | .p _ _ | .pn | .sl .. | .sn | .m _ | .mn | .fn | .ifn => true
  | .f (.func _) [] [] => true
  | _ => false
def simpleA : AV → Bool
  | .ag l => l.all simpleA1
  | .tu l => l.all simpleA1
  | x => simpleA1 x
theorem ieq_refl : ∀ n : Int, ieq n n = true
  | .ofNat n => Nat.beq_refl n
  | .negSucc n => Nat.beq_refl n
theorem eq1_refl : ∀ x, simpleA1 x = true → eq1 x x = true
  | .b x, _ => by simp [eq1]
  | .i k n, _ => by
    show and (eqK k k) (ieq n n) = true
    rw [ieq_refl, show eqK k k = true from Nat.beq_refl _]; rfl
  | .s x, _ => by simp [eq1]
  | .p a o, _ => by show and (Nat.beq a a) (Nat.beq o o) = true; rw [show Nat.beq a a = true from Nat.beq_refl _, show Nat.beq o o = true from Nat.beq_refl _]; rfl
  | .pn, _ => rfl
  | .sl a o n c, _ => by
    show and (and (Nat.beq a a) (Nat.beq o o)) (and (Nat.beq n n) (eqC c c)) = true
    rw [show Nat.beq a a = true from Nat.beq_refl _, show Nat.beq o o = true from Nat.beq_refl _, show Nat.beq n n = true from Nat.beq_refl _]
    cases c with
    | none => rfl
    | some c => show and _ (and _ (Nat.beq c c)) = true; rw [show Nat.beq c c = true from Nat.beq_refl _]; rfl
  | .sn, _ => rfl
  | .m a, _ => Nat.beq_refl a
  | .mn, _ => rfl
  | .fn, _ => rfl
  | .ifn, _ => rfl
  | .f fn [] [], h => by
    cases fn with
    | func a => exact Nat.beq_refl a
    | _ => cases h
  | .f _ (_ :: _) _, h => by cases ‹Fn› <;> cases h
  | .f _ [] (_ :: _), h => by cases ‹Fn› <;> cases h
  | .ifc _ _, h => by cases h
  | .ag _, h => by cases h
  | .tu _, h => by cases h
theorem eqs1_refl : ∀ l : List AV, l.all simpleA1 = true → eqs1 l l = true
  | [], _ => rfl
  | x :: l, h => by
    simp only [List.all_cons, Bool.and_eq_true] at h
    show and (eq1 x x) (eqs1 l l) = true
    rw [eq1_refl x h.1, eqs1_refl l h.2]; rfl
theorem eqA_refl (x : AV) (h : simpleA x = true) : eqA x x = true := by
  cases x with
  | ag l => exact eqs1_refl l h
  | tu l => exact eqs1_refl l h
  | b x => exact eq1_refl (.b x) h
  | i k n => exact eq1_refl (.i k n) h
  | s x => exact eq1_refl (.s x) h
  | p a o => exact eq1_refl (.p a o) h
  | pn => exact eq1_refl (.pn) h
  | sl a o n c => exact eq1_refl (.sl a o n c) h
  | sn => exact eq1_refl (.sn) h
  | m a => exact eq1_refl (.m a) h
  | mn => exact eq1_refl (.mn) h
  | f a b c => exact eq1_refl (.f a b c) h
  | fn => exact eq1_refl (.fn) h
  | ifc a b => exact eq1_refl (.ifc a b) h
  | ifn => exact eq1_refl (.ifn) h
section
variable {P : Program} {S0 : St} {q : Option AV} {base : Nat} {l : Fr} {N N' : Nat} {h h' : Hp} {Ψ : Pst} {Φ : Pc} {d : Nat} {o1 : AOp} {v : AV} {p1 ns : List DS} {w1 : Option AO} {st : List Stg}
theorem JD.nil (H : Ψ l N h) : JD P S0 q base [] l N h Ψ := fun σ S F G => ⟨l, N, h, F, G, H⟩
theorem JD.cons (H : JI P S0 q base p1 ns w1 st l N h Ψ) : JD P S0 q base (⟨p1, ns, w1⟩ :: st) l N h Ψ := fun σ S F G => by
  have := H σ S F G
  simp only [DrwR]; exact this
theorem JI.op (A : AO1 S0 q o1 l N h v N' h') (hd : Nat.beq d rslot = false) (nx : JI P S0 q base p1 ns w1 st ((d, v) :: l) N' h' Ψ) : JI P S0 q base (.op ⟨some d, o1, none⟩ :: p1) ns w1 st l N h Ψ := fun σ S F G => by
  obtain ⟨S', e, G'⟩ := A σ S F G
  simp only [DsR]; rw [if_pos (show wanted none σ = true from rfl)]
  exact ⟨v, S', e, nx _ _ (F.put hd) G'⟩
theorem JI.opT {g : Nat} {t u : Bool} (hg : lk l g = some (.b t)) (et : t = u) (A : AO1 S0 q o1 l N h v N' h') (hd : Nat.beq d rslot = false) (nx : JI P S0 q base p1 ns w1 st ((d, v) :: l) N' h' Ψ) : JI P S0 q base (.op ⟨some d, o1, some (g, u)⟩ :: p1) ns w1 st l N h Ψ := fun σ S F G => by
  obtain ⟨S', e, G'⟩ := A σ S F G
  simp only [DsR]; rw [if_pos (F.wantT hg et)]
  exact ⟨v, S', e, nx _ _ (F.put hd) G'⟩
theorem JI.opF {g : Nat} {t u : Bool} (hg : lk l g = some (.b t)) (et : t = !u) (hd : Nat.beq d rslot = false) (nx : JI P S0 q base p1 ns w1 st ((d, .undef) :: l) N h Ψ) : JI P S0 q base (.op ⟨some d, o1, some (g, u)⟩ :: p1) ns w1 st l N h Ψ := fun σ S F G => by
  simp only [DsR]; rw [if_neg (by rw [F.wantF hg et]; simp)]
  exact nx _ _ (F.put hd) G
theorem AO1.same {σ : T AV} {S S' : St} (A : AO1 S0 q o1 l N h v N h) (e : aop o1 none σ S = .v v S') (F : FS q σ l) (G : SH S0 N h S) : SH S0 N h S' := by
  obtain ⟨S2, e2, G2⟩ := A σ S F G
  rw [e] at e2; cases e2; exact G2
theorem JI.ck (A : AO1 S0 q o1 l N h v N h) (hl : lk l d = some v) (hs : simpleA v = true) (nx : JI P S0 q base p1 ns w1 st l N h Ψ) : JI P S0 q base (.ck ⟨some d, o1, none⟩ :: p1) ns w1 st l N h Ψ := fun σ S F G => by
  obtain ⟨S', e, G'⟩ := A σ S F G
  simp only [DsR]; rw [if_pos (show wanted none σ = true from rfl)]
  exact ⟨v, S', e, fun d' e' => by cases e'; rw [F.get d v hl]; exact eqA_refl v hs, nx _ _ F G'⟩
theorem JI.ckT {g : Nat} {t u : Bool} (hg : lk l g = some (.b t)) (et : t = u) (A : AO1 S0 q o1 l N h v N h) (hl : lk l d = some v) (hs : simpleA v = true) (nx : JI P S0 q base p1 ns w1 st l N h Ψ) : JI P S0 q base (.ck ⟨some d, o1, some (g, u)⟩ :: p1) ns w1 st l N h Ψ := fun σ S F G => by
  obtain ⟨S', e, G'⟩ := A σ S F G
  simp only [DsR]; rw [if_pos (F.wantT hg et)]
  exact ⟨v, S', e, fun d' e' => by cases e'; rw [F.get d v hl]; exact eqA_refl v hs, nx _ _ F G'⟩
theorem JI.ckF {g : Nat} {t u : Bool} (hg : lk l g = some (.b t)) (et : t = !u) (nx : JI P S0 q base p1 ns w1 st l N h Ψ) : JI P S0 q base (.ck ⟨some d, o1, some (g, u)⟩ :: p1) ns w1 st l N h Ψ := fun σ S F G => by
  simp only [DsR]; rw [if_neg (by rw [F.wantF hg et]; simp)]
  exact nx _ _ F G
theorem JI.pr (nx : JI P S0 q base ns [] w1 st l N h Ψ) : JI P S0 q base [] ns w1 st l N h Ψ := fun σ S F G => nx σ S F G
/-- a new block in a reserved name -/
theorem JI.al (j i : Nat) {L : List AV} (hj : hat h j = some (Nat.add base i, .gone)) (A : ∀ σ, FS q σ l → nOp (Nat.add base i) σ o1 = some (v, L)) (hd : Nat.beq d rslot = false)
    (nx : JI P S0 q base p1 ns w1 st ((d, v) :: l) N (hset h (.row 0 L) j) Ψ) : JI P S0 q base (.al i ⟨some d, o1, none⟩ :: p1) ns w1 st l N h Ψ := fun σ S F G => by
  simp only [DsR]; rw [if_pos (show wanted none σ = true from rfl)]
  refine ⟨v, L, A σ F, nx _ _ (F.put hd) (G.put hj rfl ?_ fun β hβ => ?_)⟩
  · show (HB.row 0 L).at ((S.heap.set _ _).get _)
    rw [T.get_set, if_pos rfl]; exact HB.at_row 0 L
  · show (S.heap.set _ _).get β = _
    rw [T.get_set, if_neg hβ]
theorem nAl {zs : List AV} {n : Nat} : ∀ σ, FS q σ l → nOp n σ (.al zs) = some (.p n 0, zs) := fun _ _ => rfl
theorem nBx {a : Opd} {n : Nat} (ha : opdL l a = some v) : ∀ σ, FS q σ l → nOp n σ (.bx a) = some (.p n 0, v.cells) := fun σ F => by show some (AV.p n 0, (opd a σ).cells) = _; rw [F.val ha]
theorem nBs {zs : List AV} {n m esz : Nat} {ps : List (Nat × Nat × Opd)} {vs : List (Nat × Nat × AV)} {r : List AV} (hp : partsL l ps = some vs) (hf : fill (zeros zs m) vs = some r) (hz : Nat.beq zs.length esz = true) : ∀ σ, FS q σ l → nOp n σ (.bs zs m esz ps) = some (.sl n 0 m (some m), r) := fun σ F => by
  show nOpBs m esz zs.length n (fill (zeros zs m) (partsOf ps σ)) = _
  rw [F.parts hp, hf]
  show @Bool.rec (fun _ => Option (AV × List AV)) none _ (Nat.beq zs.length esz) = _
  rw [hz]
theorem JI.w0 (nx : JD P S0 q base st l N h Ψ) : JI P S0 q base [] [] none st l N h Ψ := fun σ S F G => nx σ S F G
theorem JI.w (A : AO1 S0 q o1 l N h v N' h') (hc : isCall o1 = false) (hd : Nat.beq d rslot = false) (nx : JD P S0 q base st ((d, v) :: l) N' h' Ψ) : JI P S0 q base [] [] (some ⟨some d, o1, none⟩) st l N h Ψ := fun σ S F G => by
  obtain ⟨S', e, G'⟩ := A σ S F G
  refine (show OpR P ⟨some d, o1, none⟩ σ S (fun σ S => DrwR P base st σ S (En S0 q Ψ)) from ?_)
  unfold OpR; rw [if_pos (show wanted none σ = true from rfl)]
  exact .inl ⟨hc, v, S', e, nx _ _ (F.put hd) G'⟩
theorem JI.wn (A : AO1 S0 q o1 l N h v N' h') (hc : isCall o1 = false) (nx : JD P S0 q base st l N' h' Ψ) : JI P S0 q base [] [] (some ⟨none, o1, none⟩) st l N h Ψ := fun σ S F G => by
  obtain ⟨S', e, G'⟩ := A σ S F G
  refine (show OpR P ⟨none, o1, none⟩ σ S (fun σ S => DrwR P base st σ S (En S0 q Ψ)) from ?_)
  unfold OpR; rw [if_pos (show wanted none σ = true from rfl)]
  exact .inl ⟨hc, v, S', e, nx _ _ F G'⟩
theorem JI.wT {g : Nat} {t u : Bool} (hg : lk l g = some (.b t)) (et : t = u) (A : AO1 S0 q o1 l N h v N' h') (hc : isCall o1 = false) (hd : Nat.beq d rslot = false) (nx : JD P S0 q base st ((d, v) :: l) N' h' Ψ) : JI P S0 q base [] [] (some ⟨some d, o1, some (g, u)⟩) st l N h Ψ := fun σ S F G => by
  obtain ⟨S', e, G'⟩ := A σ S F G
  refine (show OpR P ⟨some d, o1, some (g, u)⟩ σ S (fun σ S => DrwR P base st σ S (En S0 q Ψ)) from ?_)
  unfold OpR; rw [if_pos (F.wantT hg et)]
  exact .inl ⟨hc, v, S', e, nx _ _ (F.put hd) G'⟩
theorem JI.wF {g : Nat} {t u : Bool} (hg : lk l g = some (.b t)) (et : t = !u) (hd : Nat.beq d rslot = false) (nx : JD P S0 q base st ((d, .undef) :: l) N h Ψ) : JI P S0 q base [] [] (some ⟨some d, o1, some (g, u)⟩) st l N h Ψ := fun σ S F G => by
  refine (show OpR P ⟨some d, o1, some (g, u)⟩ σ S (fun σ S => DrwR P base st σ S (En S0 q Ψ)) from ?_)
  unfold OpR; rw [if_neg (by rw [F.wantF hg et]; simp)]
  exact nx _ _ (F.put hd) G
/-- a call -/
theorem JI.call {f : Opd} {ys : List Opd} {g : Nat} {first caps as args : List AV} {y : AV} {gd : Option (Nat × Bool)} (hgd : ∀ σ, FS q σ l → wanted gd σ = true) (hf : opdL l f = some (.f (.func g) first caps)) (ha : opdsL l ys = some as) (hx : first ++ (as ++ caps) = args)
    {R : St → St} (hc : ∀ S, SH S0 N h S → GCall P g args S (isV y (R S)) ∧ SH S0 N' h' (R S)) (hd : Nat.beq d rslot = false) (nx : JD P S0 q base st ((d, y) :: l) N' h' Ψ) : JI P S0 q base [] [] (some ⟨some d, .call f ys, gd⟩) st l N h Ψ := fun σ S F G => by
  subst hx
  refine (show OpR P ⟨some d, .call f ys, gd⟩ σ S (fun σ S => DrwR P base st σ S (En S0 q Ψ)) from ?_)
  unfold OpR; rw [if_pos (hgd σ F)]
  obtain ⟨h1, h2⟩ := hc S G
  exact .inr ⟨f, ys, g, _, rfl, F.call hf ha, y, R S, h1, nx _ _ (F.put hd) h2⟩
theorem JI.callP {f : Opd} {ys : List Opd} {g : Nat} {first caps as args : List AV} {y : AV} (hf : opdL l f = some (.f (.func g) first caps)) (ha : opdsL l ys = some as) (hx : first ++ (as ++ caps) = args)
    (hc : ∀ S, SH S0 N h S → GCall P g args S (isV y S)) (hd : Nat.beq d rslot = false) (nx : JD P S0 q base st ((d, y) :: l) N h Ψ) : JI P S0 q base [] [] (some ⟨some d, .call f ys, none⟩) st l N h Ψ :=
  JI.call (R := fun S => S) (fun _ _ => rfl) hf ha hx (fun S G => ⟨hc S G, G⟩) hd nx
theorem JI.callPT {f : Opd} {ys : List Opd} {g n : Nat} {t u : Bool} {first caps as args : List AV} {y : AV} (hg : lk l n = some (.b t)) (et : t = u) (hf : opdL l f = some (.f (.func g) first caps)) (ha : opdsL l ys = some as) (hx : first ++ (as ++ caps) = args)
    (hc : ∀ S, SH S0 N h S → GCall P g args S (isV y S)) (hd : Nat.beq d rslot = false) (nx : JD P S0 q base st ((d, y) :: l) N h Ψ) : JI P S0 q base [] [] (some ⟨some d, .call f ys, some (n, u)⟩) st l N h Ψ :=
  JI.call (R := fun S => S) (fun _ F => F.wantT hg et) hf ha hx (fun S G => ⟨hc S G, G⟩) hd nx
theorem JC.drw0 (hm : P.follows .mixedOrders = true) (H : JD P S0 q N st l N h (Φ .nrm)) : JC P S0 q (.drw 0 st) l N h Φ := fun σ S F G => by
  have G' : SH S0 N h ⟨S.heap, Nat.add S.nxt 0, S.drw⟩ := ⟨G.nxt, G.get, G.els, G.dis, G.lt, G.wf, G.le⟩
  have := H σ _ F G'
  rw [← G.nxt] at this
  exact (GCode.drw hm this).mono fun x σ' S' ⟨e, k⟩ => by subst e; exact k
def alsH (N : Nat) : List Nat → Hp
  | [] => []
  | i :: l => (Nat.add N i, .gone) :: alsH N l
def alsOk (k : Nat) : List Nat → Bool
  | [] => true
  | i :: l => Nat.blt i k && (l.all (fun j => !Nat.beq i j) && alsOk k l)
theorem mem_alsH {N : Nat} : ∀ {l : List Nat} {p : Nat × HB}, p ∈ alsH N l → ∃ i ∈ l, p = (N + i, .gone)
  | [], p, h => by cases h
  | i :: l, p, h => by
    rcases List.mem_cons.1 h with rfl | h
    · exact ⟨i, List.mem_cons_self .., rfl⟩
    · obtain ⟨j, hj, e⟩ := mem_alsH h
      exact ⟨j, List.mem_cons_of_mem _ hj, e⟩
theorem alsOk_lt {k : Nat} : ∀ {l : List Nat}, alsOk k l = true → ∀ i ∈ l, i < k
  | [], _, i, h => by cases h
  | j :: l, h, i, hi => by
    simp only [alsOk, Bool.and_eq_true] at h
    rcases List.mem_cons.1 hi with rfl | hi
    · exact blt_true h.1
    · exact alsOk_lt h.2.2 i hi
theorem alsOk_dis {k N : Nat} : ∀ {l : List Nat}, alsOk k l = true → ((alsH N l).map (·.1)).Nodup
  | [], _ => List.nodup_nil
  | j :: l, h => by
    simp only [alsOk, Bool.and_eq_true, List.all_eq_true] at h
    show (Nat.add N j :: (alsH N l).map (·.1)).Nodup
    rw [List.nodup_cons]
    refine ⟨fun hm => ?_, alsOk_dis h.2.2⟩
    obtain ⟨p, hp, e⟩ := List.mem_map.1 hm
    obtain ⟨i, hi, rfl⟩ := mem_alsH hp
    have h2 := h.2.1 i hi
    have e' : N + i = N + j := e
    have : j = i := by omega
    subst this
    rw [show Nat.beq j j = true from Nat.beq_refl j] at h2; cases h2
theorem SH.reserve {S : St} (G : SH S0 N h S) (lim : ∀ β, S.nxt ≤ β → S.heap.get β = none) {k : Nat} {als : List Nat} (ha : alsOk k als = true) : SH S0 (Nat.add N k) (h ++ alsH N als) ⟨S.heap, Nat.add S.nxt k, S.drw⟩ := by
  have hn := G.nxt
  refine ⟨by show S.nxt + k = N + k; omega, fun p hp => ?_, fun β hlo hβ => ?_, ?_, fun p hp => ?_, G.wf, by have := G.le; show S0.nxt ≤ N + k; omega⟩
  · rcases List.mem_append.1 hp with hp | hp
    · exact G.get p hp
    · obtain ⟨i, hi, rfl⟩ := mem_alsH hp
      exact lim _ (by show S.nxt ≤ N + i; omega)
  · exact G.els β hlo fun p hp => hβ p (List.mem_append_left _ hp)
  · rw [List.map_append, List.nodup_append]
    refine ⟨G.dis, alsOk_dis ha, fun a h1 b h2 => ?_⟩
    obtain ⟨p, hp, rfl⟩ := List.mem_map.1 h1
    obtain ⟨r, hr, rfl⟩ := List.mem_map.1 h2
    obtain ⟨i, hi, rfl⟩ := mem_alsH hr
    have := G.lt p hp
    show p.1 ≠ N + i
    omega
  · rcases List.mem_append.1 hp with hp | hp
    · have := G.lt p hp; show p.1 < N + k; omega
    · obtain ⟨i, hi, rfl⟩ := mem_alsH hp
      have := alsOk_lt ha i hi
      show N + i < N + k; omega
/-- what a state that the world simulates lets us suppose -/
theorem GCode.sup {c : AC} {σ : T AV} {S : St} {Ξ : X → T AV → St → Prop} (H : (∀ β, S.nxt ≤ β → S.heap.get β = none) → GCode P c σ S Ξ) : GCode P c σ S Ξ := fun code N r w0 K ι a w h1 h2 h3 =>
  H (fun β hb => (h3.sim.low β hb).2) code N r w0 K ι a w h1 h2 h3
theorem JC.drw (hm : P.follows .mixedOrders = true) (als : List Nat) {k : Nat} (ha : alsOk k als = true) (H : JD P S0 q N st l (Nat.add N k) (h ++ alsH N als) (Φ .nrm)) : JC P S0 q (.drw k st) l N h Φ := fun σ S F G => by
  refine GCode.sup fun lim => ?_
  have := H σ _ F (G.reserve lim ha)
  have e : N = S.nxt := G.nxt.symm
  subst e
  exact (GCode.drw hm this).mono fun x σ' S' ⟨e, k⟩ => by subst e; exact k
end
end
end Go.Ev
namespace Go.Ev
open Go
noncomputable section
/-! functions -/
inductive ResL (l : Fr) (h : Hp) : List RVar → List AV → Prop
  | nil : ResL l h [] []
  | t {n v rs vs} (h1 : lk l n = some v) (r : ResL l h rs vs) : ResL l h (.t n :: rs) (v :: vs)
  | c1 {a b o k L v rs vs} (j : Nat) (h1 : lk l a = some (.p b o)) (h2 : hat h j = some (b, .row k L)) (h3 : L[o]? = some v) (r : ResL l h rs vs) : ResL l h (.c1 a :: rs) (v :: vs)
  | cn {n a b o k L xs rs vs} (j : Nat) (h1 : lk l a = some (.p b o)) (h2 : hat h j = some (b, .row k L)) (h3 : Nat.ble (Nat.add o n) L.length = true) (h4 : rdL L o n = some xs) (r : ResL l h rs vs) : ResL l h (.cn n a :: rs) (.ag xs :: vs)
def entL : List AV → Nat → Fr
  | [], _ => [(dslot, .tu [])]
  | a :: l, i => (i, a) :: entL l (i + 1)
def fnP (rs : List RVar) (Φ : AV → Nat → Hp → Prop) (x : X) (l : Fr) (N : Nat) (h : Hp) : Prop := match x with
  | .ex _ => False
  | _ => ∃ vs, ResL l h rs vs ∧ lk l dslot = some (.tu []) ∧ Φ (packV vs) N h
section
variable {P : Program} {S S' S0 : St} {q : Option AV} {σ : T AV} {l : Fr} {N : Nat} {h : Hp} {f : Nat} {af : AF} {args : List AV}
theorem ResL.ok (F : FS q σ l) (G : SH S0 N h S) {rs : List RVar} {vs : List AV} (H : ResL l h rs vs) : resultsOf S σ rs = some vs := by
  induction H with
  | nil => rfl
  | t h1 r ih => simp only [resultsOf, resultOf, F.get _ _ h1, ih]
  | c1 j h1 h2 h3 r ih =>
    have := F.got h1 (by intro q; cases q)
    simp only [resultsOf, resultOf, this, G.ld1 h2 h3, ih]
  | cn j h1 h2 h3 h4 r ih =>
    have := F.got h1 (by intro q; cases q)
    simp only [resultsOf, resultOf, this, G.ldn h2 h3 h4, ih]
theorem lk_entL : ∀ (as : List AV) (i n : Nat) (v : AV), i + as.length ≤ dslot → lk (entL as i) n = some v → (n = dslot ∧ v = .tu []) ∨ (i ≤ n ∧ n < dslot ∧ as[n - i]? = some v)
  | [], i, n, v, hl, e => by
    rw [show lk (entL [] i) n = if dslot = n then some (AV.tu []) else lk [] n from lk_cons _ _ _ _] at e
    by_cases h : dslot = n
    · rw [if_pos h] at e; cases e; exact .inl ⟨h.symm, rfl⟩
    · rw [if_neg h] at e; cases e
  | a :: as, i, n, v, hl, e => by
    simp only [List.length_cons] at hl
    rw [show lk (entL (a :: as) i) n = if i = n then some a else lk (entL as (i + 1)) n from lk_cons _ _ _ _] at e
    by_cases h : i = n
    · subst h; rw [if_pos rfl] at e; cases e; exact .inr ⟨Nat.le_refl _, by omega, by simp⟩
    · rw [if_neg h] at e
      rcases lk_entL as (i + 1) n v (by omega) e with q | ⟨h1, h2, h3⟩
      · exact .inl q
      · refine .inr ⟨by omega, h2, ?_⟩
        have : n - i = (n - (i + 1)) + 1 := by omega
        rw [this, List.getElem?_cons_succ]; exact h3
theorem FS.entry (hn : args.length ≤ 1000) : FS none (T.ofList args) (entL args 0) := by
  refine ⟨fun n v e => ?_, by rw [T.get_ofList, List.getElem?_eq_none]; simp only [rslot]; omega⟩
  rcases lk_entL args 0 n v (by simp only [dslot]; omega) e with ⟨rfl, rfl⟩ | ⟨_, _, h⟩
  · unfold getU
    rw [T.get_ofList, List.getElem?_eq_none (by simp only [dslot]; omega)]; rfl
  · unfold getU
    rw [T.get_ofList]
    rw [Nat.sub_zero] at h
    rw [h]
theorem FS.defers (F : FS q σ l) (h : lk l dslot = some (.tu [])) : getDefers σ = [] := by
  have := F.get _ _ h
  unfold getU at this
  unfold getDefers
  cases e : σ.get dslot with
  | none => rfl
  | some u =>
    rw [e] at this
    have : u = .tu [] := this
    subst this; rfl
theorem GCall.sup {Ξ : AV → St → Prop} (hE : Ent P f) (H : (∀ β, S.nxt ≤ β → S.heap.get β = none) → GCall P f args S Ξ) : GCall P f args S Ξ :=
  ⟨hE, fun w0 K ι w vs h1 h2 h3 => (H fun β hb => (h1.low β hb).2).2 w0 K ι w vs h1 h2 h3⟩
def HB.on : HB → Bool
  | .gone => false
  | _ => true
theorem SH.init (lim : ∀ β, S.nxt ≤ β → S.heap.get β = none) (hh : ∀ p ∈ h, p.2.at (S.heap.get p.1) ∧ p.2.on = true) (hd : (h.map (·.1)).Nodup) : SH S S.nxt h S := by
  refine ⟨rfl, fun p hp => (hh p hp).1, fun β _ _ => rfl, hd, fun p hp => ?_, lim, Nat.le_refl _⟩
  rcases Nat.lt_or_ge p.1 S.nxt with k | k
  · exact k
  · exfalso
    obtain ⟨h1, h2⟩ := hh p hp
    rw [lim _ k] at h1
    cases e : p.2 with
    | row k L => rw [e] at h1; obtain ⟨c, q, _⟩ := h1; cases q
    | win k L n o W => rw [e] at h1; obtain ⟨c, q, _⟩ := h1; cases q
    | fn k n g => rw [e] at h1; obtain ⟨c, q, _⟩ := h1; cases q
    | blk x => rw [e] at h1; cases h1
    | gone => rw [e] at h2; cases h2
theorem JF (hok : FnOk P f af) (hn : Nat.ble args.length 1000 = true) (hh : ∀ p ∈ h, p.2.at (S.heap.get p.1) ∧ p.2.on = true) (hd : (h.map (·.1)).Nodup) {Φ : AV → Nat → Hp → Prop}
    (hb : SH S S.nxt h S → JC P S none af.body (entL args 0) S.nxt h (fnP af.results Φ)) : GCall P f args S (fun y S' => ∃ N' h', SH S N' h' S' ∧ Φ y N' h') := by
  refine GCall.sup hok.ent fun lim => ?_
  have hn' := ble_true hn
  have G := SH.init lim hh hd
  refine GCall.body hok hn' ((hb G _ _ (FS.entry hn') G).mono fun x σ' S' k => ?_)
  obtain ⟨l', N', h', F', G', k⟩ := k
  have fin : (∃ vs, ResL l' h' af.results vs ∧ lk l' dslot = some (.tu []) ∧ Φ (packV vs) N' h') → GUnw P f σ' S' (fun y S' => ∃ N' h', SH S N' h' S' ∧ Φ y N' h') := fun ⟨vs, h1, h2, h3⟩ =>
    .nil hok (F'.defers h2) (h1.ok F' G') ⟨N', h', G', h3⟩
  cases x with
  | nrm => exact ⟨fun id e => (by cases e), fin k⟩
  | ret => exact ⟨fun id e => (by cases e), fin k⟩
  | ex id => exact k.elim
end
/-! what is forgotten behind a call -/
theorem FnR.narrow {ι κ : Im} (hl : ι.le κ) {f f1 f2 : Fn} (h1 : FnR ι f f1) (h2 : FnR κ f f2) : FnR ι f f2 := by
  cases f with
  | yield β =>
    obtain ⟨L, e, rfl⟩ := h1
    obtain ⟨M, e', rfl⟩ := h2
    rw [hl _ _ e] at e'; cases e'
    exact ⟨L, e, rfl⟩
  | _ => exact h2
mutual
theorem VR.narrow {ι κ : Im} (hl : ι.le κ) : ∀ {a : AV} {u v : Value}, VR ι a u → VR κ a v → VR ι a v
  | _, _, _, .b _, h => by cases h; exact .b _
  | _, _, _, .i _ _, h => by cases h; exact .i _ _
  | _, _, _, .s _, h => by cases h; exact .s _
  | _, _, _, .p e, h => by
    cases h with
    | p e' => rw [hl _ _ e] at e'; cases e'; exact .p e
  | _, _, _, .pn, h => by cases h; exact .pn
  | _, _, _, .sl e _ _, h => by
    cases h with
    | sl e' ha hc => rw [hl _ _ e] at e'; cases e'; exact .sl e ha hc
  | _, _, _, .sn, h => by cases h; exact .sn
  | _, _, _, .m e, h => by
    cases h with
    | m e' => rw [hl _ _ e] at e'; cases e'; exact .m e
  | _, _, _, .mn, h => by cases h; exact .mn
  | _, _, _, .f hf h1 h2, h => by
    cases h with
    | f hf' h1' h2' => exact .f (hf.narrow hl hf') (h1.narrow hl h1') (h2.narrow hl h2')
  | _, _, _, .fn, h => by cases h; exact .fn
  | _, _, _, .ifc h1, h => by
    cases h with
    | ifc h1' => exact .ifc (h1.narrow hl h1')
  | _, _, _, .ifn, h => by cases h; exact .ifn
  | _, _, _, .ag h1, h => by
    cases h with
    | ag h1' => exact .ag (h1.narrow hl h1')
  | _, _, _, .tu h1, h => by
    cases h with
    | tu h1' => exact .tu (h1.narrow hl h1')
theorem VRs.narrow {ι κ : Im} (hl : ι.le κ) : ∀ {a : List AV} {u v : List Value}, VRs ι a u → VRs κ a v → VRs ι a v
  | _, _, _, .nil, h => by cases h; exact .nil
  | _, _, _, .cons h1 h2, h => by
    cases h with
    | cons h1' h2' => exact .cons (h1.narrow hl h1') (h2.narrow hl h2')
end
def Cl (ι : Im) (a : AV) : Prop := ∃ u, VR ι a u
/-- values that name nothing -/
def pure1 : AV → Bool
  | .b _ | .i _ _ | .s _ | .pn | .sn | .mn | .fn | .ifn => true
  | .f (.func _) [] [] => true
  | _ => false
def pureA : AV → Bool
  | .ag l => l.all pure1
  | .tu l => l.all (fun x => match x with | .ag r => r.all pure1 | x => pure1 x)
  | x => pure1 x
theorem pure1_vr {ι κ : Im} : ∀ {x : AV} {v : Value}, pure1 x = true → VR κ x v → VR ι x v
  | _, _, h, .b _ => .b _
  | _, _, h, .i _ _ => .i _ _
  | _, _, h, .s _ => .s _
  | _, _, h, .p _ => by cases h
  | _, _, h, .pn => .pn
  | _, _, h, .sl _ _ _ => by cases h
  | _, _, h, .sn => .sn
  | _, _, h, .m _ => by cases h
  | _, _, h, .mn => .mn
  | .f (.func n) [] [], _, h, .f hf .nil .nil => .f hf .nil .nil
  | .f (.func n) (_ :: _) _, _, h, _ => by cases h
  | .f (.func n) [] (_ :: _), _, h, _ => by cases h
  | .f (.via _ _ _ _) _ _, _, h, _ => by cases h
  | .f (.method _) _ _, _, h, _ => by cases h
  | .f (.methodOf _ _) _ _, _, h, _ => by cases h
  | .f (.yield _) _ _, _, h, _ => by cases h
  | _, _, h, .fn => .fn
  | _, _, h, .ifc _ => by cases h
  | _, _, h, .ifn => .ifn
  | _, _, h, .ag _ => by cases h
  | _, _, h, .tu _ => by cases h
theorem pures1_vr {ι κ : Im} : ∀ {l : List AV} {vs : List Value}, l.all pure1 = true → VRs κ l vs → VRs ι l vs
  | [], _, _, .nil => .nil
  | _ :: _, _, h, .cons h1 h2 => by
    simp only [List.all_cons, Bool.and_eq_true] at h
    exact .cons (pure1_vr h.1 h1) (pures1_vr h.2 h2)
theorem pures2_vr {ι κ : Im} : ∀ {l : List AV} {vs : List Value}, l.all (fun x => match x with | .ag r => r.all pure1 | x => pure1 x) = true → VRs κ l vs → VRs ι l vs
  | [], _, _, .nil => .nil
  | x :: _, _, h, .cons h1 h2 => by
    simp only [List.all_cons, Bool.and_eq_true] at h
    refine .cons ?_ (pures2_vr h.2 h2)
    have hx := h.1
    cases x with
    | ag r => cases h1 with | ag h1 => exact .ag (pures1_vr hx h1)
    | _ => exact pure1_vr hx h1
theorem pureA_vr {ι κ : Im} {x : AV} {v : Value} (h : pureA x = true) (k : VR κ x v) : VR ι x v := by
  cases x with
  | ag l => cases k with | ag k => exact .ag (pures1_vr h k)
  | tu l => cases k with | tu k => exact .tu (pures2_vr h k)
  | _ => exact pure1_vr h k
end
end Go.Ev
namespace Go.Ev
open Go
noncomputable section
section
variable {P : Program} {w0 : World} {K : Pins} {ι κ : Im} {S S' : St} {w w' : World} {f : Nat} {args : List AV} {L : Loc}
/-- a block says less -/
def Blk.le : Blk → Blk → Prop
  | .row k c n, y => ∃ c', y = .row k c' n ∧ ∀ i, i < n → ∀ a, c.get i = some a → c'.get i = some a
  | x, y => y = x
theorem Blk.le.refl (x : Blk) : x.le x := by cases x <;> first | exact ⟨_, rfl, fun _ _ _ h => h⟩ | rfl
theorem BR.le {x y : Blk} (h : BR P K ι L w y) (k : x.le y) : BR P K ι L w x := by
  cases x with
  | row a c n =>
    obtain ⟨c', rfl, hc⟩ := k
    obtain ⟨⟨arr, el, fr, e, hs, hg, hf⟩, h2, h3, h4, h5⟩ := h
    exact ⟨⟨arr, el, fr, e, hs, fun i hi a ha => hg i hi a (hc i hi a ha), hf⟩, h2, h3, h4, h5⟩
  | _ => rw [show y = _ from k] at h; exact h
/-- cells that mean something -/
def ClB (ι : Im) : Blk → Prop
  | .row _ c n => ∀ i, i < n → ∀ a, c.get i = some a → Cl ι a
  | .map es _ => ∀ e ∈ es, Cl ι e.1 ∧ Cl ι e.2.1
  | _ => False
theorem ERs.narrow (hl : ι.le κ) : ∀ {es : List (AV × AV × Nat)} {cs : List MapEntry}, (∀ e ∈ es, Cl ι e.1 ∧ Cl ι e.2.1) → ERs κ es cs → ERs ι es cs
  | [], _, _, .nil => .nil
  | e :: _, _, h, .cons h1 h2 => by
    obtain ⟨⟨u, hu⟩, ⟨u', hu'⟩⟩ := h e (List.mem_cons_self ..)
    exact .cons ⟨hu.narrow hl h1.1, hu'.narrow hl h1.2.1, h1.2.2⟩ (ERs.narrow hl (fun e he => h e (List.mem_cons_of_mem _ he)) h2)
theorem ERs.cl : ∀ {es : List (AV × AV × Nat)} {cs : List MapEntry}, ERs ι es cs → ∀ e ∈ es, Cl ι e.1 ∧ Cl ι e.2.1
  | _, _, .nil, e, h => by cases h
  | _, _, .cons h1 h2, e, h => by
    rcases List.mem_cons.1 h with rfl | h
    · exact ⟨⟨_, h1.1⟩, ⟨_, h1.2.1⟩⟩
    · exact ERs.cl h2 e h
theorem BR.narrowC {x : Blk} (hl : ι.le κ) (hc : ClB ι x) (h : BR P K κ L w' x) : BR P K ι L w' x := by
  cases x with
  | row a c n =>
    obtain ⟨⟨arr, el, fr, e, hs, hg, hf⟩, h2, h3, h4, h5⟩ := h
    refine ⟨⟨arr, el, fr, e, hs, fun i hi a ha => ?_, hf⟩, h2, h3, h4, h5⟩
    obtain ⟨v, hv, r⟩ := hg i hi a ha
    obtain ⟨u, hu⟩ := hc i hi a ha
    exact ⟨v, hv, hu.narrow hl r⟩
  | map es c =>
    obtain ⟨h1, ces, e, r⟩ := h
    exact ⟨h1, ces, e, r.narrow hl hc⟩
  | _ => exact hc.elim
theorem BR.narrow {x : Blk} (hl : ι.le κ) (h0 : BR P K ι L w x) (h : BR P K κ L w' x) : BR P K ι L w' x := by
  cases x with
  | row a c n =>
    refine BR.narrowC hl (fun i hi a ha => ?_) h
    obtain ⟨⟨arr, el, fr, e, hs, hg, hf⟩, _⟩ := h0
    obtain ⟨v, _, r⟩ := hg i hi a ha
    exact ⟨v, r⟩
  | map es c =>
    obtain ⟨_, ces, _, r⟩ := h0
    exact BR.narrowC hl r.cl h
  | rom es c =>
    obtain ⟨_, _, _, _, p0, r0⟩ := h0
    obtain ⟨h1, ces, e, es', hp, r⟩ := h
    exact ⟨h1, ces, e, es', hp, r.narrow hl fun e he => r0.cl e (p0.mem_iff.2 (hp.mem_iff.1 he))⟩
  | miter m a b c =>
    obtain ⟨h1, cm, e, r⟩ := h
    refine ⟨h1, cm, e, ?_⟩
    cases m with
    | none => exact r
    | some β =>
      obtain ⟨_, cm0, _, M0, e0, _⟩ := h0
      obtain ⟨M, e1, e2⟩ := r
      rw [hl _ _ e0] at e1; cases e1
      exact ⟨M0, e0, e2⟩
  | siter a b => exact h
  | lp a b c d e f g =>
    obtain ⟨⟨r, e, h1, h2, h3, h4, h5, h6, h7, h8, h9, M, h10, h11⟩, hf, hc⟩ := h
    obtain ⟨⟨r0, e0, _, _, k3, _, _, _, _, _, _, M0, k10, _⟩, _, _⟩ := h0
    rw [hl _ _ k10] at h10; cases h10
    refine ⟨⟨r, e, h1, h2, ⟨h3.size, fun d hd => (k3.get d hd).narrow hl (h3.get d hd), k3.glob⟩, h4, h5, h6, h7, h8, h9, _, k10, h11⟩, hf, hc⟩
  | dfr => exact h
/-- what is behind a call, in the names of before -/
theorem GCall.gc {Φ : AV → St → Prop} (h : GCall P f args S Φ) {y : AV} {S1 : St} (hn : S1.nxt = S.nxt)
    (hΦ : ∀ y' S', Φ y' S' → y' = y ∧ ∀ β x, S1.heap.get β = some x → ∃ x', S'.heap.get β = some x' ∧ x.le x')
    (hc : ∀ ι : Im, (∀ β x, S.heap.get β = some x → ∃ L, ι β = some L) → (∀ β k c n i a, S.heap.get β = some (.row k c n) → i < n → c.get i = some a → Cl ι a) → (∃ us, VRs ι args us) → GR P ι → Cl ι y ∧ ∀ β x, S1.heap.get β = some x → (∃ x0, S.heap.get β = some x0 ∧ (x0 = x ∨ ClB ι x))) :
    GCall P f args S (isV y S1) := by
  refine ⟨h.1, fun w0 K ι w vs hS hG hv => (h.2 w0 K ι w vs hS hG hv).mono fun e w' k => ?_⟩
  obtain ⟨y', S', κ, v, rfl, hy, hv', hle, hS'⟩ := k
  obtain ⟨rfl, hb⟩ := hΦ y' S' hy
  obtain ⟨⟨u, hu⟩, hcl⟩ := hc ι (fun β x e => let ⟨L, m, _⟩ := hS.blk β x e; ⟨L, m⟩) (fun β k c n i a e hi ha => by
    obtain ⟨L, _, ⟨arr, el, fr, _, _, hg, _⟩, _⟩ := hS.blk β _ e
    obtain ⟨v, _, r⟩ := hg i hi a ha
    exact ⟨v, r⟩) ⟨vs, hv⟩ hG
  refine ⟨y', S1, ι, v, rfl, ⟨rfl, rfl⟩, hu.narrow hle hv', Im.le.refl _, ?_⟩
  refine ⟨hS'.sam, hS'.pin, fun β x e => ?_, fun β γ x z L M hne e1 e2 m1 m2 ro => ?_, fun β hβ => ?_, fun β hβ => ?_, hS'.lo⟩
  · obtain ⟨x', e', hx⟩ := hb β x e
    obtain ⟨L', m', r'⟩ := hS'.blk β x' e'
    obtain ⟨x0, e0, hor⟩ := hcl β x e
    obtain ⟨L, m, r⟩ := hS.blk β x0 e0
    rw [hle _ _ m] at m'; cases m'
    refine ⟨_, m, ?_⟩
    rcases hor with rfl | hor
    · exact r.narrow hle (r'.le hx)
    · exact (r'.le hx).narrowC hle hor
  · obtain ⟨x', e1', hx⟩ := hb β x e1
    obtain ⟨z', e2', hz⟩ := hb γ z e2
    have ap := hS'.sep β γ x' z' L M hne e1' e2' (hle _ _ m1) (hle _ _ m2)
    have q : ∀ {a b : Blk}, a.le b → b.isRo = a.isRo ∧ b.isRow = a.isRow := fun {a b} k => by
      cases a with
      | row k c n => obtain ⟨c', rfl, _⟩ := k; exact ⟨rfl, rfl⟩
      | _ => rw [show b = _ from k]; exact ⟨rfl, rfl⟩
    have ap := ap (by rw [(q hx).1, (q hz).1]; exact ro)
    cases x with
    | row k c n =>
      obtain ⟨c', rfl, _⟩ := hx
      cases z with
      | row k2 c2 n2 => obtain ⟨c2', rfl, _⟩ := hz; exact ap
      | _ => rw [show z' = _ from hz] at ap; exact ap
    | _ =>
      rw [show x' = _ from hx] at ap
      cases z with
      | row k2 c2 n2 => obtain ⟨c2', rfl, _⟩ := hz; exact ap
      | _ => rw [show z' = _ from hz] at ap; exact ap
  · have := hS.low β (by omega)
    refine ⟨this.1, ?_⟩
    cases e : S1.heap.get β with
    | none => rfl
    | some x =>
      obtain ⟨x0, e0, _⟩ := hcl β x e
      rw [this.2] at e0; cases e0
  · have := hS.res β hβ
    exact ⟨this.1, by omega⟩
/-- a call that leaves the heap alone -/
theorem GCall.gcP {Φ : AV → St → Prop} (h : GCall P f args S Φ) {y : AV}
    (hΦ : ∀ y' S', Φ y' S' → y' = y ∧ ∀ β x, S.heap.get β = some x → ∃ x', S'.heap.get β = some x' ∧ x.le x')
    (hc : ∀ ι : Im, (∀ β x, S.heap.get β = some x → ∃ L, ι β = some L) → (∀ β k c n i a, S.heap.get β = some (.row k c n) → i < n → c.get i = some a → Cl ι a) → (∃ us, VRs ι args us) → GR P ι → Cl ι y) : GCall P f args S (isV y S) :=
  h.gc rfl hΦ fun ι h1 h2 h3 h4 => ⟨hc ι h1 h2 h3 h4, fun β x e => ⟨x, e, .inl rfl⟩⟩
theorem pures1_cl : ∀ {l : List AV}, l.all pure1 = true → ∃ us, VRs ι l us
  | [], _ => ⟨[], .nil⟩
  | x :: l, h => by
    simp only [List.all_cons, Bool.and_eq_true] at h
    obtain ⟨us, hu⟩ := pures1_cl h.2
    have : Cl ι x := by
      have h1 := h.1
      cases x with
      | b x => exact ⟨_, .b x⟩
      | i k n => exact ⟨_, .i k n⟩
      | s x => exact ⟨_, .s x⟩
      | pn => exact ⟨_, .pn⟩
      | sn => exact ⟨_, .sn⟩
      | mn => exact ⟨_, .mn⟩
      | fn => exact ⟨_, .fn⟩
      | ifn => exact ⟨_, .ifn⟩
      | f g a b =>
        cases g with
        | func n =>
          cases a with
          | nil => cases b with
            | nil => exact ⟨_, .f (fn' := .func n) rfl .nil .nil⟩
            | cons _ _ => cases h1
          | cons _ _ => cases h1
        | _ => cases h1
      | _ => cases h1
    obtain ⟨u, h1⟩ := this
    exact ⟨u :: us, .cons h1 hu⟩
theorem pure1_cl {x : AV} (h : pure1 x = true) : Cl ι x := by
  obtain ⟨us, hu⟩ := pures1_cl (ι := ι) (l := [x]) (by simp [h])
  cases hu with
  | cons h _ => exact ⟨_, h⟩
theorem pures2_cl : ∀ {l : List AV}, l.all (fun x => match x with | .ag r => r.all pure1 | x => pure1 x) = true → ∃ us, VRs ι l us
  | [], _ => ⟨[], .nil⟩
  | x :: l, h => by
    simp only [List.all_cons, Bool.and_eq_true] at h
    obtain ⟨us, hu⟩ := pures2_cl h.2
    have : Cl ι x := by
      have h1 := h.1
      cases x with
      | ag r => obtain ⟨rs, hr⟩ := pures1_cl (ι := ι) h1; exact ⟨_, .ag hr⟩
      | _ => exact pure1_cl h1
    obtain ⟨u, h1⟩ := this
    exact ⟨u :: us, .cons h1 hu⟩
theorem pureA_cl {x : AV} (h : pureA x = true) : Cl ι x := by
  cases x with
  | ag l => obtain ⟨us, hu⟩ := pures1_cl (ι := ι) h; exact ⟨_, .ag hu⟩
  | tu l => obtain ⟨us, hu⟩ := pures2_cl (ι := ι) h; exact ⟨_, .tu hu⟩
  | _ => exact pure1_cl h
end
end
end Go.Ev
namespace Go.Ev
open Go
noncomputable section
section
variable {P : Program} {S Sm : St} {f : Nat} {args : List AV} {Φ : AV → St → Prop}
/-- a block that is only read, and names nothing -/
def RoB (m : Nat) : Blk → Prop
  | .row k c n => k = 2 ∧ ∀ i, i < n → ∀ a, c.get i = some a → pureA a = true ∨ ∃ b, b < m ∧ a = .m b
  | .rom es _ => ∀ e ∈ es, pureA e.1 = true ∧ pureA e.2.1 = true
  | _ => False
theorem ERs.pure {ι κ : Im} : ∀ {es : List (AV × AV × Nat)} {cs : List MapEntry}, (∀ e ∈ es, pureA e.1 = true ∧ pureA e.2.1 = true) → ERs κ es cs → ERs ι es cs
  | [], _, _, .nil => .nil
  | e :: _, _, h, .cons h1 h2 => .cons ⟨pureA_vr (h e (List.mem_cons_self ..)).1 h1.1, pureA_vr (h e (List.mem_cons_self ..)).2 h1.2.1, h1.2.2⟩ (ERs.pure (fun e he => h e (List.mem_cons_of_mem _ he)) h2)
theorem pureAs_vr {ι κ : Im} : ∀ {l : List AV} {vs : List Value}, l.all pureA = true → VRs κ l vs → VRs ι l vs
  | [], _, _, .nil => .nil
  | _ :: _, _, h, .cons h1 h2 => by
    simp only [List.all_cons, Bool.and_eq_true] at h
    exact .cons (pureA_vr h.1 h1) (pureAs_vr h.2 h2)
/-- a call that knows of the heap only what never changes yields everywhere what it yields in a small state -/
theorem GCall.pure (h : GCall P f args Sm Φ) (ha : args.all pureA = true) (hy : ∀ y S', Φ y S' → pureA y = true) (hsub : ∀ β x, Sm.heap.get β = some x → RoB Sm.nxt x ∧ ∃ x', S.heap.get β = some x' ∧ x.le x')
    (hw : ∀ β, Sm.nxt ≤ β → Sm.heap.get β = none) (hg : P.globals.size ≤ Sm.nxt) : GCall P f args S (fun y S' => S' = S ∧ ∃ S2, Φ y S2) := by
  refine ⟨h.1, fun w0 K ι w vs hS hG hv => ?_⟩
  have hro : ∀ x, RoB Sm.nxt x → x.isRo = true := fun x k => by
    cases x with
    | row a c n => obtain ⟨rfl, _⟩ := k; rfl
    | rom es c => rfl
    | _ => exact k.elim
  have hle : ∀ β L, (fun β => if β < Sm.nxt then ι β else none) β = some L → ι β = some L := fun β L e => by
    simp only at e
    split at e
    · exact e
    · cases e
  have hSm : Sim P w0 ⟨fun b => if b < w.heap.size then w.heap[b]? else none, fun _ => False, K.lo⟩ (fun β => if β < Sm.nxt then ι β else none) Sm w := by
    refine ⟨hS.sam, fun b o e => ?_, fun β x e => ?_, fun β γ x z L M hne e1 e2 m1 m2 ro => ?_, fun β hβ => ⟨if_neg (by omega), hw β hβ⟩, fun β hβ => hβ.elim, hS.lo⟩
    · have e : (if b < w.heap.size then w.heap[b]? else none) = some o := e
      split at e
      · exact e
      · cases e
    · obtain ⟨hx, x', e', hx'⟩ := hsub β x e
      obtain ⟨L, m, r⟩ := hS.blk β x' e'
      have hlt : β < Sm.nxt := by
        rcases Nat.lt_or_ge β Sm.nxt with k | k
        · exact k
        · rw [hw β k] at e; cases e
      refine ⟨L, by rw [if_pos hlt]; exact m, ?_⟩
      have r := r.le hx'
      cases x with
      | row a c n =>
        obtain ⟨rfl, hp⟩ := hx
        obtain ⟨⟨arr, el, fr, e1, hs, hgt, hf⟩, h2, h3, h4, h5⟩ := r
        exact ⟨⟨arr, el, fr, e1, hs, fun i hi a ha => by
          obtain ⟨v, hv, r⟩ := hgt i hi a ha
          refine ⟨v, hv, ?_⟩
          rcases hp i hi a ha with q | ⟨b, hb, rfl⟩
          · exact pureA_vr q r
          · cases r with
            | m e => exact .m (by rw [if_pos hb]; exact e), hf⟩, h2, fun k => absurd rfl k, h4, h5⟩
      | rom es c =>
        obtain ⟨h1, ces, e1, es', hp, r⟩ := r
        exact ⟨h1, ces, e1, es', hp, r.pure fun e he => hx e (hp.mem_iff.1 he)⟩
      | _ => exact hx.elim
    · rw [hro x (hsub β x e1).1, hro z (hsub γ z e2).1] at ro
      rcases ro with q | q <;> cases q
  have hGm : GR P (fun β => if β < Sm.nxt then ι β else none) := fun g hlt => by
    obtain ⟨L, e, e2⟩ := hG g hlt
    exact ⟨L, by show (if g < Sm.nxt then ι g else none) = _; rw [if_pos (by omega)]; exact e, e2⟩
  refine (h.2 w0 _ _ w vs hSm hGm (pureAs_vr ha hv)).mono fun e w' k => ?_
  obtain ⟨y, S', κ, v, rfl, hΦ, hv', _, hS'⟩ := k
  refine ⟨y, S, ι, v, rfl, ⟨rfl, S', hΦ⟩, pureA_vr (hy y S' hΦ) hv', Im.le.refl _, ?_⟩
  have hold : ∀ b, b < w.heap.size → w'.heap[b]? = w.heap[b]? := fun b hb => by
    have := hS'.pin b w.heap[b] (by show (if b < w.heap.size then w.heap[b]? else none) = _; rw [if_pos hb, Array.getElem?_eq_getElem hb])
    rw [this, Array.getElem?_eq_getElem hb]
  refine ⟨hS'.sam, fun b o e => ?_, fun β x e => ?_, hS.sep, hS.low, hS.res, hS.lo⟩
  · rw [hold b (hS.pin_lt e)]; exact hS.pin b o e
  · obtain ⟨L, m, r⟩ := hS.blk β x e
    exact ⟨L, m, r.keep (Im.le.refl _) (Kept.of_same (hold _ r.lt))⟩
end
end
end Go.Ev
namespace Go.Ev
open Go
/-! what holds of all that a tree holds -/
inductive T.All {α : Type} (p : Nat → α → Prop) : T α → (Nat → Nat) → Prop
  | nil {g} : T.All p .nil g
  | node {v l r g} (hv : ∀ x, v = some x → p (g 0) x) (hl : T.All p l fun n => g (2 * n + 1)) (hr : T.All p r fun n => g (2 * n + 2)) : T.All p (.node v l r) g
theorem T.All.get {α : Type} {p : Nat → α → Prop} : ∀ {t : T α} {g : Nat → Nat}, T.All p t g → ∀ n x, t.get n = some x → p (g n) x
  | _, _, .nil, n, x, h => by cases h
  | _, g, .node hv hl hr, n, x, h => by
    rw [T.get_node] at h
    by_cases h0 : n = 0
    · rw [if_pos h0] at h; subst h0; exact hv x h
    · rw [if_neg h0] at h
      by_cases h1 : n % 2 = 1
      · rw [if_pos h1] at h
        have := hl.get (n / 2) x h
        rw [show 2 * (n / 2) + 1 = n from by omega] at this; exact this
      · rw [if_neg h1] at h
        have := hr.get (n / 2 - 1) x h
        rw [show 2 * (n / 2 - 1) + 2 = n from by omega] at this; exact this
theorem T.all {α : Type} {p : Nat → α → Prop} {t : T α} (h : T.All p t fun n => n) : ∀ n x, t.get n = some x → p n x := h.get
end Go.Ev
namespace Go.Ev
open Go
noncomputable section
section
variable {P : Program} {w0 : World} {K : Pins} {ι κ : Im} {S S' S1 : St} {w w' : World} {f : Nat} {args : List AV} {L : Loc}
/-- names of before, and new names for some of those that came -/
def reIm (ι κ : Im) (n n1 : Nat) (nm : Nat → Nat) : Im := fun β => if β < n then ι β else if β < n1 then κ (nm (β - n)) else none
def VV (κ ι : Im) (b a : AV) : Prop := ∀ v, VR κ b v → VR ι a v
def MV (κ ι : Im) : List (AV × AV × Nat) → List (AV × AV × Nat) → Prop
  | [], [] => True
  | b :: r, a :: s => VV κ ι b.1 a.1 ∧ VV κ ι b.2.1 a.2.1 ∧ a.2.2 = b.2.2 ∧ MV κ ι r s
  | _, _ => False
/-- a block in other names -/
def BV (κ ι : Im) : Blk → Blk → Prop
  | .row k c n, x' => ∃ c', x' = .row k c' n ∧ ∀ i, i < n → ∀ a, c.get i = some a → ∃ b, c'.get i = some b ∧ VV κ ι b a
  | .map es c, x' => ∃ es', x' = .map es' c ∧ MV κ ι es' es
  | _, _ => False
theorem MV.ers : ∀ {es' es : List (AV × AV × Nat)} {cs : List MapEntry}, MV κ ι es' es → ERs κ es' cs → ERs ι es cs
  | [], [], _, _, .nil => .nil
  | b :: r, a :: s, _, h, .cons h1 h2 => by
    obtain ⟨k1, k2, k3, k4⟩ := h
    exact .cons ⟨k1 _ h1.1, k2 _ h1.2.1, by rw [k3]; exact h1.2.2⟩ (MV.ers k4 h2)
  | [], _ :: _, _, h, _ => h.elim
  | _ :: _, [], _, h, _ => h.elim
theorem BV.br {x x' : Blk} (hv : BV κ ι x x') (h : BR P K κ L w x') : BR P K ι L w x := by
  cases x with
  | row a c n =>
    obtain ⟨c', rfl, hc⟩ := hv
    obtain ⟨⟨arr, el, fr, e, hs, hg, hf⟩, h2, h3, h4, h5⟩ := h
    exact ⟨⟨arr, el, fr, e, hs, fun i hi a ha => by
      obtain ⟨b, hb, hvv⟩ := hc i hi a ha
      obtain ⟨v, hv, r⟩ := hg i hi b hb
      exact ⟨v, hv, hvv v r⟩, hf⟩, h2, h3, h4, h5⟩
  | map es c =>
    obtain ⟨es', rfl, hm⟩ := hv
    obtain ⟨h1, ces, e, r⟩ := h
    exact ⟨h1, ces, e, hm.ers r⟩
  | _ => exact hv.elim
theorem BV.kind {x x' : Blk} (hv : BV κ ι x x') : x'.isRo = x.isRo ∧ x'.isRow = x.isRow := by
  cases x with
  | row a c n => obtain ⟨c', rfl, _⟩ := hv; exact ⟨rfl, rfl⟩
  | map es c => obtain ⟨es', rfl, _⟩ := hv; exact ⟨rfl, rfl⟩
  | _ => exact hv.elim
theorem Apart.kind {x x' y y' : Blk} {L M : Loc} (hx : x'.isRow = x.isRow) (hy : y'.isRow = y.isRow) (h : Apart x' y' L M) : Apart x y L M := by
  cases x <;> cases x' <;> (try cases hx) <;> cases y <;> cases y' <;> (try cases hy) <;> exact h
/-- what we know of the names of before -/
structure Kn (P : Program) (S : St) (args : List AV) (ι : Im) : Prop where
  dom : ∀ β x, S.heap.get β = some x → ∃ L, ι β = some L
  cell : ∀ β k c n i a, S.heap.get β = some (.row k c n) → i < n → c.get i = some a → Cl ι a
  ent : ∀ β es c, S.heap.get β = some (.map es c) → ∀ e ∈ es, Cl ι e.1 ∧ Cl ι e.2.1
  arg : ∀ a ∈ args, Cl ι a
  glob : GR P ι
  low : ∀ β L, ι β = some L → β < S.nxt
theorem VRs.cl : ∀ {l : List AV} {vs : List Value}, VRs ι l vs → ∀ a ∈ l, Cl ι a
  | _, _, .nil, a, h => by cases h
  | _, _, .cons h1 h2, a, h => by
    rcases List.mem_cons.1 h with rfl | h
    · exact ⟨_, h1⟩
    · exact VRs.cl h2 a h
/-- what is behind a call, in names that we choose -/
theorem GCall.compact {Φ : AV → St → Prop} (h : GCall P f args S Φ) {y : AV} (hn : S.nxt ≤ S1.nxt)
    (hΦ : ∀ y' S', Φ y' S' → ∃ nm : Nat → Nat, (∀ i, S.nxt ≤ nm i) ∧ (∀ i j, S.nxt + i < S1.nxt → S.nxt + j < S1.nxt → nm i = nm j → i = j) ∧
      ∀ ι κ : Im, ι.le κ → Kn P S args ι → VV κ (reIm ι κ S.nxt S1.nxt nm) y' y ∧
        ∀ β x, S1.heap.get β = some x → β < S1.nxt ∧ (β < S.nxt → ∃ x0, S.heap.get β = some x0) ∧ ∃ x', S'.heap.get (if β < S.nxt then β else nm (β - S.nxt)) = some x' ∧ (BV κ (reIm ι κ S.nxt S1.nxt nm) x x' ∨ (x' = x ∧ S.heap.get β = some x))) :
    GCall P f args S (isV y S1) := by
  refine ⟨h.1, fun w0 K ι w vs hS hG hv => (h.2 w0 K ι w vs hS hG hv).mono fun e w' k => ?_⟩
  obtain ⟨y', S', κ, v, rfl, hy, hv', hle, hS'⟩ := k
  obtain ⟨nm, hnm, hinj, hr⟩ := hΦ y' S' hy
  have kn : Kn P S args ι := ⟨fun β x e => let ⟨L, m, _⟩ := hS.blk β x e; ⟨L, m⟩, fun β k c n i a e hi ha => by
    obtain ⟨L, _, ⟨arr, el, fr, _, _, hg, _⟩, _⟩ := hS.blk β _ e
    obtain ⟨v, _, r⟩ := hg i hi a ha
    exact ⟨v, r⟩, fun β es c e => by
    obtain ⟨L, _, _, ces, _, r⟩ := hS.blk β _ e
    exact r.cl, hv.cl, hG, fun β L e => by
    rcases Nat.lt_or_ge β S.nxt with k | k
    · exact k
    · rw [(hS.low β k).1] at e; cases e⟩
  obtain ⟨hyv, hblk⟩ := hr ι κ hle kn
  have hι1 : ι.le (reIm ι κ S.nxt S1.nxt nm) := fun β L e => by
    show (if β < S.nxt then ι β else _) = _
    rw [if_pos (kn.low β L e)]; exact e
  have hre : ∀ β x x', S1.heap.get β = some x → S'.heap.get (if β < S.nxt then β else nm (β - S.nxt)) = some x' →
      ∃ L, reIm ι κ S.nxt S1.nxt nm β = some L ∧ κ (if β < S.nxt then β else nm (β - S.nxt)) = some L := fun β x x' e1 e2 => by
    obtain ⟨hb, h0, _⟩ := hblk β x e1
    obtain ⟨L', m', _⟩ := hS'.blk _ _ e2
    by_cases hlt : β < S.nxt
    · rw [if_pos hlt]
      obtain ⟨x0, e0⟩ := h0 hlt
      obtain ⟨L, m⟩ := kn.dom β x0 e0
      exact ⟨L, hι1 _ _ m, hle _ _ m⟩
    · rw [if_neg hlt] at m' ⊢
      exact ⟨L', by unfold reIm; rw [if_neg hlt, if_pos hb]; exact m', m'⟩
  have hkind : ∀ {x x' : Blk} {A : Prop}, (BV κ (reIm ι κ S.nxt S1.nxt nm) x x' ∨ (x' = x ∧ A)) → x'.isRo = x.isRo ∧ x'.isRow = x.isRow := fun k => by
    rcases k with k | ⟨rfl, _⟩
    · exact k.kind
    · exact ⟨rfl, rfl⟩
  have hne : ∀ {β γ : Nat}, β < S1.nxt → γ < S1.nxt → β ≠ γ → (if β < S.nxt then β else nm (β - S.nxt)) ≠ (if γ < S.nxt then γ else nm (γ - S.nxt)) := fun {β γ} hb hg hne => by
    by_cases h1 : β < S.nxt
    · rw [if_pos h1]
      by_cases h2 : γ < S.nxt
      · rw [if_pos h2]; exact hne
      · rw [if_neg h2]; have := hnm (γ - S.nxt); omega
    · rw [if_neg h1]
      by_cases h2 : γ < S.nxt
      · rw [if_pos h2]; have := hnm (β - S.nxt); omega
      · rw [if_neg h2]
        intro q
        have := hinj _ _ (by omega) (by omega) q
        omega
  refine ⟨y, S1, reIm ι κ S.nxt S1.nxt nm, v, rfl, ⟨rfl, rfl⟩, hyv v hv', hι1, ?_⟩
  refine ⟨hS'.sam, hS'.pin, fun β x e => ?_, fun β γ x z L M hβγ e1 e2 m1 m2 ro => ?_, fun β hβ => ⟨?_, ?_⟩, fun β hβ => ?_, hS'.lo⟩
  · obtain ⟨_, _, x', e2, hor⟩ := hblk β x e
    obtain ⟨L, m, m'⟩ := hre β x x' e e2
    obtain ⟨L', mm, r⟩ := hS'.blk _ _ e2
    rw [m'] at mm; cases mm
    refine ⟨_, m, ?_⟩
    rcases hor with hor | ⟨rfl, e0⟩
    · exact hor.br r
    · obtain ⟨L0, m0, r0⟩ := hS.blk β x' e0
      rw [hι1 _ _ m0] at m; cases m
      exact (r0.narrow hle r).keep hι1 (Kept.of_same rfl)
  · obtain ⟨b1, _, x', e1', hor⟩ := hblk β x e1
    obtain ⟨b2, _, z', e2', hor2⟩ := hblk γ z e2
    obtain ⟨L', m, m'⟩ := hre β x x' e1 e1'
    obtain ⟨M', k, k'⟩ := hre γ z z' e2 e2'
    rw [m1] at m; cases m
    rw [m2] at k; cases k
    have ap := hS'.sep _ _ x' z' _ _ (hne b1 b2 hβγ) e1' e2' m' k' (by rw [(hkind hor).1, (hkind hor2).1]; exact ro)
    exact ap.kind (hkind hor).2 (hkind hor2).2
  · show (if β < S.nxt then ι β else if β < S1.nxt then _ else none) = none
    rw [if_neg (by omega), if_neg (by omega)]
  · cases e : S1.heap.get β with
    | none => rfl
    | some x => have := (hblk β x e).1; omega
  · have := hS.res β hβ
    refine ⟨?_, by omega⟩
    show (if β < S.nxt then ι β else _) = none
    rw [if_pos this.2]; exact this.1
end
end
end Go.Ev
namespace Go.Ev
open Go
noncomputable section
section
variable {S0 S : St} {q : Option AV} {l : Fr} {N N' : Nat} {h h' : Hp} {v w x y z : AV} {a b c d : Opd}
/-! rows by a window -/
theorem SH.ld1W (H : SH S0 N h S) {j b p k i m : Nat} {L : T AV} {W : List AV} {v : AV} (e : hat h j = some (b, .win k L m p W)) (hv : W[i]? = some v) : ldCell S b (Nat.add p i) = some v := by
  obtain ⟨c, hc, hle, hg⟩ := H.look e
  have hlt := (List.getElem?_eq_some_iff.1 hv).1
  show @Option.rec Blk (fun _ => Option AV) none (rowCell (Nat.add p i)) (S.heap.get b) = _
  rw [hc]
  show @Bool.rec (fun _ => Option AV) none (c.get (p + i)) (Nat.ble (Nat.succ (p + i)) m) = _
  rw [ble_of (show Nat.succ (p + i) ≤ _ by omega)]
  show c.get (p + i) = _
  rw [hg (p + i) (by omega), if_pos (by omega), ← hv]
  congr 1; omega
theorem SH.ldnW (H : SH S0 N h S) {j b p k i n m : Nat} {L : T AV} {W vs : List AV} (e : hat h j = some (b, .win k L m p W)) (hn : Nat.ble (Nat.add i n) W.length = true) (hv : rdL W i n = some vs) : ldCells S b (Nat.add p i) n = some vs := by
  obtain ⟨c, hc, hle, hg⟩ := H.look e
  have hn := ble_true hn
  have hn : i + n ≤ W.length := hn
  show @Option.rec Blk (fun _ => Option (List AV)) none (rowCells (p + i) n) (S.heap.get b) = _
  rw [hc]
  show @Bool.rec (fun _ => Option (List AV)) none (readCells c (p + i) n) (Nat.ble (Nat.add (p + i) n) m) = _
  rw [show Nat.ble (Nat.add (p + i) n) m = true from ble_of (show p + i + n ≤ _ by omega)]
  show readCells c (p + i) n = _
  have key : ∀ (n i : Nat) (vs : List AV), i + n ≤ W.length → rdL W i n = some vs → readCells c (p + i) n = some vs := by
    intro n
    induction n with
    | zero => intro i vs _ h; exact h
    | succ n ih =>
      intro i vs hle2 h
      change @Option.rec AV (fun _ => Option (List AV)) none (fun v => @Option.rec (List AV) (fun _ => Option (List AV)) none (fun r => some (v :: r)) (rdL W (Nat.succ i) n)) W[i]? = some vs at h
      show @Option.rec AV (fun _ => Option (List AV)) none (fun v => @Option.rec (List AV) (fun _ => Option (List AV)) none (fun r => some (v :: r)) (readCells c (Nat.succ (p + i)) n)) (c.get (p + i)) = some vs
      rw [hg (p + i) (by omega), if_pos (by omega), show p + i - p = i from by omega]
      cases hv : W[i]? with
      | none => rw [hv] at h; cases h
      | some v =>
        rw [hv] at h
        cases hr : rdL W (Nat.succ i) n with
        | none => rw [hr] at h; cases h
        | some r =>
          rw [hr] at h
          have := ih (i + 1) r (by omega) hr
          rw [show Nat.succ (p + i) = p + (i + 1) from rfl, this]; exact h
  exact key n i vs hn hv
theorem SH.stW (H : SH S0 N h S) {j b p k i m : Nat} {L : T AV} {W vs : List AV} (e : hat h j = some (b, .win k L m p W)) (hk : Nat.beq k 2 = false) (hn : Nat.ble (Nat.add i vs.length) W.length = true) (h1 : ones vs = true) :
    ∃ S', stCells S b (Nat.add p i) vs = some S' ∧ SH S0 N (hset h (.win k L m p (updL W i vs)) j) S' := by
  obtain ⟨c, hc, hle, hg⟩ := H.look e
  have hn' : i + vs.length ≤ W.length := ble_true hn
  refine ⟨S.setBlk b (.row k (setCells vs c (Nat.add p i)) m), ?_, H.setBlk e ⟨setCells vs c (Nat.add p i), rfl, by rw [updL_length]; exact hle, fun n hn2 => ?_⟩⟩
  · unfold stCells
    rw [hc]
    have : putRow vs (Nat.add p i) (.row k c m) = some (.row k (setCells vs c (Nat.add p i)) m) := by
      show @Bool.rec (fun _ => Option Blk) none _ (and (Nat.ble (p + i + vs.length) m) (and (not (Nat.beq k 2)) (ones vs))) = _
      rw [ble_of (show p + i + vs.length ≤ _ by omega), hk, h1]; rfl
    simp only [this]
  · rw [get_setCells, updL_length, updL_get _ _ _ _ hn']
    simp only [show Nat.add p i = p + i from rfl]
    by_cases hi : p + i ≤ n ∧ n < p + i + vs.length
    · rw [if_pos hi, if_pos (by omega), if_pos (by omega)]
      congr 1; omega
    · rw [if_neg hi, hg n hn2]
      by_cases hp : p ≤ n ∧ n < p + W.length
      · rw [if_pos hp, if_pos hp, if_neg (by omega)]
      · rw [if_neg hp, if_neg hp]
theorem AO1.ld1W (j : Nat) {bb p i k m : Nat} {L : T AV} {W : List AV} (ha : opdL l a = some (.p bb (Nat.add p i))) (hj : hat h j = some (bb, .win k L m p W)) (hv : W[i]? = some v) : AO1 S0 q (.ld1 a) l N h v N h :=
  fun σ S F H => ⟨S, by show opLd1 S (opd a σ) = _; rw [F.val ha]; show OR.o (ldCell S bb (Nat.add p i)) S = _; rw [H.ld1W hj hv]; rfl, H⟩
theorem AO1.ldnW (j : Nat) {bb p i k n m : Nat} {L : T AV} {W vs : List AV} (ha : opdL l a = some (.p bb (Nat.add p i))) (hj : hat h j = some (bb, .win k L m p W)) (hn : Nat.ble (Nat.add i n) W.length = true) (hv : rdL W i n = some vs) : AO1 S0 q (.ldn n a) l N h (.ag vs) N h :=
  fun σ S F H => ⟨S, by show opLdn n S (opd a σ) = _; rw [F.val ha]; simp only [opLdn, H.ldnW hj hn hv], H⟩
theorem AO1.stW (j : Nat) {bb p i k n m : Nat} {L : T AV} {W : List AV} (ha : opdL l a = some (.p bb (Nat.add p i))) (hb : opdL l b = some v) (hn : Nat.beq v.cells.length n = true) (hj : hat h j = some (bb, .win k L m p W)) (hk : Nat.beq k 2 = false) (hL : Nat.ble (Nat.add i v.cells.length) W.length = true) (h1 : ones v.cells = true) :
    AO1 S0 q (.st n a b) l N h .undef N (hset h (.win k L m p (updL W i v.cells)) j) := fun σ S F H => by
  obtain ⟨S', e, H'⟩ := H.stW hj hk hL h1
  refine ⟨S', ?_, H'⟩
  show opSt n S (opd b σ) (opd a σ) = _
  rw [F.val ha, F.val hb]
  simp only [opSt, hn, e]
theorem HB.win_of {k n o : Nat} {t : T AV} {W : List AV} {x : Option Blk} (hx : x = some (.row k t n)) (hn : o + W.length ≤ n) (hr : ∀ i, i < W.length → t.get (o + i) = W[i]?) : (HB.win k t n o W).at x := ⟨t, hx, hn, fun i hi => by
  split
  · rename_i h
    have := hr (i - o) (by omega)
    rw [show o + (i - o) = i from by omega] at this; exact this
  · rfl⟩
theorem AO1.ld1F (j : Nat) {bb o k m : Nat} {g : Nat → Option AV} (ha : opdL l a = some (.p bb o)) (hj : hat h j = some (bb, .fn k m g)) (ho : Nat.ble (Nat.succ o) m = true) (hv : g o = some v) : AO1 S0 q (.ld1 a) l N h v N h :=
  fun σ S F H => ⟨S, by
    obtain ⟨c, e, hc⟩ := H.look hj
    show opLd1 S (opd a σ) = _
    rw [F.val ha]
    show OR.o (@Option.rec Blk (fun _ => Option AV) none (rowCell o) (S.heap.get bb)) S = _
    rw [e]
    show OR.o (@Bool.rec (fun _ => Option AV) none (c.get o) (Nat.ble (Nat.succ o) m)) S = _
    rw [ho]
    show OR.o (c.get o) S = _
    rw [hc o (ble_true ho), hv]; rfl, H⟩
/-! rows as they are -/
theorem rdT (c : T AV) : ∀ (n o : Nat) (L : List AV), (∀ i, i < n → c.get (o + i) = L[i]?) → L.length = n → readCells c o n = some L
  | 0, o, L, _, hl => by
    have : L = [] := List.length_eq_zero_iff.1 hl
    subst this; rfl
  | n + 1, o, L, h, hl => by
    cases L with
    | nil => simp at hl
    | cons x L =>
      show @Option.rec AV (fun _ => Option (List AV)) none (fun v => @Option.rec (List AV) (fun _ => Option (List AV)) none (fun r => some (v :: r)) (readCells c (Nat.succ o) n)) (c.get o) = some (x :: L)
      have h0 := h 0 (by omega)
      rw [Nat.add_zero, List.getElem?_cons_zero] at h0
      rw [h0, rdT c n (o + 1) L (fun i hi => by rw [show o + 1 + i = o + (i + 1) from by omega, h (i + 1) (by omega), List.getElem?_cons_succ]) (by simpa using hl)]
theorem AO1.ld1X (j : Nat) {bb o k n : Nat} {t : T AV} (ha : opdL l a = some (.p bb o)) (hj : hat h j = some (bb, .blk (.row k t n))) (ho : Nat.ble (Nat.succ o) n = true) (hv : t.get o = some v) : AO1 S0 q (.ld1 a) l N h v N h :=
  fun σ S F H => ⟨S, by
    have e : S.heap.get bb = some (.row k t n) := H.look hj
    show opLd1 S (opd a σ) = _
    rw [F.val ha]
    show OR.o (@Option.rec Blk (fun _ => Option AV) none (rowCell o) (S.heap.get bb)) S = _
    rw [e]
    show OR.o (@Bool.rec (fun _ => Option AV) none (t.get o) (Nat.ble (Nat.succ o) n)) S = _
    rw [ho]
    show OR.o (t.get o) S = _
    rw [hv]; rfl, H⟩
theorem AO1.ldnX (j : Nat) {bb o k n m : Nat} {t : T AV} {vs : List AV} (ha : opdL l a = some (.p bb o)) (hj : hat h j = some (bb, .blk (.row k t n))) (ho : Nat.ble (Nat.add o m) n = true) (hv : readCells t o m = some vs) : AO1 S0 q (.ldn m a) l N h (.ag vs) N h :=
  fun σ S F H => ⟨S, by
    have e : S.heap.get bb = some (.row k t n) := H.look hj
    show opLdn m S (opd a σ) = _
    rw [F.val ha]
    have : ldCells S bb o m = some vs := by
      show @Option.rec Blk (fun _ => Option (List AV)) none (rowCells o m) (S.heap.get bb) = _
      rw [e]
      show @Bool.rec (fun _ => Option (List AV)) none (readCells t o m) (Nat.ble (Nat.add o m) n) = _
      rw [ho]; exact hv
    simp only [opLdn, this], H⟩
theorem AO1.slNX (j : Nat) {esz bb off len k n : Nat} {t : T AV} {lo hi : Option Opd} {lo' hi' : Option AV} (ha : opdL l a = some (.sl bb off len none)) (h1 : opdOL l lo = some lo') (h2 : opdOL l hi = some hi') (hj : hat h j = some (bb, .blk (.row k t n))) {i' j' : Nat} (hb2 : bound len len hi' = some j') (hb1 : bound 0 j' lo' = some i') (hk : Nat.beq k (Nat.add 3 esz) = true) :
    AO1 S0 q (.sl esz a lo hi none) l N h (.sl bb (off + i' * esz) (j' - i') none) N h := fun σ S F H => by
  have hc : S.heap.get bb = some (.row k t n) := H.look hj
  refine ⟨S, ?_, H⟩
  show opSl esz S (opdO lo σ) (opdO hi σ) (opdO none σ) (opd a σ) = _
  rw [F.val ha, F.valO h1, F.valO h2]
  simp only [opSl, opdO, opSlN, hc, slicesN, hb2, hb1, Option.bind_some, hk]
  rfl
theorem Src.zero {esz b o : Nat} {cp : Option Nat} (hb : ∃ j k t n, hat h j = some (b, .blk (.row k t n)) ∧ o ≤ n) : Src S0 N h esz (.sl b o 0 cp) 0 [] := ⟨rfl, fun S m H hm => by
  obtain ⟨j, k, t, n, hj, ho⟩ := hb
  have e : S.heap.get b = some (.row k t n) := H.look hj
  have : m = 0 := by omega
  subst this
  show ldCells S b o (Nat.mul 0 esz) = _
  have hz : Nat.mul 0 esz = 0 := Nat.zero_mul esz
  rw [hz]
  show @Option.rec Blk (fun _ => Option (List AV)) none (rowCells o 0) (S.heap.get b) = _
  rw [e]
  show @Bool.rec (fun _ => Option (List AV)) none (readCells t o 0) (Nat.ble (Nat.add o 0) n) = _
  rw [ble_of (show o + 0 ≤ n from ho)]
  rw [List.take_nil]; rfl⟩
/-! behind a call -/
theorem SH.trans {S' : St} (G : SH S0 N h S) (G' : SH S N' h' S') (h2 : Hp) (h1 : ∀ p ∈ h2, p ∈ h' ∨ (p ∈ h ∧ ∀ r ∈ h', r.1 ≠ p.1)) (c1 : ∀ p ∈ h, ∃ r ∈ h2, r.1 = p.1) (c2 : ∀ p ∈ h', p.1 < S0.nxt → ∃ r ∈ h2, r.1 = p.1) (hd : (h2.map (·.1)).Nodup) : SH S0 N' h2 S' := by
  have hle : N ≤ N' := by have := G'.le; rw [G.nxt] at this; exact this
  refine ⟨G'.nxt, fun p hp => ?_, fun β hlo hβ => ?_, hd, fun p hp => ?_, G.wf, Nat.le_trans G.le hle⟩
  · rcases h1 p hp with k | ⟨k, kn⟩
    · exact G'.get p k
    · rw [G'.els p.1 (by rw [G.nxt]; exact G.lt p k) kn]
      exact G.get p k
  · have hn : ∀ p ∈ h', p.1 ≠ β := fun p hp e => by
      obtain ⟨r, hr, e2⟩ := c2 p hp (by rw [e]; exact hlo)
      exact hβ r hr (by rw [e2, e])
    rw [G'.els β (by rw [G.nxt]; have := G.le; omega) hn]
    exact G.els β hlo fun p hp e => by
      obtain ⟨r, hr, e2⟩ := c1 p hp
      exact hβ r hr (by rw [e2, e])
  · rcases h1 p hp with k | ⟨k, _⟩
    · exact G'.lt p k
    · have := G.lt p k; omega
end
end
end Go.Ev
namespace Go.Ev
open Go
noncomputable section
section
variable {P : Program} {S : St} {f : Nat} {args : List AV} {ι κ : Im}
theorem reIm_le {n n1 : Nat} {nm : Nat → Nat} (hlow : ∀ β L, ι β = some L → β < n) : ι.le (reIm ι κ n n1 nm) := fun β L e => by
  show (if β < n then ι β else _) = _
  rw [if_pos (hlow β L e)]; exact e
theorem VV.pure {a : AV} (h : pureA a = true) : VV κ ι a a := fun v k => pureA_vr h k
theorem VV.cl {ι' : Im} {a : AV} (h : Cl ι a) (hl : ι.le κ) (h1 : ι.le ι') : VV κ ι' a a := fun v k => by
  obtain ⟨u, hu⟩ := h
  exact (hu.narrow hl k).mono h1
/-- a slice that can hold nothing has no place -/
theorem VV.can {β o β2 o2 : Nat} {L : Loc} (h : ι β = some L) : VV κ ι (.sl β2 o2 0 (some 0)) (.sl β o 0 (some 0)) := fun v k => by
  cases k with
  | sl e ha hc =>
    obtain ⟨rfl, _⟩ := hc
    exact .sl h (.inl rfl) ⟨rfl, Nat.zero_le _⟩
theorem VV.slN {β β2 o n : Nat} {c : Option Nat} (h : ι β = κ β2) : VV κ ι (.sl β2 o n c) (.sl β o n c) := fun v k => by
  cases k with
  | sl e ha hc => exact .sl (h.trans e) ha hc
theorem VV.p {β β2 o : Nat} (h : ι β = κ β2) : VV κ ι (.p β2 o) (.p β o) := fun v k => by
  cases k with
  | p e => exact .p (h.trans e)
theorem VV.m {β β2 : Nat} (h : ι β = κ β2) : VV κ ι (.m β2) (.m β) := fun v k => by
  cases k with
  | m e => exact .m (h.trans e)
def VVs (κ ι : Im) : List AV → List AV → Prop
  | [], [] => True
  | b :: r, a :: s => VV κ ι b a ∧ VVs κ ι r s
  | _, _ => False
theorem VVs.vrs : ∀ {b a : List AV} {vs : List Value}, VVs κ ι b a → VRs κ b vs → VRs ι a vs
  | [], [], _, _, .nil => .nil
  | _ :: _, _ :: _, _, h, .cons h1 h2 => .cons (h.1 _ h1) (VVs.vrs h.2 h2)
  | [], _ :: _, _, h, _ => h.elim
  | _ :: _, [], _, h, _ => h.elim
theorem VV.tu {b a : List AV} (h : VVs κ ι b a) : VV κ ι (.tu b) (.tu a) := fun v k => by
  cases k with
  | tu k => exact .tu (h.vrs k)
theorem VV.ag {b a : List AV} (h : VVs κ ι b a) : VV κ ι (.ag b) (.ag a) := fun v k => by
  cases k with
  | ag k => exact .ag (h.vrs k)
/-- a call that changes nothing that was there -/
theorem GCall.stillV {Φ : AV → St → Prop} (h : GCall P f args S Φ) {y : AV} (hΦ : ∀ y' S', Φ y' S' → (∃ N' h', SH S N' h' S' ∧ HSub S h' []) ∧ ∀ ι κ : Im, ι.le κ → Kn P S args ι → VV κ ι y' y) : GCall P f args S (isV y S) := by
  refine h.compact (S1 := S) (Nat.le_refl _) fun y' S' k => ?_
  obtain ⟨⟨N', h', G, hs⟩, hv⟩ := hΦ y' S' k
  have G0 := G.sub hs
  refine ⟨fun i => S.nxt + i, fun i => Nat.le_add_right _ _, fun i j h1 h2 _ => by omega, fun ι κ hl kn => ⟨?_, fun β x e => ?_⟩⟩
  · have hle : ι.le (reIm ι κ S.nxt S.nxt fun i => S.nxt + i) := reIm_le kn.low
    exact fun v k => (hv ι κ hl kn v k).mono hle
  · have hlt : β < S.nxt := by
      rcases Nat.lt_or_ge β S.nxt with q | q
      · exact q
      · rw [G.wf β q] at e; cases e
    refine ⟨hlt, fun _ => ⟨x, e⟩, x, ?_, .inr ⟨rfl, e⟩⟩
    rw [if_pos hlt, G0.els β hlt (fun p hp => by cases hp)]; exact e
theorem GCall.still {y : AV} (h : GCall P f args S (fun y' S' => ∃ N' h', SH S N' h' S' ∧ y' = y ∧ HSub S h' [])) (hy : pureA y = true) : GCall P f args S (isV y S) :=
  h.stillV fun y' S' ⟨N', h', G, e, hs⟩ => ⟨⟨N', h', G, hs⟩, fun ι κ _ _ => by subst e; exact .pure hy⟩
end
/-- nothing that was there has changed -/
theorem SH.still {S0 S S' : St} {N N' : Nat} {h : Hp} (G : SH S0 N h S) (G' : SH S N' [] S') : SH S0 N' h S' :=
  G.trans G' h (fun p hp => .inr ⟨hp, fun r hr => by cases hr⟩) (fun p hp => ⟨p, hp, rfl⟩) (fun p hp => by cases hp) G.dis
def ups : Hp → Hp → List Nat → Hp
  | h, [], _ => h
  | h, _ :: _, [] => h
  | h, p :: t, j :: js => ups (hset h p.2 j) t js
def upsOk (h : Hp) : Hp → List Nat → Prop
  | [], [] => True
  | p :: t, j :: js => (∃ x, hat h j = some (p.1, x)) ∧ upsOk h t js
  | _, _ => False
theorem hset_ids {h : Hp} {j b : Nat} {x y : HB} (e : hat h j = some (b, x)) : (hset h y j).map (·.1) = h.map (·.1) := by
  rw [hat_eq] at e
  rw [hset_eq h y j _ e]
  have hlt := (List.getElem?_eq_some_iff.1 e).1
  rw [List.map_set]
  refine List.ext_getElem? fun i => ?_
  rw [List.getElem?_set]
  by_cases hij : j = i
  · subst hij; rw [if_pos rfl, List.getElem?_map, e]; simp [hlt]
  · rw [if_neg hij]
theorem hset_hat {h : Hp} {j b : Nat} {x y : HB} (e : hat h j = some (b, x)) {i c : Nat} {z : HB} (k : hat h i = some (c, z)) : ∃ z', hat (hset h y j) i = some (c, z') := by
  have h1 := hset_ids (y := y) e
  rw [hat_eq] at k ⊢
  have h2 : ((hset h y j).map (·.1))[i]? = some c := by rw [h1, List.getElem?_map, k]; rfl
  rw [List.getElem?_map] at h2
  obtain ⟨p, hp, e2⟩ := Option.map_eq_some_iff.1 h2
  subst e2
  exact ⟨p.2, hp⟩
theorem hset_mem {h : Hp} {j b : Nat} {x y : HB} (e : hat h j = some (b, x)) (hd : (h.map (·.1)).Nodup) {p : Nat × HB} (hp : p ∈ hset h y j) : p = (b, y) ∨ (p ∈ h ∧ p.1 ≠ b) := by
  rw [hat_eq] at e
  rw [hset_eq h y j _ e] at hp
  have hlt := (List.getElem?_eq_some_iff.1 e).1
  obtain ⟨i, hi⟩ := List.getElem?_of_mem hp
  rw [List.getElem?_set] at hi
  by_cases hij : j = i
  · rw [if_pos hij, if_pos (by omega)] at hi
    exact .inl (Option.some.inj hi).symm
  · rw [if_neg hij] at hi
    refine .inr ⟨List.mem_of_getElem? hi, fun q => ?_⟩
    have hnd := List.pairwise_iff_getElem.1 hd
    obtain ⟨hi1, hi2⟩ := List.getElem?_eq_some_iff.1 hi
    obtain ⟨hj1, hj2⟩ := List.getElem?_eq_some_iff.1 e
    rcases Nat.lt_or_gt_of_ne hij with k | k
    · refine hnd j i (by simpa using hj1) (by simpa using hi1) k ?_
      simp only [List.getElem_map]; rw [hi2, hj2, q]
    · refine hnd i j (by simpa using hi1) (by simpa using hj1) k ?_
      simp only [List.getElem_map]; rw [hi2, hj2, q]
theorem ups_ok : ∀ {h' : Hp} {h : Hp} {js : List Nat}, upsOk h h' js → (h.map (·.1)).Nodup → (h'.map (·.1)).Nodup →
    (ups h h' js).map (·.1) = h.map (·.1) ∧ (∀ p ∈ ups h h' js, p ∈ h' ∨ (p ∈ h ∧ ∀ r ∈ h', r.1 ≠ p.1)) ∧ ∀ p ∈ h', ∃ r ∈ h, r.1 = p.1
  | [], h, [], _, _, _ => ⟨rfl, fun p hp => .inr ⟨hp, fun r hr => by cases hr⟩, fun p hp => by cases hp⟩
  | p :: t, h, j :: js, ⟨⟨x, e⟩, ho⟩, hd, hd' => by
    have hids := hset_ids (y := p.2) e
    have ho' : upsOk (hset h p.2 j) t js := by
      have : ∀ {t : Hp} {js : List Nat}, upsOk h t js → upsOk (hset h p.2 j) t js := by
        intro t
        induction t with
        | nil => intro js k; cases js with | nil => trivial | cons _ _ => exact k.elim
        | cons r t ih => intro js k; cases js with | nil => exact k.elim | cons i js => exact ⟨let ⟨z, hz⟩ := k.1; hset_hat e hz, ih k.2⟩
      exact this ho
    rw [List.map_cons, List.nodup_cons] at hd'
    obtain ⟨k1, k2, k3⟩ := ups_ok ho' (by rw [hids]; exact hd) hd'.2
    refine ⟨by show (ups (hset h p.2 j) t js).map _ = _; rw [k1, hids], fun r hr => ?_, fun r hr => ?_⟩
    · rcases k2 r hr with q | ⟨q, qn⟩
      · exact .inl (List.mem_cons_of_mem _ q)
      · rcases hset_mem e hd q with rfl | ⟨q, hne⟩
        · exact .inl (List.mem_cons_self ..)
        · refine .inr ⟨q, fun s hs => ?_⟩
          rcases List.mem_cons.1 hs with rfl | hs
          · exact fun e => hne e.symm
          · exact qn s hs
    · rcases List.mem_cons.1 hr with rfl | hr
      · rw [hat_eq] at e
        exact ⟨_, List.mem_of_getElem? e, rfl⟩
      · obtain ⟨s, hs, e2⟩ := k3 r hr
        have : s.1 ∈ (hset h p.2 j).map (·.1) := List.mem_map.2 ⟨s, hs, rfl⟩
        rw [hids] at this
        obtain ⟨s', hs', e3⟩ := List.mem_map.1 this
        exact ⟨s', hs', by rw [e3, e2]⟩
  | [], _, _ :: _, ho, _, _ => ho.elim
  | _ :: _, _, [], ho, _, _ => ho.elim
/-- a call has changed blocks that we know -/
theorem SH.upds {S0 S S' : St} {N N' : Nat} {h h' : Hp} (G : SH S0 N h S) (G' : SH S N' h' S') (js : List Nat) (ho : upsOk h h' js) : SH S0 N' (ups h h' js) S' := by
  obtain ⟨k1, k2, k3⟩ := ups_ok ho G.dis G'.dis
  have c1 : ∀ p ∈ h, ∃ r ∈ ups h h' js, r.1 = p.1 := fun p hp => by
    have : p.1 ∈ (ups h h' js).map (·.1) := by rw [k1]; exact List.mem_map.2 ⟨p, hp, rfl⟩
    obtain ⟨r, hr, e⟩ := List.mem_map.1 this
    exact ⟨r, hr, e⟩
  exact G.trans G' _ k2 c1 (fun p hp _ => by
    obtain ⟨r, hr, e⟩ := k3 p hp
    obtain ⟨s, hs, e2⟩ := c1 r hr
    exact ⟨s, hs, by rw [e2, e]⟩) (by rw [k1]; exact G.dis)
/-- a call has changed blocks that we know, and has made others -/
theorem SH.updsN {S0 S S' : St} {N N' : Nat} {h h' : Hp} (G : SH S0 N h S) (up nw : Hp) (e : h' = up ++ nw) (G' : SH S N' h' S') (js : List Nat) (ho : upsOk h up js) (hn : ∀ p ∈ nw, N ≤ p.1) : SH S0 N' (ups h up js ++ nw) S' := by
  subst e
  have hdis := G'.dis
  rw [List.map_append, List.nodup_append] at hdis
  obtain ⟨k1, k2, k3⟩ := ups_ok ho G.dis hdis.1
  have c1 : ∀ p ∈ h, ∃ r ∈ ups h up js ++ nw, r.1 = p.1 := fun p hp => by
    have : p.1 ∈ (ups h up js).map (·.1) := by rw [k1]; exact List.mem_map.2 ⟨p, hp, rfl⟩
    obtain ⟨r, hr, e⟩ := List.mem_map.1 this
    exact ⟨r, List.mem_append_left _ hr, e⟩
  refine G.trans G' _ (fun p hp => ?_) c1 (fun p hp _ => ?_) ?_
  · rcases List.mem_append.1 hp with hp | hp
    · rcases k2 p hp with q | ⟨q, qn⟩
      · exact .inl (List.mem_append_left _ q)
      · refine .inr ⟨q, fun r hr => ?_⟩
        rcases List.mem_append.1 hr with hr | hr
        · exact qn r hr
        · have := hn r hr; have := G.lt p q; omega
    · exact .inl (List.mem_append_right _ hp)
  · rcases List.mem_append.1 hp with hp | hp
    · obtain ⟨r, hr, e⟩ := k3 p hp
      obtain ⟨s, hs, e2⟩ := c1 r hr
      exact ⟨s, hs, by rw [e2, e]⟩
    · exact ⟨p, List.mem_append_right _ hp, rfl⟩
  · rw [List.map_append, List.nodup_append]
    refine ⟨by rw [k1]; exact G.dis, hdis.2.1, fun a ha b hb => ?_⟩
    rw [k1] at ha
    obtain ⟨p, hp, rfl⟩ := List.mem_map.1 ha
    obtain ⟨r, hr, rfl⟩ := List.mem_map.1 hb
    have := hn r hr; have := G.lt p hp; omega
/-! a range over a map -/
theorem candidates_ne (es : List (AV × AV × Nat)) (since : Nat) (seen : List Nat) : candidates es since seen ≠ [] := by
  unfold candidates
  split
  · simp
  · rename_i h
    intro e
    rw [List.nil_append, List.map_eq_nil_iff, List.append_eq_nil_iff] at e
    rw [e.1] at h
    exact h rfl
theorem AO1c.nx {S0 S : St} {q : Option AV} {σ : T AV} {l : Fr} {N : Nat} {h : Hp} (F : FS q σ l) (H : SH S0 N h S) {a : Opd} (j i : Nat) {it b since last c : Nat} {seen : List Nat} {es : List (AV × AV × Nat)} (ha : opdL l a = some (.p it 0)) (hj : hat h j = some (it, .blk (.miter (some b) since seen last))) (hi : hat h i = some (b, .blk (.map es c)))
    (hg : (!seen.isEmpty && !es.isEmpty && es.all (fun e => Nat.ble last e.2.2)) = false) (ch : Nat) :
    ∃ cand ∈ candidates es since seen, aop (.nx false a) (some ch) σ S = (match cand with
      | some (k, v, born) => .v (.tu [.b true, k, v]) (S.setBlk it (.miter (some b) since (seen ++ [born]) c))
      | none => .v (.tu [.b false]) S) := by
  have e1 : S.heap.get it = some (.miter (some b) since seen last) := H.look hj
  have e2 := (H.map hi).2
  have hne := candidates_ne es since seen
  have hpos : 0 < (candidates es since seen).length := List.length_pos_iff.2 hne
  have hrun : aop (.nx false a) (some ch) σ S = opNxM (some ch) S it b since seen last es c := by
    show opNx (some ch) S (opd a σ) = _
    rw [F.val ha]
    simp only [opNx, e1, e2]
  rw [hrun]
  simp only [opNxM, hg]
  have hp : ∃ n, pick 0 (candidates es since seen).length (some ch) = some n ∧ n < (candidates es since seen).length := by
    unfold pick
    cases hb : Nat.ble (candidates es since seen).length 1 with
    | true => exact ⟨0, rfl, hpos⟩
    | false => exact ⟨_, rfl, Nat.mod_lt _ hpos⟩
  obtain ⟨n, hn, hlt⟩ := hp
  rw [hn]
  refine ⟨(candidates es since seen)[n], List.getElem_mem hlt, ?_⟩
  simp only [List.getElem?_eq_getElem hlt]
  cases (candidates es since seen)[n] with
  | none => rfl
  | some e => obtain ⟨k, v, b⟩ := e; rfl
theorem JO.nx {P : Program} {S0 : St} {q : Option AV} {l : Fr} {N : Nat} {h : Hp} {Ψ : Pst} {d : Nat} {ops : List AO} {a : Opd} (j i : Nat) {it b since last c : Nat} {seen : List Nat} {es : List (AV × AV × Nat)} (ha : opdL l a = some (.p it 0)) (hj : hat h j = some (it, .blk (.miter (some b) since seen last))) (hi : hat h i = some (b, .blk (.map es c)))
    (hg : (!seen.isEmpty && !es.isEmpty && es.all (fun e => Nat.ble last e.2.2)) = false) (hd : Nat.beq d rslot = false)
    (h1 : none ∈ candidates es since seen → JO P S0 q ops ((d, .tu [.b false]) :: l) N h Ψ)
    (h2 : ∀ k v born, some (k, v, born) ∈ candidates es since seen → JO P S0 q ops ((d, .tu [.b true, k, v]) :: l) N (hset h (.blk (.miter (some b) since (seen ++ [born]) c)) j) Ψ) : JO P S0 q (⟨some d, .nx false a, none⟩ :: ops) l N h Ψ := fun σ S F G =>
  GOp.val rfl fun ch => by
    obtain ⟨cand, hc, e⟩ := AO1c.nx F G j i ha hj hi hg ch
    rw [e]
    cases cand with
    | none => exact ⟨_, _, rfl, h1 hc _ _ (F.put hd) G⟩
    | some x =>
      obtain ⟨k, v, born⟩ := x
      exact ⟨_, _, rfl, h2 k v born hc _ _ (F.put hd) (G.setBlk hj rfl)⟩
theorem AO1.en {S0 : St} {q : Option AV} {l : Fr} {N : Nat} {h : Hp} {a : Opd} (j i : Nat) {it b since c born b' : Nat} {seen : List Nat} {es : List (AV × AV × Nat)} {k v : AV} (ha : opdL l a = some (.p it 0)) (hj : hat h j = some (it, .blk (.miter (some b) since (seen ++ [born]) c))) (hi : hat h i = some (b, .blk (.map es c)))
    (hf : es.find? (fun e => Nat.beq e.2.2 born) = some (k, v, b')) : AO1 S0 q (.en a) l N h (.tu [k, v]) N h := fun σ S F H => ⟨S, by
  have e1 : S.heap.get it = some (.miter (some b) since (seen ++ [born]) c) := H.look hj
  have e2 := (H.map hi).2
  show opEn S (opd a σ) = _
  rw [F.val ha]
  simp only [opEn, e1, e2, List.getLast?_append, List.getLast?_singleton, Option.some_or, if_true, hf], H⟩
end
end Go.Ev
namespace Go.Ev
open Go
noncomputable section
section
variable {P : Program} {S S' S0 : St} {q : Option AV} {l l2 : Fr} {N N' : Nat} {h h' : Hp} {a b : AC} {Φ : Pc}
/-- a state without some blocks -/
def St.dels (S : St) : List Nat → St
  | [] => S
  | b :: r => (S.delBlk b).dels r
theorem St.dels_nxt : ∀ (ids : List Nat) (S : St), (S.dels ids).nxt = S.nxt
  | [], _ => rfl
  | b :: r, S => St.dels_nxt r (S.delBlk b)
theorem St.dels_get : ∀ (ids : List Nat) (S : St) (β : Nat), (S.dels ids).heap.get β = if β ∈ ids then none else S.heap.get β
  | [], S, β => by simp [St.dels]
  | b :: r, S, β => by
    show ((S.delBlk b).dels r).heap.get β = _
    rw [St.dels_get r, show (S.delBlk b).heap.get β = if β = b then none else S.heap.get β from T.get_del _ _ _]
    by_cases h1 : β = b <;> by_cases h2 : β ∈ r <;> simp [h1, h2]
/-- the state at a call, seen from one that lacks some of the blocks -/
theorem SH.initD (lim : ∀ β, S.nxt ≤ β → S.heap.get β = none) (ids : List Nat) (hh : ∀ p ∈ h, p.2.at (S.heap.get p.1) ∧ p.2.on = true) (hd : (h.map (·.1)).Nodup) (hi : ∀ i ∈ ids, ∃ p ∈ h, p.1 = i) : SH (S.dels ids) S.nxt h S := by
  have G := SH.init lim hh hd
  refine ⟨rfl, G.get, fun β _ k => ?_, hd, G.lt, fun β k => ?_, by rw [St.dels_nxt]; exact Nat.le_refl _⟩
  · rw [St.dels_get, if_neg]
    intro hm
    obtain ⟨p, hp, e⟩ := hi β hm
    exact k p hp e
  · rw [St.dels_get]
    rw [St.dels_nxt] at k
    split
    · rfl
    · exact lim β k
theorem JFD {f : Nat} {af : AF} {args : List AV} (hok : FnOk P f af) (hn : Nat.ble args.length 1000 = true) (ids : List Nat) (hh : ∀ p ∈ h, p.2.at (S.heap.get p.1) ∧ p.2.on = true) (hd : (h.map (·.1)).Nodup) (hi : ∀ i ∈ ids, ∃ p ∈ h, p.1 = i) {Φ : AV → Nat → Hp → Prop}
    (hb : SH (S.dels ids) S.nxt h S → JC P (S.dels ids) none af.body (entL args 0) S.nxt h (fnP af.results Φ)) : GCall P f args S (fun y S' => ∃ N' h', SH (S.dels ids) N' h' S' ∧ Φ y N' h') := by
  refine GCall.sup hok.ent fun lim => ?_
  have hn' := ble_true hn
  have G := SH.initD lim ids hh hd hi
  refine GCall.body hok hn' ((hb G _ _ (FS.entry hn') G).mono fun x σ' S' k => ?_)
  obtain ⟨l', N', h', F', G', k⟩ := k
  have fin : (∃ vs, ResL l' h' af.results vs ∧ lk l' dslot = some (.tu []) ∧ Φ (packV vs) N' h') → GUnw P f σ' S' (fun y S' => ∃ N' h', SH (S.dels ids) N' h' S' ∧ Φ y N' h') := fun ⟨vs, h1, h2, h3⟩ =>
    .nil hok (F'.defers h2) (h1.ok F' G') ⟨N', h', G', h3⟩
  cases x with
  | nrm => exact ⟨fun id e => (by cases e), fin k⟩
  | ret => exact ⟨fun id e => (by cases e), fin k⟩
  | ex id => exact k.elim
/-- behind a call that was seen from a state that lacks some of the blocks -/
theorem SH.ctxD (G : SH S0 N h S) (ids : List Nat) (hz : ∀ i ∈ ids, S0.heap.get i = none) (G' : SH (S.dels ids) N' h' S') (h2 : Hp) (h1 : ∀ p ∈ h2, p ∈ h' ∨ (p ∈ h ∧ p.1 ∉ ids ∧ ∀ r ∈ h', r.1 ≠ p.1)) (c1 : ∀ p ∈ h, p.1 < S0.nxt → p.1 ∈ ids ∨ ∃ r ∈ h2, r.1 = p.1) (c2 : ∀ p ∈ h', p.1 < S0.nxt → ∃ r ∈ h2, r.1 = p.1) (hd : (h2.map (·.1)).Nodup) : SH S0 N' h2 S' := by
  have hle : N ≤ N' := by have := G'.le; rw [St.dels_nxt, G.nxt] at this; exact this
  have els := G'.els
  rw [St.dels_nxt, G.nxt] at els
  refine ⟨G'.nxt, fun p hp => ?_, fun β hlo hβ => ?_, hd, fun p hp => ?_, G.wf, Nat.le_trans G.le hle⟩
  · rcases h1 p hp with k | ⟨k, k2, kn⟩
    · exact G'.get p k
    · rw [els p.1 (G.lt p k) kn, St.dels_get, if_neg k2]
      exact G.get p k
  · have hn : ∀ p ∈ h', p.1 ≠ β := fun p hp e => by
      obtain ⟨r, hr, e2⟩ := c2 p hp (by rw [e]; exact hlo)
      exact hβ r hr (by rw [e2, e])
    rw [els β (Nat.lt_of_lt_of_le hlo G.le) hn, St.dels_get]
    by_cases hm : β ∈ ids
    · rw [if_pos hm, hz β hm]
    rw [if_neg hm]
    refine G.els β hlo fun p hp e => ?_
    rcases c1 p hp (by rw [e]; exact hlo) with k | ⟨r, hr, e2⟩
    · exact hm (by rw [← e]; exact k)
    · exact hβ r hr (by rw [e2, e])
  · rcases h1 p hp with k | ⟨k, _⟩
    · exact G'.lt p k
    · have := G.lt p k; omega
/-- behind the first part only this counts -/
theorem JC.cut (l2 : Fr) (N2 : Nat) (h2 : Hp) (H1 : JC P S0 q a l N h (fun x l' N' h' => x = .nrm ∧ FSub l' l2 ∧ N' = N2 ∧ HSub S0 h' h2)) (H2 : JC P S0 q b l2 N2 h2 Φ) : JC P S0 q (.seq a b) l N h Φ :=
  JC.seq (H1.mono fun x l' N' h' ⟨e, e2, e3, e4⟩ => by subst e; subst e3; exact JC.weak e2 e4 H2)
/-- behind the first part a state of a kind -/
theorem JC.cutE {α : Type} (Lf : α → Fr) (Nf : α → Nat) (Hf : α → Hp) (I : α → Prop) (H1 : JC P S0 q a l N h (fun x l' N' h' => x = .nrm ∧ ∃ a, I a ∧ FSub l' (Lf a) ∧ N' = Nf a ∧ HSub S0 h' (Hf a))) (H2 : ∀ a, I a → JC P S0 q b (Lf a) (Nf a) (Hf a) Φ) : JC P S0 q (.seq a b) l N h Φ :=
  JC.seq (H1.mono fun x l' N' h' ⟨e, a, e1, e2, e3, e4⟩ => by subst e; subst e3; exact JC.weak e2 e4 (H2 a e1))
end
end
end Go.Ev
