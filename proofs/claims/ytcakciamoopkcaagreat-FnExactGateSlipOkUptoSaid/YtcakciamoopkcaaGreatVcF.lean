/- Rows of the call's own become data; calls under a contract. -/
import Derived.Test.YtcakciamoopkcaaGreatVcE
set_option linter.unusedVariables false
set_option linter.unusedSimpArgs false
namespace Go.Vc
section
variable {P : Program} {T : List (Nat × TI)} {S : Specs} {N0 Nf : Nat → Prop} {w0 w w' : World} {n : Nat} {σ : Env} {h : Heap} {a : Act} {ν ν' ν0 : Nat → Value} {Q : Exit → Act → World → Prop} {next : Act → World → Prop}

/-- a row of the call's own reads as a list, where its block is none of N' -/
theorem row_list (hp : Hp N0 w ν h) {i t sz : Nat} {rows : List (List D)} (hl : look h.objs i = some (.row t sz rows)) {N' : Nat → Prop} (hN : ∀ b, N' b → nN N0 ν b)
    (hi : ∀ b, vblk (ν i) = some b → ¬ N' b) {A : Option Addr} {m c : Nat} (hν : ν i = .slice A m c) : Rd w N' [.list rows] [.slice A m c] := by
  obtain ⟨A', c', cells, h1, h2, h3, h4, h5, h6⟩ := hp.objs i _ hl
  rw [hν] at h1
  injection h1 with e1 e2 e3
  subst e1 e2 e3
  have h2' : Rd w N' rows.flatten cells := h2.mv ⟨Nat.le_refl _, fun b _ hb => ⟨fun g => hb (hN b g), rfl⟩⟩
  rcases h6.2 with ⟨h6, h7⟩ | ⟨g, cap, cur, h6, _, h7, h8, _, _, h9⟩
  · rw [hν] at h6
    injection h6 with e1 e2 e3
    subst e1 e3
    have hr : rows = [] := List.eq_nil_of_length_eq_zero h7
    subst hr
    exact .list [] none 0 0 [] .nil (by simp) (.inl rfl) (Nat.le_refl _) (Nat.zero_le _) .nil
  · rw [hν] at h6
    injection h6 with e1 e2 e3
    subst e1 e3
    refine .list rows _ _ sz cells h2' h3 (.inr ⟨g, 0, rfl, hi g (by rw [hν]; rfl), fun j v hv => ?_⟩) h8 h4 .nil
    rw [← h9] at hv
    simp only [World.cell?, h7, Nat.zero_add]
    rw [List.getElem?_take] at hv
    split at hv
    · simpa using hv
    · cases hv

theorem Env.sub_slots {N N' : Nat → Prop} (m : Mv w N w' N') {i : Nat} {b : AV} (hν : ∀ id, id ≠ i → ν id ≠ undef → ν' id = ν id) (hb : ∀ A n c, ν i = .slice A n c → Rv w' N' ν' [b] [.slice A n c])
    {k : Nat} {v : Value} (h : Rv w N ν [σ k] [v]) : Rv w' N' ν' [(Env.sub i b σ) k] [v] := by
  have := h.sub m hν hb
  simpa [AV.subL, Env.sub] using this

theorem St.pub (s : St N0 w0 Nf n ν0 σ h a w ν) {i t sz : Nat} {rows : List (List D)} (hl : look h.objs i = some (.row t sz rows)) :
    St N0 w0 Nf n ν0 (Env.sub i (.d (.list rows)) σ) ⟨subO i (.d (.list rows)) (del i h.objs), h.nx, h.lo⟩ a w (upd ν i undef) := by
  have hup : ∀ j b, vblk (upd ν i undef j) = some b → j ≠ i ∧ vblk (ν j) = some b := by
    intro j b g
    by_cases e : j = i
    · simp [upd, e, undef, vblk] at g
    · exact ⟨e, by simpa [upd, e] using g⟩
  have hN : ∀ b, nN N0 (upd ν i undef) b → nN N0 ν b := by
    rintro b (g | ⟨j, g⟩)
    · exact .inl g
    · exact .inr ⟨j, (hup j b g).2⟩
  have m : Mv w (nN N0 ν) w (nN N0 (upd ν i undef)) := ⟨Nat.le_refl _, fun b _ hb => ⟨fun g => hb (hN b g), rfl⟩⟩
  have hν : ∀ id, id ≠ i → ν id ≠ undef → upd ν i undef id = ν id := fun id e _ => by simp [upd, e]
  have hb : ∀ A n c, ν i = .slice A n c → Rv w (nN N0 (upd ν i undef)) (upd ν i undef) [.d (.list rows)] [.slice A n c] := by
    intro A k c e
    refine .d (row_list s.hp hl hN ?_ e) .nil
    rintro b g (g' | ⟨j, g'⟩)
    · exact s.hp.dis i b g g'
    · have := hup j b g'
      exact this.1 (s.hp.inj j i b this.2 g)
  refine ⟨fun k => Env.sub_slots m hν hb (s.slots k), ⟨?_, ?_, ?_, ?_, s.hp.n0, ?_⟩, s.kp, ?_, s.size, s.defers, ?_, s.low⟩
  · intro id o ho
    rw [look_subO, look_del] at ho
    by_cases e : id = i
    · rw [if_pos e] at ho; cases ho
    · rw [if_neg e] at ho
      cases hq : look h.objs id with
      | none => rw [hq] at ho; cases ho
      | some o' =>
        rw [hq] at ho
        simp only [Option.map_some, Option.some.injEq] at ho
        subst ho
        exact Ro.keepSub m hν hb e (fun _ _ => rfl) (s.hp.objs id o' hq)
  · exact fun j k b g1 g2 => s.hp.inj j k b (hup j b g1).2 (hup k b g2).2
  · exact fun j b g => s.hp.bnd j b (hup j b g).2
  · intro j hj
    by_cases e : j = i
    · simp [upd, e]
    · simpa [upd, e] using s.hp.dom j hj
  · exact fun j b g => s.hp.dis j b (hup j b g).2
  · exact fun j b g => s.fresh j b (hup j b g).2
  · intro j h1 h2
    by_cases e : j = i
    · subst e
      obtain ⟨A', c', cells, h3, _⟩ := s.hp.objs _ _ hl
      exact absurd (by rw [← s.keep j h1 h2]; exact h3) (h2 _ _ _)
    · simp only [upd, e, if_false]
      exact s.keep j h1 h2

theorem St.pubs : ∀ (ids : List Nat) {σ : Env} {l l' : List (Nat × AO)} {x y : Nat} {m : List (Nat × AV)} {ν : Nat → Value}, St N0 w0 Nf n ν0 σ ⟨l, x, y⟩ a w ν → pubs ids l = (l', m) →
    ∃ ν', St N0 w0 Nf n ν0 (σ.subs m) ⟨l', x, y⟩ a w ν' ∧ (∀ j, ν' j = ν j ∨ ν' j = undef) ∧ ∀ i ∈ ids, (∃ t sz rows, look l i = some (.row t sz rows)) → ν' i = undef
  | [], σ, l, l', x, y, m, ν, s, e => by
    simp only [Vc.pubs, Prod.mk.injEq] at e
    obtain ⟨rfl, rfl⟩ := e
    exact ⟨ν, s, fun _ => .inl rfl, by simp⟩
  | i :: is, σ, l, l', x, y, m, ν, s, e => by
    unfold Vc.pubs at e
    split at e
    · rename_i t sz rows hl
      generalize hq : Vc.pubs is (subO i (.d (.list rows)) (del i l)) = q at e
      obtain ⟨l2, m2⟩ := q
      simp only [Prod.mk.injEq] at e
      obtain ⟨rfl, rfl⟩ := e
      obtain ⟨ν', s', h1, h2⟩ := St.pubs is (s.pub hl) hq
      have hi : ν' i = undef := by
        rcases h1 i with g | g
        · rw [g]; simp [upd]
        · exact g
      refine ⟨ν', s', fun j => ?_, ?_⟩
      · rcases h1 j with g | g
        · by_cases e : j = i
          · right; rw [g]; simp [upd, e]
          · left; rw [g]; simp [upd, e]
        · exact .inr g
      · intro j hj hrow
        by_cases e : j = i
        · rw [e]; exact hi
        · refine h2 j ((List.mem_cons.1 hj).resolve_left e) ?_
          obtain ⟨t', sz', rows', hr⟩ := hrow
          exact ⟨t', sz', rows', by rw [look_subO, look_del, if_neg e, hr]; rfl⟩
    · rename_i hno
      obtain ⟨ν', s', h1, h2⟩ := St.pubs is s e
      refine ⟨ν', s', h1, fun j hj hrow => ?_⟩
      rcases List.mem_cons.1 hj with rfl | hj
      · obtain ⟨t, sz, rows, hr⟩ := hrow
        exact absurd hr (by intro g; exact hno t sz rows g)
      · exact h2 j hj hrow

theorem Rv.pub (s : St N0 w0 Nf n ν0 σ h a w ν) {i t sz : Nat} {rows : List (List D)} (hl : look h.objs i = some (.row t sz rows)) {as : List AV} {vs : List Value} (hr : Rv w (nN N0 ν) ν as vs) :
    Rv w (nN N0 (upd ν i undef)) (upd ν i undef) (AV.subL i (.d (.list rows)) as) vs := by
  have hup : ∀ j b, vblk (upd ν i undef j) = some b → j ≠ i ∧ vblk (ν j) = some b := by
    intro j b g
    by_cases e : j = i
    · simp [upd, e, undef, vblk] at g
    · exact ⟨e, by simpa [upd, e] using g⟩
  have hN : ∀ b, nN N0 (upd ν i undef) b → nN N0 ν b := by
    rintro b (g | ⟨j, g⟩)
    · exact .inl g
    · exact .inr ⟨j, (hup j b g).2⟩
  have m : Mv w (nN N0 ν) w (nN N0 (upd ν i undef)) := ⟨Nat.le_refl _, fun b _ hb => ⟨fun g => hb (hN b g), rfl⟩⟩
  have hν : ∀ id, id ≠ i → ν id ≠ undef → upd ν i undef id = ν id := fun id e _ => by simp [upd, e]
  have hb : ∀ A n c, ν i = .slice A n c → Rv w (nN N0 (upd ν i undef)) (upd ν i undef) [.d (.list rows)] [.slice A n c] := by
    intro A k c e
    refine .d (row_list s.hp hl hN ?_ e) .nil
    rintro b g (g' | ⟨j, g'⟩)
    · exact s.hp.dis i b g g'
    · have := hup j b g'
      exact this.1 (s.hp.inj j i b this.2 g)
  exact hr.sub m hν hb
/-- rows are made data: what arguments are then -/
theorem St.pubsR : ∀ (ids : List Nat) {σ : Env} {l l' : List (Nat × AO)} {x y : Nat} {m : List (Nat × AV)} {ν : Nat → Value}, St N0 w0 Nf n ν0 σ ⟨l, x, y⟩ a w ν → Vc.pubs ids l = (l', m) →
    ∃ ν', St N0 w0 Nf n ν0 (σ.subs m) ⟨l', x, y⟩ a w ν' ∧ (∀ j, ν' j = ν j ∨ ν' j = undef) ∧ (∀ j, (∀ A k c, ν j ≠ .slice A k c) → ν' j = ν j) ∧ ∀ as vs, Rv w (nN N0 ν) ν as vs → Rv w (nN N0 ν') ν' (AV.subsL m as) vs
  | [], σ, l, l', x, y, m, ν, s, e => by
    simp only [Vc.pubs, Prod.mk.injEq] at e
    obtain ⟨rfl, rfl⟩ := e
    exact ⟨ν, s, fun _ => .inl rfl, fun _ _ => rfl, fun _ _ h => h⟩
  | i :: is, σ, l, l', x, y, m, ν, s, e => by
    unfold Vc.pubs at e
    split at e
    · rename_i t sz rows hl
      generalize hq : Vc.pubs is (subO i (.d (.list rows)) (del i l)) = q at e
      obtain ⟨l2, m2⟩ := q
      simp only [Prod.mk.injEq] at e
      obtain ⟨rfl, rfl⟩ := e
      obtain ⟨ν', s', h1, h2, h3⟩ := St.pubsR is (s.pub hl) hq
      obtain ⟨A', c', cells, hi, _⟩ := s.hp.objs _ _ hl
      have hup : ∀ j, (∀ A k c, ν j ≠ .slice A k c) → upd ν i undef j = ν j := fun j hj => by
        by_cases e : j = i
        · subst e; exact absurd hi (hj _ _ _)
        · simp [upd, e]
      refine ⟨ν', s', fun j => ?_, fun j hj => ?_, fun as vs hr => h3 _ _ (Rv.pub s hl hr)⟩
      · rcases h1 j with g | g
        · by_cases e : j = i
          · right; rw [g]; simp [upd, e]
          · left; rw [g]; simp [upd, e]
        · exact .inr g
      · rw [h2 j (by rw [hup j hj]; exact hj), hup j hj]
    · exact St.pubsR is s e
/-- looked at as data -/
theorem view_ok (hp : Hp N0 w ν h) {N' : Nat → Prop} (hN : ∀ b, N' b → nN N0 ν b) {ν0 : Nat → Value} : ∀ {as : List AV} {vs : List Value}, Rv w (nN N0 ν) ν as vs →
    (∀ id ∈ AV.ownsL as, ∀ b, vblk (ν id) = some b → (∃ t sz rows, look h.objs id = some (.row t sz rows)) → ¬ N' b) → Rv w N' ν0 (AV.viewL h.objs as) vs := by
  have m : Mv w (nN N0 ν) w N' := ⟨Nat.le_refl _, fun b _ hb => ⟨fun g => hb (hN b g), rfl⟩⟩
  intro as vs hr
  induction hr with
  | nil => intro _; simp only [AV.viewL]; exact .nil
  | any v _ ih => intro hd; simp only [AV.viewL, AV.view]; exact .any v (ih (fun id hid => hd id (by simp [AV.ownsL, AV.owns, hid])))
  | d h1 _ ih => intro hd; simp only [AV.viewL, AV.view]; exact .d (h1.mv m) (ih (fun id hid => hd id (by simp [AV.ownsL, AV.owns, hid])))
  | nils _ ih => intro hd; simp only [AV.viewL, AV.view]; exact .d (.list [] none 0 0 [] .nil (by simp) (.inl rfl) (Nat.le_refl _) (Nat.zero_le _) .nil) (ih (fun id hid => hd id (by simp [AV.ownsL, AV.owns, hid])))
  | val v _ ih =>
    intro hd
    have ih' := ih (fun id hid => hd id (by simp [AV.ownsL, AV.owns, hid]))
    simp only [AV.viewL]
    cases v <;> simp only [AV.view] <;> first | exact .val _ ih' | exact .d (.bool _ .nil) ih'
  | agg xs _ _ ih1 ih2 =>
    intro hd; simp only [AV.viewL, AV.view]
    exact .agg xs (ih1 (fun id hid => hd id (by simp [AV.ownsL, AV.owns, hid]))) (ih2 (fun id hid => hd id (by simp [AV.ownsL, AV.owns, hid])))
  | tup xs _ _ ih1 ih2 =>
    intro hd; simp only [AV.viewL, AV.view]
    exact .tup xs (ih1 (fun id hid => hd id (by simp [AV.ownsL, AV.owns, hid]))) (ih2 (fun id hid => hd id (by simp [AV.ownsL, AV.owns, hid])))
  | ptr off h1 _ ih => intro hd; simp only [AV.viewL, AV.view]; exact .any _ (ih (fun id hid => hd id (by simp [AV.ownsL, AV.owns, hid])))
  | at_ A cells h0 h1 h2 _ ih => intro hd; simp only [AV.viewL, AV.view]; exact .at_ A cells h0 (h1.mv m) (h2.mv m) (ih (fun id hid => hd id (by simp [AV.ownsL, AV.owns, hid])))
  | rptr i off sz h1 hi _ ih => intro hd; simp only [AV.viewL, AV.view]; exact .any _ (ih (fun id hid => hd id (by simp [AV.ownsL, AV.owns, hid])))
  | @own as vs id A k c h1 _ ih =>
    intro hd
    have ih' := ih (fun id hid => hd id (by simp [AV.ownsL, AV.owns, hid]))
    simp only [AV.viewL, AV.view]
    split
    · rename_i t sz rows hl
      exact .d (row_list hp hl hN (fun b g => hd id (by simp [AV.ownsL, AV.owns]) b g ⟨t, sz, rows, hl⟩) h1) ih'
    · exact .any _ ih'
  | mapr h1 _ ih => intro hd; simp only [AV.viewL, AV.view]; exact .any _ (ih (fun id hid => hd id (by simp [AV.ownsL, AV.owns, hid])))
  | fn f xs _ _ ih1 ih2 =>
    intro hd; simp only [AV.viewL, AV.view]
    exact .fn f xs (ih1 (fun id hid => hd id (by simp [AV.ownsL, AV.owns, hid]))) (ih2 (fun id hid => hd id (by simp [AV.ownsL, AV.owns, hid])))
  | iface t _ _ ih1 ih2 =>
    intro hd
    have ih1' := ih1 (fun id hid => hd id (by simp [AV.ownsL, AV.owns] at hid ⊢; simp [hid]))
    simp only [AV.viewL, AV.view] at ih1' ⊢
    exact .iface t ih1' (ih2 (fun id hid => hd id (by simp [AV.ownsL, AV.owns, hid])))

/-- THE MEANING OF A CONTRACT over objects of the caller's: called in such a heap, the function returns such a value and leaves such a heap; of what is no row the names stand for what they stood for. -/
def HeapOk (P : Program) (f : FuncId) (args : List AV) (h : Heap) (r : AV) (h' : Heap) : Prop :=
  ∀ (N0 : Nat → Prop) (w : World) (ν : Nat → Value) (vs : List Value), Hp N0 w ν h → Rv w (nN N0 ν) ν args vs →
    Calls P f vs.toArray w fun e w' => ∃ v ν', e = .returned v ∧ Hp N0 w' ν' h' ∧ Rv w' (nN N0 ν') ν' [r] [v] ∧ Kp (fun b => ∃ id, vblk (ν id) = some b) w w' ∧
      (∀ id, ν id ≠ undef → (∀ A m c, ν id ≠ .slice A m c) → ν' id = ν id) ∧ (∀ id b, vblk (ν' id) = some b → (∃ j, vblk (ν j) = some b) ∨ w.heap.size ≤ b) ∧ h'.lo = h.lo ∧ h.nx ≤ h'.nx
/-- THE MEANING OF A CONTRACT: called with such values in whatever world, the function returns such a value; all that was there stands. -/
def PureOk (P : Program) (f : FuncId) (args : List AV) (r : AV) : Prop :=
  ∀ (N : Nat → Prop) (w : World) (vs : List Value), (∀ b, N b → b < w.heap.size) → Rv w N (fun _ => undef) args vs →
    Calls P f vs.toArray w fun e w' => ∃ v, e = .returned v ∧ Kp (fun _ => False) w w' ∧ Rv w' N (fun _ => undef) [r] [v]
end
end Go.Vc
