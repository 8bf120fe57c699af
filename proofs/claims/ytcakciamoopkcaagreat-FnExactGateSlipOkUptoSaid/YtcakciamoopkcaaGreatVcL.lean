/- Stores, and appends to a row of the call's own. -/
import Derived.Test.YtcakciamoopkcaaGreatVcK
set_option linter.unusedVariables false
set_option linter.unusedSimpArgs false
namespace Go.Vc
section
variable {P : Program} {T : List (Nat × TI)} {N0 Nf : Nat → Prop} {w0 w w' : World} {n : Nat} {σ : Env} {h : Heap} {a : Act} {ν ν' ν0 : Nat → Value} {Q : Exit → Act → World → Prop} {next : Act → World → Prop}

theorem ownsRow_vblk {t sz k : Nat} {v : Value} {cells : List Value} (h : w.ownsRow 0 t sz v k cells) : ∀ b, vblk v = some b → b < w.heap.size := by
  intro b hb
  rcases h.2 with ⟨rfl, _⟩ | ⟨g, cap, cur, rfl, _, h2, _⟩
  · cases hb
  · simp only [vblk, Option.some.injEq] at hb
    subst hb
    exact (Array.getElem?_eq_some_iff.1 h2).1

/-- an object is written in place -/
theorem St.set (s : St N0 w0 Nf n ν0 σ h a w ν) {id b : Nat} (hb : vblk (ν id) = some b) (hk : Kp (fun x => x = b) w w') {o : AO} (hr : Ro w' (nN N0 ν) ν id o) :
    St N0 w0 Nf n ν0 σ (h.set id o) a w' ν := by
  have hold : ∀ c, c < w.heap.size → c ≠ b → w'.heap[c]? = w.heap[c]? := fun c hc hne => hk.blk c hc hne
  have m : Mv w (nN N0 ν) w' (nN N0 ν) := ⟨hk.size, fun c hc hN => ⟨hN, hold c hc (fun e => hN (.inr ⟨id, by rw [e]; exact hb⟩))⟩⟩
  refine ⟨fun k => (s.slots k).mv m (fun _ _ => rfl), ⟨?_, s.hp.inj, fun i c g => Nat.lt_of_lt_of_le (s.hp.bnd i c g) hk.size, s.hp.dom, fun c g => Nat.lt_of_lt_of_le (s.hp.n0 c g) hk.size, s.hp.dis⟩,
    s.kp.trans hk (fun x hx e => ?_), s.fresh, s.size, s.defers, s.keep, s.low⟩
  · intro j o' hl
    simp only [Heap.set, look_setO] at hl
    by_cases e : j = id
    · subst e
      rw [if_pos rfl] at hl
      cases hq : Vc.look h.objs j with
      | none => rw [hq] at hl; cases hl
      | some o'' =>
        rw [hq] at hl
        simp only [Option.map_some, Option.some.injEq] at hl
        subst hl; exact hr
    · rw [if_neg e] at hl
      exact Ro.keep m (fun _ _ => rfl) (fun c g => hold c (s.hp.bnd j c g) (fun e' => e (s.hp.inj j id b (by rw [← e']; exact g) hb))) (s.hp.objs j o' hl)
  · subst e
    rcases s.fresh id x hb with g | g
    · omega
    · exact g

theorem putAgain (s : St N0 w0 Nf n ν0 σ h a w ν) (d : Option Nat) {r : AV} {v : Value} (hr : Rv w (nN N0 ν) ν [r] [v]) : St N0 w0 Nf n ν0 (σ.putO n d r) h (a.put d v) w ν :=
  s.seen (Kp.refl _ _) d hr

theorem setRow_kp (w : World) (b : Nat) (cs : Array Value) : Kp (fun x => x = b) w (w.setRow b cs) :=
  ⟨rfl, rfl, rfl, by simp [World.setRow], fun c _ hc => setRow_other w b c cs hc⟩

/-- a store of cells into a block -/
theorem run_storeVar' {t : TypeId} {ti : TI} (k : TiOk P t ti) {b o : Nat} {arr : Array Value} {e : TypeId} (hb : w.heap[b]? = some (.cells arr e (0, 0))) (v : Value) (hv : v.cells.size = ti.size) (h1 : ∀ u ∈ v.cells.toList, u.oneCell' = true)
    (hfit : o + ti.size ≤ arr.size) : (storeVar t ⟨b, o, none⟩ v).run P w = .ok () (w.setRow b (arr.toList.take o ++ v.cells.toList ++ arr.toList.drop (o + v.cells.toList.length)).toArray) := by
  have hst := run_storeCells_at P b o e v.cells.toList 0 arr w hb (by simpa [hv] using hfit) h1
  simp only [Nat.add_zero] at hst
  unfold storeVar
  simp only [Sem.run_bind, run_sizeOf' k, Result.andThen_ok]
  rw [if_neg (by simp [hv])]
  exact hst

theorem over_rv {N : Nat → Prop} {cs new : List AV} {xs ys : List Value} (h : Rv w N ν cs xs) (k : Rv w N ν new ys) (off : Nat) : Rv w N ν (over cs off new) (xs.take off ++ ys ++ xs.drop (off + ys.length)) := by
  unfold over
  rw [k.length]
  exact ((h.take off).append k).append (h.drop _)

/-- what an append leaves -/
structure Appended (w : World) (v : Value) (e sz k m : Nat) (cells new : List Value) (v' : Value) (w' : World) : Prop where
  own : w'.ownsRow 0 e sz v' (k + m) (cells ++ new)
  os : w'.os = w.os
  tape : w'.tape = w.tape
  output : w'.output = w.output
  size : w.heap.size ≤ w'.heap.size
  blk : ∀ b, b < w.heap.size → vblk v ≠ some b → w'.heap[b]? = w.heap[b]?
  val : vblk v' = vblk v ∨ ∃ b, vblk v' = some b ∧ w.heap.size ≤ b
  form : ∃ A c, v' = .slice A (k + m) c

theorem run_append_none {t ty e : TypeId} {te : TI} (k : TiOk P e te) (ht : P.underlying t = some (.slice e)) (A b : Option Addr) (len cap c : Nat) (hc : len ≤ cap) :
    (Builtin.append_ #[t, t] ty #[.slice b len cap, .slice A 0 c]).run P w = .ok (.slice b len cap) w := by
  obtain ⟨i, z, hi, _⟩ := k.info
  unfold Builtin.append_
  simp only [List.getElem?_toArray, List.getElem?_cons_zero, List.getElem?_cons_succ, Sem.run_bind, run_underlying ht, Result.andThen_ok, run_sizeOf' k, Sem.run_pure]
  cases A <;> cases b <;> simp [Builtin.lenOf, hc, Builtin.firstCells, loadCells, loadCellsFrom, storeCells]

theorem append_ok {t ty e : TypeId} {te : TI} (k : TiOk P e te) (ht : P.underlying t = some (.slice e)) (hsz : 0 < te.size) (hby : te.bytes ≤ 131072) {v : Value} {len : Nat} {cells : List Value} (hown : w.ownsRow 0 e te.size v len cells)
    {A : Option Addr} {m c : Nat} {new : List Value} (hl : new.length = m * te.size) (hA : m = 0 ∨ ∃ b o, A = some ⟨b, o, none⟩ ∧ ∀ (j : Nat) u, new[j]? = some u → w.cell? ⟨b, o + j, none⟩ = some u)
    (h1 : ∀ u ∈ new, u.oneCell' = true) (hbig : len + m ≤ big) :
    ∃ v' w', (Builtin.append_ #[t, t] ty #[v, .slice A m c]).run P w = .ok v' w' ∧ Appended w v e te.size len m cells new v' w' := by
  obtain ⟨i, z, hi, hs, hb, hz, hzz, hzs, _⟩ := k.info
  have hmul : (len + m) * te.bytes ≤ 140737488355328 := by
    have : (len + m) * te.bytes ≤ 1073741824 * 131072 := Nat.mul_le_mul (by unfold big at hbig; exact hbig) hby
    omega
  have hm63 : ((len + m : Nat) : Int) ≤ 9223372036854775807 := by unfold big at hbig; omega
  have hmax : len + m ≤ maxLen := by unfold big at hbig; unfold maxLen; omega
  have hkeep : m = 0 → new = [] := fun e => List.eq_nil_of_length_eq_zero (by rw [hl, e, Nat.zero_mul])
  have same : m = 0 → Appended w v e te.size len m cells new v w := by
    intro hm
    have hn := hkeep hm
    subst hm hn
    refine ⟨by simpa using hown, rfl, rfl, rfl, Nat.le_refl _, fun _ _ _ => rfl, .inl rfl, ?_⟩
    rcases hown.2 with ⟨rfl, rfl⟩ | ⟨g, cap, cur, rfl, _⟩
    · exact ⟨_, _, rfl⟩
    · exact ⟨_, _, rfl⟩
  have grown : ∀ (old : Nat), old < len + m → hown.1 = hown.1 →
      Appended w v e te.size len m cells new (.slice (some ⟨w.heap.size, 0, none⟩) (len + m) (grownCap w (len + m) old e))
        (w.drew.alloc (.cells (cells.toArray ++ new.toArray ++ Builtin.zeroCells z.cells (grownCap w (len + m) old e - (len + m))) e)) := by
    intro old ho _
    have hge := grownCap_ge w (len + m) old e
    have hcm : grownCap w (len + m) old e ≤ maxLen := grownCap_le_maxLen w (len + m) old e hmax
    have hlen : (cells ++ new).length = (len + m) * te.size := by rw [List.length_append, hown.1, hl, Nat.add_mul]
    refine ⟨⟨hlen, .inr ⟨w.heap.size, _, _, rfl, Nat.zero_le _, heap_push_new w.drew _, hge, hcm, ?_, ?_⟩⟩, rfl, rfl, rfl, by rw [size_alloc]; exact Nat.le_succ _, fun b hb _ => heap_push_old w.drew _ b hb,
      .inr ⟨w.heap.size, rfl, Nat.le_refl _⟩, _, _, rfl⟩
    · simp only [Array.size_append, List.size_toArray, size_zeroCells, hzs, hown.1, hl, ← Nat.add_mul]
      congr 1
      omega
    · simp only [Array.toList_append, List.append_assoc]
      rw [← List.append_assoc, ← hlen]
      exact List.take_left
  rcases hA with hm | ⟨b, o, rfl, hcells⟩
  · subst hm
    refine ⟨v, w, ?_, same rfl⟩
    rcases hown.2 with ⟨rfl, rfl⟩ | ⟨g, cap, cur, rfl, _, _, hcap, _⟩
    · exact run_append_none k ht _ _ _ _ _ (Nat.le_refl _)
    · exact run_append_none k ht _ _ _ _ _ hcap
  · have hnews : ∀ j u, new[j]? = some u → w.cell? ((⟨b, o, none⟩ : Addr).add j) = some u := fun j u hu => by rw [Addr.add_lit]; exact hcells j u hu
    rcases hown.2 with ⟨rfl, rfl⟩ | ⟨g, cap, cur, rfl, _, hg, hcap, hcm, hcs, htake⟩
    · by_cases hm : m = 0
      · subst hm
        refine ⟨_, w, ?_, same rfl⟩
        have hn := hkeep rfl
        subst hn
        simp [Builtin.append_, run_underlying ht, sizeOf, typeInfo, hi, Builtin.lenOf, Builtin.firstCells, loadCells, loadCellsFrom]
      · have hx : cells = [] := List.eq_nil_of_length_eq_zero (by simpa using hown.1)
        have hr := run_append_nil (P := P) w t ty e i z ht hi hz ⟨b, o, none⟩ m c new (by rw [hs]; exact hl) hnews (by omega) (by omega) (by rw [hb]; have hb := hmul; simp only [Nat.zero_add] at hb; omega)
        have hgr := grown 0 (by omega) rfl
        subst hx
        simp only [Nat.zero_add, List.nil_append, Array.empty_append] at hgr hr ⊢
        exact ⟨_, _, hr, by simpa using hgr⟩
    · by_cases hroom : len + m ≤ cap
      · have hfit : len * te.size + new.length ≤ cur.size := by rw [hl, hcs, ← Nat.add_mul]; exact Nat.mul_le_mul_right _ hroom
        have hr := run_append_room (P := P) w t ty e i ht hi g len cap cur hg ⟨b, o, none⟩ m c new (by rw [hs]; exact hl) hnews h1 hroom (by rw [hs]; exact hfit)
        rw [hs] at hr
        refine ⟨_, _, hr, ⟨?_, rfl, rfl, rfl, by simp [World.setRow], fun x hx hne => setRow_other w g x _ (fun e => hne (by simp [vblk, e])), .inl rfl, _, _, rfl⟩⟩
        have hlen : (cells ++ new).length = (len + m) * te.size := by rw [List.length_append, hown.1, hl, Nat.add_mul]
        refine ⟨hlen, .inr ⟨g, cap, _, rfl, Nat.zero_le _, setRow_heap w g cur _ e _ hg, hroom, hcm, ?_, ?_⟩⟩
        · simp only [List.size_toArray, List.length_append, List.length_take, List.length_drop, Array.length_toList]
          omega
        · rw [htake, ← hlen]
          exact List.take_left
      · have holds : ∀ j u, cells[j]? = some u → w.cell? ((⟨g, 0, none⟩ : Addr).add j) = some u := by
          intro j u hu
          rw [Addr.add_lit, ← htake, List.getElem?_take] at *
          split at hu
          · simpa [World.cell?, hg] using hu
          · cases hu
        have hr := run_append_grow (P := P) w t ty e i z ht hi hz ⟨g, 0, none⟩ len cap cells (by rw [hs]; exact hown.1) holds ⟨b, o, none⟩ m c new (by rw [hs]; exact hl) hnews (by omega) hm63 (growslice_fits (by omega) (by rw [hb]; exact hmul))
        exact ⟨_, _, hr, grown cap (by omega) rfl⟩

/-- a state behind an append -/
theorem St.grow (s : St N0 w0 Nf n ν0 σ h a w ν) {id e sz : Nat} {rows new : List (List D)} {cells ncells : List Value} {v' : Value} (hid : Vc.look h.objs id = some (.row e sz rows))
    (ha : Appended w (ν id) e sz rows.length new.length cells ncells v' w') (hcells : Rd w (nN N0 ν) (rows ++ new).flatten (cells ++ ncells)) (hl : ∀ r ∈ rows ++ new, r.length = sz) (hb : rows.length + new.length ≤ big) (hsz : 0 < sz) (hs : ∃ A k c, ν id = .slice A k c) (d : Option Nat) :
    ∃ ν', St N0 w0 Nf n ν0 ((Env.sub id .any σ).putO n d (.own id)) ⟨setO id (.row e sz (rows ++ new)) (subO id .any h.objs), h.nx, h.lo⟩ (a.put d v') w' ν' := by
  refine ⟨upd ν id v', ?_⟩
  obtain ⟨A', c', hform⟩ := ha.form
  have hne : ν id ≠ undef := by obtain ⟨A, k, c, e⟩ := hs; rw [e]; simp [undef]
  have hlt : id < h.nx := by
    rcases Nat.lt_or_ge id h.nx with g | g
    · exact g
    · exact absurd (s.hp.dom id g) hne
  have hup : ∀ j b, vblk (upd ν id v' j) = some b → (j = id ∧ vblk v' = some b) ∨ (j ≠ id ∧ vblk (ν j) = some b) := by
    intro j b g
    by_cases e : j = id
    · exact .inl ⟨e, by simpa [upd, e] using g⟩
    · exact .inr ⟨e, by simpa [upd, e] using g⟩
  have hν : ∀ j, j ≠ id → ν j ≠ undef → upd ν id v' j = ν j := fun j e _ => by simp [upd, e]
  have hk : Kp (fun b => vblk (ν id) = some b) w w' := ⟨ha.os, ha.tape, ha.output, ha.size, fun b hb hn => ha.blk b hb hn⟩
  have m : Mv w (nN N0 ν) w' (nN N0 (upd ν id v')) := by
    refine s.hp.mvN ha.size (fun b => vblk (ν id) = some b) (fun b hb hn => ha.blk b hb hn) (fun b g => .inr ⟨id, g⟩) ?_
    intro j b g
    rcases hup j b g with ⟨rfl, g2⟩ | ⟨_, g2⟩
    · rcases ha.val with e | ⟨b', e, hb'⟩
      · rw [e] at g2; exact .inl g2
      · rw [e] at g2; injection g2 with g2; right; omega
    · exact .inl g2
  have hby : ∀ A k c, ν id = .slice A k c → Rv w' (nN N0 (upd ν id v')) (upd ν id v') [.any] [.slice A k c] := fun _ _ _ _ => .any _ .nil
  have hvb : ∀ b, vblk v' = some b → vblk (ν id) = some b ∨ w.heap.size ≤ b := by
    intro b g
    rcases ha.val with e | ⟨b', e, hb'⟩
    · rw [e] at g; exact .inl g
    · rw [e] at g; injection g with g; right; omega
  refine ⟨?_, ⟨?_, ?_, ?_, ?_, fun b g => Nat.lt_of_lt_of_le (s.hp.n0 b g) ha.size, ?_⟩, s.kp.trans hk (fun x hx e => ?_), ?_, by rw [size_put, s.size], by rw [defers_put, s.defers], ?_, s.low⟩
  · refine slots_put (fun k => Env.sub_slots m hν hby (s.slots k)) s.size d ?_
    rw [hform]
    exact .own (by simp [upd, hform]) .nil
  · intro j o' hlk
    simp only [look_setO, look_subO] at hlk
    by_cases e1 : j = id
    · subst e1
      rw [if_pos rfl, hid] at hlk
      simp only [Option.map_some, Option.some.injEq] at hlk
      subst hlk
      refine ⟨A', c', cells ++ ncells, by simp [upd, hform], hcells.mv m, hl, by simpa using hb, hsz, ?_⟩
      have := ha.own
      simpa [upd] using this
    · rw [if_neg e1] at hlk
      cases hq : Vc.look h.objs j with
      | none => rw [hq] at hlk; cases hlk
      | some o'' =>
        rw [hq] at hlk
        simp only [Option.map_some, Option.some.injEq] at hlk
        subst hlk
        exact Ro.keepSub m hν hby e1 (fun b g => ha.blk b (s.hp.bnd j b g) (fun g' => e1 (s.hp.inj j id b g g'))) (s.hp.objs j o'' hq)
  · intro i j b g1 g2
    rcases hup i b g1 with ⟨e1, g1⟩ | ⟨e1, g1⟩ <;> rcases hup j b g2 with ⟨e2, g2⟩ | ⟨e2, g2⟩
    · rw [e1, e2]
    · rcases hvb b g1 with g | g
      · rw [e1]; exact s.hp.inj id j b g g2
      · have := s.hp.bnd j b g2; omega
    · rcases hvb b g2 with g | g
      · rw [e2]; exact s.hp.inj i id b g1 g
      · have := s.hp.bnd i b g1; omega
    · exact s.hp.inj i j b g1 g2
  · intro j b g
    rcases hup j b g with ⟨_, g⟩ | ⟨_, g⟩
    · exact ownsRow_vblk ha.own b g
    · exact Nat.lt_of_lt_of_le (s.hp.bnd j b g) ha.size
  · intro j hj
    simp only at hj
    have : j ≠ id := by omega
    simpa [upd, this] using s.hp.dom j hj
  · intro j b g hN
    rcases hup j b g with ⟨_, g⟩ | ⟨_, g⟩
    · rcases hvb b g with g | g
      · exact s.hp.dis id b g hN
      · have := s.hp.n0 b hN; omega
    · exact s.hp.dis j b g hN
  · rcases s.fresh id x e with g | g
    · omega
    · exact g
  · intro j b g
    rcases hup j b g with ⟨_, g⟩ | ⟨_, g⟩
    · rcases hvb b g with g | g
      · exact s.fresh id b g
      · left; have := s.kp.size; omega
    · exact s.fresh j b g
  · intro j h1 h2
    by_cases e : j = id
    · subst e
      obtain ⟨A, k, c, e⟩ := hs
      exact absurd (by rw [← s.keep j h1 h2]; exact e) (h2 _ _ _)
    · simp only [upd, e, if_false]
      exact s.keep j h1 h2
end
end Go.Vc
