/- Structs and slices that are put together. -/
import Derived.Test.YtcakciamoopkcaaGreatVcH
import Derived.Laws.Tables
set_option linter.unusedVariables false
set_option linter.unusedSimpArgs false
namespace Go.Vc
section
variable {P : Program} {T : List (Nat × TI)} {N : Nat → Prop} {w : World} {ν : Nat → Value}

theorem foldl_set (off : Nat) : ∀ (vs : List Value) (i : Nat) (cells : Array Value), off + i + vs.length ≤ cells.size →
    ((vs.zipIdx i).foldl (fun cs (p : Value × Nat) => cs.setIfInBounds (off + p.2) p.1) cells).toList = cells.toList.take (off + i) ++ vs ++ cells.toList.drop (off + i + vs.length)
  | [], i, cells, h => by simp
  | v :: vs, i, cells, h => by
    simp only [List.zipIdx_cons, List.foldl_cons]
    rw [foldl_set off vs (i + 1) _ (by simp at h ⊢; omega)]
    simp only [Array.toList_setIfInBounds, List.length_cons]
    simp only [List.length_cons] at h
    have hl : off + i < cells.toList.length := by simp; omega
    have h1 : (cells.toList.set (off + i) v).take (off + (i + 1)) = cells.toList.take (off + i) ++ [v] := by
      apply List.ext_getElem?
      intro j
      simp only [List.getElem?_take, List.getElem?_set, List.getElem?_append, List.length_take]
      have hm : min (off + i) cells.toList.length = off + i := by omega
      rw [hm]
      by_cases h1 : j < off + i
      · simp [h1, show j < off + (i + 1) from by omega, show ¬ off + i = j from by omega]
      · by_cases h2 : j = off + i
        · subst h2; simp [show off + i < off + (i + 1) from by omega]; simpa using hl
        · simp [h1, show ¬ j < off + (i + 1) from by omega, show j - (off + i) ≠ 0 from by omega]
    have h2 : (cells.toList.set (off + i) v).drop (off + (i + 1) + vs.length) = cells.toList.drop (off + i + (vs.length + 1)) := by
      apply List.ext_getElem?
      intro j
      simp only [List.getElem?_drop, List.getElem?_set]
      rw [if_neg (by omega)]
      congr 1
      omega
    rw [h1, h2]
    simp

/-- one part -/
theorem fill_step (v : Value) (off : Nat) (cells : Array Value) (h : off + v.cells.size ≤ cells.size) :
    (v.cells.zipIdx.foldl (fun cs (c, j) => cs.setIfInBounds (off + j) c) cells) = (cells.toList.take off ++ v.cells.toList ++ cells.toList.drop (off + v.cells.size)).toArray := by
  have e := foldl_set off v.cells.toList 0 cells (by simpa using h)
  apply Array.ext'
  rw [← Array.foldl_toList, Array.toList_zipIdx]
  simpa using e

theorem mapM_fields {fields : List Field} (h : ∀ f ∈ fields, ∃ ti, look T f.type = some ti) (hT : tabB P T = true) :
    ∃ places, fields.mapM (fun f => (P.info? f.type).map fun i => (f.offset, i.size)) = some places ∧
      ∀ (i : Nat) f ti, fields[i]? = some f → look T f.type = some ti → places[i]? = some (f.offset, ti.size) := by
  induction fields with
  | nil => exact ⟨[], rfl, by simp⟩
  | cons f fs ih =>
    obtain ⟨places, h1, h2⟩ := ih (fun g hg => h g (List.mem_cons_of_mem _ hg))
    obtain ⟨ti, ht⟩ := h f List.mem_cons_self
    obtain ⟨i, z, hi, hs, _⟩ := (tabB_ok hT ht).info
    refine ⟨(f.offset, i.size) :: places, by simp [List.mapM_cons, hi, h1], ?_⟩
    intro j g tj hj hg
    cases j with
    | zero =>
      simp only [List.getElem?_cons_zero, Option.some.injEq] at hj
      subst hj
      rw [ht] at hg
      simp only [Option.some.injEq] at hg
      subst hg
      simp [hs]
    | succ j => simpa using h2 j g tj (by simpa using hj) hg

theorem fillA_ok (hT : tabB P T = true) {fs : List (Nat × TypeId)} {place : Nat → Option (Nat × Nat)} (hp : ∀ (i off : Nat) t ti, fs[i]? = some (off, t) → look T t = some ti → place i = some (off, ti.size)) :
    ∀ {parts : List (Nat × AV)} {vparts : List (Nat × Value)} {cs out : List AV} {xs : Array Value}, fillA fs T cs parts = some out → parts.map (·.1) = vparts.map (·.1) → Rv w N ν (parts.map (·.2)) (vparts.map (·.2)) →
      Rv w N ν cs xs.toList → ∃ ys, Instr.fill place xs vparts = some ys ∧ Rv w N ν out ys.toList
  | [], [], cs, out, xs, h, _, _, hr => by
    simp only [fillA, Option.some.injEq] at h
    subst h
    exact ⟨xs, rfl, hr⟩
  | [], _ :: _, _, _, _, _, h, _, _ => by simp at h
  | _ :: _, [], _, _, _, _, h, _, _ => by simp at h
  | (i, x) :: parts, (i', v) :: vparts, cs, out, xs, h, he, hv, hr => by
    simp only [List.map_cons, List.cons.injEq] at he
    obtain ⟨rfl, he⟩ := he
    simp only [List.map_cons] at hv
    obtain ⟨v', r', e, hx, hv'⟩ := hv.cons_inv
    simp only [List.cons.injEq] at e
    obtain ⟨rfl, rfl⟩ := e
    unfold fillA at h
    split at h
    · rename_i off t hi
      split at h
      · rename_i ti ht
        split at h
        · rename_i new hc
          cases hb : Nat.ble (off + new.length) cs.length <;> rw [hb] at h
          · cases h
          · simp only [cond_true] at h
            rw [forceL_eq] at h
            obtain ⟨h1, h2, h3, h4⟩ := cellsOf_ok hx hc (tabB_ok hT ht).one
            have hb' := Nat.le_of_ble_eq_true hb
            have hlen := hr.length
            have hsz : off + v.cells.size ≤ xs.size := by
              have : xs.toList.length = xs.size := by simp
              omega
            simp only [Instr.fill, hp i off t ti hi ht]
            rw [if_neg (by simp [h2]; have : xs.toList.length = xs.size := by simp
                           omega), fill_step v off xs hsz]
            refine fillA_ok hT hp h he hv' ?_
            unfold over
            have e1 : v.cells.size = new.length := by omega
            rw [e1]
            exact ((hr.take off).append h1).append (hr.drop _)
        · cases h
      · cases h
    · cases h

theorem build_ok (hT : tabB P T = true) {t : TypeId} {ti : TI} (ht : look T t = some ti) {fs : List (Nat × TypeId)} (hk : ti.kind = .struct fs) (hall : fs.all (fun p => (look T p.2).isSome) = true)
    {parts : List (Nat × AV)} {vparts : Array (Nat × Value)} {out : List AV} (h : fillA fs T ti.zero parts = some out) (he : parts.map (·.1) = vparts.toList.map (·.1)) (hv : Rv w N ν (parts.map (·.2)) (vparts.toList.map (·.2))) :
    ∃ ys, (Instr.build t vparts).run P w = .ok (.agg ys) w ∧ Rv w N ν out ys.toList := by
  have k := tabB_ok hT ht
  obtain ⟨fields, hu, hf⟩ := struct_of k hk
  obtain ⟨i, z, hi, _, _, hz, hzz, _, _⟩ := k.info
  obtain ⟨places, hp1, hp2⟩ := mapM_fields (fields := fields.toList) (fun f hf' => by
    have hm : (f.offset, f.type) ∈ fs := by rw [← hf]; exact List.mem_map.2 ⟨f, hf', rfl⟩
    have := List.all_eq_true.1 hall _ hm
    exact Option.isSome_iff_exists.1 this) hT
  obtain ⟨ys, h1, h2⟩ := fillA_ok (w := w) (N := N) (ν := ν) hT (place := fun x => places.toArray[x]?) (fun j off t' tj hj hg => by
    obtain ⟨f, hf1, rfl, rfl⟩ := field_at hf hj
    have := hp2 j f tj (by simpa using hf1) hg
    simpa using this) h he hv (zerosB_ok hzz)
  refine ⟨ys, run_build w t vparts ys ?_, h2⟩
  unfold Program.built
  simp only [hi, hu, hz, hp1]
  exact h1

theorem build_arr (hT : tabB P T = true) {t : TypeId} {ti te : TI} (ht : look T t = some ti) {m e : Nat} (hk : ti.kind = .array m e) (hte : look T e = some te)
    {parts : List (Nat × AV)} {vparts : Array (Nat × Value)} {out : List AV} (h : fillA (arrF te.size e m) T ti.zero parts = some out) (he : parts.map (·.1) = vparts.toList.map (·.1)) (hv : Rv w N ν (parts.map (·.2)) (vparts.toList.map (·.2))) :
    ∃ ys, (Instr.build t vparts).run P w = .ok (.agg ys) w ∧ Rv w N ν out ys.toList := by
  have k := tabB_ok hT ht
  have hu := array_of k hk
  obtain ⟨i, z, hi, _, _, hz, hzz, _, _⟩ := k.info
  obtain ⟨ie, ze, hie, hsz, _⟩ := (tabB_ok hT hte).info
  obtain ⟨ys, h1, h2⟩ := fillA_ok (w := w) (N := N) (ν := ν) hT (place := fun j => some (j * ie.size, ie.size)) (fun j off t' tj hj hg => by
    unfold arrF at hj
    rw [List.getElem?_map] at hj
    obtain ⟨j', hj', e1⟩ := Option.map_eq_some_iff.1 hj
    have hj2 := List.getElem?_eq_some_iff.1 hj'
    obtain ⟨hlt, e2⟩ := hj2
    rw [List.getElem_range] at e2
    subst e2
    injection e1 with e1 e3
    subst e1; subst e3
    rw [hte] at hg
    injection hg with hg
    subst hg
    rw [hsz]) h he hv (zerosB_ok hzz)
  refine ⟨ys, run_build w t vparts ys ?_, h2⟩
  unfold Program.built
  simp only [hi, hu, hz, hie]
  exact h1

theorem rowsOf_ok {te : TI} (k1 : te.isAgg = false → te.size = 1) {l : List (Nat × AO)} {xs : List (Nat × AV)} : ∀ {parts : List (Nat × AV)} {vparts : List (Nat × Value)} {i : Nat} {rows : List (List D)} {cells : Array Value},
    rowsOf te l i parts = some rows → parts.map (·.1) = vparts.map (·.1) → Rv w N ν (parts.map (fun p => AV.view l p.2)) (vparts.map (·.2)) → (i + parts.length) * te.size ≤ cells.size →
      ∃ ys new, Instr.fill (fun j => some (j * te.size, te.size)) cells vparts = some ys ∧ Rd w N rows.flatten new ∧ (∀ r ∈ rows, r.length = te.size) ∧ rows.length = parts.length ∧
        ys.toList = cells.toList.take (i * te.size) ++ new ++ cells.toList.drop ((i + parts.length) * te.size)
  | [], [], i, rows, cells, h, _, _, hsz => by
    simp only [rowsOf, Option.some.injEq] at h
    subst h
    exact ⟨cells, [], rfl, .nil, by simp, rfl, by simp⟩
  | [], _ :: _, _, _, _, _, h, _, _ => by simp at h
  | _ :: _, [], _, _, _, _, h, _, _ => by simp at h
  | (j, x) :: parts, (j', v) :: vparts, i, rows, cells, h, he, hv, hsz => by
    simp only [List.map_cons, List.cons.injEq] at he
    obtain ⟨rfl, he⟩ := he
    simp only [List.map_cons] at hv
    obtain ⟨v', r', e, hx, hv'⟩ := hv.cons_inv
    simp only [List.cons.injEq] at e
    obtain ⟨rfl, rfl⟩ := e
    unfold rowsOf at h
    cases hb : Nat.beq j i <;> rw [hb] at h
    · cases h
    · simp only [cond_true] at h
      have := Nat.eq_of_beq_eq_true hb
      subst this
      split at h
      · rename_i cs hc
        split at h
        · rename_i ds hd
          obtain ⟨h1, h2, h3, h4⟩ := cellsOf_ok hx hc k1
          cases hr : rowsOf te l (j + 1) parts with
          | none => rw [hr] at h; cases h
          | some rows' =>
            rw [hr] at h
            simp only [Option.map_some, Option.some.injEq] at h
            subst h
            simp only [List.length_cons] at hsz
            have hmul : (j + (parts.length + 1)) * te.size = j * te.size + te.size + parts.length * te.size := by
              rw [Nat.add_mul, Nat.add_mul]; omega
            have hsz' : j * te.size + v.cells.size ≤ cells.size := by rw [h2]; omega
            have hf := fill_step v (j * te.size) cells hsz'
            have hvl : v.cells.toList.length = te.size := by simpa using h2
            have htl : (cells.toList.take (j * te.size)).length = j * te.size := by simp; omega
            have hsize : (cells.toList.take (j * te.size) ++ v.cells.toList ++ cells.toList.drop (j * te.size + v.cells.size)).length = cells.size := by
              simp only [List.length_append, htl, hvl, List.length_drop, Array.length_toList, h2]; omega
            have hm1 : (j + 1) * te.size = j * te.size + te.size := by rw [Nat.add_mul]; omega
            obtain ⟨ys, new, g1, g2, g3, g4, g5⟩ := rowsOf_ok k1 (xs := xs) (cells := (cells.toList.take (j * te.size) ++ v.cells.toList ++ cells.toList.drop (j * te.size + v.cells.size)).toArray) hr he hv' (by
              rw [List.size_toArray, hsize]
              have : (j + 1 + parts.length) * te.size = j * te.size + te.size + parts.length * te.size := by rw [Nat.add_mul, Nat.add_mul]; omega
              omega)
            refine ⟨ys, v.cells.toList ++ new, ?_, ?_, ?_, by simp [g4], ?_⟩
            · simp only [Instr.fill]
              rw [if_neg (by simp [h2]; omega), hf]
              exact g1
            · simp only [List.flatten_cons]
              exact (h1.dsOf hd).append g2
            · intro r hr'
              rcases List.mem_cons.1 hr' with rfl | hr'
              · have := (h1.dsOf hd).length; omega
              · exact g3 r hr'
            · rw [g5]
              simp only [List.length_cons]
              have e1 : (cells.toList.take (j * te.size) ++ v.cells.toList ++ cells.toList.drop (j * te.size + v.cells.size)).take ((j + 1) * te.size) = cells.toList.take (j * te.size) ++ v.cells.toList := by
                rw [hm1]
                have : (cells.toList.take (j * te.size) ++ v.cells.toList).length = j * te.size + te.size := by rw [List.length_append, htl, hvl]
                rw [← this]; exact List.take_left
              have e2 : (cells.toList.take (j * te.size) ++ v.cells.toList ++ cells.toList.drop (j * te.size + v.cells.size)).drop ((j + 1 + parts.length) * te.size) = cells.toList.drop ((j + (parts.length + 1)) * te.size) := by
                have hl : (cells.toList.take (j * te.size) ++ v.cells.toList).length = j * te.size + te.size := by rw [List.length_append, htl, hvl]
                have : (j + 1 + parts.length) * te.size = (cells.toList.take (j * te.size) ++ v.cells.toList).length + parts.length * te.size := by rw [hl, Nat.add_mul, Nat.add_mul]; omega
                rw [this, List.drop_append, List.drop_of_length_le (by omega), List.nil_append, h2, List.drop_drop]
                congr 1
                omega
              rw [e1, e2]
              simp
        · cases h
      · cases h
end
end Go.Vc
