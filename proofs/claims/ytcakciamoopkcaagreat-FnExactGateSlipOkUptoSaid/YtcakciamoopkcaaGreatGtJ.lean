/- Contract: the reference's GateShapesOk. -/
import Derived.Test.YtcakciamoopkcaaGreatGtI
namespace Go.Vc
open Go.Proofs
set_option maxRecDepth 100000
set_option pp.maxSteps 400
set_option pp.deepTerms false
set_option linter.unusedSimpArgs false
set_option linter.unusedVariables false
theorem lt_take {α : Type} {fs : List α} {j k : Nat} (hk : k ≤ fs.length) (h : decide ((j : Int) < (k : Int)) = true) : j < (fs.take k).length := by
  have := of_decide_eq_true h
  rw [List.length_take]; omega
theorem ge_take {α : Type} {fs : List α} {j k : Nat} (hk : k ≤ fs.length) (h : decide ((j : Int) < (k : Int)) = false) : (fs.take k).length ≤ j := by
  have := of_decide_eq_false h
  rw [List.length_take]; omega
theorem s_GateShapesOk (xs : List GateShape) : Spec P 60 [.d (lGateShape xs)] (.d (.bool (shapesOk xs))) := by
  refine Spec.of_vc vcT vcM [.tmp 2] Tryz.func60 rfl rfl rfl rfl (fun hok => ?_)
  have hs : xs.length ≤ big := len_map hok.1.1
  have hfs : ∀ i (h : i < xs.length), xs[i].fields.length ≤ big := by
    intro i h
    have h1 := okRows_iff.1 hok.1.2 _ (List.mem_map.2 ⟨xs[i], List.getElem_mem h, rfl⟩)
    exact len_map h1.2.1.1
  repeat refine And.intro rfl ?_
  refine And.intro (fun h0 => ?_) (fun h0 => ?_)
  · refine bd ?_
    rw [List.length_map] at h0
    simp only [shapesOk, h0]; rfl
  rw [List.length_map] at h0
  have e : shapesOk xs = (ascK (·.kind) none xs && xs.all (shapeOkF (xs.map (·.kind)))) := by simp only [shapesOk, h0]; rfl
  rw [e]
  repeat refine And.intro rfl ?_
  refine ⟨fun m l h => ∃ (i : Nat) , m = xs.length - i ∧ i ≤ xs.length ∧ ((ascK (·.kind) none xs && xs.all (shapeOkF (xs.map (·.kind)))) = (ascK (·.kind) (prevK (·.kind) xs i) (xs.drop i) && (xs.drop i).all (shapeOkF (xs.map (·.kind))))) ∧ l = [(0, .d (lGateShape xs)), (3, .d (.int .i64 i))] ∧ h = hp0,
    ⟨_, _, _, ⟨0, rfl, Nat.zero_le _, rfl, rfl, rfl⟩, rfl, rfl, ⟨rfl, rfl, trivial⟩, trivial, trivial⟩, ?_⟩
  rintro m l hh ⟨i, rfl, hi, hr, rfl, rfl⟩
  repeat refine And.intro rfl ?_
  refine And.intro (fun h1 => ?_) (fun h1 => ?_)
  · have hlt : i < xs.length := lt_map h1
    repeat refine And.intro rfl ?_
    refine ix_at (e := GateShape.e) (xs := xs) (hlt) rfl ?_
    repeat refine And.intro rfl ?_
    repeat refine And.intro rfl ?_
    refine And.intro (by kernel_rfl) ?_
    repeat refine And.intro rfl ?_
    repeat refine And.intro rfl ?_
    refine Or.inl (Exists.intro _ (And.intro (s_l1NameOk _) ?_))
    repeat refine And.intro rfl ?_
    refine And.intro (fun h2 => ?_) (fun h2 => ?_)
    · repeat refine And.intro rfl ?_
      refine And.intro (fun h3 => ?_) (fun h3 => ?_)
      · have h0' := gt0 h3
        repeat refine And.intro rfl ?_
        refine ix_atw (e := GateShape.e) (xs := xs) ((show i - 1 < xs.length by omega)) (wrap_pred h0' hlt hs) rfl ?_
        repeat refine And.intro rfl ?_
        repeat refine And.intro rfl ?_
        refine And.intro (fun h4 => ?_) (fun h4 => ?_)
        · have ha := asc_ok (key := fun s : GateShape => s.kind) hlt h2 (.inr ⟨h0', h4⟩)
          repeat refine And.intro rfl ?_
          refine And.intro (fun h5 => ?_) (fun h5 => ?_)
          · refine bd ?_
            rw [List.length_map] at h5
            rw [hr, all_step hlt, show shapeOkF (xs.map (·.kind)) (xs[i]'hlt) = false from by unfold shapeOkF; rw [show decide (((xs[i]'hlt).fields.length : Int) > 6) = true from h5]; rfl, Bool.false_and, Bool.and_false]
          · rw [List.length_map] at h5
            have es : shapeOkF (xs.map (·.kind)) (xs[i]'hlt) = flds (xs.map (·.kind)) [] (xs[i]'hlt).fields := by unfold shapeOkF; rw [show decide (((xs[i]'hlt).fields.length : Int) > 6) = false from h5]; rfl
            rw [ha, all_step hlt, es] at hr
            have hro := hr
            clear hr
            refine ⟨fun m l h => ∃ k : Nat, m = (xs[i]'hlt).fields.length - k ∧ k ≤ (xs[i]'hlt).fields.length ∧ flds (xs.map (·.kind)) [] (xs[i]'hlt).fields = flds (xs.map (·.kind)) (((xs[i]'hlt).fields.take k).map (·.name)) ((xs[i]'hlt).fields.drop k) ∧ l = [(0, .d (lGateShape xs)), (3, .d (.int .i64 i)), (4, .ptr 0 0), (5, .d (.int .i64 k))] ∧ h = ⟨[(0, .cells 93 ((xs[i]'hlt).e.map .d))], 1, 0⟩,
              ⟨_, _, _, ⟨0, rfl, Nat.zero_le _, rfl, rfl, rfl⟩, rfl, rfl, ⟨rfl, rfl, rfl, rfl, trivial⟩, ⟨rfl, trivial⟩, ⟨rfl, trivial⟩⟩, ?_⟩
            rintro m l hh ⟨k, rfl, hk, hr, rfl, rfl⟩
            repeat refine And.intro rfl ?_
            refine And.intro (fun h6 => ?_) (fun h6 => ?_)
            · have hlk : k < (xs[i]'hlt).fields.length := lt_map h6
              rw [flds_step hlk] at hr
              repeat refine And.intro rfl ?_
              refine ix_at (e := GateField.e) (xs := (xs[i]'hlt).fields) (hlk) rfl ?_
              repeat refine And.intro rfl ?_
              repeat refine And.intro rfl ?_
              refine Or.inl (Exists.intro _ (And.intro (s_l1FieldOk xs ((xs[i]'hlt).fields[k]'hlk)) ?_))
              repeat refine And.intro rfl ?_
              refine And.intro (fun h7 => ?_) (fun h7 => ?_)
              · refine bd ?_
                simp only [Bool.not_eq_true', Bool.not_eq_false'] at h7
                rw [hro, hr, show fieldOkF (xs.map (·.kind)) ((xs[i]'hlt).fields[k]'hlk) = false from h7]
                simp only [Bool.false_and, Bool.and_false]
              · simp only [Bool.not_eq_true', Bool.not_eq_false'] at h7
                have hr1 := hr
                repeat refine And.intro rfl ?_
                refine ⟨fun m l h => ∃ (j : Nat) , m = ((xs[i]'hlt).fields.take k).length - j ∧ j ≤ ((xs[i]'hlt).fields.take k).length ∧ ((((xs[i]'hlt).fields.take k).map (·.name)).any (· == ((xs[i]'hlt).fields[k]'hlk).name) = (((xs[i]'hlt).fields.take k).drop j).any (fun f => f.name == ((xs[i]'hlt).fields[k]'hlk).name)) ∧ l = [(0, .d (lGateShape xs)), (3, .d (.int .i64 i)), (4, .ptr 0 0), (5, .d (.int .i64 k)), (6, .d (.int .i64 j))] ∧ h = ⟨[(0, .cells 93 ((xs[i]'hlt).e.map .d))], 1, 0⟩,
                  ⟨_, _, _, ⟨0, rfl, Nat.zero_le _, any_map, rfl, rfl⟩, rfl, rfl, ⟨rfl, rfl, rfl, rfl, rfl, trivial⟩, ⟨rfl, trivial⟩, ⟨rfl, trivial⟩⟩, ?_⟩
                rintro m l hh ⟨j, rfl, hj, hr, rfl, rfl⟩
                have hr' := hr
                have hr := hr1
                clear hr1
                repeat refine And.intro rfl ?_
                refine And.intro (fun h8 => ?_) (fun h8 => ?_)
                · have hlj := lt_take hk h8
                  have hjf : j < (xs[i]'hlt).fields.length := by have := hlj; rw [List.length_take] at this; omega
                  rw [any_step hlj] at hr'
                  repeat refine And.intro rfl ?_
                  refine And.intro (by kernel_rfl) ?_
                  repeat refine And.intro rfl ?_
                  repeat refine And.intro rfl ?_
                  refine ix_at (e := GateField.e) (xs := (xs[i]'hlt).fields) (hjf) rfl ?_
                  repeat refine And.intro rfl ?_
                  repeat refine And.intro rfl ?_
                  refine ix_at (e := GateField.e) (xs := (xs[i]'hlt).fields) (hlk) rfl ?_
                  repeat refine And.intro rfl ?_
                  have et : ((xs[i]'hlt).fields.take k)[j]'hlj = (xs[i]'hlt).fields[j]'hjf := List.getElem_take
                  rw [et] at hr'
                  repeat refine And.intro rfl ?_
                  refine And.intro (fun h9 => ?_) (fun h9 => ?_)
                  · refine bd ?_
                    rw [hro, hr, hr', h9]; simp only [Bool.true_or, Bool.not_true, Bool.false_and, Bool.and_false]
                  · repeat refine And.intro rfl ?_
                    exact ⟨_, _, _, ⟨j + 1, rfl, hlj, by rw [hr', h9]; rfl, rfl, rfl⟩, by omega, rfl, rfl, ⟨rfl, rfl, rfl, rfl, nd (wrap_succ hlj (by rw [List.length_take]; have := hfs i hlt; omega)), trivial⟩, ⟨rfl, trivial⟩, ⟨rfl, trivial⟩⟩
                · rw [any_end (ge_take hk h8)] at hr'
                  rw [hr', h7] at hr
                  repeat refine And.intro rfl ?_
                  exact ⟨_, _, _, ⟨k + 1, rfl, hlk, by rw [hr]; rfl, rfl, rfl⟩, by omega, rfl, rfl, ⟨rfl, rfl, rfl, nd (wrap_succ hlk (hfs i hlt)), trivial⟩, ⟨rfl, trivial⟩, ⟨rfl, trivial⟩⟩
            · have hk' := ge_map h6
              rw [flds_end hk'] at hr
              repeat refine And.intro rfl ?_
              exact ⟨_, _, _, ⟨i + 1, rfl, hlt, by rw [hro, hr, Bool.true_and], rfl, rfl⟩, by omega, rfl, rfl, ⟨rfl, nd (wrap_succ hlt hs), trivial⟩, trivial, trivial⟩
        · repeat refine And.intro rfl ?_
          refine And.intro (fun _ => ?_) (fun h => absurd h (by simp))
          refine bd ?_
          rw [hr, ← asc_less (key := fun s : GateShape => s.kind) hlt h0' h4]; rfl
      · repeat refine And.intro rfl ?_
        refine And.intro (fun _ => ?_) (fun h => absurd h (by simp))
        have ha := asc_ok (key := fun s : GateShape => s.kind) hlt h2 (.inl (le0 h3))
        repeat refine And.intro rfl ?_
        refine And.intro (fun h5 => ?_) (fun h5 => ?_)
        · refine bd ?_
          rw [List.length_map] at h5
          rw [hr, all_step hlt, show shapeOkF (xs.map (·.kind)) (xs[i]'hlt) = false from by unfold shapeOkF; rw [show decide (((xs[i]'hlt).fields.length : Int) > 6) = true from h5]; rfl, Bool.false_and, Bool.and_false]
        · rw [List.length_map] at h5
          have es : shapeOkF (xs.map (·.kind)) (xs[i]'hlt) = flds (xs.map (·.kind)) [] (xs[i]'hlt).fields := by unfold shapeOkF; rw [show decide (((xs[i]'hlt).fields.length : Int) > 6) = false from h5]; rfl
          rw [ha, all_step hlt, es] at hr
          have hro := hr
          clear hr
          refine ⟨fun m l h => ∃ k : Nat, m = (xs[i]'hlt).fields.length - k ∧ k ≤ (xs[i]'hlt).fields.length ∧ flds (xs.map (·.kind)) [] (xs[i]'hlt).fields = flds (xs.map (·.kind)) (((xs[i]'hlt).fields.take k).map (·.name)) ((xs[i]'hlt).fields.drop k) ∧ l = [(0, .d (lGateShape xs)), (3, .d (.int .i64 i)), (4, .ptr 0 0), (5, .d (.int .i64 k))] ∧ h = ⟨[(0, .cells 93 ((xs[i]'hlt).e.map .d))], 1, 0⟩,
            ⟨_, _, _, ⟨0, rfl, Nat.zero_le _, rfl, rfl, rfl⟩, rfl, rfl, ⟨rfl, rfl, rfl, rfl, trivial⟩, ⟨rfl, trivial⟩, ⟨rfl, trivial⟩⟩, ?_⟩
          rintro m l hh ⟨k, rfl, hk, hr, rfl, rfl⟩
          repeat refine And.intro rfl ?_
          refine And.intro (fun h6 => ?_) (fun h6 => ?_)
          · have hlk : k < (xs[i]'hlt).fields.length := lt_map h6
            rw [flds_step hlk] at hr
            repeat refine And.intro rfl ?_
            refine ix_at (e := GateField.e) (xs := (xs[i]'hlt).fields) (hlk) rfl ?_
            repeat refine And.intro rfl ?_
            repeat refine And.intro rfl ?_
            refine Or.inl (Exists.intro _ (And.intro (s_l1FieldOk xs ((xs[i]'hlt).fields[k]'hlk)) ?_))
            repeat refine And.intro rfl ?_
            refine And.intro (fun h7 => ?_) (fun h7 => ?_)
            · refine bd ?_
              simp only [Bool.not_eq_true', Bool.not_eq_false'] at h7
              rw [hro, hr, show fieldOkF (xs.map (·.kind)) ((xs[i]'hlt).fields[k]'hlk) = false from h7]
              simp only [Bool.false_and, Bool.and_false]
            · simp only [Bool.not_eq_true', Bool.not_eq_false'] at h7
              have hr1 := hr
              repeat refine And.intro rfl ?_
              refine ⟨fun m l h => ∃ (j : Nat) , m = ((xs[i]'hlt).fields.take k).length - j ∧ j ≤ ((xs[i]'hlt).fields.take k).length ∧ ((((xs[i]'hlt).fields.take k).map (·.name)).any (· == ((xs[i]'hlt).fields[k]'hlk).name) = (((xs[i]'hlt).fields.take k).drop j).any (fun f => f.name == ((xs[i]'hlt).fields[k]'hlk).name)) ∧ l = [(0, .d (lGateShape xs)), (3, .d (.int .i64 i)), (4, .ptr 0 0), (5, .d (.int .i64 k)), (6, .d (.int .i64 j))] ∧ h = ⟨[(0, .cells 93 ((xs[i]'hlt).e.map .d))], 1, 0⟩,
                ⟨_, _, _, ⟨0, rfl, Nat.zero_le _, any_map, rfl, rfl⟩, rfl, rfl, ⟨rfl, rfl, rfl, rfl, rfl, trivial⟩, ⟨rfl, trivial⟩, ⟨rfl, trivial⟩⟩, ?_⟩
              rintro m l hh ⟨j, rfl, hj, hr, rfl, rfl⟩
              have hr' := hr
              have hr := hr1
              clear hr1
              repeat refine And.intro rfl ?_
              refine And.intro (fun h8 => ?_) (fun h8 => ?_)
              · have hlj := lt_take hk h8
                have hjf : j < (xs[i]'hlt).fields.length := by have := hlj; rw [List.length_take] at this; omega
                rw [any_step hlj] at hr'
                repeat refine And.intro rfl ?_
                refine And.intro (by kernel_rfl) ?_
                repeat refine And.intro rfl ?_
                repeat refine And.intro rfl ?_
                refine ix_at (e := GateField.e) (xs := (xs[i]'hlt).fields) (hjf) rfl ?_
                repeat refine And.intro rfl ?_
                repeat refine And.intro rfl ?_
                refine ix_at (e := GateField.e) (xs := (xs[i]'hlt).fields) (hlk) rfl ?_
                repeat refine And.intro rfl ?_
                have et : ((xs[i]'hlt).fields.take k)[j]'hlj = (xs[i]'hlt).fields[j]'hjf := List.getElem_take
                rw [et] at hr'
                repeat refine And.intro rfl ?_
                refine And.intro (fun h9 => ?_) (fun h9 => ?_)
                · refine bd ?_
                  rw [hro, hr, hr', h9]; simp only [Bool.true_or, Bool.not_true, Bool.false_and, Bool.and_false]
                · repeat refine And.intro rfl ?_
                  exact ⟨_, _, _, ⟨j + 1, rfl, hlj, by rw [hr', h9]; rfl, rfl, rfl⟩, by omega, rfl, rfl, ⟨rfl, rfl, rfl, rfl, nd (wrap_succ hlj (by rw [List.length_take]; have := hfs i hlt; omega)), trivial⟩, ⟨rfl, trivial⟩, ⟨rfl, trivial⟩⟩
              · rw [any_end (ge_take hk h8)] at hr'
                rw [hr', h7] at hr
                repeat refine And.intro rfl ?_
                exact ⟨_, _, _, ⟨k + 1, rfl, hlk, by rw [hr]; rfl, rfl, rfl⟩, by omega, rfl, rfl, ⟨rfl, rfl, rfl, nd (wrap_succ hlk (hfs i hlt)), trivial⟩, ⟨rfl, trivial⟩, ⟨rfl, trivial⟩⟩
          · have hk' := ge_map h6
            rw [flds_end hk'] at hr
            repeat refine And.intro rfl ?_
            exact ⟨_, _, _, ⟨i + 1, rfl, hlt, by rw [hro, hr, Bool.true_and], rfl, rfl⟩, by omega, rfl, rfl, ⟨rfl, nd (wrap_succ hlt hs), trivial⟩, trivial, trivial⟩
    · repeat refine And.intro rfl ?_
      refine And.intro (fun h => absurd h (by simp)) (fun _ => ?_)
      repeat refine And.intro rfl ?_
      refine And.intro (fun _ => ?_) (fun h => absurd h (by simp))
      refine bd ?_
      rw [hr, ← asc_name (key := fun s : GateShape => s.kind) hlt h2]; rfl
  · refine bd ?_
    rw [hr, asc_end (ge_map h1), all_end (ge_map h1)]; rfl
end Go.Vc
