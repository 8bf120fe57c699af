/- Contracts: lists of shapes. -/
import Derived.Test.YtcakciamoopkcaaGreatGtH
namespace Go.Vc
open Go.Proofs
set_option maxRecDepth 100000
set_option pp.maxSteps 400
set_option pp.deepTerms false
set_option linter.unusedSimpArgs false
set_option linter.unusedVariables false
theorem row_tab {t n : Nat} {a b : List (List D)} (h : a = b) : some (AO.row t n a) = some (AO.row t n b) := by rw [h]
theorem take_snoc {α : Type} {xs : List α} {i : Nat} {g : α → List D} (h : i < xs.length) : (xs.take i).map g ++ [g xs[i]] = (xs.take (i + 1)).map g := by
  rw [List.take_succ_eq_append_getElem h, List.map_append]; rfl
theorem ascK_map {α : Type} {key : α → Bs} : ∀ {xs : List α} {p : Option Bs}, ascK id p (xs.map key) = ascK key p xs
  | [], p => by cases p <;> rfl
  | x :: xs, p => by simp only [List.map_cons, ascK, id, ascK_map]
theorem i_GateShapesOk (xs : List GateShape) : Spec P 87 [.d (lGateShape xs)] (.d (.bool (shapesOk xs))) := by
  refine Spec.of_vc vcT vcM [.tmp 2] Tryz.func87 rfl rfl rfl rfl (fun hok => ?_)
  have hs : xs.length ≤ big := len_map hok.1.1
  repeat refine And.intro rfl ?_
  refine And.intro (fun h0 => ?_) (fun h0 => ?_)
  · refine bd ?_
    rw [List.length_map] at h0
    simp only [shapesOk, h0]; rfl
  rw [List.length_map] at h0
  have e : shapesOk xs = (asc (xs.map (·.kind)) && xs.all (shapeOkF (xs.map (·.kind)))) := by simp only [shapesOk, h0, asc, ascK_map]; rfl
  rw [e]
  repeat refine And.intro rfl ?_
  refine And.intro (Int.le_refl 0) (And.intro (Int.natCast_nonneg _) (And.intro (mk_ok hs) ?_))
  repeat refine And.intro rfl ?_
  refine ⟨fun m l h => ∃ (i : Nat) , m = xs.length - i ∧ i ≤ xs.length ∧ (True) ∧ l = [(0, .d (lGateShape xs)), (3, .own 0), (14, .d (lGateShape xs)), (15, .d (.int .i64 (xs.map GateShape.e).length)), (16, .d (.int .i64 i))] ∧ h = ⟨[(0, .row 9 1 ((xs.take i).map fun s => [.str s.kind]))], 1, 0⟩,
    ⟨_, _, _, ⟨0, rfl, Nat.zero_le _, trivial, rfl, rfl⟩, rfl, rfl, ⟨rfl, rfl, rfl, rfl, rfl, trivial⟩, ⟨rfl, trivial⟩, ⟨rfl, trivial⟩⟩, ?_⟩
  rintro m l hh ⟨i, rfl, hi, hr, rfl, rfl⟩
  repeat refine And.intro rfl ?_
  refine And.intro (fun h1 => ?_) (fun h1 => ?_)
  · have hlt : i < xs.length := lt_map h1
    repeat refine And.intro rfl ?_
    refine ix_at (e := GateShape.e) (xs := xs) (hlt) rfl ?_
    repeat refine And.intro rfl ?_
    refine And.intro (fun r hr => by rw [List.mem_singleton.1 hr]; rfl) ?_
    repeat refine And.intro rfl ?_
    refine And.intro (by simp only [List.length_map, List.length_take, List.length_cons, List.length_nil]; unfold big at *; omega) ?_
    repeat refine And.intro rfl ?_
    exact ⟨_, _, _, ⟨i + 1, rfl, hlt, trivial, rfl, rfl⟩, by omega, rfl, rfl, ⟨rfl, rfl, rfl, rfl, nd (wrap_succ hlt hs), trivial⟩, ⟨rfl, trivial⟩, ⟨row_tab (take_snoc (g := fun s => [D.str s.kind]) hlt), trivial⟩⟩
  · have hge := ge_map h1
    have ek : (xs.take i).map (fun s => [D.str s.kind]) = (xs.map (·.kind)).map eB := by
      rw [List.take_of_length_le hge, List.map_map]; rfl
    rw [ek]
    repeat refine And.intro rfl ?_
    refine Or.inl (Exists.intro _ (And.intro (i_ascendingNames (xs.map fun s : GateShape => s.kind)) ?_))
    repeat refine And.intro rfl ?_
    refine And.intro (fun h2 => ?_) (fun h2 => ?_)
    · refine bd ?_
      simp only [Bool.not_eq_true', Bool.not_eq_false'] at h2
      rw [h2]; rfl
    · simp only [Bool.not_eq_true', Bool.not_eq_false'] at h2
      rw [h2, Bool.true_and]
      repeat refine And.intro rfl ?_
      refine ⟨fun m l h => ∃ (i : Nat) , m = xs.length - i ∧ i ≤ xs.length ∧ (xs.all (shapeOkF (xs.map (·.kind))) = (xs.drop i).all (shapeOkF (xs.map (·.kind)))) ∧ l = [(3, .own 0), (29, .d (lGateShape xs)), (30, .d (.int .i64 (xs.map GateShape.e).length)), (31, .d (.int .i64 i))] ∧ h = ⟨[(0, .row 9 1 ((xs.map (·.kind)).map eB))], 1, 0⟩,
        ⟨_, _, _, ⟨0, rfl, Nat.zero_le _, rfl, rfl, rfl⟩, rfl, rfl, ⟨rfl, rfl, rfl, rfl, trivial⟩, ⟨rfl, trivial⟩, ⟨rfl, trivial⟩⟩, ?_⟩
      rintro m l hh ⟨i, rfl, hi, hr, rfl, rfl⟩
      repeat refine And.intro rfl ?_
      refine And.intro (fun h3 => ?_) (fun h3 => ?_)
      · have hlt : i < xs.length := lt_map h3
        rw [all_step hlt] at hr
        repeat refine And.intro rfl ?_
        refine ix_at (e := GateShape.e) (xs := xs) (hlt) rfl ?_
        repeat refine And.intro rfl ?_
        repeat refine And.intro rfl ?_
        refine Or.inl (Exists.intro _ (And.intro (i_shapeOk xs[i] (xs.map fun s : GateShape => s.kind)) ?_))
        repeat refine And.intro rfl ?_
        refine And.intro (fun h4 => ?_) (fun h4 => ?_)
        · refine bd ?_
          simp only [Bool.not_eq_true', Bool.not_eq_false'] at h4
          rw [hr, h4]; rfl
        · simp only [Bool.not_eq_true', Bool.not_eq_false'] at h4
          repeat refine And.intro rfl ?_
          exact ⟨_, _, _, ⟨i + 1, rfl, hlt, by rw [hr, h4]; rfl, rfl, rfl⟩, by omega, rfl, rfl, ⟨rfl, rfl, rfl, nd (wrap_succ hlt hs), trivial⟩, ⟨rfl, trivial⟩, ⟨rfl, trivial⟩⟩
      · refine bd ?_
        rw [hr, all_end (ge_map h3)]
end Go.Vc
