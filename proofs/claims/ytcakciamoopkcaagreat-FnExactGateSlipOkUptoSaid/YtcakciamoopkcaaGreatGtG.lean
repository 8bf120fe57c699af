/- Contracts: places, fields that are ok. -/
import Derived.Test.YtcakciamoopkcaaGreatGtF
namespace Go.Vc
open Go.Proofs
set_option maxRecDepth 100000
set_option pp.maxSteps 400
set_option pp.deepTerms false
set_option linter.unusedSimpArgs false
set_option linter.unusedVariables false
theorem s_l1Shape (xs : List GateShape) (s : Bs) : Spec P 69 [.d (lGateShape xs), .d (.str s)] (.d (.int .i64 (idx (·.kind == s) xs))) := by
  refine Spec.of_vc vcT vcM [.tmp 4] Tryz.func69 rfl rfl rfl rfl (fun hok => ?_)
  have hs : xs.length ≤ big := len_map hok.1.1
  repeat refine And.intro rfl ?_
  refine ⟨fun m l h => ∃ (i : Nat) , m = xs.length - i ∧ i ≤ xs.length ∧ (idx (·.kind == s) xs = idxBy (·.kind == s) (xs.drop i) i) ∧ l = [(0, .d (lGateShape xs)), (1, .d (.str s)), (5, .d (.int .i64 i))] ∧ h = hp0,
    ⟨_, _, _, ⟨0, rfl, Nat.zero_le _, rfl, rfl, rfl⟩, rfl, rfl, ⟨rfl, rfl, rfl, trivial⟩, trivial, trivial⟩, ?_⟩
  rintro m l hh ⟨i, rfl, hi, hr, rfl, rfl⟩
  repeat refine And.intro rfl ?_
  refine And.intro (fun h1 => ?_) (fun h1 => ?_)
  · have hlt : i < xs.length := lt_map h1
    repeat refine And.intro rfl ?_
    refine ix_at (e := GateShape.e) (xs := xs) (hlt) rfl ?_
    repeat refine And.intro rfl ?_
    rw [idxBy_step hlt] at hr
    repeat refine And.intro rfl ?_
    refine And.intro (fun h2 => ?_) (fun h2 => ?_)
    · refine nd ?_
      rw [hr, h2]; rfl
    · repeat refine And.intro rfl ?_
      exact ⟨_, _, _, ⟨i + 1, rfl, hlt, by rw [hr, h2]; rfl, rfl, rfl⟩, by omega, rfl, rfl, ⟨rfl, rfl, nd (wrap_succ hlt hs), trivial⟩, trivial, trivial⟩
  · refine nd ?_
    rw [hr, idxBy_end (ge_map h1)]
theorem i_shapeOf (xs : List GateShape) (s : Bs) : Spec P 88 [.d (lGateShape xs), .d (.str s)] (.d (.int .i64 (idx (·.kind == s) xs))) := by
  refine Spec.of_vc vcT vcM [.tmp 4] Tryz.func88 rfl rfl rfl rfl (fun hok => ?_)
  have hs : xs.length ≤ big := len_map hok.1.1
  repeat refine And.intro rfl ?_
  refine ⟨fun m l h => ∃ (i : Nat) , m = xs.length - i ∧ i ≤ xs.length ∧ (idx (·.kind == s) xs = idxBy (·.kind == s) (xs.drop i) i) ∧ l = [(0, .d (lGateShape xs)), (1, .d (.str s)), (7, .d (lGateShape xs)), (8, .d (.int .i64 (xs.map GateShape.e).length)), (9, .d (.int .i64 i))] ∧ h = hp0,
    ⟨_, _, _, ⟨0, rfl, Nat.zero_le _, rfl, rfl, rfl⟩, rfl, rfl, ⟨rfl, rfl, rfl, rfl, rfl, trivial⟩, trivial, trivial⟩, ?_⟩
  rintro m l hh ⟨i, rfl, hi, hr, rfl, rfl⟩
  repeat refine And.intro rfl ?_
  refine And.intro (fun h1 => ?_) (fun h1 => ?_)
  · have hlt : i < xs.length := lt_map h1
    repeat refine And.intro rfl ?_
    refine ix_at (e := GateShape.e) (xs := xs) (hlt) rfl ?_
    repeat refine And.intro rfl ?_
    rw [idxBy_step hlt] at hr
    repeat refine And.intro rfl ?_
    refine And.intro (fun h2 => ?_) (fun h2 => ?_)
    · refine nd ?_
      rw [hr, h2]; rfl
    · repeat refine And.intro rfl ?_
      exact ⟨_, _, _, ⟨i + 1, rfl, hlt, by rw [hr, h2]; rfl, rfl, rfl⟩, by omega, rfl, rfl, ⟨rfl, rfl, rfl, rfl, nd (wrap_succ hlt hs), trivial⟩, trivial, trivial⟩
  · refine nd ?_
    rw [hr, idxBy_end (ge_map h1)]
theorem i_placeOf (xs : List GateField) (s : Bs) : Spec P 98 [.d (lGateField xs), .d (.str s)] (.d (.int .i64 (idx (·.name == s) xs))) := by
  refine Spec.of_vc vcT vcM [.tmp 4] Tryz.func98 rfl rfl rfl rfl (fun hok => ?_)
  have hs : xs.length ≤ big := len_map hok.1.1
  repeat refine And.intro rfl ?_
  refine ⟨fun m l h => ∃ (i : Nat) , m = xs.length - i ∧ i ≤ xs.length ∧ (idx (·.name == s) xs = idxBy (·.name == s) (xs.drop i) i) ∧ l = [(0, .d (lGateField xs)), (1, .d (.str s)), (7, .d (lGateField xs)), (8, .d (.int .i64 (xs.map GateField.e).length)), (9, .d (.int .i64 i))] ∧ h = hp0,
    ⟨_, _, _, ⟨0, rfl, Nat.zero_le _, rfl, rfl, rfl⟩, rfl, rfl, ⟨rfl, rfl, rfl, rfl, rfl, trivial⟩, trivial, trivial⟩, ?_⟩
  rintro m l hh ⟨i, rfl, hi, hr, rfl, rfl⟩
  repeat refine And.intro rfl ?_
  refine And.intro (fun h1 => ?_) (fun h1 => ?_)
  · have hlt : i < xs.length := lt_map h1
    repeat refine And.intro rfl ?_
    refine ix_at (e := GateField.e) (xs := xs) (hlt) rfl ?_
    repeat refine And.intro rfl ?_
    rw [idxBy_step hlt] at hr
    repeat refine And.intro rfl ?_
    refine And.intro (fun h2 => ?_) (fun h2 => ?_)
    · refine nd ?_
      rw [hr, h2]; rfl
    · repeat refine And.intro rfl ?_
      exact ⟨_, _, _, ⟨i + 1, rfl, hlt, by rw [hr, h2]; rfl, rfl, rfl⟩, by omega, rfl, rfl, ⟨rfl, rfl, rfl, rfl, nd (wrap_succ hlt hs), trivial⟩, trivial, trivial⟩
  · refine nd ?_
    rw [hr, idxBy_end (ge_map h1)]
theorem i_teamOf (xs : List GateTeam) (s : Bs) : Spec P 91 [.d (lGateTeam xs), .d (.str s)] (.d (.int .i64 (idx (·.name == s) xs))) := by
  refine Spec.of_vc vcT vcM [.tmp 4] Tryz.func91 rfl rfl rfl rfl (fun hok => ?_)
  have hs : xs.length ≤ big := len_map hok.1.1
  repeat refine And.intro rfl ?_
  refine ⟨fun m l h => ∃ (i : Nat) , m = xs.length - i ∧ i ≤ xs.length ∧ (idx (·.name == s) xs = idxBy (·.name == s) (xs.drop i) i) ∧ l = [(0, .d (lGateTeam xs)), (1, .d (.str s)), (7, .d (lGateTeam xs)), (8, .d (.int .i64 (xs.map GateTeam.e).length)), (9, .d (.int .i64 i))] ∧ h = hp0,
    ⟨_, _, _, ⟨0, rfl, Nat.zero_le _, rfl, rfl, rfl⟩, rfl, rfl, ⟨rfl, rfl, rfl, rfl, rfl, trivial⟩, trivial, trivial⟩, ?_⟩
  rintro m l hh ⟨i, rfl, hi, hr, rfl, rfl⟩
  repeat refine And.intro rfl ?_
  refine And.intro (fun h1 => ?_) (fun h1 => ?_)
  · have hlt : i < xs.length := lt_map h1
    repeat refine And.intro rfl ?_
    refine ix_at (e := GateTeam.e) (xs := xs) (hlt) rfl ?_
    repeat refine And.intro rfl ?_
    rw [idxBy_step hlt] at hr
    repeat refine And.intro rfl ?_
    refine And.intro (fun h2 => ?_) (fun h2 => ?_)
    · refine nd ?_
      rw [hr, h2]; rfl
    · repeat refine And.intro rfl ?_
      exact ⟨_, _, _, ⟨i + 1, rfl, hlt, by rw [hr, h2]; rfl, rfl, rfl⟩, by omega, rfl, rfl, ⟨rfl, rfl, rfl, rfl, nd (wrap_succ hlt hs), trivial⟩, trivial, trivial⟩
  · refine nd ?_
    rw [hr, idxBy_end (ge_map h1)]
theorem s_l3Field (xs : List GateField) (s : Bs) : Spec P 83 [.d (lGateField xs), .d (.str s)] (.d (.int .i64 (idx (·.name == s) xs))) := by
  refine Spec.of_vc vcT vcM [.tmp 4] Tryz.func83 rfl rfl rfl rfl (fun hok => ?_)
  have hs : xs.length ≤ big := len_map hok.1.1
  repeat refine And.intro rfl ?_
  refine ⟨fun m l h => ∃ (i : Nat) , m = xs.length - i ∧ i ≤ xs.length ∧ (idx (·.name == s) xs = idxBy (·.name == s) (xs.drop i) i) ∧ l = [(0, .d (lGateField xs)), (1, .d (.str s)), (5, .d (.int .i64 i))] ∧ h = hp0,
    ⟨_, _, _, ⟨0, rfl, Nat.zero_le _, rfl, rfl, rfl⟩, rfl, rfl, ⟨rfl, rfl, rfl, trivial⟩, trivial, trivial⟩, ?_⟩
  rintro m l hh ⟨i, rfl, hi, hr, rfl, rfl⟩
  repeat refine And.intro rfl ?_
  refine And.intro (fun h1 => ?_) (fun h1 => ?_)
  · have hlt : i < xs.length := lt_map h1
    repeat refine And.intro rfl ?_
    refine ix_at (e := GateField.e) (xs := xs) (hlt) rfl ?_
    repeat refine And.intro rfl ?_
    rw [idxBy_step hlt] at hr
    repeat refine And.intro rfl ?_
    refine And.intro (fun h2 => ?_) (fun h2 => ?_)
    · refine nd ?_
      rw [hr, h2]; rfl
    · repeat refine And.intro rfl ?_
      exact ⟨_, _, _, ⟨i + 1, rfl, hlt, by rw [hr, h2]; rfl, rfl, rfl⟩, by omega, rfl, rfl, ⟨rfl, rfl, nd (wrap_succ hlt hs), trivial⟩, trivial, trivial⟩
  · refine nd ?_
    rw [hr, idxBy_end (ge_map h1)]
theorem any_map {α β : Type} {g : α → β} {p : β → Bool} {xs : List α} : (xs.map g).any p = xs.any (fun x => p (g x)) := by
  induction xs with
  | nil => rfl
  | cons x xs ih => simp [Function.comp_def]
theorem s_l1FieldOk (xs : List GateShape) (f : GateField) : Spec P 80 [.d (lGateShape xs), st f.e] (.d (.bool (fieldOkF (xs.map (·.kind)) f))) := by
  refine Spec.of_vc vcT vcM [.tmp 4] Tryz.func80 rfl rfl rfl rfl (fun hok => ?_)
  repeat refine And.intro rfl ?_
  refine Or.inl (Exists.intro _ (And.intro (s_l1NameOk _) ?_))
  repeat refine And.intro rfl ?_
  refine And.intro (fun h1 => ?_) (fun h1 => ?_)
  · repeat refine And.intro rfl ?_
    refine Or.inl (Exists.intro _ (And.intro (s_l1Bare _) ?_))
    repeat refine And.intro rfl ?_
    refine And.intro (fun h2 => ?_) (fun h2 => ?_)
    · repeat refine And.intro rfl ?_
      refine And.intro (fun h3 => ?_) (fun h3 => ?_)
      · repeat refine And.intro rfl ?_
        refine Or.inl (Exists.intro _ (And.intro (s_GateFits _ _) ?_))
        repeat refine And.intro rfl ?_
        refine And.intro (fun h4 => ?_) (fun h4 => ?_)
        · refine bd ?_
          simp only [Bool.not_eq_true', Bool.not_eq_false'] at h1 h2 h3 h4
          simp only [fieldOkF, h1, h2, h3, h4, Bool.or_false, Bool.true_and, Bool.false_and]
        · simp only [Bool.not_eq_true', Bool.not_eq_false'] at h1 h2 h3 h4
          have e : fieldOkF (xs.map (·.kind)) f = soundF (xs.map (·.kind)) f := by simp only [fieldOkF, h1, h2, h3, h4, Bool.or_true, Bool.true_and]
          rw [e]
          repeat' first
            | refine And.intro rfl ?_
            | refine And.intro (fun h => ?_) (fun h => ?_)
            | refine Or.inl (Exists.intro _ (And.intro (s_l1NameOk _) ?_))
            | refine Or.inl (Exists.intro _ (And.intro (s_l1In _ _ _) ?_))
            | refine Or.inl (Exists.intro _ (And.intro (s_l1Ascending _) ?_))
            | refine Or.inl (Exists.intro _ (And.intro (s_l1Shape _ _) ?_))
          all_goals (refine bd ?_; (try simp only [List.length_map] at *); first | (simp only [soundF, sound1, sound2, sound3, sound4, any_map, ← idx_any (xs := xs), *, Bool.false_or, Bool.true_or, Bool.or_false, Bool.or_true, Bool.and_true, Bool.true_and, Bool.and_false, Bool.false_and, Bool.not_true, Bool.not_false, Bool.not_not, cond_true, cond_false]; done) | (exfalso; simp_all))
      · simp only [Bool.not_eq_true', Bool.not_eq_false'] at h1 h2 h3
        have e : fieldOkF (xs.map (·.kind)) f = soundF (xs.map (·.kind)) f := by simp only [fieldOkF, h1, h2, h3, Bool.true_or, Bool.true_and]
        rw [e]
        repeat' first
          | refine And.intro rfl ?_
          | refine And.intro (fun h => ?_) (fun h => ?_)
          | refine Or.inl (Exists.intro _ (And.intro (s_l1NameOk _) ?_))
          | refine Or.inl (Exists.intro _ (And.intro (s_l1In _ _ _) ?_))
          | refine Or.inl (Exists.intro _ (And.intro (s_l1Ascending _) ?_))
          | refine Or.inl (Exists.intro _ (And.intro (s_l1Shape _ _) ?_))
        all_goals (refine bd ?_; (try simp only [List.length_map] at *); first | (simp only [soundF, sound1, sound2, sound3, sound4, any_map, ← idx_any (xs := xs), *, Bool.false_or, Bool.true_or, Bool.or_false, Bool.or_true, Bool.and_true, Bool.true_and, Bool.and_false, Bool.false_and, Bool.not_true, Bool.not_false, Bool.not_not, cond_true, cond_false]; done) | (exfalso; simp_all))
    · refine bd ?_
      simp only [Bool.not_eq_true', Bool.not_eq_false'] at h1 h2
      simp only [fieldOkF, h1, h2, Bool.false_and, Bool.and_false]
  · refine bd ?_
    simp only [Bool.not_eq_true', Bool.not_eq_false'] at h1
    simp only [fieldOkF, h1, Bool.false_and]
end Go.Vc
