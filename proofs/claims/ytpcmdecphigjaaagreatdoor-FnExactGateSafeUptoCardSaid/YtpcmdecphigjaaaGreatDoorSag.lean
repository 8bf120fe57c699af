/- Part 7 of a proof: Contracts: rules that are ok. Contracts: rules of the specification. Contracts: places in a book, how keys stand to each other, the fields of an object. Contracts: errors.As at the program's own error; what 'told' answers. Contracts: what is wrong with an object. Contracts: GateCheck of the program. Contracts: copies of objects; values that are not set. Contracts: values that are not set. Rows in which each stands behind what it reads: one by one (greedy) and depth first come to the same. Plain Lean, no program. -/
import Derived.Test.YtpcmdecphigjaaaGreatDoorSaa
import Derived.Test.YtpcmdecphigjaaaGreatDoorSab
import Derived.Test.YtpcmdecphigjaaaGreatDoorSac
import Derived.Test.YtpcmdecphigjaaaGreatDoorSad
import Derived.Test.YtpcmdecphigjaaaGreatDoorSae
import Derived.Test.YtpcmdecphigjaaaGreatDoorSaf
section
namespace Go.Vc
open Go.Proofs
set_option maxRecDepth 100000
set_option pp.maxSteps 400
set_option pp.deepTerms false
set_option linter.unusedSimpArgs false
set_option linter.unusedVariables false
theorem inR_lo {x : Int} (h : decide (x < 1) = true) : inR x 1 5 = false := by
  have := of_decide_eq_true h
  simp only [inR, Bool.and_eq_false_iff, decide_eq_false_iff_not]; omega
theorem inR_hi {x : Int} (h : decide (x > 5) = true) : inR x 1 5 = false := by
  have := of_decide_eq_true h
  simp only [inR, Bool.and_eq_false_iff, decide_eq_false_iff_not]; omega
theorem inR_in {x : Int} (h : decide (x < 1) = false) (h2 : decide (x > 5) = false) : inR x 1 5 = true := by
  have := of_decide_eq_false h
  have := of_decide_eq_false h2
  simp only [inR, Bool.and_eq_true, decide_eq_true_eq]; omega
theorem i_ruleOk (r : GateRule) : Spec P 129 [st r.e] (.d (.bool (ruleOk r))) := by
  refine Spec.of_vc vcT vcM [.tmp 2] Tryz.func129 rfl rfl rfl rfl (fun hok => ?_)
  have hs : r.verbs.length ≤ big := by
    have := hok.1
    simp only [st, AV.ok, GateRule.e, List.map, okAs] at this
    exact len_map this.1.1
  repeat refine And.intro rfl ?_
  refine And.intro (fun h0 => ?_) (fun h0 => ?_)
  · rw [List.length_map] at h0
    have hv := h0
    repeat refine And.intro rfl ?_
    refine And.intro (fun h1 => ?_) (fun h1 => ?_)
    · repeat refine And.intro rfl ?_
      refine Or.inl (Exists.intro _ (And.intro (i_isName _) ?_))
      repeat refine And.intro rfl ?_
      refine And.intro (fun h1' => ?_) (fun h1' => ?_)
      · simp only [Bool.not_eq_true', Bool.not_eq_false'] at h1 h1'
        have hk : (r.kind == [] || nameOk r.kind) = true := by rw [h1']; simp
        repeat refine And.intro rfl ?_
        refine And.intro (fun h2 => ?_) (fun h2 => ?_)
        · repeat refine And.intro rfl ?_
          refine Or.inl (Exists.intro _ (And.intro (i_isName _) ?_))
          repeat refine And.intro rfl ?_
          refine And.intro (fun h2' => ?_) (fun h2' => ?_)
          · simp only [Bool.not_eq_true', Bool.not_eq_false'] at h2 h2'
            have ht : (r.team == [] || nameOk r.team) = true := by rw [h2']; simp
            repeat refine And.intro rfl ?_
            refine And.intro (fun h3 => ?_) (fun h3 => ?_)
            · repeat refine And.intro rfl ?_
              refine Or.inl (Exists.intro _ (And.intro (i_nameBytes _) ?_))
              repeat refine And.intro rfl ?_
              refine And.intro (fun h4 => ?_) (fun h4 => ?_)
              · refine bd ?_
                simp only [Bool.not_eq_true', Bool.not_eq_false'] at h4
                simp only [ruleOk, h4, Bool.false_and, Bool.and_false]
              · simp only [Bool.not_eq_true', Bool.not_eq_false'] at h4
                have hp : decide ((r.prefix_.length : Int) > 16) = false := h3
                have ha := h4
                have e : ruleOk r = vrb none r.verbs := by simp only [ruleOk, hv, hk, ht, hp, ha, Bool.or_true, Bool.true_or, Bool.not_false, Bool.true_and]
                rw [e]
                repeat refine And.intro rfl ?_
                refine ⟨fun m l h => ∃ (i : Nat) , m = r.verbs.length - i ∧ i ≤ r.verbs.length ∧ (vrb none r.verbs = vrb (prevI r.verbs i) (r.verbs.drop i)) ∧ l = [(1, .ptr 0 0), (44, .d (lI r.verbs)), (45, .d (.int .i64 (r.verbs.map eN).length)), (46, .d (.int .i64 i))] ∧ h = ⟨[(0, .cells 103 (r.e.map .d))], 1, 0⟩,
                  ⟨_, _, _, ⟨0, rfl, Nat.zero_le _, rfl, rfl, rfl⟩, rfl, rfl, ⟨rfl, rfl, rfl, rfl, trivial⟩, ⟨rfl, trivial⟩, ⟨rfl, trivial⟩⟩, ?_⟩
                rintro m l hh ⟨i, rfl, hi, hr, rfl, rfl⟩
                repeat refine And.intro rfl ?_
                refine And.intro (fun g1 => ?_) (fun g1 => ?_)
                · have hlt : i < r.verbs.length := lt_map g1
                  rw [vrb_step hlt] at hr
                  repeat refine And.intro rfl ?_
                  refine ix_at (e := eN) (xs := r.verbs) (hlt) rfl ?_
                  repeat refine And.intro rfl ?_
                  repeat refine And.intro rfl ?_
                  refine And.intro (fun g2 => ?_) (fun g2 => ?_)
                  · repeat refine And.intro rfl ?_
                    refine And.intro (fun g3 => ?_) (fun g3 => ?_)
                    · have hin := inR_in g2 g3
                      repeat refine And.intro rfl ?_
                      refine And.intro (fun g4 => ?_) (fun g4 => ?_)
                      · have h0' := gt0 g4
                        repeat refine And.intro rfl ?_
                        refine ix_atw (e := eN) (xs := r.verbs) ((show i - 1 < r.verbs.length by omega)) (wrap_pred h0' hlt hs) rfl ?_
                        repeat refine And.intro rfl ?_
                        repeat refine And.intro rfl ?_
                        refine And.intro (fun g5 => ?_) (fun g5 => ?_)
                        · refine bd ?_
                          rw [hr, prevI_less hlt h0', show decide (r.verbs[i - 1]'(by omega) ≥ r.verbs[i]) = true from g5, hin]; rfl
                        · repeat refine And.intro rfl ?_
                          exact ⟨_, _, _, ⟨i + 1, rfl, hlt, by rw [hr, prevI_less hlt h0', show decide (r.verbs[i - 1]'(by omega) ≥ r.verbs[i]) = false from g5, hin]; rfl, rfl, rfl⟩, by omega, rfl, rfl, ⟨rfl, rfl, rfl, nd (wrap_succ hlt hs), trivial⟩, ⟨rfl, trivial⟩, ⟨rfl, trivial⟩⟩
                      · have hz := le0 g4
                        repeat refine And.intro rfl ?_
                        exact ⟨_, _, _, ⟨i + 1, rfl, hlt, by rw [hr, show lessI (prevI r.verbs i) r.verbs[i] = true from by subst hz; rfl, hin]; rfl, rfl, rfl⟩, by omega, rfl, rfl, ⟨rfl, rfl, rfl, nd (wrap_succ hlt hs), trivial⟩, ⟨rfl, trivial⟩, ⟨rfl, trivial⟩⟩
                    · refine bd ?_
                      rw [hr, inR_hi g3]; rfl
                  · refine bd ?_
                    rw [hr, inR_lo g2]; rfl
                · refine bd ?_
                  rw [hr, vrb_end (ge_map g1)]
            · refine bd ?_
              simp only [ruleOk, show decide ((r.prefix_.length : Int) > 16) = true from h3, Bool.not_true, Bool.false_and, Bool.and_false]
          · refine bd ?_
            simp only [Bool.not_eq_true', Bool.not_eq_false'] at h2 h2'
            simp only [ruleOk, h2, h2', Bool.or_false, Bool.false_and, Bool.and_false]
        · simp only [Bool.not_eq_true', Bool.not_eq_false'] at h2
          have ht : (r.team == [] || nameOk r.team) = true := by rw [h2]; rfl
          repeat refine And.intro rfl ?_
          refine And.intro (fun h3 => ?_) (fun h3 => ?_)
          · repeat refine And.intro rfl ?_
            refine Or.inl (Exists.intro _ (And.intro (i_nameBytes _) ?_))
            repeat refine And.intro rfl ?_
            refine And.intro (fun h4 => ?_) (fun h4 => ?_)
            · refine bd ?_
              simp only [Bool.not_eq_true', Bool.not_eq_false'] at h4
              simp only [ruleOk, h4, Bool.false_and, Bool.and_false]
            · simp only [Bool.not_eq_true', Bool.not_eq_false'] at h4
              have hp : decide ((r.prefix_.length : Int) > 16) = false := h3
              have ha := h4
              have e : ruleOk r = vrb none r.verbs := by simp only [ruleOk, hv, hk, ht, hp, ha, Bool.or_true, Bool.true_or, Bool.not_false, Bool.true_and]
              rw [e]
              repeat refine And.intro rfl ?_
              refine ⟨fun m l h => ∃ (i : Nat) , m = r.verbs.length - i ∧ i ≤ r.verbs.length ∧ (vrb none r.verbs = vrb (prevI r.verbs i) (r.verbs.drop i)) ∧ l = [(1, .ptr 0 0), (44, .d (lI r.verbs)), (45, .d (.int .i64 (r.verbs.map eN).length)), (46, .d (.int .i64 i))] ∧ h = ⟨[(0, .cells 103 (r.e.map .d))], 1, 0⟩,
                ⟨_, _, _, ⟨0, rfl, Nat.zero_le _, rfl, rfl, rfl⟩, rfl, rfl, ⟨rfl, rfl, rfl, rfl, trivial⟩, ⟨rfl, trivial⟩, ⟨rfl, trivial⟩⟩, ?_⟩
              rintro m l hh ⟨i, rfl, hi, hr, rfl, rfl⟩
              repeat refine And.intro rfl ?_
              refine And.intro (fun g1 => ?_) (fun g1 => ?_)
              · have hlt : i < r.verbs.length := lt_map g1
                rw [vrb_step hlt] at hr
                repeat refine And.intro rfl ?_
                refine ix_at (e := eN) (xs := r.verbs) (hlt) rfl ?_
                repeat refine And.intro rfl ?_
                repeat refine And.intro rfl ?_
                refine And.intro (fun g2 => ?_) (fun g2 => ?_)
                · repeat refine And.intro rfl ?_
                  refine And.intro (fun g3 => ?_) (fun g3 => ?_)
                  · have hin := inR_in g2 g3
                    repeat refine And.intro rfl ?_
                    refine And.intro (fun g4 => ?_) (fun g4 => ?_)
                    · have h0' := gt0 g4
                      repeat refine And.intro rfl ?_
                      refine ix_atw (e := eN) (xs := r.verbs) ((show i - 1 < r.verbs.length by omega)) (wrap_pred h0' hlt hs) rfl ?_
                      repeat refine And.intro rfl ?_
                      repeat refine And.intro rfl ?_
                      refine And.intro (fun g5 => ?_) (fun g5 => ?_)
                      · refine bd ?_
                        rw [hr, prevI_less hlt h0', show decide (r.verbs[i - 1]'(by omega) ≥ r.verbs[i]) = true from g5, hin]; rfl
                      · repeat refine And.intro rfl ?_
                        exact ⟨_, _, _, ⟨i + 1, rfl, hlt, by rw [hr, prevI_less hlt h0', show decide (r.verbs[i - 1]'(by omega) ≥ r.verbs[i]) = false from g5, hin]; rfl, rfl, rfl⟩, by omega, rfl, rfl, ⟨rfl, rfl, rfl, nd (wrap_succ hlt hs), trivial⟩, ⟨rfl, trivial⟩, ⟨rfl, trivial⟩⟩
                    · have hz := le0 g4
                      repeat refine And.intro rfl ?_
                      exact ⟨_, _, _, ⟨i + 1, rfl, hlt, by rw [hr, show lessI (prevI r.verbs i) r.verbs[i] = true from by subst hz; rfl, hin]; rfl, rfl, rfl⟩, by omega, rfl, rfl, ⟨rfl, rfl, rfl, nd (wrap_succ hlt hs), trivial⟩, ⟨rfl, trivial⟩, ⟨rfl, trivial⟩⟩
                  · refine bd ?_
                    rw [hr, inR_hi g3]; rfl
                · refine bd ?_
                  rw [hr, inR_lo g2]; rfl
              · refine bd ?_
                rw [hr, vrb_end (ge_map g1)]
          · refine bd ?_
            simp only [ruleOk, show decide ((r.prefix_.length : Int) > 16) = true from h3, Bool.not_true, Bool.false_and, Bool.and_false]
      · refine bd ?_
        simp only [Bool.not_eq_true', Bool.not_eq_false'] at h1 h1'
        simp only [ruleOk, h1, h1', Bool.or_false, Bool.false_and, Bool.and_false]
    · simp only [Bool.not_eq_true', Bool.not_eq_false'] at h1
      have hk : (r.kind == [] || nameOk r.kind) = true := by rw [h1]; rfl
      repeat refine And.intro rfl ?_
      refine And.intro (fun h2 => ?_) (fun h2 => ?_)
      · repeat refine And.intro rfl ?_
        refine Or.inl (Exists.intro _ (And.intro (i_isName _) ?_))
        repeat refine And.intro rfl ?_
        refine And.intro (fun h2' => ?_) (fun h2' => ?_)
        · simp only [Bool.not_eq_true', Bool.not_eq_false'] at h2 h2'
          have ht : (r.team == [] || nameOk r.team) = true := by rw [h2']; simp
          repeat refine And.intro rfl ?_
          refine And.intro (fun h3 => ?_) (fun h3 => ?_)
          · repeat refine And.intro rfl ?_
            refine Or.inl (Exists.intro _ (And.intro (i_nameBytes _) ?_))
            repeat refine And.intro rfl ?_
            refine And.intro (fun h4 => ?_) (fun h4 => ?_)
            · refine bd ?_
              simp only [Bool.not_eq_true', Bool.not_eq_false'] at h4
              simp only [ruleOk, h4, Bool.false_and, Bool.and_false]
            · simp only [Bool.not_eq_true', Bool.not_eq_false'] at h4
              have hp : decide ((r.prefix_.length : Int) > 16) = false := h3
              have ha := h4
              have e : ruleOk r = vrb none r.verbs := by simp only [ruleOk, hv, hk, ht, hp, ha, Bool.or_true, Bool.true_or, Bool.not_false, Bool.true_and]
              rw [e]
              repeat refine And.intro rfl ?_
              refine ⟨fun m l h => ∃ (i : Nat) , m = r.verbs.length - i ∧ i ≤ r.verbs.length ∧ (vrb none r.verbs = vrb (prevI r.verbs i) (r.verbs.drop i)) ∧ l = [(1, .ptr 0 0), (44, .d (lI r.verbs)), (45, .d (.int .i64 (r.verbs.map eN).length)), (46, .d (.int .i64 i))] ∧ h = ⟨[(0, .cells 103 (r.e.map .d))], 1, 0⟩,
                ⟨_, _, _, ⟨0, rfl, Nat.zero_le _, rfl, rfl, rfl⟩, rfl, rfl, ⟨rfl, rfl, rfl, rfl, trivial⟩, ⟨rfl, trivial⟩, ⟨rfl, trivial⟩⟩, ?_⟩
              rintro m l hh ⟨i, rfl, hi, hr, rfl, rfl⟩
              repeat refine And.intro rfl ?_
              refine And.intro (fun g1 => ?_) (fun g1 => ?_)
              · have hlt : i < r.verbs.length := lt_map g1
                rw [vrb_step hlt] at hr
                repeat refine And.intro rfl ?_
                refine ix_at (e := eN) (xs := r.verbs) (hlt) rfl ?_
                repeat refine And.intro rfl ?_
                repeat refine And.intro rfl ?_
                refine And.intro (fun g2 => ?_) (fun g2 => ?_)
                · repeat refine And.intro rfl ?_
                  refine And.intro (fun g3 => ?_) (fun g3 => ?_)
                  · have hin := inR_in g2 g3
                    repeat refine And.intro rfl ?_
                    refine And.intro (fun g4 => ?_) (fun g4 => ?_)
                    · have h0' := gt0 g4
                      repeat refine And.intro rfl ?_
                      refine ix_atw (e := eN) (xs := r.verbs) ((show i - 1 < r.verbs.length by omega)) (wrap_pred h0' hlt hs) rfl ?_
                      repeat refine And.intro rfl ?_
                      repeat refine And.intro rfl ?_
                      refine And.intro (fun g5 => ?_) (fun g5 => ?_)
                      · refine bd ?_
                        rw [hr, prevI_less hlt h0', show decide (r.verbs[i - 1]'(by omega) ≥ r.verbs[i]) = true from g5, hin]; rfl
                      · repeat refine And.intro rfl ?_
                        exact ⟨_, _, _, ⟨i + 1, rfl, hlt, by rw [hr, prevI_less hlt h0', show decide (r.verbs[i - 1]'(by omega) ≥ r.verbs[i]) = false from g5, hin]; rfl, rfl, rfl⟩, by omega, rfl, rfl, ⟨rfl, rfl, rfl, nd (wrap_succ hlt hs), trivial⟩, ⟨rfl, trivial⟩, ⟨rfl, trivial⟩⟩
                    · have hz := le0 g4
                      repeat refine And.intro rfl ?_
                      exact ⟨_, _, _, ⟨i + 1, rfl, hlt, by rw [hr, show lessI (prevI r.verbs i) r.verbs[i] = true from by subst hz; rfl, hin]; rfl, rfl, rfl⟩, by omega, rfl, rfl, ⟨rfl, rfl, rfl, nd (wrap_succ hlt hs), trivial⟩, ⟨rfl, trivial⟩, ⟨rfl, trivial⟩⟩
                  · refine bd ?_
                    rw [hr, inR_hi g3]; rfl
                · refine bd ?_
                  rw [hr, inR_lo g2]; rfl
              · refine bd ?_
                rw [hr, vrb_end (ge_map g1)]
          · refine bd ?_
            simp only [ruleOk, show decide ((r.prefix_.length : Int) > 16) = true from h3, Bool.not_true, Bool.false_and, Bool.and_false]
        · refine bd ?_
          simp only [Bool.not_eq_true', Bool.not_eq_false'] at h2 h2'
          simp only [ruleOk, h2, h2', Bool.or_false, Bool.false_and, Bool.and_false]
      · simp only [Bool.not_eq_true', Bool.not_eq_false'] at h2
        have ht : (r.team == [] || nameOk r.team) = true := by rw [h2]; rfl
        repeat refine And.intro rfl ?_
        refine And.intro (fun h3 => ?_) (fun h3 => ?_)
        · repeat refine And.intro rfl ?_
          refine Or.inl (Exists.intro _ (And.intro (i_nameBytes _) ?_))
          repeat refine And.intro rfl ?_
          refine And.intro (fun h4 => ?_) (fun h4 => ?_)
          · refine bd ?_
            simp only [Bool.not_eq_true', Bool.not_eq_false'] at h4
            simp only [ruleOk, h4, Bool.false_and, Bool.and_false]
          · simp only [Bool.not_eq_true', Bool.not_eq_false'] at h4
            have hp : decide ((r.prefix_.length : Int) > 16) = false := h3
            have ha := h4
            have e : ruleOk r = vrb none r.verbs := by simp only [ruleOk, hv, hk, ht, hp, ha, Bool.or_true, Bool.true_or, Bool.not_false, Bool.true_and]
            rw [e]
            repeat refine And.intro rfl ?_
            refine ⟨fun m l h => ∃ (i : Nat) , m = r.verbs.length - i ∧ i ≤ r.verbs.length ∧ (vrb none r.verbs = vrb (prevI r.verbs i) (r.verbs.drop i)) ∧ l = [(1, .ptr 0 0), (44, .d (lI r.verbs)), (45, .d (.int .i64 (r.verbs.map eN).length)), (46, .d (.int .i64 i))] ∧ h = ⟨[(0, .cells 103 (r.e.map .d))], 1, 0⟩,
              ⟨_, _, _, ⟨0, rfl, Nat.zero_le _, rfl, rfl, rfl⟩, rfl, rfl, ⟨rfl, rfl, rfl, rfl, trivial⟩, ⟨rfl, trivial⟩, ⟨rfl, trivial⟩⟩, ?_⟩
            rintro m l hh ⟨i, rfl, hi, hr, rfl, rfl⟩
            repeat refine And.intro rfl ?_
            refine And.intro (fun g1 => ?_) (fun g1 => ?_)
            · have hlt : i < r.verbs.length := lt_map g1
              rw [vrb_step hlt] at hr
              repeat refine And.intro rfl ?_
              refine ix_at (e := eN) (xs := r.verbs) (hlt) rfl ?_
              repeat refine And.intro rfl ?_
              repeat refine And.intro rfl ?_
              refine And.intro (fun g2 => ?_) (fun g2 => ?_)
              · repeat refine And.intro rfl ?_
                refine And.intro (fun g3 => ?_) (fun g3 => ?_)
                · have hin := inR_in g2 g3
                  repeat refine And.intro rfl ?_
                  refine And.intro (fun g4 => ?_) (fun g4 => ?_)
                  · have h0' := gt0 g4
                    repeat refine And.intro rfl ?_
                    refine ix_atw (e := eN) (xs := r.verbs) ((show i - 1 < r.verbs.length by omega)) (wrap_pred h0' hlt hs) rfl ?_
                    repeat refine And.intro rfl ?_
                    repeat refine And.intro rfl ?_
                    refine And.intro (fun g5 => ?_) (fun g5 => ?_)
                    · refine bd ?_
                      rw [hr, prevI_less hlt h0', show decide (r.verbs[i - 1]'(by omega) ≥ r.verbs[i]) = true from g5, hin]; rfl
                    · repeat refine And.intro rfl ?_
                      exact ⟨_, _, _, ⟨i + 1, rfl, hlt, by rw [hr, prevI_less hlt h0', show decide (r.verbs[i - 1]'(by omega) ≥ r.verbs[i]) = false from g5, hin]; rfl, rfl, rfl⟩, by omega, rfl, rfl, ⟨rfl, rfl, rfl, nd (wrap_succ hlt hs), trivial⟩, ⟨rfl, trivial⟩, ⟨rfl, trivial⟩⟩
                  · have hz := le0 g4
                    repeat refine And.intro rfl ?_
                    exact ⟨_, _, _, ⟨i + 1, rfl, hlt, by rw [hr, show lessI (prevI r.verbs i) r.verbs[i] = true from by subst hz; rfl, hin]; rfl, rfl, rfl⟩, by omega, rfl, rfl, ⟨rfl, rfl, rfl, nd (wrap_succ hlt hs), trivial⟩, ⟨rfl, trivial⟩, ⟨rfl, trivial⟩⟩
                · refine bd ?_
                  rw [hr, inR_hi g3]; rfl
              · refine bd ?_
                rw [hr, inR_lo g2]; rfl
            · refine bd ?_
              rw [hr, vrb_end (ge_map g1)]
        · refine bd ?_
          simp only [ruleOk, show decide ((r.prefix_.length : Int) > 16) = true from h3, Bool.not_true, Bool.false_and, Bool.and_false]
  · refine bd ?_
    rw [List.length_map] at h0
    simp only [ruleOk, h0, Bool.not_true, Bool.false_and]
end Go.Vc
end

section
namespace Go.Vc
open Go.Proofs
set_option maxRecDepth 100000
set_option pp.maxSteps 400
set_option pp.deepTerms false
set_option linter.unusedSimpArgs false
set_option linter.unusedVariables false
theorem s_l4RuleOk (r : GateRule) : Spec P 113 [st r.e] (.d (.bool (ruleOk r))) := by
  refine Spec.of_vc vcT vcM [.tmp 2] Tryz.func113 rfl rfl rfl rfl (fun hok => ?_)
  have hs : r.verbs.length ≤ big := by
    have := hok.1
    simp only [st, AV.ok, GateRule.e, List.map, okAs] at this
    exact len_map this.1.1
  have hsp : r.prefix_.length ≤ big := by
    have := hok.1
    simp only [st, AV.ok, GateRule.e, List.map, okAs] at this
    exact this.2.2.2.1
  repeat refine And.intro rfl ?_
  refine And.intro (fun h0 => ?_) (fun h0 => ?_)
  · rw [List.length_map] at h0
    have hv := h0
    repeat refine And.intro rfl ?_
    refine And.intro (fun h3 => ?_) (fun h3 => ?_)
    · have hp : decide ((r.prefix_.length : Int) > 16) = false := h3
      repeat refine And.intro rfl ?_
      refine And.intro (fun h1 => ?_) (fun h1 => ?_)
      · simp only [Bool.not_eq_true', Bool.not_eq_false'] at h1
        repeat refine And.intro rfl ?_
        refine Or.inl (Exists.intro _ (And.intro (s_l1NameOk _) ?_))
        repeat refine And.intro rfl ?_
        refine And.intro (fun h1' => ?_) (fun h1' => ?_)
        · simp only [Bool.not_eq_true', Bool.not_eq_false'] at h1'
          have hk : (r.kind == [] || nameOk r.kind) = true := by rw [h1']; simp
          repeat refine And.intro rfl ?_
          refine And.intro (fun h2 => ?_) (fun h2 => ?_)
          · simp only [Bool.not_eq_true', Bool.not_eq_false'] at h2
            repeat refine And.intro rfl ?_
            refine Or.inl (Exists.intro _ (And.intro (s_l1NameOk _) ?_))
            repeat refine And.intro rfl ?_
            refine And.intro (fun h2' => ?_) (fun h2' => ?_)
            · simp only [Bool.not_eq_true', Bool.not_eq_false'] at h2'
              refine bd ?_
              simp only [ruleOk, h2, h2', Bool.or_false, Bool.false_and, Bool.and_false]
            · simp only [Bool.not_eq_true', Bool.not_eq_false'] at h2'
              have ht : (r.team == [] || nameOk r.team) = true := by rw [h2']; simp
              have e : ruleOk r = (r.prefix_.all nmByte && vrb none r.verbs) := by simp only [ruleOk, hv, hk, ht, hp, Bool.or_true, Bool.true_or, Bool.not_false, Bool.true_and]
              rw [e]
              repeat refine And.intro rfl ?_
              refine ⟨fun m l h => ∃ (i : Nat) , m = r.verbs.length - i ∧ i ≤ r.verbs.length ∧ (vrb none r.verbs = vrb (prevI r.verbs i) (r.verbs.drop i)) ∧ l = [(1, .ptr 0 0), (3, .d (.int .i64 i))] ∧ h = ⟨[(0, .cells 103 (r.e.map .d))], 1, 0⟩,
                ⟨_, _, _, ⟨0, rfl, Nat.zero_le _, rfl, rfl, rfl⟩, rfl, rfl, ⟨rfl, rfl, trivial⟩, ⟨rfl, trivial⟩, ⟨rfl, trivial⟩⟩, ?_⟩
              rintro m l hh ⟨i, rfl, hi, hr, rfl, rfl⟩
              repeat refine And.intro rfl ?_
              refine And.intro (fun g1 => ?_) (fun g1 => ?_)
              · have hlt : i < r.verbs.length := lt_map g1
                rw [vrb_step hlt] at hr
                repeat refine And.intro rfl ?_
                refine And.intro (by kernel_rfl) ?_
                repeat refine And.intro rfl ?_
                repeat refine And.intro rfl ?_
                refine ix_at (e := eN) (xs := r.verbs) (hlt) rfl ?_
                repeat refine And.intro rfl ?_
                repeat refine And.intro rfl ?_
                refine Or.inl (Exists.intro _ (And.intro (s_l1In _ _ _) ?_))
                repeat refine And.intro rfl ?_
                refine And.intro (fun g2 => ?_) (fun g2 => ?_)
                · simp only [Bool.not_eq_true', Bool.not_eq_false'] at g2
                  repeat refine And.intro rfl ?_
                  refine And.intro (fun g3 => ?_) (fun g3 => ?_)
                  · have h0' := gt0 g3
                    repeat refine And.intro rfl ?_
                    refine ix_atw (e := eN) (xs := r.verbs) ((show i - 1 < r.verbs.length by omega)) (wrap_pred h0' hlt hs) rfl ?_
                    repeat refine And.intro rfl ?_
                    repeat refine And.intro rfl ?_
                    refine ix_at (e := eN) (xs := r.verbs) (hlt) rfl ?_
                    repeat refine And.intro rfl ?_
                    repeat refine And.intro rfl ?_
                    refine And.intro (fun g4 => ?_) (fun g4 => ?_)
                    · refine bd ?_
                      rw [hr, prevI_less hlt h0', show decide (r.verbs[i - 1]'(by omega) ≥ r.verbs[i]) = true from g4, g2]; simp
                    · repeat refine And.intro rfl ?_
                      exact ⟨_, _, _, ⟨i + 1, rfl, hlt, by rw [hr, prevI_less hlt h0', show decide (r.verbs[i - 1]'(by omega) ≥ r.verbs[i]) = false from g4, g2]; rfl, rfl, rfl⟩, by omega, rfl, rfl, ⟨rfl, nd (wrap_succ hlt hs), trivial⟩, ⟨rfl, trivial⟩, ⟨rfl, trivial⟩⟩
                  · repeat refine And.intro rfl ?_
                    refine And.intro (fun h => absurd h (by simp)) (fun _ => ?_)
                    have hz := le0 g3
                    repeat refine And.intro rfl ?_
                    exact ⟨_, _, _, ⟨i + 1, rfl, hlt, by rw [hr, show lessI (prevI r.verbs i) r.verbs[i] = true from by subst hz; rfl, g2]; rfl, rfl, rfl⟩, by omega, rfl, rfl, ⟨rfl, nd (wrap_succ hlt hs), trivial⟩, ⟨rfl, trivial⟩, ⟨rfl, trivial⟩⟩
                · simp only [Bool.not_eq_true', Bool.not_eq_false'] at g2
                  repeat refine And.intro rfl ?_
                  refine And.intro (fun _ => ?_) (fun h => absurd h (by simp))
                  refine bd ?_
                  rw [hr, g2]; simp
              · rw [vrb_end (ge_map g1)] at hr
                rw [hr, Bool.and_true]
                repeat refine And.intro rfl ?_
                refine ⟨fun m l h => ∃ (i : Nat) , m = r.prefix_.length - i ∧ i ≤ r.prefix_.length ∧ (r.prefix_.all nmByte = (r.prefix_.drop i).all nmByte) ∧ l = [(1, .ptr 0 0), (4, .d (.int .i64 i))] ∧ h = ⟨[(0, .cells 103 (r.e.map .d))], 1, 0⟩,
                  ⟨_, _, _, ⟨0, rfl, Nat.zero_le _, rfl, rfl, rfl⟩, rfl, rfl, ⟨rfl, rfl, trivial⟩, ⟨rfl, trivial⟩, ⟨rfl, trivial⟩⟩, ?_⟩
                rintro m l hh ⟨i, rfl, hi, hr, rfl, rfl⟩
                repeat refine And.intro rfl ?_
                refine And.intro (fun g5 => ?_) (fun g5 => ?_)
                · have hlt : i < r.prefix_.length := lt_str g5
                  rw [all_step hlt] at hr
                  repeat refine And.intro rfl ?_
                  refine ix_str (hlt) ?_
                  repeat refine And.intro rfl ?_
                  repeat refine And.intro rfl ?_
                  refine Or.inl (Exists.intro _ (And.intro (s_l1Byte _) ?_))
                  repeat refine And.intro rfl ?_
                  refine And.intro (fun g6 => ?_) (fun g6 => ?_)
                  · simp only [Bool.not_eq_true', Bool.not_eq_false'] at g6
                    refine bd ?_
                    rw [hr, g6]; rfl
                  · simp only [Bool.not_eq_true', Bool.not_eq_false'] at g6
                    repeat refine And.intro rfl ?_
                    exact ⟨_, _, _, ⟨i + 1, rfl, hlt, by rw [hr, g6]; rfl, rfl, rfl⟩, by omega, rfl, rfl, ⟨rfl, nd (wrap_succ hlt hsp), trivial⟩, ⟨rfl, trivial⟩, ⟨rfl, trivial⟩⟩
                · refine bd ?_
                  rw [hr, all_end (ge_str g5)]
          · simp only [Bool.not_eq_true', Bool.not_eq_false'] at h2
            have ht : (r.team == [] || nameOk r.team) = true := by rw [h2]; rfl
            have e : ruleOk r = (r.prefix_.all nmByte && vrb none r.verbs) := by simp only [ruleOk, hv, hk, ht, hp, Bool.or_true, Bool.true_or, Bool.not_false, Bool.true_and]
            rw [e]
            repeat refine And.intro rfl ?_
            refine ⟨fun m l h => ∃ (i : Nat) , m = r.verbs.length - i ∧ i ≤ r.verbs.length ∧ (vrb none r.verbs = vrb (prevI r.verbs i) (r.verbs.drop i)) ∧ l = [(1, .ptr 0 0), (3, .d (.int .i64 i))] ∧ h = ⟨[(0, .cells 103 (r.e.map .d))], 1, 0⟩,
              ⟨_, _, _, ⟨0, rfl, Nat.zero_le _, rfl, rfl, rfl⟩, rfl, rfl, ⟨rfl, rfl, trivial⟩, ⟨rfl, trivial⟩, ⟨rfl, trivial⟩⟩, ?_⟩
            rintro m l hh ⟨i, rfl, hi, hr, rfl, rfl⟩
            repeat refine And.intro rfl ?_
            refine And.intro (fun g1 => ?_) (fun g1 => ?_)
            · have hlt : i < r.verbs.length := lt_map g1
              rw [vrb_step hlt] at hr
              repeat refine And.intro rfl ?_
              refine And.intro (by kernel_rfl) ?_
              repeat refine And.intro rfl ?_
              repeat refine And.intro rfl ?_
              refine ix_at (e := eN) (xs := r.verbs) (hlt) rfl ?_
              repeat refine And.intro rfl ?_
              repeat refine And.intro rfl ?_
              refine Or.inl (Exists.intro _ (And.intro (s_l1In _ _ _) ?_))
              repeat refine And.intro rfl ?_
              refine And.intro (fun g2 => ?_) (fun g2 => ?_)
              · simp only [Bool.not_eq_true', Bool.not_eq_false'] at g2
                repeat refine And.intro rfl ?_
                refine And.intro (fun g3 => ?_) (fun g3 => ?_)
                · have h0' := gt0 g3
                  repeat refine And.intro rfl ?_
                  refine ix_atw (e := eN) (xs := r.verbs) ((show i - 1 < r.verbs.length by omega)) (wrap_pred h0' hlt hs) rfl ?_
                  repeat refine And.intro rfl ?_
                  repeat refine And.intro rfl ?_
                  refine ix_at (e := eN) (xs := r.verbs) (hlt) rfl ?_
                  repeat refine And.intro rfl ?_
                  repeat refine And.intro rfl ?_
                  refine And.intro (fun g4 => ?_) (fun g4 => ?_)
                  · refine bd ?_
                    rw [hr, prevI_less hlt h0', show decide (r.verbs[i - 1]'(by omega) ≥ r.verbs[i]) = true from g4, g2]; simp
                  · repeat refine And.intro rfl ?_
                    exact ⟨_, _, _, ⟨i + 1, rfl, hlt, by rw [hr, prevI_less hlt h0', show decide (r.verbs[i - 1]'(by omega) ≥ r.verbs[i]) = false from g4, g2]; rfl, rfl, rfl⟩, by omega, rfl, rfl, ⟨rfl, nd (wrap_succ hlt hs), trivial⟩, ⟨rfl, trivial⟩, ⟨rfl, trivial⟩⟩
                · repeat refine And.intro rfl ?_
                  refine And.intro (fun h => absurd h (by simp)) (fun _ => ?_)
                  have hz := le0 g3
                  repeat refine And.intro rfl ?_
                  exact ⟨_, _, _, ⟨i + 1, rfl, hlt, by rw [hr, show lessI (prevI r.verbs i) r.verbs[i] = true from by subst hz; rfl, g2]; rfl, rfl, rfl⟩, by omega, rfl, rfl, ⟨rfl, nd (wrap_succ hlt hs), trivial⟩, ⟨rfl, trivial⟩, ⟨rfl, trivial⟩⟩
              · simp only [Bool.not_eq_true', Bool.not_eq_false'] at g2
                repeat refine And.intro rfl ?_
                refine And.intro (fun _ => ?_) (fun h => absurd h (by simp))
                refine bd ?_
                rw [hr, g2]; simp
            · rw [vrb_end (ge_map g1)] at hr
              rw [hr, Bool.and_true]
              repeat refine And.intro rfl ?_
              refine ⟨fun m l h => ∃ (i : Nat) , m = r.prefix_.length - i ∧ i ≤ r.prefix_.length ∧ (r.prefix_.all nmByte = (r.prefix_.drop i).all nmByte) ∧ l = [(1, .ptr 0 0), (4, .d (.int .i64 i))] ∧ h = ⟨[(0, .cells 103 (r.e.map .d))], 1, 0⟩,
                ⟨_, _, _, ⟨0, rfl, Nat.zero_le _, rfl, rfl, rfl⟩, rfl, rfl, ⟨rfl, rfl, trivial⟩, ⟨rfl, trivial⟩, ⟨rfl, trivial⟩⟩, ?_⟩
              rintro m l hh ⟨i, rfl, hi, hr, rfl, rfl⟩
              repeat refine And.intro rfl ?_
              refine And.intro (fun g5 => ?_) (fun g5 => ?_)
              · have hlt : i < r.prefix_.length := lt_str g5
                rw [all_step hlt] at hr
                repeat refine And.intro rfl ?_
                refine ix_str (hlt) ?_
                repeat refine And.intro rfl ?_
                repeat refine And.intro rfl ?_
                refine Or.inl (Exists.intro _ (And.intro (s_l1Byte _) ?_))
                repeat refine And.intro rfl ?_
                refine And.intro (fun g6 => ?_) (fun g6 => ?_)
                · simp only [Bool.not_eq_true', Bool.not_eq_false'] at g6
                  refine bd ?_
                  rw [hr, g6]; rfl
                · simp only [Bool.not_eq_true', Bool.not_eq_false'] at g6
                  repeat refine And.intro rfl ?_
                  exact ⟨_, _, _, ⟨i + 1, rfl, hlt, by rw [hr, g6]; rfl, rfl, rfl⟩, by omega, rfl, rfl, ⟨rfl, nd (wrap_succ hlt hsp), trivial⟩, ⟨rfl, trivial⟩, ⟨rfl, trivial⟩⟩
              · refine bd ?_
                rw [hr, all_end (ge_str g5)]
        · simp only [Bool.not_eq_true', Bool.not_eq_false'] at h1'
          refine bd ?_
          simp only [ruleOk, h1, h1', Bool.or_false, Bool.false_and, Bool.and_false]
      · simp only [Bool.not_eq_true', Bool.not_eq_false'] at h1
        have hk : (r.kind == [] || nameOk r.kind) = true := by rw [h1]; rfl
        repeat refine And.intro rfl ?_
        refine And.intro (fun h2 => ?_) (fun h2 => ?_)
        · simp only [Bool.not_eq_true', Bool.not_eq_false'] at h2
          repeat refine And.intro rfl ?_
          refine Or.inl (Exists.intro _ (And.intro (s_l1NameOk _) ?_))
          repeat refine And.intro rfl ?_
          refine And.intro (fun h2' => ?_) (fun h2' => ?_)
          · simp only [Bool.not_eq_true', Bool.not_eq_false'] at h2'
            refine bd ?_
            simp only [ruleOk, h2, h2', Bool.or_false, Bool.false_and, Bool.and_false]
          · simp only [Bool.not_eq_true', Bool.not_eq_false'] at h2'
            have ht : (r.team == [] || nameOk r.team) = true := by rw [h2']; simp
            have e : ruleOk r = (r.prefix_.all nmByte && vrb none r.verbs) := by simp only [ruleOk, hv, hk, ht, hp, Bool.or_true, Bool.true_or, Bool.not_false, Bool.true_and]
            rw [e]
            repeat refine And.intro rfl ?_
            refine ⟨fun m l h => ∃ (i : Nat) , m = r.verbs.length - i ∧ i ≤ r.verbs.length ∧ (vrb none r.verbs = vrb (prevI r.verbs i) (r.verbs.drop i)) ∧ l = [(1, .ptr 0 0), (3, .d (.int .i64 i))] ∧ h = ⟨[(0, .cells 103 (r.e.map .d))], 1, 0⟩,
              ⟨_, _, _, ⟨0, rfl, Nat.zero_le _, rfl, rfl, rfl⟩, rfl, rfl, ⟨rfl, rfl, trivial⟩, ⟨rfl, trivial⟩, ⟨rfl, trivial⟩⟩, ?_⟩
            rintro m l hh ⟨i, rfl, hi, hr, rfl, rfl⟩
            repeat refine And.intro rfl ?_
            refine And.intro (fun g1 => ?_) (fun g1 => ?_)
            · have hlt : i < r.verbs.length := lt_map g1
              rw [vrb_step hlt] at hr
              repeat refine And.intro rfl ?_
              refine And.intro (by kernel_rfl) ?_
              repeat refine And.intro rfl ?_
              repeat refine And.intro rfl ?_
              refine ix_at (e := eN) (xs := r.verbs) (hlt) rfl ?_
              repeat refine And.intro rfl ?_
              repeat refine And.intro rfl ?_
              refine Or.inl (Exists.intro _ (And.intro (s_l1In _ _ _) ?_))
              repeat refine And.intro rfl ?_
              refine And.intro (fun g2 => ?_) (fun g2 => ?_)
              · simp only [Bool.not_eq_true', Bool.not_eq_false'] at g2
                repeat refine And.intro rfl ?_
                refine And.intro (fun g3 => ?_) (fun g3 => ?_)
                · have h0' := gt0 g3
                  repeat refine And.intro rfl ?_
                  refine ix_atw (e := eN) (xs := r.verbs) ((show i - 1 < r.verbs.length by omega)) (wrap_pred h0' hlt hs) rfl ?_
                  repeat refine And.intro rfl ?_
                  repeat refine And.intro rfl ?_
                  refine ix_at (e := eN) (xs := r.verbs) (hlt) rfl ?_
                  repeat refine And.intro rfl ?_
                  repeat refine And.intro rfl ?_
                  refine And.intro (fun g4 => ?_) (fun g4 => ?_)
                  · refine bd ?_
                    rw [hr, prevI_less hlt h0', show decide (r.verbs[i - 1]'(by omega) ≥ r.verbs[i]) = true from g4, g2]; simp
                  · repeat refine And.intro rfl ?_
                    exact ⟨_, _, _, ⟨i + 1, rfl, hlt, by rw [hr, prevI_less hlt h0', show decide (r.verbs[i - 1]'(by omega) ≥ r.verbs[i]) = false from g4, g2]; rfl, rfl, rfl⟩, by omega, rfl, rfl, ⟨rfl, nd (wrap_succ hlt hs), trivial⟩, ⟨rfl, trivial⟩, ⟨rfl, trivial⟩⟩
                · repeat refine And.intro rfl ?_
                  refine And.intro (fun h => absurd h (by simp)) (fun _ => ?_)
                  have hz := le0 g3
                  repeat refine And.intro rfl ?_
                  exact ⟨_, _, _, ⟨i + 1, rfl, hlt, by rw [hr, show lessI (prevI r.verbs i) r.verbs[i] = true from by subst hz; rfl, g2]; rfl, rfl, rfl⟩, by omega, rfl, rfl, ⟨rfl, nd (wrap_succ hlt hs), trivial⟩, ⟨rfl, trivial⟩, ⟨rfl, trivial⟩⟩
              · simp only [Bool.not_eq_true', Bool.not_eq_false'] at g2
                repeat refine And.intro rfl ?_
                refine And.intro (fun _ => ?_) (fun h => absurd h (by simp))
                refine bd ?_
                rw [hr, g2]; simp
            · rw [vrb_end (ge_map g1)] at hr
              rw [hr, Bool.and_true]
              repeat refine And.intro rfl ?_
              refine ⟨fun m l h => ∃ (i : Nat) , m = r.prefix_.length - i ∧ i ≤ r.prefix_.length ∧ (r.prefix_.all nmByte = (r.prefix_.drop i).all nmByte) ∧ l = [(1, .ptr 0 0), (4, .d (.int .i64 i))] ∧ h = ⟨[(0, .cells 103 (r.e.map .d))], 1, 0⟩,
                ⟨_, _, _, ⟨0, rfl, Nat.zero_le _, rfl, rfl, rfl⟩, rfl, rfl, ⟨rfl, rfl, trivial⟩, ⟨rfl, trivial⟩, ⟨rfl, trivial⟩⟩, ?_⟩
              rintro m l hh ⟨i, rfl, hi, hr, rfl, rfl⟩
              repeat refine And.intro rfl ?_
              refine And.intro (fun g5 => ?_) (fun g5 => ?_)
              · have hlt : i < r.prefix_.length := lt_str g5
                rw [all_step hlt] at hr
                repeat refine And.intro rfl ?_
                refine ix_str (hlt) ?_
                repeat refine And.intro rfl ?_
                repeat refine And.intro rfl ?_
                refine Or.inl (Exists.intro _ (And.intro (s_l1Byte _) ?_))
                repeat refine And.intro rfl ?_
                refine And.intro (fun g6 => ?_) (fun g6 => ?_)
                · simp only [Bool.not_eq_true', Bool.not_eq_false'] at g6
                  refine bd ?_
                  rw [hr, g6]; rfl
                · simp only [Bool.not_eq_true', Bool.not_eq_false'] at g6
                  repeat refine And.intro rfl ?_
                  exact ⟨_, _, _, ⟨i + 1, rfl, hlt, by rw [hr, g6]; rfl, rfl, rfl⟩, by omega, rfl, rfl, ⟨rfl, nd (wrap_succ hlt hsp), trivial⟩, ⟨rfl, trivial⟩, ⟨rfl, trivial⟩⟩
              · refine bd ?_
                rw [hr, all_end (ge_str g5)]
        · simp only [Bool.not_eq_true', Bool.not_eq_false'] at h2
          have ht : (r.team == [] || nameOk r.team) = true := by rw [h2]; rfl
          have e : ruleOk r = (r.prefix_.all nmByte && vrb none r.verbs) := by simp only [ruleOk, hv, hk, ht, hp, Bool.or_true, Bool.true_or, Bool.not_false, Bool.true_and]
          rw [e]
          repeat refine And.intro rfl ?_
          refine ⟨fun m l h => ∃ (i : Nat) , m = r.verbs.length - i ∧ i ≤ r.verbs.length ∧ (vrb none r.verbs = vrb (prevI r.verbs i) (r.verbs.drop i)) ∧ l = [(1, .ptr 0 0), (3, .d (.int .i64 i))] ∧ h = ⟨[(0, .cells 103 (r.e.map .d))], 1, 0⟩,
            ⟨_, _, _, ⟨0, rfl, Nat.zero_le _, rfl, rfl, rfl⟩, rfl, rfl, ⟨rfl, rfl, trivial⟩, ⟨rfl, trivial⟩, ⟨rfl, trivial⟩⟩, ?_⟩
          rintro m l hh ⟨i, rfl, hi, hr, rfl, rfl⟩
          repeat refine And.intro rfl ?_
          refine And.intro (fun g1 => ?_) (fun g1 => ?_)
          · have hlt : i < r.verbs.length := lt_map g1
            rw [vrb_step hlt] at hr
            repeat refine And.intro rfl ?_
            refine And.intro (by kernel_rfl) ?_
            repeat refine And.intro rfl ?_
            repeat refine And.intro rfl ?_
            refine ix_at (e := eN) (xs := r.verbs) (hlt) rfl ?_
            repeat refine And.intro rfl ?_
            repeat refine And.intro rfl ?_
            refine Or.inl (Exists.intro _ (And.intro (s_l1In _ _ _) ?_))
            repeat refine And.intro rfl ?_
            refine And.intro (fun g2 => ?_) (fun g2 => ?_)
            · simp only [Bool.not_eq_true', Bool.not_eq_false'] at g2
              repeat refine And.intro rfl ?_
              refine And.intro (fun g3 => ?_) (fun g3 => ?_)
              · have h0' := gt0 g3
                repeat refine And.intro rfl ?_
                refine ix_atw (e := eN) (xs := r.verbs) ((show i - 1 < r.verbs.length by omega)) (wrap_pred h0' hlt hs) rfl ?_
                repeat refine And.intro rfl ?_
                repeat refine And.intro rfl ?_
                refine ix_at (e := eN) (xs := r.verbs) (hlt) rfl ?_
                repeat refine And.intro rfl ?_
                repeat refine And.intro rfl ?_
                refine And.intro (fun g4 => ?_) (fun g4 => ?_)
                · refine bd ?_
                  rw [hr, prevI_less hlt h0', show decide (r.verbs[i - 1]'(by omega) ≥ r.verbs[i]) = true from g4, g2]; simp
                · repeat refine And.intro rfl ?_
                  exact ⟨_, _, _, ⟨i + 1, rfl, hlt, by rw [hr, prevI_less hlt h0', show decide (r.verbs[i - 1]'(by omega) ≥ r.verbs[i]) = false from g4, g2]; rfl, rfl, rfl⟩, by omega, rfl, rfl, ⟨rfl, nd (wrap_succ hlt hs), trivial⟩, ⟨rfl, trivial⟩, ⟨rfl, trivial⟩⟩
              · repeat refine And.intro rfl ?_
                refine And.intro (fun h => absurd h (by simp)) (fun _ => ?_)
                have hz := le0 g3
                repeat refine And.intro rfl ?_
                exact ⟨_, _, _, ⟨i + 1, rfl, hlt, by rw [hr, show lessI (prevI r.verbs i) r.verbs[i] = true from by subst hz; rfl, g2]; rfl, rfl, rfl⟩, by omega, rfl, rfl, ⟨rfl, nd (wrap_succ hlt hs), trivial⟩, ⟨rfl, trivial⟩, ⟨rfl, trivial⟩⟩
            · simp only [Bool.not_eq_true', Bool.not_eq_false'] at g2
              repeat refine And.intro rfl ?_
              refine And.intro (fun _ => ?_) (fun h => absurd h (by simp))
              refine bd ?_
              rw [hr, g2]; simp
          · rw [vrb_end (ge_map g1)] at hr
            rw [hr, Bool.and_true]
            repeat refine And.intro rfl ?_
            refine ⟨fun m l h => ∃ (i : Nat) , m = r.prefix_.length - i ∧ i ≤ r.prefix_.length ∧ (r.prefix_.all nmByte = (r.prefix_.drop i).all nmByte) ∧ l = [(1, .ptr 0 0), (4, .d (.int .i64 i))] ∧ h = ⟨[(0, .cells 103 (r.e.map .d))], 1, 0⟩,
              ⟨_, _, _, ⟨0, rfl, Nat.zero_le _, rfl, rfl, rfl⟩, rfl, rfl, ⟨rfl, rfl, trivial⟩, ⟨rfl, trivial⟩, ⟨rfl, trivial⟩⟩, ?_⟩
            rintro m l hh ⟨i, rfl, hi, hr, rfl, rfl⟩
            repeat refine And.intro rfl ?_
            refine And.intro (fun g5 => ?_) (fun g5 => ?_)
            · have hlt : i < r.prefix_.length := lt_str g5
              rw [all_step hlt] at hr
              repeat refine And.intro rfl ?_
              refine ix_str (hlt) ?_
              repeat refine And.intro rfl ?_
              repeat refine And.intro rfl ?_
              refine Or.inl (Exists.intro _ (And.intro (s_l1Byte _) ?_))
              repeat refine And.intro rfl ?_
              refine And.intro (fun g6 => ?_) (fun g6 => ?_)
              · simp only [Bool.not_eq_true', Bool.not_eq_false'] at g6
                refine bd ?_
                rw [hr, g6]; rfl
              · simp only [Bool.not_eq_true', Bool.not_eq_false'] at g6
                repeat refine And.intro rfl ?_
                exact ⟨_, _, _, ⟨i + 1, rfl, hlt, by rw [hr, g6]; rfl, rfl, rfl⟩, by omega, rfl, rfl, ⟨rfl, nd (wrap_succ hlt hsp), trivial⟩, ⟨rfl, trivial⟩, ⟨rfl, trivial⟩⟩
            · refine bd ?_
              rw [hr, all_end (ge_str g5)]
    · refine bd ?_
      simp only [ruleOk, show decide ((r.prefix_.length : Int) > 16) = true from h3, Bool.not_true, Bool.false_and, Bool.and_false]
  · refine bd ?_
    rw [List.length_map] at h0
    simp only [ruleOk, h0, Bool.not_true, Bool.false_and]
end Go.Vc
end

section
namespace Go.Vc
open Go.Proofs
set_option maxRecDepth 100000
set_option pp.maxSteps 400
set_option pp.deepTerms false
set_option linter.unusedSimpArgs false
set_option linter.unusedVariables false
theorem ok_book {b : GateBook} (h : okAs [st b.e]) : b.objects.length ≤ big ∧ b.grants.length ≤ big ∧ b.ledgers.length ≤ big ∧ b.purses.length ≤ big := by
  have := h.1
  simp only [st, AV.ok, GateBook.e, List.map, okAs] at this
  exact ⟨len_map this.2.2.2.1.1, len_map this.2.2.2.2.1.1, len_map this.2.2.2.2.2.1.1, len_map this.2.2.2.2.2.2.1.1⟩
theorem ok_obj {o : GateObject} (h : okAs [st o.e]) : o.values.length ≤ big ∧ o.holds.length ≤ big := by
  have := h.1
  simp only [st, AV.ok, GateObject.e, List.map, okAs] at this
  exact ⟨len_map this.2.2.2.1.1, len_map this.2.2.2.2.2.1.1⟩
theorem okAs_head {a : AV} {l : List AV} (h : okAs (a :: l)) : okAs [a] := ⟨h.1, trivial⟩
theorem s_l5At (b : GateBook) (k s : Bs) : Spec P 112 [st b.e, .d (.str k), .d (.str s)] (.d (.int .i64 (idx (fun x => x.kind == k && x.name == s) b.objects))) := by
  refine Spec.of_vc vcT vcM [.tmp 6] Tryz.func112 rfl rfl rfl rfl (fun hok => ?_)
  have hs : b.objects.length ≤ big := (ok_book (okAs_head hok)).1
  repeat refine And.intro rfl ?_
  refine ⟨fun m l h => ∃ (i : Nat) , m = b.objects.length - i ∧ i ≤ b.objects.length ∧ (idx (fun x => x.kind == k && x.name == s) b.objects = idxBy (fun x => x.kind == k && x.name == s) (b.objects.drop i) i) ∧ l = [(1, .d (.str k)), (2, .d (.str s)), (3, .ptr 0 0), (7, .d (.int .i64 i))] ∧ h = ⟨[(0, .cells 50 (b.e.map .d))], 1, 0⟩,
    ⟨_, _, _, ⟨0, rfl, Nat.zero_le _, rfl, rfl, rfl⟩, rfl, rfl, ⟨rfl, rfl, rfl, rfl, trivial⟩, ⟨rfl, trivial⟩, ⟨rfl, trivial⟩⟩, ?_⟩
  rintro m l hh ⟨i, rfl, hi, hr, rfl, rfl⟩
  repeat refine And.intro rfl ?_
  refine And.intro (fun h1 => ?_) (fun h1 => ?_)
  · have hlt : i < b.objects.length := lt_map h1
    rw [idxBy_step hlt] at hr
    repeat refine And.intro rfl ?_
    refine ix_at (e := GateObject.e) (xs := b.objects) (hlt) rfl ?_
    repeat refine And.intro rfl ?_
    repeat refine And.intro rfl ?_
    refine And.intro (fun h2 => ?_) (fun h2 => ?_)
    · repeat refine And.intro rfl ?_
      refine ix_at (e := GateObject.e) (xs := b.objects) (hlt) rfl ?_
      repeat refine And.intro rfl ?_
      repeat refine And.intro rfl ?_
      refine And.intro (fun h3 => ?_) (fun h3 => ?_)
      · refine nd ?_
        rw [hr, h2, h3]; rfl
      · repeat refine And.intro rfl ?_
        exact ⟨_, _, _, ⟨i + 1, rfl, hlt, by rw [hr, h2, h3]; rfl, rfl, rfl⟩, by omega, rfl, rfl, ⟨rfl, rfl, rfl, nd (wrap_succ hlt hs), trivial⟩, ⟨rfl, trivial⟩, ⟨rfl, trivial⟩⟩
    · repeat refine And.intro rfl ?_
      exact ⟨_, _, _, ⟨i + 1, rfl, hlt, by rw [hr, h2]; rfl, rfl, rfl⟩, by omega, rfl, rfl, ⟨rfl, rfl, rfl, nd (wrap_succ hlt hs), trivial⟩, ⟨rfl, trivial⟩, ⟨rfl, trivial⟩⟩
  · refine nd ?_
    rw [hr, idxBy_end (ge_map h1)]
theorem s_l5Ledger (b : GateBook) (k s : Bs) : Spec P 114 [st b.e, .d (.str k), .d (.str s)] (.d (.int .i64 (idx (fun x => x.team == k && x.resource == s) b.ledgers))) := by
  refine Spec.of_vc vcT vcM [.tmp 6] Tryz.func114 rfl rfl rfl rfl (fun hok => ?_)
  have hs : b.ledgers.length ≤ big := (ok_book (okAs_head hok)).2.2.1
  repeat refine And.intro rfl ?_
  refine ⟨fun m l h => ∃ (i : Nat) , m = b.ledgers.length - i ∧ i ≤ b.ledgers.length ∧ (idx (fun x => x.team == k && x.resource == s) b.ledgers = idxBy (fun x => x.team == k && x.resource == s) (b.ledgers.drop i) i) ∧ l = [(1, .d (.str k)), (2, .d (.str s)), (3, .ptr 0 0), (7, .d (.int .i64 i))] ∧ h = ⟨[(0, .cells 50 (b.e.map .d))], 1, 0⟩,
    ⟨_, _, _, ⟨0, rfl, Nat.zero_le _, rfl, rfl, rfl⟩, rfl, rfl, ⟨rfl, rfl, rfl, rfl, trivial⟩, ⟨rfl, trivial⟩, ⟨rfl, trivial⟩⟩, ?_⟩
  rintro m l hh ⟨i, rfl, hi, hr, rfl, rfl⟩
  repeat refine And.intro rfl ?_
  refine And.intro (fun h1 => ?_) (fun h1 => ?_)
  · have hlt : i < b.ledgers.length := lt_map h1
    rw [idxBy_step hlt] at hr
    repeat refine And.intro rfl ?_
    refine ix_at (e := GateLedger.e) (xs := b.ledgers) (hlt) rfl ?_
    repeat refine And.intro rfl ?_
    repeat refine And.intro rfl ?_
    refine And.intro (fun h2 => ?_) (fun h2 => ?_)
    · repeat refine And.intro rfl ?_
      refine ix_at (e := GateLedger.e) (xs := b.ledgers) (hlt) rfl ?_
      repeat refine And.intro rfl ?_
      repeat refine And.intro rfl ?_
      refine And.intro (fun h3 => ?_) (fun h3 => ?_)
      · refine nd ?_
        rw [hr, h2, h3]; rfl
      · repeat refine And.intro rfl ?_
        exact ⟨_, _, _, ⟨i + 1, rfl, hlt, by rw [hr, h2, h3]; rfl, rfl, rfl⟩, by omega, rfl, rfl, ⟨rfl, rfl, rfl, nd (wrap_succ hlt hs), trivial⟩, ⟨rfl, trivial⟩, ⟨rfl, trivial⟩⟩
    · repeat refine And.intro rfl ?_
      exact ⟨_, _, _, ⟨i + 1, rfl, hlt, by rw [hr, h2]; rfl, rfl, rfl⟩, by omega, rfl, rfl, ⟨rfl, rfl, rfl, nd (wrap_succ hlt hs), trivial⟩, ⟨rfl, trivial⟩, ⟨rfl, trivial⟩⟩
  · refine nd ?_
    rw [hr, idxBy_end (ge_map h1)]
theorem i_find (b : GateBook) (k s : Bs) : Spec P 128 [st b.e, .d (.str k), .d (.str s)] (.d (.int .i64 (idx (fun x => x.kind == k && x.name == s) b.objects))) := by
  refine Spec.of_vc vcT vcM [.tmp 6] Tryz.func128 rfl rfl rfl rfl (fun hok => ?_)
  have hs : b.objects.length ≤ big := (ok_book (okAs_head hok)).1
  repeat refine And.intro rfl ?_
  refine ⟨fun m l h => ∃ (i : Nat) , m = b.objects.length - i ∧ i ≤ b.objects.length ∧ (idx (fun x => x.kind == k && x.name == s) b.objects = idxBy (fun x => x.kind == k && x.name == s) (b.objects.drop i) i) ∧ l = [(1, .d (.str k)), (2, .d (.str s)), (3, .ptr 0 0), (10, .d (lGateObject b.objects)), (11, .d (.int .i64 (b.objects.map GateObject.e).length)), (12, .d (.int .i64 i))] ∧ h = ⟨[(0, .cells 50 (b.e.map .d))], 1, 0⟩,
    ⟨_, _, _, ⟨0, rfl, Nat.zero_le _, rfl, rfl, rfl⟩, rfl, rfl, ⟨rfl, rfl, rfl, rfl, rfl, rfl, trivial⟩, ⟨rfl, trivial⟩, ⟨rfl, trivial⟩⟩, ?_⟩
  rintro m l hh ⟨i, rfl, hi, hr, rfl, rfl⟩
  repeat refine And.intro rfl ?_
  refine And.intro (fun h1 => ?_) (fun h1 => ?_)
  · have hlt : i < b.objects.length := lt_map h1
    rw [idxBy_step hlt] at hr
    repeat refine And.intro rfl ?_
    refine ix_at (e := GateObject.e) (xs := b.objects) (hlt) rfl ?_
    repeat refine And.intro rfl ?_
    repeat refine And.intro rfl ?_
    refine And.intro (fun h2 => ?_) (fun h2 => ?_)
    · repeat refine And.intro rfl ?_
      refine And.intro (fun h3 => ?_) (fun h3 => ?_)
      · refine nd ?_
        rw [hr, h2, h3]; rfl
      · repeat refine And.intro rfl ?_
        exact ⟨_, _, _, ⟨i + 1, rfl, hlt, by rw [hr, h2, h3]; rfl, rfl, rfl⟩, by omega, rfl, rfl, ⟨rfl, rfl, rfl, rfl, rfl, nd (wrap_succ hlt hs), trivial⟩, ⟨rfl, trivial⟩, ⟨rfl, trivial⟩⟩
    · repeat refine And.intro rfl ?_
      exact ⟨_, _, _, ⟨i + 1, rfl, hlt, by rw [hr, h2]; rfl, rfl, rfl⟩, by omega, rfl, rfl, ⟨rfl, rfl, rfl, rfl, rfl, nd (wrap_succ hlt hs), trivial⟩, ⟨rfl, trivial⟩, ⟨rfl, trivial⟩⟩
  · refine nd ?_
    rw [hr, idxBy_end (ge_map h1)]
theorem i_ledger (b : GateBook) (k s : Bs) : Spec P 132 [st b.e, .d (.str k), .d (.str s)] (.d (.int .i64 (idx (fun x => x.team == k && x.resource == s) b.ledgers))) := by
  refine Spec.of_vc vcT vcM [.tmp 6] Tryz.func132 rfl rfl rfl rfl (fun hok => ?_)
  have hs : b.ledgers.length ≤ big := (ok_book (okAs_head hok)).2.2.1
  repeat refine And.intro rfl ?_
  refine ⟨fun m l h => ∃ (i : Nat) , m = b.ledgers.length - i ∧ i ≤ b.ledgers.length ∧ (idx (fun x => x.team == k && x.resource == s) b.ledgers = idxBy (fun x => x.team == k && x.resource == s) (b.ledgers.drop i) i) ∧ l = [(1, .d (.str k)), (2, .d (.str s)), (3, .ptr 0 0), (10, .d (lGateLedger b.ledgers)), (11, .d (.int .i64 (b.ledgers.map GateLedger.e).length)), (12, .d (.int .i64 i))] ∧ h = ⟨[(0, .cells 50 (b.e.map .d))], 1, 0⟩,
    ⟨_, _, _, ⟨0, rfl, Nat.zero_le _, rfl, rfl, rfl⟩, rfl, rfl, ⟨rfl, rfl, rfl, rfl, rfl, rfl, trivial⟩, ⟨rfl, trivial⟩, ⟨rfl, trivial⟩⟩, ?_⟩
  rintro m l hh ⟨i, rfl, hi, hr, rfl, rfl⟩
  repeat refine And.intro rfl ?_
  refine And.intro (fun h1 => ?_) (fun h1 => ?_)
  · have hlt : i < b.ledgers.length := lt_map h1
    rw [idxBy_step hlt] at hr
    repeat refine And.intro rfl ?_
    refine ix_at (e := GateLedger.e) (xs := b.ledgers) (hlt) rfl ?_
    repeat refine And.intro rfl ?_
    repeat refine And.intro rfl ?_
    refine And.intro (fun h2 => ?_) (fun h2 => ?_)
    · repeat refine And.intro rfl ?_
      refine And.intro (fun h3 => ?_) (fun h3 => ?_)
      · refine nd ?_
        rw [hr, h2, h3]; rfl
      · repeat refine And.intro rfl ?_
        exact ⟨_, _, _, ⟨i + 1, rfl, hlt, by rw [hr, h2, h3]; rfl, rfl, rfl⟩, by omega, rfl, rfl, ⟨rfl, rfl, rfl, rfl, rfl, nd (wrap_succ hlt hs), trivial⟩, ⟨rfl, trivial⟩, ⟨rfl, trivial⟩⟩
    · repeat refine And.intro rfl ?_
      exact ⟨_, _, _, ⟨i + 1, rfl, hlt, by rw [hr, h2]; rfl, rfl, rfl⟩, by omega, rfl, rfl, ⟨rfl, rfl, rfl, rfl, rfl, nd (wrap_succ hlt hs), trivial⟩, ⟨rfl, trivial⟩, ⟨rfl, trivial⟩⟩
  · refine nd ?_
    rw [hr, idxBy_end (ge_map h1)]
/-! ### how keys stand to each other -/
def keyF (a b : Bs) : Int := bif Op.bytesLess a b then -1 else bif !(Op.bytesLess a b || a == b) then 1 else 0
def twoF (a b c d : Bs) : Int := bif !(keyF a c == 0) then keyF a c else keyF b d
def ltTwo (a b c d : Bs) : Bool := Op.bytesLess a c || (a == c && Op.bytesLess b d)
def purseLt (a b : GatePurse) : Bool := bif !(a.door == b.door) then Op.bytesLess a.door b.door else bif !(a.team == b.team) then Op.bytesLess a.team b.team else Op.bytesLess a.resource b.resource
def purseF (a b : GatePurse) : Int := bif !(a.door == b.door) then keyF a.door b.door else twoF a.team a.resource b.team b.resource
theorem keyF_ge (a b : Bs) : decide (keyF a b ≥ 0) = !Op.bytesLess a b := by
  unfold keyF
  cases h : Op.bytesLess a b <;> cases e : (a == b) <;> simp
theorem twoF_ge (a b c d : Bs) : decide (twoF a b c d ≥ 0) = !ltTwo a b c d := by
  unfold twoF ltTwo
  cases e : (a == c) with
  | true =>
    have : a = c := beq_iff_eq.1 e
    subst this
    have : keyF a a = 0 := by unfold keyF; rw [bl_irr]; simp
    rw [this, bl_irr]
    simp [keyF_ge]
  | false =>
    have h0 : (keyF a c == 0) = false := by
      unfold keyF
      rw [e]
      cases h : Op.bytesLess a c <;> simp
    rw [h0]
    simp [keyF_ge]
theorem purseF_ge (a b : GatePurse) : decide (purseF a b ≥ 0) = !purseLt a b := by
  unfold purseF purseLt
  cases e : (a.door == b.door) with
  | false => simp [keyF_ge]
  | true =>
    simp only [Bool.not_true, cond_false, twoF_ge, ltTwo]
    cases e2 : (a.team == b.team) with
    | false => simp
    | true => rw [beq_iff_eq.1 e2, bl_irr]; simp
theorem s_l5Key (a b : Bs) : Spec P 153 [.d (.str a), .d (.str b)] (.d (.int .i64 (keyF a b))) := by
  refine Spec.of_vc vcT vcM [.tmp 4] Tryz.func153 rfl rfl rfl rfl (fun hok => ?_)
  repeat' first
    | refine And.intro rfl ?_
    | refine And.intro (fun h => ?_) (fun h => ?_)
  all_goals (refine nd ?_; simp_all [keyF, Bool.cond_eq_ite])
theorem s_l5Two (a b c d : Bs) : Spec P 108 [.d (.str a), .d (.str b), .d (.str c), .d (.str d)] (.d (.int .i64 (twoF a b c d))) := by
  refine Spec.of_vc vcT vcM [.tmp 8] Tryz.func108 rfl rfl rfl rfl (fun hok => ?_)
  repeat' first
    | refine And.intro rfl ?_
    | refine And.intro (fun h => ?_) (fun h => ?_)
    | refine Or.inl (Exists.intro _ (And.intro (s_l5Key _ _) ?_))
  all_goals (refine nd ?_; simp_all [twoF, Bool.cond_eq_ite])
theorem s_l5PurseKey (a b : GatePurse) : Spec P 115 [st a.e, st b.e] (.d (.int .i64 (purseF a b))) := by
  refine Spec.of_vc vcT vcM [.tmp 4] Tryz.func115 rfl rfl rfl rfl (fun hok => ?_)
  repeat' first
    | refine And.intro rfl ?_
    | refine And.intro (fun h => ?_) (fun h => ?_)
    | refine Or.inl (Exists.intro _ (And.intro (s_l5Key _ _) ?_))
    | refine Or.inl (Exists.intro _ (And.intro (s_l5Two _ _ _ _) ?_))
  all_goals (refine nd ?_; simp_all [purseF, Bool.cond_eq_ite])
theorem i_purseBefore (a b : GatePurse) : Spec P 131 [st a.e, st b.e] (.d (.bool (purseLt a b))) := by
  refine Spec.of_vc vcT vcM [.tmp 4] Tryz.func131 rfl rfl rfl rfl (fun hok => ?_)
  repeat' first
    | refine And.intro rfl ?_
    | refine And.intro (fun h => ?_) (fun h => ?_)
  all_goals (refine bd ?_; simp_all [purseLt, Bool.cond_eq_ite])
/-! ### the fields of an object -/
def fieldsF (xs : List GateShape) (k : Bs) (n : Nat) : List GateField × Bool := match xs[(idx (·.kind == k) xs).toNat]? with
  | some s => bif decide (idx (·.kind == k) xs ≥ 0) && s.fields.length == n then (s.fields, true) else ([], false)
  | none => ([], false)
section
variable {xs : List GateShape} {k : Bs} {n : Nat}
theorem fieldsF_none (h : decide (idx (·.kind == k) xs < 0) = true) : fieldsF xs k n = ([], false) := by
  have h' : decide (idx (·.kind == k) xs ≥ 0) = false := decide_eq_false (by have := of_decide_eq_true h; omega)
  unfold fieldsF
  split <;> simp only [h', Bool.false_and, cond_false]
theorem fieldsF_at {j : Nat} (hj : j < xs.length) (e : idx (·.kind == k) xs = (j : Int)) : fieldsF xs k n = bif xs[j].fields.length == n then (xs[j].fields, true) else ([], false) := by
  unfold fieldsF
  rw [e, Int.toNat_natCast, List.getElem?_eq_getElem hj]
  have : decide ((j : Int) ≥ 0) = true := decide_eq_true (by omega)
  simp only [this, Bool.true_and]
theorem fieldsF_spec : ((fieldsF xs k n).2 = false ∧ (fieldsF xs k n).1 = []) ∨ ∃ j : Nat, ∃ h : j < xs.length, idx (·.kind == k) xs = (j : Int) ∧ fieldsF xs k n = (xs[j].fields, true) ∧ xs[j].fields.length = n ∧ xs[j].kind = k := by
  cases h : decide (idx (·.kind == k) xs ≥ 0) with
  | false => rw [fieldsF_none (by have := of_decide_eq_false h; exact decide_eq_true (by omega))]; exact .inl ⟨rfl, rfl⟩
  | true =>
    obtain ⟨j, hj, e, hp, _⟩ := idx_pos h
    rw [fieldsF_at hj e]
    cases hl : xs[j].fields.length == n with
    | false => exact .inl ⟨rfl, rfl⟩
    | true => exact .inr ⟨j, hj, e, rfl, beq_iff_eq.1 hl, beq_iff_eq.1 hp⟩
theorem int_beq (a b : Nat) : ((a : Int) == (b : Int)) = (a == b) := by
  cases h : a == b with
  | true => rw [beq_iff_eq.1 h]; simp
  | false =>
    have := beq_eq_false_iff_ne.1 h
    exact beq_eq_false_iff_ne.2 (by omega)
end
def objA (o : GateObject) (v h : AV) : AV := .agg [.d (.str o.kind), .d (.str o.name), .d (.str o.team), v, .d (.bool o.ending), h, .d (.int .i64 o.version)]
theorem i_fieldsOf (xs : List GateShape) (o : GateObject)   : Spec P 171 [.d (lGateShape xs), objA o (.d (lS o.values)) (.d (lS o.holds))] (.tup [.d (lGateField (fieldsF xs o.kind o.values.length).1), .d (.bool (fieldsF xs o.kind o.values.length).2)]) := by
  refine Spec.of_vc vcT vcM [.tmp 4, .tmp 5] Tryz.func171 rfl rfl rfl rfl (fun hok => ?_)
  repeat refine And.intro rfl ?_
  refine Or.inl (Exists.intro _ (And.intro (i_shapeOf _ _) ?_))
  repeat refine And.intro rfl ?_
  refine And.intro (by kernel_rfl) ?_
  repeat refine And.intro rfl ?_
  repeat refine And.intro rfl ?_
  refine And.intro (fun h => ?_) (fun h => ?_)
  · obtain ⟨j, hj, e, _⟩ := idx_pos (p := fun s : GateShape => s.kind == o.kind) (xs := xs) (decide_eq_true (by have := of_decide_eq_false h; omega))
    repeat refine And.intro rfl ?_
    refine ix_atw (e := GateShape.e) (xs := xs) (hj) (e) rfl ?_
    repeat refine And.intro rfl ?_
    repeat refine And.intro rfl ?_
    refine And.intro (fun h2 => ?_) (fun h2 => ?_)
    · rw [fieldsF_at hj e]
      simp only [cond_false, bne, Bool.not_eq_true', List.length_map, int_beq] at h2
      have h2 : (xs[j].fields.length == o.values.length) = false := by first | exact h2 | (rw [← h2]; exact BEq.comm)
      rw [h2]
      rfl
    · repeat refine And.intro rfl ?_
      refine ix_atw (e := GateShape.e) (xs := xs) (hj) (e) rfl ?_
      repeat refine And.intro rfl ?_
      rw [fieldsF_at hj e]
      simp only [cond_false, bne, Bool.not_eq_false', List.length_map, int_beq] at h2
      have h2 : (xs[j].fields.length == o.values.length) = true := by first | exact h2 | (rw [← h2]; exact BEq.comm)
      rw [h2]
      rfl
  · repeat refine And.intro rfl ?_
    refine And.intro (fun _ => ?_) (fun h => absurd h (by simp))
    rw [fieldsF_none h]
    rfl
theorem i_fieldsOfL (xs : List GateShape) (o : GateObject) (g : Nat → Option Addr × Nat) (i : Nat) : Spec P 171 [.d (lGateShape xs), objA o (.val (.slice (g i).1 (o.values.map eB).length (g i).2)) (.d (lS o.holds))] (.tup [.d (lGateField (fieldsF xs o.kind o.values.length).1), .d (.bool (fieldsF xs o.kind o.values.length).2)]) := by
  refine Spec.of_vc vcT vcM [.tmp 4, .tmp 5] Tryz.func171 rfl rfl rfl rfl (fun hok => ?_)
  repeat refine And.intro rfl ?_
  refine Or.inl (Exists.intro _ (And.intro (i_shapeOf _ _) ?_))
  repeat refine And.intro rfl ?_
  refine And.intro (by kernel_rfl) ?_
  repeat refine And.intro rfl ?_
  repeat refine And.intro rfl ?_
  refine And.intro (fun h => ?_) (fun h => ?_)
  · obtain ⟨j, hj, e, _⟩ := idx_pos (p := fun s : GateShape => s.kind == o.kind) (xs := xs) (decide_eq_true (by have := of_decide_eq_false h; omega))
    repeat refine And.intro rfl ?_
    refine ix_atw (e := GateShape.e) (xs := xs) (hj) (e) rfl ?_
    repeat refine And.intro rfl ?_
    repeat refine And.intro rfl ?_
    refine And.intro (fun h2 => ?_) (fun h2 => ?_)
    · rw [fieldsF_at hj e]
      simp only [cond_false, bne, Bool.not_eq_true', List.length_map, int_beq] at h2
      have h2 : (xs[j].fields.length == o.values.length) = false := by first | exact h2 | (rw [← h2]; exact BEq.comm)
      rw [h2]
      rfl
    · repeat refine And.intro rfl ?_
      refine ix_atw (e := GateShape.e) (xs := xs) (hj) (e) rfl ?_
      repeat refine And.intro rfl ?_
      rw [fieldsF_at hj e]
      simp only [cond_false, bne, Bool.not_eq_false', List.length_map, int_beq] at h2
      have h2 : (xs[j].fields.length == o.values.length) = true := by first | exact h2 | (rw [← h2]; exact BEq.comm)
      rw [h2]
      rfl
  · repeat refine And.intro rfl ?_
    refine And.intro (fun _ => ?_) (fun h => absurd h (by simp))
    rw [fieldsF_none h]
    rfl
theorem s_l2Fields (xs : List GateShape) (o : GateObject)   : Spec P 111 [.d (lGateShape xs), objA o (.d (lS o.values)) (.d (lS o.holds))] (.tup [.d (lGateField (fieldsF xs o.kind o.values.length).1), .d (.bool (fieldsF xs o.kind o.values.length).2)]) := by
  refine Spec.of_vc vcT vcM [.tmp 4, .tmp 5] Tryz.func111 rfl rfl rfl rfl (fun hok => ?_)
  repeat refine And.intro rfl ?_
  refine Or.inl (Exists.intro _ (And.intro (s_l1Shape _ _) ?_))
  repeat refine And.intro rfl ?_
  refine And.intro (by kernel_rfl) ?_
  repeat refine And.intro rfl ?_
  repeat refine And.intro rfl ?_
  refine And.intro (fun h => ?_) (fun h => ?_)
  · obtain ⟨j, hj, e, _⟩ := idx_pos (p := fun s : GateShape => s.kind == o.kind) (xs := xs) (decide_eq_true (by have := of_decide_eq_false h; omega))
    repeat refine And.intro rfl ?_
    refine ix_atw (e := GateShape.e) (xs := xs) (hj) (e) rfl ?_
    repeat refine And.intro rfl ?_
    repeat refine And.intro rfl ?_
    refine And.intro (fun h2 => ?_) (fun h2 => ?_)
    · rw [fieldsF_at hj e]
      simp only [cond_false, bne, Bool.not_eq_true', List.length_map, int_beq] at h2
      have h2 : (xs[j].fields.length == o.values.length) = false := by first | exact h2 | (rw [← h2]; exact BEq.comm)
      rw [h2]
      rfl
    · repeat refine And.intro rfl ?_
      refine ix_atw (e := GateShape.e) (xs := xs) (hj) (e) rfl ?_
      repeat refine And.intro rfl ?_
      rw [fieldsF_at hj e]
      simp only [cond_false, bne, Bool.not_eq_false', List.length_map, int_beq] at h2
      have h2 : (xs[j].fields.length == o.values.length) = true := by first | exact h2 | (rw [← h2]; exact BEq.comm)
      rw [h2]
      rfl
  · repeat refine And.intro rfl ?_
    refine And.intro (fun _ => ?_) (fun h => absurd h (by simp))
    rw [fieldsF_none h]
    rfl
end Go.Vc
end

section
namespace Go.Vc
open Go.Proofs
set_option maxRecDepth 100000
set_option pp.maxSteps 400
set_option pp.deepTerms false
set_option linter.unusedSimpArgs false
set_option linter.unusedVariables false
theorem upd_ne (ν : Nat → Value) {i j : Nat} (v : Value) (h : j ≠ i) : upd ν i v j = ν j := by simp [upd, h]
theorem alloc_keep (w : World) (o : Obj) {x : Nat} (hx : x < w.heap.size) : (w.alloc o).heap[x]? = w.heap[x]? := by
  show (w.heap.push o)[x]? = w.heap[x]?
  rw [Array.getElem?_push, if_neg (Nat.ne_of_lt hx)]
theorem lg0 : (⟨0, (.iface 326 (.agg #[.pointer (some ⟨1, 238, none⟩)]))⟩ : Nat × Value) ∈ LG := by simp [LG]
theorem i_as (c p : Int) : HSpec P 202 [.iface 273 (.at_ [.int .i64 c, .int .i64 p]), .iface 277 (.ptr 0 0)] ⟨[(0, .cells 273 [.val (.pointer none)])], 1, 0⟩ (.d (.bool true))
    ⟨[(0, .cells 273 [.at_ [.int .i64 c, .int .i64 p]])], 1, 0⟩ := by
  refine ⟨⟨_, Tryz.func202, rfl, rfl⟩, fun N0 w ν vs hp hargs => ?_⟩
  obtain ⟨v1, r1, rfl, h1, h2⟩ := hargs.cons_inv
  obtain ⟨v2, r2, rfl, h3, h4⟩ := h2.cons_inv
  cases h4
  obtain ⟨u1, rfl, g1⟩ := rv_iface h1
  obtain ⟨u2, rfl, g2⟩ := rv_iface h3
  obtain ⟨b, rfl, hν⟩ := rv_ptr g2
  obtain ⟨B, arr, e, q1, q2, q3⟩ := hp.objs 0 _ rfl
  rw [hν] at q1
  obtain rfl : b = B := by injection q1 with h1; injection h1 with h1; injection h1
  obtain ⟨w1, q4, q5, q6, q7⟩ := q3.cons_inv
  cases q7
  have hw1 := rv_val q6
  subst hw1
  have harr : arr = #[.pointer none] := by apply Array.ext'; exact q5
  subst harr
  cases g1 with
  | @at_ _ _ _ A cells k0 k1 k2 _ =>
  have hb : b < w.heap.size := hp.bnd 0 b (by rw [hν]; rfl)
  have hlw := hp.lw _ lg0
  have hcell : w.cell? ⟨b, 0, none⟩ = some (.pointer none) := by simp [World.cell?, q2]
  have hfr : w.frozen? ⟨b, 0, none⟩ = false := by simp [World.frozen?, q2]
  refine (as_hit A ⟨b, 0, none⟩ (.pointer none) w hlw.2 hcell hfr).mono ?_
  rintro ev w' ⟨rfl, rfl⟩
  generalize hW : (((w.alloc _).alloc _).alloc _).alloc _ = W
  have hWsz : W.heap.size = w.heap.size + 4 := by subst hW; simp [size_alloc]
  have hWb : ∀ x, x < w.heap.size → W.heap[x]? = w.heap[x]? := fun x hx => by
    subst hW
    rw [alloc_keep _ _ (by simp only [size_alloc]; omega), alloc_keep _ _ (by simp only [size_alloc]; omega), alloc_keep _ _ (by simp only [size_alloc]; omega), alloc_keep _ _ hx]
  have hWo : W.os = w.os ∧ W.tape = w.tape ∧ W.output = w.output := by subst hW; exact ⟨rfl, rfl, rfl⟩
  have hset : W.setCell ⟨b, 0, none⟩ (.pointer (some A)) = W.setRow b #[.pointer (some A)] := by
    rw [setCell_eq_setRow W b 0 #[.pointer none] e (0, 0) _ (by rw [hWb b hb]; exact q2)]
    rfl
  rw [hset]
  have hk : Kp (fun x => x = b) w (W.setRow b #[.pointer (some A)]) := ⟨hWo.1, hWo.2.1, hWo.2.2, by simp [World.setRow, hWsz], fun x hx hne => by rw [setRow_other W b x _ hne]; exact hWb x hx⟩
  have m : Mv w (nN N0 ν) (W.setRow b #[.pointer (some A)]) (nN N0 ν) := ⟨hk.size, fun x hx hN => ⟨hN, hk.blk x hx (fun e => hN (.inr ⟨0, by rw [hν, e]; rfl⟩))⟩⟩
  have hν0 : ∀ i, i ≠ 0 → ν i = undef := fun i hi => hp.dom i (by show 1 ≤ i; omega)
  refine ⟨_, ν, rfl, ⟨?_, hp.inj, fun i x g => Nat.lt_of_lt_of_le (hp.bnd i x g) hk.size, hp.dom, fun x g => Nat.lt_of_lt_of_le (hp.n0 x g) hk.size, hp.dis, hp.lw.mv (fun x g hlt => hk.blk x hlt (fun e => hp.dis 0 b (by rw [hν]; rfl) (e ▸ g)))⟩, .d (.bool true .nil) .nil, ⟨hk.os, hk.tape, hk.output, hk.size, fun x hx hn => hk.blk x hx (fun e => hn ⟨0, by rw [hν, e]; rfl⟩)⟩, fun _ _ _ => rfl, fun i x g => .inl ⟨i, g⟩, rfl, Nat.le_refl _⟩
  intro id o hl
  simp only [look] at hl
  cases hz : Nat.beq id 0 with
  | true =>
    rw [hz] at hl
    simp only [cond_true, Option.some.injEq] at hl
    subst hl
    have := Nat.eq_of_beq_eq_true hz
    subst this
    refine ⟨b, _, e, hν, setRow_heap W b _ _ e _ (by rw [hWb b hb]; exact q2), ?_⟩
    exact .at_ A cells k0 (k1.mv m) (k2.mv m) .nil
  | false => rw [hz] at hl; cases hl
theorem i_told (c p : Int) : Spec P 166 [.iface 273 (.at_ [.int .i64 c, .int .i64 p])] (.tup [.d (.int .i64 c), .d (.int .i64 p)]) := by
  refine Spec.of_vc vcT vcM [.tmp 2, .tmp 3] Tryz.func166 rfl rfl rfl rfl (fun hok => ?_)
  repeat refine And.intro rfl ?_
  refine Or.inr (Or.inl (Exists.intro _ (Exists.intro _ (And.intro (i_as c p) ?_))))
  repeat refine And.intro rfl ?_
  refine And.intro (fun _ => ?_) (fun h => absurd h (by simp))
  repeat refine And.intro rfl ?_
  refine And.intro (by kernel_rfl) ?_
  repeat refine And.intro rfl ?_
  rfl
end Go.Vc
end

section
namespace Go.Vc
open Go.Proofs
set_option maxRecDepth 100000
set_option pp.maxSteps 400
set_option pp.deepTerms false
set_option linter.unusedSimpArgs false
set_option linter.unusedVariables false
def formF (xs : List GateShape) (o : GateObject) : Bool := (fieldsF xs o.kind o.values.length).2 && (nameOk o.name && (nameOk o.team && (!decide ((o.holds.length : Int) > 3) && (asc o.holds && inR o.version 0 1000000))))
def chkL : List GateField → List Bs → Nat → Int × Int
  | f :: fs, v :: vs, i => bif v == [] then (bif f.must then (2, (i : Int)) else chkL fs vs (i + 1)) else bif fitsF f v then chkL fs vs (i + 1) else (3, (i : Int))
  | _, _, _ => (0, 0)
def l2F (xs : List GateShape) (o : GateObject) : Int × Int := bif formF xs o then chkL (fieldsF xs o.kind o.values.length).1 o.values 0 else (1, 0)
def checkF (xs : List GateShape) (o : GateObject) : Int × Int := bif shapesOk xs then l2F xs o else (1, 0)
def pairA (p : Int × Int) : AV := .tup [.d (.int .i64 p.1), .d (.int .i64 p.2)]
theorem pd {a b : Int} {p : Int × Int} (h : p = (a, b)) : AV.tup [.d (.int .i64 a), .d (.int .i64 b)] = pairA p := by rw [h]; rfl
theorem chkL_step {fs : List GateField} {vs : List Bs} {i : Nat} (h : i < fs.length) (h2 : i < vs.length) : chkL (fs.drop i) (vs.drop i) i =
    bif vs[i] == [] then (bif fs[i].must then (2, (i : Int)) else chkL (fs.drop (i + 1)) (vs.drop (i + 1)) (i + 1)) else bif fitsF fs[i] vs[i] then chkL (fs.drop (i + 1)) (vs.drop (i + 1)) (i + 1) else (3, (i : Int)) := by
  rw [List.drop_eq_getElem_cons h, List.drop_eq_getElem_cons h2]; rfl
theorem chkL_end {fs : List GateField} {vs : List Bs} {i : Nat} (h : fs.length ≤ i) : chkL (fs.drop i) (vs.drop i) i = (0, 0) := by
  rw [List.drop_of_length_le h]; rfl
theorem fieldsF_len {xs : List GateShape} {k : Bs} {n : Nat} : (fieldsF xs k n).1.length ≤ n ∧ ((fieldsF xs k n).2 = true → (fieldsF xs k n).1.length = n) := by
  rcases fieldsF_spec (xs := xs) (k := k) (n := n) with ⟨h1, h2⟩ | ⟨j, hj, _, h, hl, _⟩
  · rw [h1, h2]; exact ⟨Nat.zero_le _, fun h => by cases h⟩
  · rw [h]; exact ⟨by simp only; omega, fun _ => hl⟩
theorem st_obj (o : GateObject) : st o.e = objA o (.d (lS o.values)) (.d (lS o.holds)) := rfl
set_option maxHeartbeats 2000000 in
theorem s_l2Check (xs : List GateShape) (o : GateObject) : Spec P 106 [.d (lGateShape xs), st o.e] (pairA (l2F xs o)) := by
  refine Spec.of_vc vcT vcM [.tmp 4, .tmp 5] Tryz.func106 rfl rfl rfl rfl (fun hok => ?_)
  have hb := ok_obj (o := o) ⟨hok.2.1, trivial⟩
  repeat refine And.intro rfl ?_
  refine Or.inl (Exists.intro _ (And.intro (s_l2Fields _ _) ?_))
  obtain ⟨hl, hl2⟩ := fieldsF_len (xs := xs) (k := o.kind) (n := o.values.length)
  repeat' first
    | refine And.intro rfl ?_
    | refine And.intro (fun h => ?_) (fun h => ?_)
    | refine Or.inl (Exists.intro _ (And.intro (s_l1NameOk _) ?_))
    | refine Or.inl (Exists.intro _ (And.intro (s_l1Ascending _) ?_))
    | refine Or.inl (Exists.intro _ (And.intro (s_l1In _ _ _) ?_))
  all_goals first
    | (refine pd ?_; (try simp only [Bool.not_eq_true', Bool.not_eq_false', List.length_map] at *); simp only [l2F, formF, *, Bool.true_and, Bool.and_true, Bool.false_and, Bool.and_false, Bool.not_true, Bool.not_false, cond_true, cond_false]; done)
    | skip
  rename_i h1 h2 h3 h4 h5
  simp only [Bool.not_eq_false', List.length_map] at h1 h2 h3 h4 h5 h
  have hf : formF xs o = true := by simp only [formF, *, Bool.true_and, Bool.and_true, Bool.not_false]
  have e : l2F xs o = chkL (fieldsF xs o.kind o.values.length).1 o.values 0 := by rw [l2F, hf]; rfl
  rw [e]
  have hlen := hl2 (by assumption)
  generalize (fieldsF xs o.kind o.values.length).1 = fs at *
  repeat refine And.intro rfl ?_
  refine ⟨fun m l h => ∃ (i : Nat) , m = fs.length - i ∧ i ≤ fs.length ∧ (chkL fs o.values 0 = chkL (fs.drop i) (o.values.drop i) i) ∧ l = [(3, .ptr 0 0), (6, .d (lGateField fs)), (8, .d (.int .i64 i))] ∧ h = ⟨[(0, .cells 145 (o.e.map .d))], 1, 0⟩,
    ⟨_, _, _, ⟨0, rfl, Nat.zero_le _, rfl, rfl, rfl⟩, rfl, rfl, ⟨rfl, rfl, rfl, trivial⟩, ⟨rfl, trivial⟩, ⟨rfl, trivial⟩⟩, ?_⟩
  rintro m l hh ⟨i, rfl, hi, hr, rfl, rfl⟩
  have hs : fs.length ≤ big := by omega
  repeat refine And.intro rfl ?_
  refine And.intro (fun g1 => ?_) (fun g1 => ?_)
  · have hlt : i < fs.length := lt_map g1
    have hlt2 : i < o.values.length := by omega
    rw [chkL_step hlt hlt2] at hr
    repeat refine And.intro rfl ?_
    refine ix_at (e := eB) (xs := o.values) (hlt2) rfl ?_
    repeat refine And.intro rfl ?_
    repeat refine And.intro rfl ?_
    refine And.intro (fun g2 => ?_) (fun g2 => ?_)
    · repeat refine And.intro rfl ?_
      refine ix_at (e := GateField.e) (xs := fs) (hlt) rfl ?_
      repeat refine And.intro rfl ?_
      repeat refine And.intro rfl ?_
      refine And.intro (fun g3 => ?_) (fun g3 => ?_)
      · refine pd ?_
        rw [hr, g2, g3]; rfl
      · repeat refine And.intro rfl ?_
        exact ⟨_, _, _, ⟨i + 1, rfl, hlt, by rw [hr, g2, g3]; rfl, rfl, rfl⟩, by omega, rfl, rfl, ⟨rfl, rfl, nd (wrap_succ hlt hs), trivial⟩, ⟨rfl, trivial⟩, ⟨rfl, trivial⟩⟩
    · repeat refine And.intro rfl ?_
      refine And.intro (by kernel_rfl) ?_
      repeat refine And.intro rfl ?_
      repeat refine And.intro rfl ?_
      refine ix_at (e := GateField.e) (xs := fs) (hlt) rfl ?_
      repeat refine And.intro rfl ?_
      repeat refine And.intro rfl ?_
      refine ix_at (e := eB) (xs := o.values) (hlt2) rfl ?_
      repeat refine And.intro rfl ?_
      repeat refine And.intro rfl ?_
      refine Or.inl (Exists.intro _ (And.intro (s_GateFits _ _) ?_))
      repeat refine And.intro rfl ?_
      refine And.intro (fun g3 => ?_) (fun g3 => ?_)
      · simp only [Bool.not_eq_true', Bool.not_eq_false'] at g3
        refine pd ?_
        rw [hr, g2, g3]; rfl
      · simp only [Bool.not_eq_true', Bool.not_eq_false'] at g3
        repeat refine And.intro rfl ?_
        exact ⟨_, _, _, ⟨i + 1, rfl, hlt, by rw [hr, g2, g3]; rfl, rfl, rfl⟩, by omega, rfl, rfl, ⟨rfl, rfl, nd (wrap_succ hlt hs), trivial⟩, ⟨rfl, trivial⟩, ⟨rfl, trivial⟩⟩
  · refine pd ?_
    rw [hr, chkL_end (ge_map g1)]
end Go.Vc
end

section
namespace Go.Vc
open Go.Proofs
set_option maxRecDepth 100000
set_option pp.maxSteps 400
set_option pp.deepTerms false
set_option linter.unusedSimpArgs false
set_option linter.unusedVariables false
def errA (p : Int × Int) : AV := bif p.1 == 0 then .val .nilIface else .iface 273 (.at_ [.int .i64 p.1, .int .i64 p.2])
theorem err1 {b : Bool} (h : b = false) : AV.iface 273 (.at_ [.int .i64 1, .int .i64 0]) = errA (bif b then (0, 0) else (1, 0)) := by rw [h]; rfl
theorem err0 {b : Bool} (h : b = true) : AV.val .nilIface = errA (bif b then (0, 0) else (1, 0)) := by rw [h]; rfl
theorem err2 {p : Int × Int} {a b : Int} (h : p = (a, b)) (ha : (a == 0) = false) : AV.iface 273 (.at_ [.int .i64 a, .int .i64 b]) = errA p := by rw [h, errA, ha]; rfl
theorem inR_nn {x : Int} : inR x 0 1000000 = (!decide (x < 0) && !decide (x > 1000000)) := by
  unfold inR
  by_cases h1 : x < 0 <;> by_cases h2 : x > 1000000 <;> simp [h1, h2] <;> omega
theorem i_checkForm (xs : List GateShape) (o : GateObject) : Spec P 164 [.d (lGateShape xs), st o.e] (errA (bif formF xs o && shapesOk xs then (0, 0) else (1, 0))) := by
  refine Spec.of_vc vcT vcM [.tmp 4] Tryz.func164 rfl rfl rfl rfl (fun hok => ?_)
  repeat refine And.intro rfl ?_
  refine Or.inl (Exists.intro _ (And.intro (i_fieldsOf _ _) ?_))
  repeat' first
    | refine And.intro rfl ?_
    | refine And.intro (fun h => ?_) (fun h => ?_)
    | refine Or.inl (Exists.intro _ (And.intro (i_GateShapesOk _) ?_))
    | refine Or.inl (Exists.intro _ (And.intro (i_isName _) ?_))
    | refine Or.inl (Exists.intro _ (And.intro (i_ascendingNames _) ?_))
  all_goals first
    | (refine err1 ?_; (try simp only [Bool.not_eq_true', Bool.not_eq_false', List.length_map] at *); simp only [formF, inR_nn, *, Bool.true_and, Bool.and_true, Bool.false_and, Bool.and_false, Bool.not_true, Bool.not_false, cond_true, cond_false]; done)
    | (refine err0 ?_; (try simp only [Bool.not_eq_true', Bool.not_eq_false', List.length_map] at *); simp only [formF, inR_nn, *, Bool.true_and, Bool.and_true, Bool.false_and, Bool.and_false, Bool.not_true, Bool.not_false, cond_true, cond_false]; done)
theorem i_checkFields (xs : List GateShape) (o : GateObject) : Spec P 165 [.d (lGateShape xs), st o.e] (errA (chkL (fieldsF xs o.kind o.values.length).1 o.values 0)) := by
  refine Spec.of_vc vcT vcM [.tmp 4] Tryz.func165 rfl rfl rfl rfl (fun hok => ?_)
  have hb := ok_obj (o := o) ⟨hok.2.1, trivial⟩
  repeat refine And.intro rfl ?_
  refine Or.inl (Exists.intro _ (And.intro (i_fieldsOf _ _) ?_))
  obtain ⟨hl, _⟩ := fieldsF_len (xs := xs) (k := o.kind) (n := o.values.length)
  generalize (fieldsF xs o.kind o.values.length).1 = fs at *
  repeat refine And.intro rfl ?_
  refine ⟨fun m l h => ∃ (i : Nat) , m = fs.length - i ∧ i ≤ fs.length ∧ (chkL fs o.values 0 = chkL (fs.drop i) (o.values.drop i) i) ∧ l = [(3, .ptr 0 0), (15, .d (lGateField fs)), (16, .d (.int .i64 (fs.map GateField.e).length)), (17, .d (.int .i64 i))] ∧ h = ⟨[(0, .cells 145 (o.e.map .d))], 1, 0⟩,
    ⟨_, _, _, ⟨0, rfl, Nat.zero_le _, rfl, rfl, rfl⟩, rfl, rfl, ⟨rfl, rfl, rfl, rfl, trivial⟩, ⟨rfl, trivial⟩, ⟨rfl, trivial⟩⟩, ?_⟩
  rintro m l hh ⟨i, rfl, hi, hr, rfl, rfl⟩
  have hs : fs.length ≤ big := by omega
  repeat refine And.intro rfl ?_
  refine And.intro (fun g1 => ?_) (fun g1 => ?_)
  · have hlt : i < fs.length := lt_map g1
    have hlt2 : i < o.values.length := by omega
    rw [chkL_step hlt hlt2] at hr
    repeat refine And.intro rfl ?_
    refine ix_at (e := GateField.e) (xs := fs) (hlt) rfl ?_
    repeat refine And.intro rfl ?_
    repeat refine And.intro rfl ?_
    refine And.intro (fun g2 => ?_) (fun g2 => ?_)
    · repeat refine And.intro rfl ?_
      refine ix_at (e := eB) (xs := o.values) (hlt2) rfl ?_
      repeat refine And.intro rfl ?_
      repeat refine And.intro rfl ?_
      refine And.intro (fun g3 => ?_) (fun g3 => ?_)
      · refine err2 ?_ rfl
        simp only [hr, *, cond_true, cond_false]
      · repeat refine And.intro rfl ?_
        refine And.intro (by kernel_rfl) ?_
        repeat refine And.intro rfl ?_
        repeat refine And.intro rfl ?_
        refine ix_at (e := eB) (xs := o.values) (hlt2) rfl ?_
        repeat refine And.intro rfl ?_
        repeat refine And.intro rfl ?_
        refine And.intro (fun g4 => ?_) (fun g4 => ?_)
        · repeat refine And.intro rfl ?_
          refine ix_at (e := eB) (xs := o.values) (hlt2) rfl ?_
          repeat refine And.intro rfl ?_
          repeat refine And.intro rfl ?_
          refine Or.inl (Exists.intro _ (And.intro (i_GateFits _ _) ?_))
          repeat refine And.intro rfl ?_
          refine And.intro (fun g5 => ?_) (fun g5 => ?_)
          · simp only [bne, cond_true, cond_false, Bool.not_eq_true', Bool.not_eq_false'] at *
            refine err2 ?_ rfl
            first | (simp only [hr, *, cond_true, cond_false]; done) | (simp_all; done)
          · simp only [bne, cond_true, cond_false, Bool.not_eq_true', Bool.not_eq_false'] at *
            have hq : chkL fs o.values 0 = chkL (fs.drop (i + 1)) (o.values.drop (i + 1)) (i + 1) := by first | (simp only [hr, *, cond_true, cond_false]; done) | (simp_all; done)
            repeat refine And.intro rfl ?_
            exact ⟨_, _, _, ⟨i + 1, rfl, hlt, hq, rfl, rfl⟩, by omega, rfl, rfl, ⟨rfl, rfl, rfl, nd (wrap_succ hlt hs), trivial⟩, ⟨rfl, trivial⟩, ⟨rfl, trivial⟩⟩
        · repeat refine And.intro rfl ?_
          refine And.intro (fun h => absurd h (by simp)) (fun _ => ?_)
          simp only [bne, cond_true, cond_false, Bool.not_eq_true', Bool.not_eq_false'] at *
          have hq : chkL fs o.values 0 = chkL (fs.drop (i + 1)) (o.values.drop (i + 1)) (i + 1) := by first | (simp only [hr, *, cond_true, cond_false]; done) | (simp_all; done)
          repeat refine And.intro rfl ?_
          exact ⟨_, _, _, ⟨i + 1, rfl, hlt, hq, rfl, rfl⟩, by omega, rfl, rfl, ⟨rfl, rfl, rfl, nd (wrap_succ hlt hs), trivial⟩, ⟨rfl, trivial⟩, ⟨rfl, trivial⟩⟩
    · repeat refine And.intro rfl ?_
      refine And.intro (by kernel_rfl) ?_
      repeat refine And.intro rfl ?_
      repeat refine And.intro rfl ?_
      refine ix_at (e := eB) (xs := o.values) (hlt2) rfl ?_
      repeat refine And.intro rfl ?_
      repeat refine And.intro rfl ?_
      refine And.intro (fun g4 => ?_) (fun g4 => ?_)
      · repeat refine And.intro rfl ?_
        refine ix_at (e := eB) (xs := o.values) (hlt2) rfl ?_
        repeat refine And.intro rfl ?_
        repeat refine And.intro rfl ?_
        refine Or.inl (Exists.intro _ (And.intro (i_GateFits _ _) ?_))
        repeat refine And.intro rfl ?_
        refine And.intro (fun g5 => ?_) (fun g5 => ?_)
        · simp only [bne, cond_true, cond_false, Bool.not_eq_true', Bool.not_eq_false'] at *
          refine err2 ?_ rfl
          first | (simp only [hr, *, cond_true, cond_false]; done) | (simp_all; done)
        · simp only [bne, cond_true, cond_false, Bool.not_eq_true', Bool.not_eq_false'] at *
          have hq : chkL fs o.values 0 = chkL (fs.drop (i + 1)) (o.values.drop (i + 1)) (i + 1) := by first | (simp only [hr, *, cond_true, cond_false]; done) | (simp_all; done)
          repeat refine And.intro rfl ?_
          exact ⟨_, _, _, ⟨i + 1, rfl, hlt, hq, rfl, rfl⟩, by omega, rfl, rfl, ⟨rfl, rfl, rfl, nd (wrap_succ hlt hs), trivial⟩, ⟨rfl, trivial⟩, ⟨rfl, trivial⟩⟩
      · repeat refine And.intro rfl ?_
        refine And.intro (fun h => absurd h (by simp)) (fun _ => ?_)
        simp only [bne, cond_true, cond_false, Bool.not_eq_true', Bool.not_eq_false'] at *
        have hq : chkL fs o.values 0 = chkL (fs.drop (i + 1)) (o.values.drop (i + 1)) (i + 1) := by first | (simp only [hr, *, cond_true, cond_false]; done) | (simp_all; done)
        repeat refine And.intro rfl ?_
        exact ⟨_, _, _, ⟨i + 1, rfl, hlt, hq, rfl, rfl⟩, by omega, rfl, rfl, ⟨rfl, rfl, rfl, nd (wrap_succ hlt hs), trivial⟩, ⟨rfl, trivial⟩, ⟨rfl, trivial⟩⟩
  · have e : chkL fs o.values 0 = (0, 0) := by rw [hr, chkL_end (ge_map g1)]
    rw [e]
    rfl
theorem chkL_zero {fs : List GateField} {vs : List Bs} : ∀ {i : Nat}, ((chkL fs vs i).1 == 0) = true → chkL fs vs i = (0, 0) := by
  induction fs generalizing vs with
  | nil => intro i _; rfl
  | cons f fs ih =>
    intro i h
    cases vs with
    | nil => rfl
    | cons v vs =>
      simp only [chkL] at h ⊢
      cases h1 : v == [] <;> cases h2 : f.must <;> cases h3 : fitsF f v <;> simp only [h1, h2, h3, cond_true, cond_false] at h ⊢ <;> first | exact ih h | (simp at h; done)
theorem i_GateCheck (xs : List GateShape) (o : GateObject) : Spec P 123 [.d (lGateShape xs), st o.e] (pairA (checkF xs o)) := by
  refine Spec.of_vc vcT vcM [.tmp 4, .tmp 5] Tryz.func123 rfl rfl rfl rfl (fun hok => ?_)
  have hform := i_checkForm xs o
  have hfields := i_checkFields xs o
  have hpair : checkF xs o = bif formF xs o && shapesOk xs then chkL (fieldsF xs o.kind o.values.length).1 o.values 0 else (1, 0) := by
    unfold checkF l2F
    cases shapesOk xs <;> cases formF xs o <;> rfl
  rw [hpair]
  generalize (formF xs o && shapesOk xs) = b at *
  repeat refine And.intro rfl ?_
  refine ⟨fun m l h => ∃ i : Nat, m = 2 - i ∧ i ≤ 2 ∧ (i = 0 ∨ b = true) ∧ (i = 2 → ((chkL (fieldsF xs o.kind o.values.length).1 o.values 0).1 == 0) = true) ∧ l = [(0, .d (lGateShape xs)), (3, .ptr 0 0), (9, .d (.list [[.fn 164], [.fn 165]])), (10, .d (.int .i64 2)), (11, .d (.int .i64 i))] ∧ h = ⟨[(0, .cells 145 (o.e.map .d))], 1, 0⟩,
    ⟨_, _, _, ⟨0, rfl, Nat.zero_le _, .inl rfl, fun h => (by cases h), rfl, rfl⟩, rfl, rfl, ⟨rfl, rfl, rfl, rfl, rfl, trivial⟩, ⟨rfl, trivial⟩, ⟨rfl, trivial⟩⟩, ?_⟩
  rintro m l hh ⟨i, rfl, hi, hb, hz, rfl, rfl⟩
  rcases (show i = 0 ∨ i = 1 ∨ i = 2 by omega) with rfl | rfl | rfl
  · repeat refine And.intro rfl ?_
    refine And.intro (fun _ => ?_) (fun h => absurd h (by simp))
    repeat refine And.intro rfl ?_
    refine ⟨by decide, _, rfl, rfl, ?_⟩
    cases b with
    | false =>
      replace hform : Spec P 164 [.d (lGateShape xs), st o.e] (.iface 273 (.at_ [.int .i64 1, .int .i64 0])) := hform
      repeat refine And.intro rfl ?_
      refine Or.inl (Exists.intro _ (And.intro (hform) ?_))
      repeat refine And.intro rfl ?_
      refine And.intro (fun _ => ?_) (fun h => absurd h (by simp))
      repeat refine And.intro rfl ?_
      refine Or.inl (Exists.intro _ (And.intro (i_told _ _) ?_))
      rfl
    | true =>
      replace hform : Spec P 164 [.d (lGateShape xs), st o.e] (.val .nilIface) := hform
      repeat refine And.intro rfl ?_
      refine Or.inl (Exists.intro _ (And.intro (hform) ?_))
      repeat refine And.intro rfl ?_
      refine And.intro (fun h => absurd h (by simp)) (fun _ => ?_)
      repeat refine And.intro rfl ?_
      exact ⟨_, _, _, ⟨1, rfl, by decide, .inr rfl, fun h => (by cases h), rfl, rfl⟩, by decide, rfl, rfl, ⟨rfl, rfl, rfl, rfl, rfl, trivial⟩, ⟨rfl, trivial⟩, ⟨rfl, trivial⟩⟩
  · have hb' : b = true := by rcases hb with h | h; cases h; exact h
    subst hb'
    repeat refine And.intro rfl ?_
    refine And.intro (fun _ => ?_) (fun h => absurd h (by simp))
    repeat refine And.intro rfl ?_
    refine ⟨by decide, _, rfl, rfl, ?_⟩
    unfold errA at hfields
    cases hq : ((chkL (fieldsF xs o.kind o.values.length).1 o.values 0).1 == 0) with
    | false =>
      rw [hq] at hfields
      simp only [cond_true, cond_false] at hfields
      repeat refine And.intro rfl ?_
      refine Or.inl (Exists.intro _ (And.intro (hfields) ?_))
      repeat refine And.intro rfl ?_
      refine And.intro (fun _ => ?_) (fun h => absurd h (by simp))
      repeat refine And.intro rfl ?_
      refine Or.inl (Exists.intro _ (And.intro (i_told _ _) ?_))
      rfl
    | true =>
      rw [hq] at hfields
      simp only [cond_true, cond_false] at hfields
      repeat refine And.intro rfl ?_
      refine Or.inl (Exists.intro _ (And.intro (hfields) ?_))
      repeat refine And.intro rfl ?_
      refine And.intro (fun h => absurd h (by simp)) (fun _ => ?_)
      repeat refine And.intro rfl ?_
      exact ⟨_, _, _, ⟨2, rfl, by decide, .inr rfl, fun _ => rfl, rfl, rfl⟩, by decide, rfl, rfl, ⟨rfl, rfl, rfl, rfl, rfl, trivial⟩, ⟨rfl, trivial⟩, ⟨rfl, trivial⟩⟩
  · have hb' : b = true := by rcases hb with h | h; cases h; exact h
    subst hb'
    repeat refine And.intro rfl ?_
    refine And.intro (fun h => absurd h (by simp)) (fun _ => ?_)
    rw [cond_true, chkL_zero (hz rfl)]
    rfl
end Go.Vc
end

section
namespace Go.Vc
open Go.Proofs
set_option maxRecDepth 100000
set_option pp.maxSteps 400
set_option pp.deepTerms false
set_option linter.unusedSimpArgs false
set_option linter.unusedVariables false
theorem rep_len (n : Nat) (z : List D) : (List.replicate n z).length = n := List.length_replicate
theorem map_one (xs : List Bs) : ∀ r ∈ xs.map eB, r.length = 1 := fun r hr => by
  obtain ⟨x, _, rfl⟩ := List.mem_map.1 hr
  rfl
theorem i_copyTextsO (xs : List Bs) (h0 : 0 < xs.length) (hs : xs.length ≤ big) : HSpec P 203 [.d (lS xs)] hp0 (.own 0) ⟨[(0, .row 9 1 (xs.map eB))], 1, 0⟩ := by
  refine HSpec.of_vcO vcT vcM [.tmp 2] Tryz.func203 rfl rfl rfl rfl rfl (fun hok => ?_)
  repeat refine And.intro rfl ?_
  refine And.intro (fun h1 => ?_) (fun h1 => ?_)
  · rw [List.length_map] at h1
    exfalso
    have := beq_iff_eq.1 h1
    omega
  · repeat refine And.intro rfl ?_
    refine ⟨Int.natCast_nonneg _, Int.le_refl _, mk_ok hs, ?_⟩
    repeat refine And.intro rfl ?_
    refine ⟨?_, ?_, map_one xs, ?_⟩
    · simp
    · simpa using h0
    repeat refine And.intro rfl ?_
    all_goals (repeat' first | exact rfl | exact trivial | refine And.intro ?_ ?_)
theorem i_copyTexts (xs : List Bs) : Spec P 203 [.d (lS xs)] (.d (lS xs)) := by
  refine Spec.of_vc vcT vcM [.tmp 2] Tryz.func203 rfl rfl rfl rfl (fun hok => ?_)
  have hs : xs.length ≤ big := len_map hok.1.1
  repeat refine And.intro rfl ?_
  refine And.intro (fun h1 => ?_) (fun h1 => ?_)
  · rw [List.length_map] at h1
    have := beq_iff_eq.1 h1
    have : xs = [] := List.eq_nil_of_length_eq_zero (by omega)
    subst this
    rfl
  · rw [List.length_map] at h1
    have h1 := beq_eq_false_iff_ne.1 h1
    repeat refine And.intro rfl ?_
    refine ⟨Int.natCast_nonneg _, Int.le_refl _, mk_ok hs, ?_⟩
    repeat refine And.intro rfl ?_
    refine ⟨?_, ?_, map_one xs, ?_⟩
    · simp
    · rw [List.length_map]; omega
    repeat refine And.intro rfl ?_
    rfl
theorem i_twin (o : GateObject) : Spec P 167 [st o.e] (st o.e) := by
  refine Spec.of_vc vcT vcM [.cell 2 145] Tryz.func167 rfl rfl rfl rfl (fun hok => ?_)
  repeat refine And.intro rfl ?_
  refine Or.inl (Exists.intro _ (And.intro (i_copyTexts _) ?_))
  repeat refine And.intro rfl ?_
  refine Or.inl (Exists.intro _ (And.intro (i_copyTexts _) ?_))
  repeat refine And.intro rfl ?_
  exact rfl
theorem i_twinO (o : GateObject) (h0 : 0 < o.values.length) : HSpec P 167 [st o.e] hp0 (objA o (.own 2) (.d (lS o.holds))) ⟨[(2, .row 9 1 (o.values.map eB))], 3, 0⟩ := by
  refine HSpec.of_vcO vcT vcM [.cell 2 145] Tryz.func167 rfl rfl rfl rfl rfl (fun hok => ?_)
  have hb := ok_obj (o := o) hok
  repeat refine And.intro rfl ?_
  refine Or.inr (Or.inr (Or.inr (Or.inr (Or.inr (Exists.intro _ (Exists.intro _ (And.intro rfl (And.intro (i_copyTextsO o.values h0 hb.1) ?_))))))))
  repeat refine And.intro rfl ?_
  refine Or.inl (Exists.intro _ (And.intro (i_copyTexts _) ?_))
  repeat refine And.intro rfl ?_
  all_goals (repeat' first | exact rfl | exact trivial | refine And.intro ?_ ?_)
theorem s_l2CopyO (o : GateObject) (hv : o.values.length ≤ big) (hh : o.holds.length ≤ big) : HSpec P 193 [st o.e] hp0 (objA o (.own 2) (.own 3)) ⟨[(3, .row 9 1 (o.holds.map eB)), (2, .row 9 1 (o.values.map eB))], 4, 0⟩ := by
  refine HSpec.of_vcO vcT vcM [.cell 2 145] Tryz.func193 rfl rfl rfl rfl rfl (fun hok => ?_)
  repeat refine And.intro rfl ?_
  refine And.intro (map_one _) ?_
  repeat refine And.intro rfl ?_
  refine And.intro (by simpa using hv) ?_
  repeat refine And.intro rfl ?_
  refine And.intro (map_one _) ?_
  repeat refine And.intro rfl ?_
  refine And.intro (by simpa using hh) ?_
  repeat refine And.intro rfl ?_
  all_goals (repeat' first | exact rfl | exact trivial | refine And.intro ?_ ?_)
end Go.Vc
end

section
namespace Go.Vc
open Go.Proofs
set_option maxRecDepth 100000
set_option pp.maxSteps 400
set_option pp.deepTerms false
set_option linter.unusedSimpArgs false
set_option linter.unusedVariables false
def fillV (f : GateField) (v : Bs) : Bs := bif v == [] then f.default_ else v
def fillF : List GateField → List Bs → List Bs
  | f :: fs, v :: vs => fillV f v :: fillF fs vs
  | _, vs => vs
theorem fillF_nil (vs : List Bs) : fillF [] vs = vs := rfl
theorem fillF_len : ∀ (fs : List GateField) (vs : List Bs), (fillF fs vs).length = vs.length
  | [], vs => rfl
  | f :: fs, [] => rfl
  | f :: fs, v :: vs => by simp [fillF, fillF_len fs vs]
theorem fill_get : ∀ {fs : List GateField} {vs : List Bs} {i : Nat}, i < fs.length → (fillF (fs.take i) vs)[i]? = vs[i]?
  | [], _, _, h => by simp at h
  | f :: fs, [], i, h => by cases i <;> simp [fillF]
  | f :: fs, v :: vs, 0, h => rfl
  | f :: fs, v :: vs, i + 1, h => by simpa [fillF] using fill_get (fs := fs) (vs := vs) (i := i) (by simpa using h)
theorem fill_set : ∀ {fs : List GateField} {vs : List Bs} {i : Nat} (h : i < fs.length) (h2 : i < vs.length), fillF (fs.take (i + 1)) vs = (fillF (fs.take i) vs).set i (fillV fs[i] vs[i])
  | [], _, _, h, _ => by simp at h
  | f :: fs, [], i, h, h2 => by simp at h2
  | f :: fs, v :: vs, 0, h, h2 => by simp [fillF]
  | f :: fs, v :: vs, i + 1, h, h2 => by simpa [fillF] using fill_set (fs := fs) (vs := vs) (i := i) (by simpa using h) (by simpa using h2)
theorem fill_at {fs : List GateField} {vs : List Bs} {i : Nat} (h : i < fs.length) (h2 : i < vs.length) (h3 : i < (fillF (fs.take i) vs).length) : (fillF (fs.take i) vs)[i] = vs[i] := by
  have := fill_get (vs := vs) h
  rw [List.getElem?_eq_getElem h3, List.getElem?_eq_getElem h2] at this
  exact Option.some.inj this
theorem set_self {α : Type} {l : List α} {i : Nat} (h : i < l.length) {x : α} (e : l[i] = x) : l.set i x = l := by
  subst e; simp
theorem rowset {t n : Nat} {W : List Bs} {i : Nat} {v : Bs} (h : i < W.length) : some (AO.row t n ((W.map eB).set i (overD (eB W[i]) 0 (eB v)))) = some (AO.row t n ((W.set i v).map eB)) := by
  congr 2
  simp only [List.map_set]
  rfl
def filled (xs : List GateShape) (o : GateObject) : GateObject := { o with values := fillF (fieldsF xs o.kind o.values.length).1 o.values }
theorem s_l2Fill (xs : List GateShape) (o : GateObject) : Spec P 155 [.d (lGateShape xs), st o.e] (st (filled xs o).e) := by
  refine Spec.of_vc vcT vcM [.cell 4 145] Tryz.func155 rfl rfl rfl rfl (fun hok => ?_)
  have hb := ok_obj (o := o) ⟨hok.2.1, trivial⟩
  repeat refine And.intro rfl ?_
  refine Or.inr (Or.inr (Or.inr (Or.inr (Or.inr (Exists.intro _ (Exists.intro _ (And.intro rfl (And.intro (s_l2CopyO o hb.1 hb.2) ?_))))))))
  repeat refine And.intro rfl ?_
  refine Or.inl (Exists.intro _ (And.intro (s_l2Fields _ _) ?_))
  obtain ⟨hl, hl2⟩ := fieldsF_len (xs := xs) (k := o.kind) (n := o.values.length)
  have hfs : (fieldsF xs o.kind o.values.length).2 = false → (fieldsF xs o.kind o.values.length).1 = [] := by
    rcases fieldsF_spec (xs := xs) (k := o.kind) (n := o.values.length) with ⟨h1, h2⟩ | ⟨j, hj, _, h, _⟩
    · exact fun _ => h2
    · rw [h]; exact fun h => by cases h
  repeat refine And.intro rfl ?_
  refine And.intro (fun h0 => ?_) (fun h0 => ?_)
  · simp only [Bool.not_eq_true'] at h0
    have e : filled xs o = o := by unfold filled; rw [hfs h0]; rfl
    rw [e]
    repeat refine And.intro rfl ?_
    exact rfl
  · simp only [Bool.not_eq_false'] at h0
    have hl := hl2 h0
    unfold filled
    generalize (fieldsF xs o.kind o.values.length).1 = fs at *
    repeat refine And.intro rfl ?_
    refine ⟨fun m l h => ∃ (i : Nat) (W : List Bs), m = fs.length - i ∧ i ≤ fs.length ∧ (W = fillF (fs.take i) o.values) ∧ l = [(4, .ptr 1 0), (5, .ptr 6 0), (6, .d (lGateField fs)), (8, .d (.int .i64 i))] ∧ h = ⟨[(6, .cells 145 [.d (.str o.kind), .d (.str o.name), .d (.str o.team), .own 4, .d (.bool o.ending), .own 5, .d (.int .i64 o.version)]), (4, .row 9 1 (W.map eB)), (5, .row 9 1 (o.holds.map eB)), (1, .cells 145 [.d (.str []), .d (.str []), .d (.str []), .nils, .d (.bool false), .nils, .d (.int .i64 0)])], 7, 0⟩,
      ⟨_, _, _, ⟨0, _, rfl, Nat.zero_le _, rfl, rfl, rfl⟩, rfl, rfl, ⟨rfl, rfl, rfl, rfl, trivial⟩, (by repeat' first|exact rfl|exact trivial|refine And.intro ?_ ?_), (by repeat' first|exact rfl|exact trivial|refine And.intro ?_ ?_)⟩, ?_⟩
    rintro m l hh ⟨i, W, rfl, hi, hr, rfl, rfl⟩
    have hs : fs.length ≤ big := by omega
    have hW : W.length = o.values.length := by rw [hr, fillF_len]
    repeat refine And.intro rfl ?_
    refine And.intro (fun h1 => ?_) (fun h1 => ?_)
    · have hlt : i < fs.length := lt_map h1
      have hlt2 : i < o.values.length := by omega
      have hlt3 : i < W.length := by omega
      have hv : W[i] = o.values[i] := by simp only [hr]; exact fill_at hlt hlt2 _
      have hst : fillF (fs.take (i + 1)) o.values = W.set i (fillV fs[i] o.values[i]) := by rw [hr, ← fill_set hlt hlt2]
      repeat refine And.intro rfl ?_
      refine And.intro (Int.natCast_nonneg _) (And.intro (by rw [List.length_map]; omega) ?_)
      repeat refine And.intro rfl ?_
      refine ⟨_, getMap hlt3, ?_⟩
      repeat refine And.intro rfl ?_
      refine And.intro (fun h2 => ?_) (fun h2 => ?_)
      · have hf : fillV fs[i] o.values[i] = fs[i].default_ := by unfold fillV; rw [← hv, show (W[i] == []) = true from h2]; rfl
        repeat refine And.intro rfl ?_
        refine And.intro (by kernel_rfl) (And.intro (by kernel_rfl) ?_)
        repeat refine And.intro rfl ?_
        repeat refine And.intro rfl ?_
        refine ix_at (e := GateField.e) (xs := fs) (hlt) rfl ?_
        repeat refine And.intro rfl ?_
        refine And.intro (Int.natCast_nonneg _) (And.intro (by rw [List.length_map]; omega) ?_)
        repeat refine And.intro rfl ?_
        refine ⟨_, getMap hlt3, Nat.le_refl _, ?_⟩
        repeat refine And.intro rfl ?_
        refine ⟨_, _, _, ⟨i + 1, W.set i fs[i].default_, rfl, hlt, by rw [hst, hf], rfl, rfl⟩, by omega, rfl, rfl, ?_, ?_, ?_⟩
        all_goals (repeat' first | exact rfl | exact trivial | exact nd (wrap_succ hlt hs) | exact rowset hlt3 | refine And.intro ?_ ?_)
      · have hf : fillV fs[i] o.values[i] = W[i] := by unfold fillV; rw [← hv, show (W[i] == []) = false from h2]; rfl
        repeat refine And.intro rfl ?_
        refine ⟨_, _, _, ⟨i + 1, W, rfl, hlt, by rw [hst, hf, set_self hlt3 rfl], rfl, rfl⟩, by omega, rfl, rfl, ?_, ?_, ?_⟩
        all_goals (repeat' first | exact rfl | exact trivial | exact nd (wrap_succ hlt hs) | refine And.intro ?_ ?_)
    · have hi' : fs.length ≤ i := ge_map h1
      rw [List.take_of_length_le hi'] at hr
      rw [← hr]
      repeat refine And.intro rfl ?_
      exact rfl
theorem filled_no {xs : List GateShape} {o : GateObject} (h0 : (fieldsF xs o.kind o.values.length).2 = false) : filled xs o = o := by
  unfold filled
  rcases fieldsF_spec (xs := xs) (k := o.kind) (n := o.values.length) with ⟨h1, h2⟩ | ⟨j, hj, _, h, _⟩
  · rw [h2]; rfl
  · rw [h] at h0; cases h0
theorem filled_nil {xs : List GateShape} {o : GateObject} (h0 : o.values = []) : filled xs o = o := by
  unfold filled
  rw [h0]
  cases o
  simp only at h0
  subst h0
  generalize (fieldsF xs _ _).1 = fs
  cases fs <;> rfl
theorem i_GateFill (xs : List GateShape) (o : GateObject) : Spec P 169 [.d (lGateShape xs), st o.e] (st (bif shapesOk xs then filled xs o else o).e) := by
  refine Spec.of_vc vcT vcM [.cell 4 145] Tryz.func169 rfl rfl rfl rfl (fun hok => ?_)
  have hb := ok_obj (o := o) ⟨hok.2.1, trivial⟩
  obtain ⟨hl, hl2⟩ := fieldsF_len (xs := xs) (k := o.kind) (n := o.values.length)
  cases hv : o.values with
  | nil =>
    repeat refine And.intro rfl ?_
    refine Or.inl (Exists.intro _ (And.intro (i_twin _) ?_))
    repeat refine And.intro rfl ?_
    repeat refine And.intro rfl ?_
    refine Or.inl (Exists.intro _ (And.intro (i_fieldsOf _ _) ?_))
    rw [filled_nil hv]
    repeat refine And.intro rfl ?_
    refine And.intro (fun h0 => ?_) (fun h0 => ?_)
    · repeat refine And.intro rfl ?_
      refine Or.inl (Exists.intro _ (And.intro (i_GateShapesOk _) ?_))
      repeat refine And.intro rfl ?_
      refine And.intro (fun h1 => ?_) (fun h1 => ?_)
      · repeat refine And.intro rfl ?_
        cases shapesOk xs <;> exact rfl
      · simp only [Bool.not_eq_false'] at h0 h1
        have hl := hl2 h0
        rw [hv] at hl
        simp only [hv] at hl ⊢
        generalize (fieldsF xs o.kind ([] : List Bs).length).1 = fs at *
        have : fs = [] := List.eq_nil_of_length_eq_zero hl
        subst this
        repeat refine And.intro rfl ?_
        refine ⟨fun m l h => ∃ (i : Nat) , m = ([] : List GateField).length - i ∧ i ≤ ([] : List GateField).length ∧ (True) ∧ l = [(3, .ptr 0 0), (4, .ptr 1 0), (25, .d (lGateField [])), (26, .d (.int .i64 0)), (27, .d (.int .i64 i))] ∧ h = ⟨[(0, .cells 145 [.d (.str o.kind), .d (.str o.name), .d (.str o.team), .d (lS []), .d (.bool o.ending), .d (lS o.holds), .d (.int .i64 o.version)]), (1, .cells 145 [.d (.str []), .d (.str []), .d (.str []), .nils, .d (.bool false), .nils, .d (.int .i64 0)])], 2, 0⟩,
          ⟨_, _, _, ⟨0, rfl, Nat.zero_le _, trivial, rfl, rfl⟩, rfl, rfl, ⟨rfl, rfl, rfl, rfl, rfl, trivial⟩, (by repeat' first|exact rfl|exact trivial|refine And.intro ?_ ?_), (by repeat' first|exact rfl|exact trivial|refine And.intro ?_ ?_)⟩, ?_⟩
        rintro m l hh ⟨i, rfl, hi, hr, rfl, rfl⟩
        repeat refine And.intro rfl ?_
        refine And.intro (fun g1 => ?_) (fun g1 => ?_)
        · exact absurd (of_decide_eq_true g1) (by omega)
        · have ho : st o.e = objA o (.d (lS [])) (.d (lS o.holds)) := by rw [st_obj, hv]
          repeat refine And.intro rfl ?_
          cases shapesOk xs <;> exact ho.symm
    · repeat refine And.intro rfl ?_
      cases shapesOk xs <;> exact rfl
  | cons v0 vr =>
    have hpos : 0 < o.values.length := by rw [hv]; simp
    clear hv
    repeat refine And.intro rfl ?_
    refine Or.inr (Or.inr (Or.inr (Or.inr (Or.inr (Exists.intro _ (Exists.intro _ (And.intro rfl (And.intro (i_twinO o hpos) ?_))))))))
    repeat refine And.intro rfl ?_
    repeat refine And.intro rfl ?_
    refine Or.inr (Or.inr (Or.inr (Or.inr (Or.inl (Exists.intro _ (And.intro (fun g => i_fieldsOfL xs o g 4) ?_))))))
    repeat refine And.intro rfl ?_
    refine And.intro (fun h0 => ?_) (fun h0 => ?_)
    · repeat refine And.intro rfl ?_
      refine Or.inl (Exists.intro _ (And.intro (i_GateShapesOk _) ?_))
      repeat refine And.intro rfl ?_
      refine And.intro (fun h1 => ?_) (fun h1 => ?_)
      · simp only [Bool.not_eq_true', Bool.not_eq_false'] at h0 h1
        rw [h1]
        repeat refine And.intro rfl ?_
        exact rfl
      · simp only [Bool.not_eq_false'] at h0 h1
        have hl := hl2 h0
        rw [h1]
        unfold filled
        generalize (fieldsF xs o.kind o.values.length).1 = fs at *
        repeat refine And.intro rfl ?_
        refine ⟨fun m l h => ∃ (i : Nat) (W : List Bs), m = fs.length - i ∧ i ≤ fs.length ∧ (W = fillF (fs.take i) o.values) ∧ l = [(3, .ptr 0 0), (4, .ptr 1 0), (25, .d (lGateField fs)), (26, .d (.int .i64 (fs.map GateField.e).length)), (27, .d (.int .i64 i))] ∧ h = ⟨[(0, .cells 145 [.d (.str o.kind), .d (.str o.name), .d (.str o.team), .own 4, .d (.bool o.ending), .d (lS o.holds), .d (.int .i64 o.version)]), (4, .row 9 1 (W.map eB)), (1, .cells 145 [.d (.str []), .d (.str []), .d (.str []), .nils, .d (.bool false), .nils, .d (.int .i64 0)])], 5, 0⟩,
          ⟨_, _, _, ⟨0, _, rfl, Nat.zero_le _, rfl, rfl, rfl⟩, rfl, rfl, ⟨rfl, rfl, rfl, rfl, rfl, trivial⟩, (by repeat' first|exact rfl|exact trivial|refine And.intro ?_ ?_), (by repeat' first|exact rfl|exact trivial|refine And.intro ?_ ?_)⟩, ?_⟩
        rintro m l hh ⟨i, W, rfl, hi, hr, rfl, rfl⟩
        have hs : fs.length ≤ big := by omega
        have hW : W.length = o.values.length := by rw [hr, fillF_len]
        repeat refine And.intro rfl ?_
        refine And.intro (fun g1 => ?_) (fun g1 => ?_)
        · have hlt : i < fs.length := lt_map g1
          have hlt2 : i < o.values.length := by omega
          have hlt3 : i < W.length := by omega
          have hv : W[i] = o.values[i] := by simp only [hr]; exact fill_at hlt hlt2 _
          have hst : fillF (fs.take (i + 1)) o.values = W.set i (fillV fs[i] o.values[i]) := by rw [hr, ← fill_set hlt hlt2]
          repeat refine And.intro rfl ?_
          refine ix_at (e := GateField.e) (xs := fs) (hlt) rfl ?_
          repeat refine And.intro rfl ?_
          refine And.intro (Int.natCast_nonneg _) (And.intro (by rw [List.length_map]; omega) ?_)
          repeat refine And.intro rfl ?_
          refine ⟨_, getMap hlt3, ?_⟩
          repeat refine And.intro rfl ?_
          refine And.intro (fun h2 => ?_) (fun h2 => ?_)
          · have hf : fillV fs[i] o.values[i] = fs[i].default_ := by unfold fillV; rw [← hv, show (W[i] == []) = true from h2]; rfl
            repeat refine And.intro rfl ?_
            refine And.intro (Int.natCast_nonneg _) (And.intro (by rw [List.length_map]; omega) ?_)
            repeat refine And.intro rfl ?_
            refine ⟨_, getMap hlt3, Nat.le_refl _, ?_⟩
            repeat refine And.intro rfl ?_
            refine ⟨_, _, _, ⟨i + 1, W.set i fs[i].default_, rfl, hlt, by rw [hst, hf], rfl, rfl⟩, by omega, rfl, rfl, ?_, ?_, ?_⟩
            all_goals (repeat' first | exact rfl | exact trivial | exact nd (wrap_succ hlt hs) | exact rowset hlt3 | refine And.intro ?_ ?_)
          · have hf : fillV fs[i] o.values[i] = W[i] := by unfold fillV; rw [← hv, show (W[i] == []) = false from h2]; rfl
            repeat refine And.intro rfl ?_
            refine ⟨_, _, _, ⟨i + 1, W, rfl, hlt, by rw [hst, hf, set_self hlt3 rfl], rfl, rfl⟩, by omega, rfl, rfl, ?_, ?_, ?_⟩
            all_goals (repeat' first | exact rfl | exact trivial | exact nd (wrap_succ hlt hs) | refine And.intro ?_ ?_)
        · have hi' : fs.length ≤ i := ge_map g1
          rw [List.take_of_length_le hi'] at hr
          rw [← hr]
          repeat refine And.intro rfl ?_
          exact rfl
    · simp only [Bool.not_eq_true'] at h0
      rw [filled_no h0]
      repeat refine And.intro rfl ?_
      cases shapesOk xs <;> exact rfl
end Go.Vc
end

section
namespace Go.Vc
set_option linter.unusedSimpArgs false
set_option linter.unusedVariables false
/-- there is a rank that falls from each to what it reads -/
def Acy (rd : Bs → List Bs) (ns : List Bs) : Prop := ∃ r : Bs → Nat, ∀ n ∈ ns, ∀ y ∈ rd n, r y < r n
def stepG (rd : Bs → List Bs) (ns row : List Bs) : List Bs :=
  match ns.find? (fun f => !row.contains f && (rd f).all row.contains) with
  | some f => row ++ [f]
  | none => row
def greedy (rd : Bs → List Bs) (ns : List Bs) : Nat → List Bs
  | 0 => []
  | k + 1 => stepG rd ns (greedy rd ns k)
theorem len_of_sub : ∀ {xs ys : List Bs}, xs.Nodup → (∀ x ∈ xs, x ∈ ys) → xs.length ≤ ys.length
  | [], _, _, _ => Nat.zero_le _
  | x :: xs, ys, hn, hs => by
    have hn' := List.nodup_cons.1 hn
    have hx : x ∈ ys := hs x List.mem_cons_self
    have h1 : xs.length ≤ (ys.erase x).length := len_of_sub hn'.2 (fun y hy => by
      have hne : y ≠ x := fun e => hn'.1 (e ▸ hy)
      exact (List.mem_erase_of_ne hne).2 (hs y (List.mem_cons_of_mem _ hy)))
    have h2 := List.length_erase_of_mem hx
    have h3 := List.length_pos_of_mem hx
    simp only [List.length_cons]; omega
theorem find_min {α : Type} (p : α → Prop) (r : α → Nat) : ∀ m : Nat, (∃ x, p x ∧ r x ≤ m) → ∃ x, p x ∧ ∀ y, p y → r x ≤ r y
  | 0, ⟨x, hx, hr⟩ => ⟨x, hx, fun y _ => by omega⟩
  | m + 1, ⟨x, hx, hr⟩ => by
    by_cases h : ∃ y, p y ∧ r y ≤ m
    · exact find_min p r m h
    · exact ⟨x, hx, fun y hy => by
        have : ¬ r y ≤ m := fun c => h ⟨y, hy, c⟩
        omega⟩
theorem exists_out : ∀ {ns row : List Bs}, ns.Nodup → row.length < ns.length → ∃ x, x ∈ ns ∧ x ∉ row := by
  intro ns row hn hl
  refine Classical.byContradiction fun h => ?_
  have : ns.length ≤ row.length := len_of_sub hn (fun x hx => Classical.byContradiction fun hx' => h ⟨x, hx, hx'⟩)
  omega
structure Good (rd : Bs → List Bs) (ns row : List Bs) : Prop where
  nd : row.Nodup
  sub : ∀ x ∈ row, x ∈ ns
  beh : ∀ x ∈ row, ∀ y ∈ rd x, row.idxOf y < row.idxOf x
theorem idxOf_app {row : List Bs} {x f : Bs} (h : x ∈ row) : (row ++ [f]).idxOf x = row.idxOf x := by
  rw [List.idxOf_append, if_pos h]
theorem good_step {rd : Bs → List Bs} {ns row : List Bs} {f : Bs} (g : Good rd ns row) (hf : f ∈ ns) (h : f ∉ row) (hr : ∀ y ∈ rd f, y ∈ row) : Good rd ns (row ++ [f]) := by
  refine ⟨?_, ?_, ?_⟩
  · rw [List.nodup_append]
    refine ⟨g.nd, by simp, ?_⟩
    intro a ha b hb e
    rw [List.mem_singleton] at hb
    exact h (hb ▸ e ▸ ha)
  · intro x hx
    rcases List.mem_append.1 hx with hx | hx
    · exact g.sub x hx
    · rw [List.mem_singleton] at hx; exact hx ▸ hf
  · intro x hx y hy
    rcases List.mem_append.1 hx with hx | hx
    · have h1 := g.beh x hx y hy
      have h2 : row.idxOf x < row.length := List.idxOf_lt_length_of_mem hx
      have hy' : y ∈ row := List.idxOf_lt_length_iff.1 (by omega)
      rw [idxOf_app hx, idxOf_app hy']; exact h1
    · rw [List.mem_singleton] at hx
      subst hx
      have hy' := hr y hy
      rw [idxOf_app hy', List.idxOf_append, if_neg h]
      have := List.idxOf_lt_length_of_mem hy'
      omega
theorem stepG_good {rd : Bs → List Bs} {ns row : List Bs} (g : Good rd ns row) : Good rd ns (stepG rd ns row) := by
  unfold stepG
  split
  · rename_i f hf
    have h1 := List.find?_some hf
    rw [Bool.and_eq_true, Bool.not_eq_true'] at h1
    refine good_step g (List.mem_of_find?_eq_some hf) ?_ ?_
    · intro c
      have := h1.1
      rw [← Bool.not_eq_true, List.contains_iff_mem] at this
      exact this c
    · intro y hy
      have := List.all_eq_true.1 h1.2 y hy
      exact List.contains_iff_mem.1 this
  · exact g
theorem greedy_good (rd : Bs → List Bs) (ns : List Bs) : ∀ k, Good rd ns (greedy rd ns k)
  | 0 => ⟨List.nodup_nil, (fun x hx => absurd hx List.not_mem_nil), (fun x hx => absurd hx List.not_mem_nil)⟩
  | k + 1 => stepG_good (greedy_good rd ns k)
theorem greedy_full {rd : Bs → List Bs} {ns : List Bs} (hn : ns.Nodup) (hin : ∀ n ∈ ns, ∀ y ∈ rd n, y ∈ ns) (ha : Acy rd ns) : ∀ k, k ≤ ns.length → (greedy rd ns k).length = k
  | 0, _ => rfl
  | k + 1, h => by
    have ih := greedy_full hn hin ha k (by omega)
    have g := greedy_good rd ns k
    obtain ⟨r, hr⟩ := ha
    obtain ⟨x0, hx0, hx0'⟩ := exists_out (row := greedy rd ns k) hn (by omega)
    obtain ⟨x, ⟨hx, hxr⟩, hmin⟩ := find_min (fun x => x ∈ ns ∧ x ∉ greedy rd ns k) r (r x0) ⟨x0, ⟨hx0, hx0'⟩, Nat.le_refl _⟩
    have hready : (!(greedy rd ns k).contains x && (rd x).all (greedy rd ns k).contains) = true := by
      rw [Bool.and_eq_true, Bool.not_eq_true', List.all_eq_true]
      refine ⟨?_, fun y hy => ?_⟩
      · rw [← Bool.not_eq_true, List.contains_iff_mem]; exact hxr
      · refine List.contains_iff_mem.2 (Classical.byContradiction fun c => ?_)
        have := hmin y ⟨hin x hx y hy, c⟩
        have := hr x hx y hy
        omega
    show (stepG rd ns (greedy rd ns k)).length = k + 1
    unfold stepG
    split
    · rw [List.length_append, ih]; rfl
    · rename_i hf
      have := List.find?_eq_none.1 hf x hx
      exact absurd hready this
theorem greedy_acy {rd : Bs → List Bs} {ns : List Bs} (hn : ns.Nodup) (h : (greedy rd ns ns.length).length = ns.length) : Acy rd ns := by
  have g := greedy_good rd ns ns.length
  refine ⟨(greedy rd ns ns.length).idxOf, fun n hm y hy => g.beh n ?_ y hy⟩
  refine Classical.byContradiction fun c => ?_
  have : (n :: greedy rd ns ns.length).length ≤ ns.length := len_of_sub (List.nodup_cons.2 ⟨c, g.nd⟩) (fun x hx => by
    rcases List.mem_cons.1 hx with e | e
    · exact e ▸ hm
    · exact g.sub x e)
  rw [List.length_cons] at this
  omega
theorem greedy_le (rd : Bs → List Bs) (ns : List Bs) : (greedy rd ns ns.length).length ≤ ns.length := len_of_sub (greedy_good rd ns _).nd (greedy_good rd ns _).sub

/-! ### depth first -/
structure Wk where
  st : List (Bs × Int)
  out : List Bs
def lk : List (Bs × Int) → Bs → Int
  | [], _ => 0
  | (k, v) :: r, x => bif k == x then v else lk r x
def pt : List (Bs × Int) → Bs → Int → List (Bs × Int)
  | [], x, v => [(x, v)]
  | (k, u) :: r, x, v => bif k == x then (k, v) :: r else (k, u) :: pt r x v
theorem lk_pt {x y : Bs} {v : Int} : ∀ {s : List (Bs × Int)}, lk (pt s x v) y = bif x == y then v else lk s y
  | [] => by simp only [pt, lk]
  | (k, u) :: r => by
    cases h : k == x with
    | true =>
      have e : k = x := beq_iff_eq.1 h
      subst e
      simp only [pt, h, cond_true, lk]
      cases k == y <;> rfl
    | false =>
      simp only [pt, h, cond_false, lk, lk_pt (s := r)]
      cases h2 : k == y with
      | true =>
        have e : k = y := beq_iff_eq.1 h2
        subst e
        have : (x == k) = false := by rw [← Bool.not_eq_true, beq_iff_eq]; rw [← Bool.not_eq_true, beq_iff_eq] at h; exact fun c => h c.symm
        rw [this]; rfl
      | false => rfl
def walkL (w : Bs → Wk → Bool × Wk) : List Bs → Wk → Bool × Wk
  | [], s => (true, s)
  | y :: ys, s => match w y s with
    | (false, s') => (false, s')
    | (true, s') => walkL w ys s'
def walk (rd : Bs → List Bs) : Nat → Bs → Wk → Bool × Wk
  | 0, _, s => (false, s)
  | k + 1, x, s => bif lk s.st x == 1 then (false, s) else bif lk s.st x == 2 then (true, s) else
    match walkL (walk rd k) (rd x) ⟨pt s.st x 1, s.out⟩ with
    | (false, s') => (false, s')
    | (true, s') => (true, ⟨pt s'.st x 2, s'.out ++ [x]⟩)
/-- how many are not yet looked at -/
def white (ns : List Bs) (s : Wk) : Nat := (ns.filter fun n => lk s.st n == 0).length
/-- what a walk keeps: no value but 0, 1, 2; marks stay; what is 2 is out, behind what it reads -/
structure WkOk (rd : Bs → List Bs) (ns : List Bs) (s : Wk) : Prop where
  nd : s.out.Nodup
  sub : ∀ x ∈ s.out, x ∈ ns
  val : ∀ x, lk s.st x = 0 ∨ lk s.st x = 1 ∨ lk s.st x = 2
  two : ∀ x, lk s.st x = 2 ↔ x ∈ s.out
  beh : ∀ x ∈ s.out, ∀ y ∈ rd x, s.out.idxOf y < s.out.idxOf x
/-- from s to s': the ones stay the ones, nothing becomes white -/
structure WkLe (s s' : Wk) : Prop where
  one : ∀ x, lk s.st x = 1 ↔ lk s'.st x = 1
  two : ∀ x, lk s.st x = 2 → lk s'.st x = 2
  white : ∀ x, lk s'.st x = 0 → lk s.st x = 0
theorem WkLe.refl (s : Wk) : WkLe s s := ⟨fun _ => Iff.rfl, fun _ h => h, fun _ h => h⟩
theorem WkLe.trans {a b c : Wk} (h : WkLe a b) (k : WkLe b c) : WkLe a c := ⟨fun x => (h.one x).trans (k.one x), fun x e => k.two x (h.two x e), fun x e => h.white x (k.white x e)⟩
theorem filter_len_le {p q : Bs → Bool} : ∀ {ns : List Bs}, (∀ x, p x = true → q x = true) → (ns.filter p).length ≤ (ns.filter q).length
  | [], _ => Nat.le_refl _
  | n :: ns, h => by
    have ih := filter_len_le (ns := ns) h
    cases hp : p n with
    | true => rw [List.filter_cons_of_pos hp, List.filter_cons_of_pos (h n hp)]; simp only [List.length_cons]; omega
    | false =>
      rw [List.filter_cons_of_neg (by rw [hp]; simp)]
      cases hq : q n with
      | true => rw [List.filter_cons_of_pos hq]; simp only [List.length_cons]; omega
      | false => rw [List.filter_cons_of_neg (by rw [hq]; simp)]; exact ih
theorem filter_len_lt {p q : Bs → Bool} {a : Bs} : ∀ {ns : List Bs}, (∀ x, p x = true → q x = true) → a ∈ ns → p a = false → q a = true → (ns.filter p).length < (ns.filter q).length
  | [], _, h, _, _ => absurd h List.not_mem_nil
  | n :: ns, h, ha, h1, h2 => by
    by_cases e : n = a
    · subst e
      rw [List.filter_cons_of_neg (by rw [h1]; simp), List.filter_cons_of_pos h2]
      have := filter_len_le (ns := ns) h
      simp only [List.length_cons]; omega
    · have hm : a ∈ ns := (List.mem_cons.1 ha).resolve_left (fun c => e c.symm)
      have ih := filter_len_lt (ns := ns) h hm h1 h2
      cases hp : p n with
      | true => rw [List.filter_cons_of_pos hp, List.filter_cons_of_pos (h n hp)]; simp only [List.length_cons]; omega
      | false =>
        rw [List.filter_cons_of_neg (by rw [hp]; simp)]
        cases hq : q n with
        | true => rw [List.filter_cons_of_pos hq]; simp only [List.length_cons]; omega
        | false => rw [List.filter_cons_of_neg (by rw [hq]; simp)]; exact ih
theorem white_le {ns : List Bs} {s s' : Wk} (h : WkLe s s') : white ns s' ≤ white ns s := filter_len_le (fun x hx => by
  rw [beq_iff_eq] at hx ⊢; exact h.white x hx)
theorem white_pt {ns : List Bs} {s : Wk} {x : Bs} (hx : x ∈ ns) (h : lk s.st x = 0) (o : List Bs) : white ns ⟨pt s.st x 1, o⟩ < white ns s := by
  refine filter_len_lt (a := x) (fun y hy => ?_) hx ?_ ?_
  · simp only [lk_pt] at hy
    cases e : x == y with
    | true => rw [e] at hy; simp at hy
    | false => rw [e] at hy; exact hy
  · simp only [lk_pt, BEq.rfl, cond_true]; rfl
  · rw [h]; rfl
/-- What a walk does. -/
def WalkGood (rd : Bs → List Bs) (ns : List Bs) (x : Bs) (s : Wk) (r : Bool × Wk) : Prop :=
  (r.1 = true → WkOk rd ns r.2 ∧ WkLe s r.2 ∧ lk r.2.st x = 2) ∧
  (r.1 = false → ∀ rk : Bs → Nat, (∀ n ∈ ns, ∀ y ∈ rd n, rk y < rk n) → ∃ z, lk s.st z = 1 ∧ rk z ≤ rk x)
theorem walkL_good {rd : Bs → List Bs} {ns : List Bs} {w : Bs → Wk → Bool × Wk} {n : Nat} : ∀ (ys : List Bs) (s : Wk), (∀ y ∈ ys, ∀ s, WkOk rd ns s → white ns s ≤ n → WalkGood rd ns y s (w y s)) → WkOk rd ns s → white ns s ≤ n →
    ((walkL w ys s).1 = true → WkOk rd ns (walkL w ys s).2 ∧ WkLe s (walkL w ys s).2 ∧ ∀ y ∈ ys, lk (walkL w ys s).2.st y = 2) ∧
    ((walkL w ys s).1 = false → ∀ rk : Bs → Nat, (∀ n ∈ ns, ∀ y ∈ rd n, rk y < rk n) → ∃ z y, y ∈ ys ∧ lk s.st z = 1 ∧ rk z ≤ rk y)
  | [], s, _, hs, _ => ⟨fun _ => ⟨hs, WkLe.refl _, fun y hy => absurd hy List.not_mem_nil⟩, fun h => by simp [walkL] at h⟩
  | y :: ys, s, hw, hs, hn => by
    have g := hw y List.mem_cons_self s hs hn
    unfold walkL
    cases e : w y s with
    | mk b s' => cases b with
      | false =>
        refine ⟨fun h => by simp at h, fun _ rk hrk => ?_⟩
        rw [e] at g
        obtain ⟨z, h1, h2⟩ := g.2 rfl rk hrk
        exact ⟨z, y, List.mem_cons_self, h1, h2⟩
      | true =>
        rw [e] at g
        obtain ⟨g1, g2, g3⟩ := g.1 rfl
        have ih := walkL_good ys s' (fun y hy => hw y (List.mem_cons_of_mem _ hy)) g1 (Nat.le_trans (white_le g2) hn)
        refine ⟨fun h => ?_, fun h rk hrk => ?_⟩
        · obtain ⟨i1, i2, i3⟩ := ih.1 h
          refine ⟨i1, g2.trans i2, fun u hu => ?_⟩
          rcases List.mem_cons.1 hu with c | c
          · rw [c]; exact i2.two y g3
          · exact i3 u c
        · obtain ⟨z, u, hu, h1, h2⟩ := ih.2 h rk hrk
          exact ⟨z, u, List.mem_cons_of_mem _ hu, (g2.one z).2 h1, h2⟩
theorem walk_good {rd : Bs → List Bs} {ns : List Bs} (hin : ∀ n ∈ ns, ∀ y ∈ rd n, y ∈ ns) : ∀ (k : Nat) (x : Bs) (s : Wk), x ∈ ns → WkOk rd ns s → white ns s < k → WalkGood rd ns x s (walk rd k x s)
  | 0, _, _, _, _, h => by omega
  | k + 1, x, s, hx, hs, hn => by
    unfold walk
    cases h1 : lk s.st x == 1 with
    | true =>
      rw [beq_iff_eq] at h1
      exact ⟨fun h => by simp at h, fun _ rk _ => ⟨x, h1, Nat.le_refl _⟩⟩
    | false => cases h2 : lk s.st x == 2 with
      | true =>
        rw [beq_iff_eq] at h2
        exact ⟨fun _ => ⟨hs, WkLe.refl _, h2⟩, fun h => by simp at h⟩
      | false =>
        have h0 : lk s.st x = 0 := by
          have e1 : lk s.st x ≠ 1 := fun c => by rw [c] at h1; simp at h1
          have e2 : lk s.st x ≠ 2 := fun c => by rw [c] at h2; simp at h2
          rcases hs.val x with c | c | c
          · exact c
          · exact absurd c e1
          · exact absurd c e2
        have hout : x ∉ s.out := fun c => by
          have := (hs.two x).2 c
          rw [h0] at this; exact absurd this (by decide)
        simp only [cond_false]
        have hs1 : WkOk rd ns ⟨pt s.st x 1, s.out⟩ := by
          refine ⟨hs.nd, hs.sub, fun y => ?_, fun y => ?_, hs.beh⟩
          · simp only [lk_pt]
            cases x == y
            · exact hs.val y
            · exact .inr (.inl rfl)
          · simp only [lk_pt]
            cases e : x == y with
            | true =>
              have e' : x = y := beq_iff_eq.1 e
              subst e'
              exact ⟨fun c => by simp at c, fun c => absurd c hout⟩
            | false => exact hs.two y
        have hw := white_pt hx h0 s.out
        have g := walkL_good (rd := rd) (ns := ns) (w := walk rd k) (n := white ns ⟨pt s.st x 1, s.out⟩) (rd x) ⟨pt s.st x 1, s.out⟩
          (fun y hy s' hs' hl => walk_good hin k y s' (hin x hx y hy) hs' (by omega)) hs1 (Nat.le_refl _)
        cases e : walkL (walk rd k) (rd x) ⟨pt s.st x 1, s.out⟩ with
        | mk b s' =>
          rw [e] at g
          cases b with
          | false =>
            refine ⟨fun h => by simp at h, fun _ rk hrk => ?_⟩
            obtain ⟨z, y, hy, hz, hle⟩ := g.2 rfl rk hrk
            have hlt := hrk x hx y hy
            refine ⟨z, ?_, by omega⟩
            have hz' : lk (pt s.st x 1) z = 1 := hz
            rw [lk_pt] at hz'
            cases e2 : x == z with
            | true =>
              have e3 : x = z := beq_iff_eq.1 e2
              subst e3
              omega
            | false => rw [e2] at hz'; exact hz'
          | true =>
            obtain ⟨g1, g2, g3⟩ := g.1 rfl
            have g1 : WkOk rd ns s' := g1
            have g3 : ∀ y ∈ rd x, lk s'.st y = 2 := g3
            refine ⟨fun _ => ?_, fun h => by simp at h⟩
            have hx1 : lk s'.st x = 1 := (g2.one x).1 (by simp only [lk_pt, BEq.rfl, cond_true])
            have hx' : x ∉ s'.out := fun c => by
              have := (g1.two x).2 c
              rw [hx1] at this; exact absurd this (by decide)
            refine ⟨⟨?_, ?_, fun y => ?_, fun y => ?_, ?_⟩, ⟨fun y => ?_, fun y hy => ?_, fun y hy => ?_⟩, ?_⟩
            · show (s'.out ++ [x]).Nodup
              rw [List.nodup_append]
              refine ⟨g1.nd, by simp, ?_⟩
              intro a ha b hb e
              rw [List.mem_singleton] at hb
              exact hx' (hb ▸ e ▸ ha)
            · intro y hy
              rcases List.mem_append.1 hy with hy | hy
              · exact g1.sub y hy
              · rw [List.mem_singleton] at hy; exact hy ▸ hx
            · simp only [lk_pt]
              cases x == y
              · exact g1.val y
              · exact .inr (.inr rfl)
            · simp only [lk_pt, List.mem_append, List.mem_singleton]
              cases e2 : x == y with
              | true =>
                have e3 : x = y := beq_iff_eq.1 e2
                exact ⟨fun _ => .inr e3.symm, fun _ => rfl⟩
              | false =>
                have e3 : x ≠ y := fun c => by rw [c] at e2; simp at e2
                exact (g1.two y).trans ⟨.inl, fun c => c.resolve_right (fun c => e3 c.symm)⟩
            · intro u hu y hy
              rcases List.mem_append.1 hu with hu | hu
              · have q1 := g1.beh u hu y hy
                have q2 : s'.out.idxOf u < s'.out.length := List.idxOf_lt_length_of_mem hu
                have hy' : y ∈ s'.out := List.idxOf_lt_length_iff.1 (by omega)
                rw [idxOf_app hu, idxOf_app hy']; exact q1
              · rw [List.mem_singleton] at hu
                subst hu
                have hy' := (g1.two y).1 (g3 y hy)
                rw [idxOf_app hy', List.idxOf_append, if_neg hx']
                have := List.idxOf_lt_length_of_mem hy'
                omega
            · simp only [lk_pt]
              cases e2 : x == y with
              | true =>
                have e3 : x = y := beq_iff_eq.1 e2
                subst e3
                rw [h0]
                exact ⟨fun c => by simp at c, fun c => by simp at c⟩
              | false =>
                have := g2.one y
                simp only [lk_pt, e2, cond_false] at this
                exact this
            · simp only [lk_pt]
              cases e2 : x == y with
              | true => rfl
              | false =>
                have := g2.two y
                simp only [lk_pt, e2, cond_false] at this
                exact this hy
            · simp only [lk_pt] at hy
              cases e2 : x == y with
              | true => rw [e2] at hy; simp at hy
              | false =>
                rw [e2] at hy
                have := g2.white y hy
                simp only [lk_pt, e2, cond_false] at this
                exact this
            · simp only [lk_pt, BEq.rfl, cond_true]
def wk0 : Wk := ⟨[], []⟩
theorem wk0_ok (rd : Bs → List Bs) (ns : List Bs) : WkOk rd ns wk0 := ⟨List.nodup_nil, fun x h => absurd h List.not_mem_nil, fun _ => .inl rfl, fun x => ⟨fun h => absurd (show (0 : Int) = 2 from h) (by decide), fun h => absurd h List.not_mem_nil⟩, fun x h => absurd h List.not_mem_nil⟩
theorem white_len (ns : List Bs) (s : Wk) : white ns s ≤ ns.length := List.length_filter_le _ _
theorem walkL_out {w : Bs → Wk → Bool × Wk} (hw : ∀ y s, ∃ t, (w y s).2.out = s.out ++ t) : ∀ (ys : List Bs) (s : Wk), ∃ t, (walkL w ys s).2.out = s.out ++ t
  | [], s => ⟨[], by simp [walkL]⟩
  | y :: ys, s => by
    obtain ⟨t, ht⟩ := hw y s
    unfold walkL
    cases e : w y s with
    | mk b s' =>
      rw [e] at ht
      cases b with
      | false => exact ⟨t, ht⟩
      | true =>
        obtain ⟨t2, ht2⟩ := walkL_out hw ys s'
        exact ⟨t ++ t2, by rw [← List.append_assoc, ← ht]; exact ht2⟩
/-- what is out stays out -/
theorem walk_out (rd : Bs → List Bs) : ∀ (k : Nat) (x : Bs) (s : Wk), ∃ t, (walk rd k x s).2.out = s.out ++ t
  | 0, _, s => ⟨[], by simp [walk]⟩
  | k + 1, x, s => by
    unfold walk
    cases lk s.st x == 1 with
    | true => exact ⟨[], by simp⟩
    | false => cases lk s.st x == 2 with
      | true => exact ⟨[], by simp⟩
      | false =>
        obtain ⟨t, ht⟩ := walkL_out (w := walk rd k) (walk_out rd k) (rd x) ⟨pt s.st x 1, s.out⟩
        simp only [cond_false]
        cases e : walkL (walk rd k) (rd x) ⟨pt s.st x 1, s.out⟩ with
        | mk b s' =>
          rw [e] at ht
          cases b with
          | false => exact ⟨t, ht⟩
          | true => exact ⟨t ++ [x], by rw [← List.append_assoc, ← ht]⟩
theorem walk_one {rd : Bs → List Bs} {k : Nat} {x : Bs} {s : Wk} (h : (lk s.st x == 1) = true) : walk rd (k + 1) x s = (false, s) := by
  unfold walk; rw [h]; rfl
theorem walk_two {rd : Bs → List Bs} {k : Nat} {x : Bs} {s : Wk} (h : (lk s.st x == 1) = false) (h2 : (lk s.st x == 2) = true) : walk rd (k + 1) x s = (true, s) := by
  unfold walk; rw [h, h2]; rfl
theorem walk_no {rd : Bs → List Bs} {k : Nat} {x : Bs} {s s' : Wk} (h : (lk s.st x == 1) = false) (h2 : (lk s.st x == 2) = false) (e : walkL (walk rd k) (rd x) ⟨pt s.st x 1, s.out⟩ = (false, s')) : walk rd (k + 1) x s = (false, s') := by
  unfold walk; rw [h, h2, e]; rfl
theorem walk_yes {rd : Bs → List Bs} {k : Nat} {x : Bs} {s s' : Wk} (h : (lk s.st x == 1) = false) (h2 : (lk s.st x == 2) = false) (e : walkL (walk rd k) (rd x) ⟨pt s.st x 1, s.out⟩ = (true, s')) : walk rd (k + 1) x s = (true, ⟨pt s'.st x 2, s'.out ++ [x]⟩) := by
  unfold walk; rw [h, h2, e]; rfl
theorem walkL_drop {w : Bs → Wk → Bool × Wk} {ys : List Bs} {i : Nat} {s : Wk} (h : i < ys.length) : walkL w (ys.drop i) s = match w ys[i] s with
    | (false, s') => (false, s')
    | (true, s') => walkL w (ys.drop (i + 1)) s' := by
  rw [List.drop_eq_getElem_cons h]; rfl
theorem walkL_end {w : Bs → Wk → Bool × Wk} {ys : List Bs} {i : Nat} {s : Wk} (h : ys.length ≤ i) : walkL w (ys.drop i) s = (true, s) := by
  rw [List.drop_of_length_le h]; rfl
/-- from the begin of a walk at x -/
structure WkIn (rd : Bs → List Bs) (ns : List Bs) (x : Bs) (s s1 : Wk) : Prop where
  ok : WkOk rd ns s1
  one : lk s1.st x = 1
  white : white ns s1 < white ns s
theorem wk_start {rd : Bs → List Bs} {ns : List Bs} {x : Bs} {s : Wk} (hx : x ∈ ns) (hs : WkOk rd ns s) (h1 : (lk s.st x == 1) = false) (h2 : (lk s.st x == 2) = false) : WkIn rd ns x s ⟨pt s.st x 1, s.out⟩ := by
  have h0 : lk s.st x = 0 := by
    rcases hs.val x with c | c | c
    · exact c
    · rw [c] at h1; simp at h1
    · rw [c] at h2; simp at h2
  have hout : x ∉ s.out := fun c => by
    have := (hs.two x).2 c
    rw [h0] at this; exact absurd this (by decide)
  refine ⟨⟨hs.nd, hs.sub, fun y => ?_, fun y => ?_, hs.beh⟩, by simp only [lk_pt, BEq.rfl, cond_true], white_pt hx h0 _⟩
  · simp only [lk_pt]
    cases x == y
    · exact hs.val y
    · exact .inr (.inl rfl)
  · simp only [lk_pt]
    cases e : x == y with
    | true =>
      have e' : x = y := beq_iff_eq.1 e
      subst e'
      exact ⟨fun c => by simp at c, fun c => absurd c hout⟩
    | false => exact hs.two y
theorem wk_next {rd : Bs → List Bs} {ns : List Bs} (hin : ∀ n ∈ ns, ∀ y ∈ rd n, y ∈ ns) {k : Nat} {x y : Bs} {s s1 s2 : Wk} (h : WkIn rd ns x s s1) (hk : white ns s < k + 1) (hy : y ∈ ns) (e : walk rd k y s1 = (true, s2)) : WkIn rd ns x s s2 := by
  have hw := h.white
  have g := walk_good hin k y s1 hy h.ok (by omega)
  rw [e] at g
  obtain ⟨g1, g2, _⟩ := g.1 rfl
  exact ⟨g1, (g2.one x).1 h.one, Nat.lt_of_le_of_lt (white_le g2) h.white⟩
theorem wk_room {rd : Bs → List Bs} {ns : List Bs} {x : Bs} {s s1 : Wk} (hx : x ∈ ns) (h : WkIn rd ns x s s1) : s1.out.length + 1 ≤ ns.length := by
  have : (x :: s1.out).length ≤ ns.length := len_of_sub (List.nodup_cons.2 ⟨fun c => by
    have := (h.ok.two x).2 c
    rw [h.one] at this; exact absurd this (by decide), h.ok.nd⟩) (fun y hy => by
    rcases List.mem_cons.1 hy with e | e
    · exact e ▸ hx
    · exact h.ok.sub y e)
  exact this
/-- depth first finds a row just if there is a rank -/
theorem walk_acy {rd : Bs → List Bs} {ns : List Bs} (hin : ∀ n ∈ ns, ∀ y ∈ rd n, y ∈ ns) : (walkL (walk rd (ns.length + 1)) ns wk0).1 = true ↔ Acy rd ns := by
  have g := walkL_good (rd := rd) (ns := ns) (w := walk rd (ns.length + 1)) (n := ns.length) ns wk0
    (fun y hy s hs hl => walk_good hin _ y s hy hs (by omega)) (wk0_ok rd ns) (white_len _ _)
  constructor
  · intro h
    obtain ⟨g1, g2, g3⟩ := g.1 h
    exact ⟨(walkL (walk rd (ns.length + 1)) ns wk0).2.out.idxOf, fun n hn y hy => g1.beh n ((g1.two n).1 (g3 n hn)) y hy⟩
  · rintro ⟨rk, hrk⟩
    cases e : (walkL (walk rd (ns.length + 1)) ns wk0).1 with
    | true => rfl
    | false =>
      obtain ⟨z, y, hy, hz, _⟩ := g.2 e rk hrk
      exact absurd hz (by show ¬ ((0 : Int) = 1); decide)
theorem walk_greedy {rd : Bs → List Bs} {ns : List Bs} (hn : ns.Nodup) (hin : ∀ n ∈ ns, ∀ y ∈ rd n, y ∈ ns) :
    (walkL (walk rd (ns.length + 1)) ns wk0).1 = decide ((greedy rd ns ns.length).length = ns.length) := by
  rw [Bool.eq_iff_iff, decide_eq_true_eq, walk_acy hin]
  exact ⟨fun h => greedy_full hn hin h _ (Nat.le_refl _), greedy_acy hn⟩
end Go.Vc
end
