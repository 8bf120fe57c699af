/- Contracts: rules that are ok. -/
import Derived.Test.YtcakciamoopkcaaGreatGtO
namespace Go.Vc
open Go.Proofs
set_option maxRecDepth 100000
set_option pp.maxSteps 400
set_option pp.deepTerms false
set_option linter.unusedSimpArgs false
set_option linter.unusedVariables false
theorem inR_lo {x : Int} (h : decide (x < 1) = true) : inR x 1 5 = false := by
  have := of_decide_eq_true h
  simp only [inR, Bool.and_eq_false_iff, decide_eq_false_iff_not]; omega
theorem inR_hi {x : Int} (h : decide (x > 5) = true) : inR x 1 5 = false := by
  have := of_decide_eq_true h
  simp only [inR, Bool.and_eq_false_iff, decide_eq_false_iff_not]; omega
theorem inR_in {x : Int} (h : decide (x < 1) = false) (h2 : decide (x > 5) = false) : inR x 1 5 = true := by
  have := of_decide_eq_false h
  have := of_decide_eq_false h2
  simp only [inR, Bool.and_eq_true, decide_eq_true_eq]; omega
theorem i_ruleOk (r : GateRule) : Spec P 123 [st r.e] (.d (.bool (ruleOk r))) := by
  refine Spec.of_vc vcT vcM [.tmp 2] Tryz.func123 rfl rfl rfl rfl (fun hok => ?_)
  have hs : r.verbs.length ≤ big := by
    have := hok.1
    simp only [st, AV.ok, GateRule.e, List.map, okAs] at this
    exact len_map this.1.1
  repeat refine And.intro rfl ?_
  refine And.intro (fun h0 => ?_) (fun h0 => ?_)
  · rw [List.length_map] at h0
    have hv := h0
    repeat refine And.intro rfl ?_
    refine And.intro (fun h1 => ?_) (fun h1 => ?_)
    · repeat refine And.intro rfl ?_
      refine Or.inl (Exists.intro _ (And.intro (i_isName _) ?_))
      repeat refine And.intro rfl ?_
      refine And.intro (fun h1' => ?_) (fun h1' => ?_)
      · simp only [Bool.not_eq_true', Bool.not_eq_false'] at h1 h1'
        have hk : (r.kind == [] || nameOk r.kind) = true := by rw [h1']; simp
        repeat refine And.intro rfl ?_
        refine And.intro (fun h2 => ?_) (fun h2 => ?_)
        · repeat refine And.intro rfl ?_
          refine Or.inl (Exists.intro _ (And.intro (i_isName _) ?_))
          repeat refine And.intro rfl ?_
          refine And.intro (fun h2' => ?_) (fun h2' => ?_)
          · simp only [Bool.not_eq_true', Bool.not_eq_false'] at h2 h2'
            have ht : (r.team == [] || nameOk r.team) = true := by rw [h2']; simp
            repeat refine And.intro rfl ?_
            refine And.intro (fun h3 => ?_) (fun h3 => ?_)
            · repeat refine And.intro rfl ?_
              refine Or.inl (Exists.intro _ (And.intro (i_nameBytes _) ?_))
              repeat refine And.intro rfl ?_
              refine And.intro (fun h4 => ?_) (fun h4 => ?_)
              · refine bd ?_
                simp only [Bool.not_eq_true', Bool.not_eq_false'] at h4
                simp only [ruleOk, h4, Bool.false_and, Bool.and_false]
              · simp only [Bool.not_eq_true', Bool.not_eq_false'] at h4
                have hp : decide ((r.prefix_.length : Int) > 16) = false := h3
                have ha := h4
                have e : ruleOk r = vrb none r.verbs := by simp only [ruleOk, hv, hk, ht, hp, ha, Bool.or_true, Bool.true_or, Bool.not_false, Bool.true_and]
                rw [e]
                repeat refine And.intro rfl ?_
                refine ⟨fun m l h => ∃ (i : Nat) , m = r.verbs.length - i ∧ i ≤ r.verbs.length ∧ (vrb none r.verbs = vrb (prevI r.verbs i) (r.verbs.drop i)) ∧ l = [(1, .ptr 0 0), (44, .d (lI r.verbs)), (45, .d (.int .i64 (r.verbs.map eN).length)), (46, .d (.int .i64 i))] ∧ h = ⟨[(0, .cells 45 (r.e.map .d))], 1, 0⟩,
                  ⟨_, _, _, ⟨0, rfl, Nat.zero_le _, rfl, rfl, rfl⟩, rfl, rfl, ⟨rfl, rfl, rfl, rfl, trivial⟩, ⟨rfl, trivial⟩, ⟨rfl, trivial⟩⟩, ?_⟩
                rintro m l hh ⟨i, rfl, hi, hr, rfl, rfl⟩
                repeat refine And.intro rfl ?_
                refine And.intro (fun g1 => ?_) (fun g1 => ?_)
                · have hlt : i < r.verbs.length := lt_map g1
                  rw [vrb_step hlt] at hr
                  repeat refine And.intro rfl ?_
                  refine ix_at (e := eN) (xs := r.verbs) (hlt) rfl ?_
                  repeat refine And.intro rfl ?_
                  repeat refine And.intro rfl ?_
                  refine And.intro (fun g2 => ?_) (fun g2 => ?_)
                  · repeat refine And.intro rfl ?_
                    refine And.intro (fun g3 => ?_) (fun g3 => ?_)
                    · have hin := inR_in g2 g3
                      repeat refine And.intro rfl ?_
                      refine And.intro (fun g4 => ?_) (fun g4 => ?_)
                      · have h0' := gt0 g4
                        repeat refine And.intro rfl ?_
                        refine ix_atw (e := eN) (xs := r.verbs) ((show i - 1 < r.verbs.length by omega)) (wrap_pred h0' hlt hs) rfl ?_
                        repeat refine And.intro rfl ?_
                        repeat refine And.intro rfl ?_
                        refine And.intro (fun g5 => ?_) (fun g5 => ?_)
                        · refine bd ?_
                          rw [hr, prevI_less hlt h0', show decide (r.verbs[i - 1]'(by omega) ≥ r.verbs[i]) = true from g5, hin]; rfl
                        · repeat refine And.intro rfl ?_
                          exact ⟨_, _, _, ⟨i + 1, rfl, hlt, by rw [hr, prevI_less hlt h0', show decide (r.verbs[i - 1]'(by omega) ≥ r.verbs[i]) = false from g5, hin]; rfl, rfl, rfl⟩, by omega, rfl, rfl, ⟨rfl, rfl, rfl, nd (wrap_succ hlt hs), trivial⟩, ⟨rfl, trivial⟩, ⟨rfl, trivial⟩⟩
                      · have hz := le0 g4
                        repeat refine And.intro rfl ?_
                        exact ⟨_, _, _, ⟨i + 1, rfl, hlt, by rw [hr, show lessI (prevI r.verbs i) r.verbs[i] = true from by subst hz; rfl, hin]; rfl, rfl, rfl⟩, by omega, rfl, rfl, ⟨rfl, rfl, rfl, nd (wrap_succ hlt hs), trivial⟩, ⟨rfl, trivial⟩, ⟨rfl, trivial⟩⟩
                    · refine bd ?_
                      rw [hr, inR_hi g3]; rfl
                  · refine bd ?_
                    rw [hr, inR_lo g2]; rfl
                · refine bd ?_
                  rw [hr, vrb_end (ge_map g1)]
            · refine bd ?_
              simp only [ruleOk, show decide ((r.prefix_.length : Int) > 16) = true from h3, Bool.not_true, Bool.false_and, Bool.and_false]
          · refine bd ?_
            simp only [Bool.not_eq_true', Bool.not_eq_false'] at h2 h2'
            simp only [ruleOk, h2, h2', Bool.or_false, Bool.false_and, Bool.and_false]
        · simp only [Bool.not_eq_true', Bool.not_eq_false'] at h2
          have ht : (r.team == [] || nameOk r.team) = true := by rw [h2]; rfl
          repeat refine And.intro rfl ?_
          refine And.intro (fun h3 => ?_) (fun h3 => ?_)
          · repeat refine And.intro rfl ?_
            refine Or.inl (Exists.intro _ (And.intro (i_nameBytes _) ?_))
            repeat refine And.intro rfl ?_
            refine And.intro (fun h4 => ?_) (fun h4 => ?_)
            · refine bd ?_
              simp only [Bool.not_eq_true', Bool.not_eq_false'] at h4
              simp only [ruleOk, h4, Bool.false_and, Bool.and_false]
            · simp only [Bool.not_eq_true', Bool.not_eq_false'] at h4
              have hp : decide ((r.prefix_.length : Int) > 16) = false := h3
              have ha := h4
              have e : ruleOk r = vrb none r.verbs := by simp only [ruleOk, hv, hk, ht, hp, ha, Bool.or_true, Bool.true_or, Bool.not_false, Bool.true_and]
              rw [e]
              repeat refine And.intro rfl ?_
              refine ⟨fun m l h => ∃ (i : Nat) , m = r.verbs.length - i ∧ i ≤ r.verbs.length ∧ (vrb none r.verbs = vrb (prevI r.verbs i) (r.verbs.drop i)) ∧ l = [(1, .ptr 0 0), (44, .d (lI r.verbs)), (45, .d (.int .i64 (r.verbs.map eN).length)), (46, .d (.int .i64 i))] ∧ h = ⟨[(0, .cells 45 (r.e.map .d))], 1, 0⟩,
                ⟨_, _, _, ⟨0, rfl, Nat.zero_le _, rfl, rfl, rfl⟩, rfl, rfl, ⟨rfl, rfl, rfl, rfl, trivial⟩, ⟨rfl, trivial⟩, ⟨rfl, trivial⟩⟩, ?_⟩
              rintro m l hh ⟨i, rfl, hi, hr, rfl, rfl⟩
              repeat refine And.intro rfl ?_
              refine And.intro (fun g1 => ?_) (fun g1 => ?_)
              · have hlt : i < r.verbs.length := lt_map g1
                rw [vrb_step hlt] at hr
                repeat refine And.intro rfl ?_
                refine ix_at (e := eN) (xs := r.verbs) (hlt) rfl ?_
                repeat refine And.intro rfl ?_
                repeat refine And.intro rfl ?_
                refine And.intro (fun g2 => ?_) (fun g2 => ?_)
                · repeat refine And.intro rfl ?_
                  refine And.intro (fun g3 => ?_) (fun g3 => ?_)
                  · have hin := inR_in g2 g3
                    repeat refine And.intro rfl ?_
                    refine And.intro (fun g4 => ?_) (fun g4 => ?_)
                    · have h0' := gt0 g4
                      repeat refine And.intro rfl ?_
                      refine ix_atw (e := eN) (xs := r.verbs) ((show i - 1 < r.verbs.length by omega)) (wrap_pred h0' hlt hs) rfl ?_
                      repeat refine And.intro rfl ?_
                      repeat refine And.intro rfl ?_
                      refine And.intro (fun g5 => ?_) (fun g5 => ?_)
                      · refine bd ?_
                        rw [hr, prevI_less hlt h0', show decide (r.verbs[i - 1]'(by omega) ≥ r.verbs[i]) = true from g5, hin]; rfl
                      · repeat refine And.intro rfl ?_
                        exact ⟨_, _, _, ⟨i + 1, rfl, hlt, by rw [hr, prevI_less hlt h0', show decide (r.verbs[i - 1]'(by omega) ≥ r.verbs[i]) = false from g5, hin]; rfl, rfl, rfl⟩, by omega, rfl, rfl, ⟨rfl, rfl, rfl, nd (wrap_succ hlt hs), trivial⟩, ⟨rfl, trivial⟩, ⟨rfl, trivial⟩⟩
                    · have hz := le0 g4
                      repeat refine And.intro rfl ?_
                      exact ⟨_, _, _, ⟨i + 1, rfl, hlt, by rw [hr, show lessI (prevI r.verbs i) r.verbs[i] = true from by subst hz; rfl, hin]; rfl, rfl, rfl⟩, by omega, rfl, rfl, ⟨rfl, rfl, rfl, nd (wrap_succ hlt hs), trivial⟩, ⟨rfl, trivial⟩, ⟨rfl, trivial⟩⟩
                  · refine bd ?_
                    rw [hr, inR_hi g3]; rfl
                · refine bd ?_
                  rw [hr, inR_lo g2]; rfl
              · refine bd ?_
                rw [hr, vrb_end (ge_map g1)]
          · refine bd ?_
            simp only [ruleOk, show decide ((r.prefix_.length : Int) > 16) = true from h3, Bool.not_true, Bool.false_and, Bool.and_false]
      · refine bd ?_
        simp only [Bool.not_eq_true', Bool.not_eq_false'] at h1 h1'
        simp only [ruleOk, h1, h1', Bool.or_false, Bool.false_and, Bool.and_false]
    · simp only [Bool.not_eq_true', Bool.not_eq_false'] at h1
      have hk : (r.kind == [] || nameOk r.kind) = true := by rw [h1]; rfl
      repeat refine And.intro rfl ?_
      refine And.intro (fun h2 => ?_) (fun h2 => ?_)
      · repeat refine And.intro rfl ?_
        refine Or.inl (Exists.intro _ (And.intro (i_isName _) ?_))
        repeat refine And.intro rfl ?_
        refine And.intro (fun h2' => ?_) (fun h2' => ?_)
        · simp only [Bool.not_eq_true', Bool.not_eq_false'] at h2 h2'
          have ht : (r.team == [] || nameOk r.team) = true := by rw [h2']; simp
          repeat refine And.intro rfl ?_
          refine And.intro (fun h3 => ?_) (fun h3 => ?_)
          · repeat refine And.intro rfl ?_
            refine Or.inl (Exists.intro _ (And.intro (i_nameBytes _) ?_))
            repeat refine And.intro rfl ?_
            refine And.intro (fun h4 => ?_) (fun h4 => ?_)
            · refine bd ?_
              simp only [Bool.not_eq_true', Bool.not_eq_false'] at h4
              simp only [ruleOk, h4, Bool.false_and, Bool.and_false]
            · simp only [Bool.not_eq_true', Bool.not_eq_false'] at h4
              have hp : decide ((r.prefix_.length : Int) > 16) = false := h3
              have ha := h4
              have e : ruleOk r = vrb none r.verbs := by simp only [ruleOk, hv, hk, ht, hp, ha, Bool.or_true, Bool.true_or, Bool.not_false, Bool.true_and]
              rw [e]
              repeat refine And.intro rfl ?_
              refine ⟨fun m l h => ∃ (i : Nat) , m = r.verbs.length - i ∧ i ≤ r.verbs.length ∧ (vrb none r.verbs = vrb (prevI r.verbs i) (r.verbs.drop i)) ∧ l = [(1, .ptr 0 0), (44, .d (lI r.verbs)), (45, .d (.int .i64 (r.verbs.map eN).length)), (46, .d (.int .i64 i))] ∧ h = ⟨[(0, .cells 45 (r.e.map .d))], 1, 0⟩,
                ⟨_, _, _, ⟨0, rfl, Nat.zero_le _, rfl, rfl, rfl⟩, rfl, rfl, ⟨rfl, rfl, rfl, rfl, trivial⟩, ⟨rfl, trivial⟩, ⟨rfl, trivial⟩⟩, ?_⟩
              rintro m l hh ⟨i, rfl, hi, hr, rfl, rfl⟩
              repeat refine And.intro rfl ?_
              refine And.intro (fun g1 => ?_) (fun g1 => ?_)
              · have hlt : i < r.verbs.length := lt_map g1
                rw [vrb_step hlt] at hr
                repeat refine And.intro rfl ?_
                refine ix_at (e := eN) (xs := r.verbs) (hlt) rfl ?_
                repeat refine And.intro rfl ?_
                repeat refine And.intro rfl ?_
                refine And.intro (fun g2 => ?_) (fun g2 => ?_)
                · repeat refine And.intro rfl ?_
                  refine And.intro (fun g3 => ?_) (fun g3 => ?_)
                  · have hin := inR_in g2 g3
                    repeat refine And.intro rfl ?_
                    refine And.intro (fun g4 => ?_) (fun g4 => ?_)
                    · have h0' := gt0 g4
                      repeat refine And.intro rfl ?_
                      refine ix_atw (e := eN) (xs := r.verbs) ((show i - 1 < r.verbs.length by omega)) (wrap_pred h0' hlt hs) rfl ?_
                      repeat refine And.intro rfl ?_
                      repeat refine And.intro rfl ?_
                      refine And.intro (fun g5 => ?_) (fun g5 => ?_)
                      · refine bd ?_
                        rw [hr, prevI_less hlt h0', show decide (r.verbs[i - 1]'(by omega) ≥ r.verbs[i]) = true from g5, hin]; rfl
                      · repeat refine And.intro rfl ?_
                        exact ⟨_, _, _, ⟨i + 1, rfl, hlt, by rw [hr, prevI_less hlt h0', show decide (r.verbs[i - 1]'(by omega) ≥ r.verbs[i]) = false from g5, hin]; rfl, rfl, rfl⟩, by omega, rfl, rfl, ⟨rfl, rfl, rfl, nd (wrap_succ hlt hs), trivial⟩, ⟨rfl, trivial⟩, ⟨rfl, trivial⟩⟩
                    · have hz := le0 g4
                      repeat refine And.intro rfl ?_
                      exact ⟨_, _, _, ⟨i + 1, rfl, hlt, by rw [hr, show lessI (prevI r.verbs i) r.verbs[i] = true from by subst hz; rfl, hin]; rfl, rfl, rfl⟩, by omega, rfl, rfl, ⟨rfl, rfl, rfl, nd (wrap_succ hlt hs), trivial⟩, ⟨rfl, trivial⟩, ⟨rfl, trivial⟩⟩
                  · refine bd ?_
                    rw [hr, inR_hi g3]; rfl
                · refine bd ?_
                  rw [hr, inR_lo g2]; rfl
              · refine bd ?_
                rw [hr, vrb_end (ge_map g1)]
          · refine bd ?_
            simp only [ruleOk, show decide ((r.prefix_.length : Int) > 16) = true from h3, Bool.not_true, Bool.false_and, Bool.and_false]
        · refine bd ?_
          simp only [Bool.not_eq_true', Bool.not_eq_false'] at h2 h2'
          simp only [ruleOk, h2, h2', Bool.or_false, Bool.false_and, Bool.and_false]
      · simp only [Bool.not_eq_true', Bool.not_eq_false'] at h2
        have ht : (r.team == [] || nameOk r.team) = true := by rw [h2]; rfl
        repeat refine And.intro rfl ?_
        refine And.intro (fun h3 => ?_) (fun h3 => ?_)
        · repeat refine And.intro rfl ?_
          refine Or.inl (Exists.intro _ (And.intro (i_nameBytes _) ?_))
          repeat refine And.intro rfl ?_
          refine And.intro (fun h4 => ?_) (fun h4 => ?_)
          · refine bd ?_
            simp only [Bool.not_eq_true', Bool.not_eq_false'] at h4
            simp only [ruleOk, h4, Bool.false_and, Bool.and_false]
          · simp only [Bool.not_eq_true', Bool.not_eq_false'] at h4
            have hp : decide ((r.prefix_.length : Int) > 16) = false := h3
            have ha := h4
            have e : ruleOk r = vrb none r.verbs := by simp only [ruleOk, hv, hk, ht, hp, ha, Bool.or_true, Bool.true_or, Bool.not_false, Bool.true_and]
            rw [e]
            repeat refine And.intro rfl ?_
            refine ⟨fun m l h => ∃ (i : Nat) , m = r.verbs.length - i ∧ i ≤ r.verbs.length ∧ (vrb none r.verbs = vrb (prevI r.verbs i) (r.verbs.drop i)) ∧ l = [(1, .ptr 0 0), (44, .d (lI r.verbs)), (45, .d (.int .i64 (r.verbs.map eN).length)), (46, .d (.int .i64 i))] ∧ h = ⟨[(0, .cells 45 (r.e.map .d))], 1, 0⟩,
              ⟨_, _, _, ⟨0, rfl, Nat.zero_le _, rfl, rfl, rfl⟩, rfl, rfl, ⟨rfl, rfl, rfl, rfl, trivial⟩, ⟨rfl, trivial⟩, ⟨rfl, trivial⟩⟩, ?_⟩
            rintro m l hh ⟨i, rfl, hi, hr, rfl, rfl⟩
            repeat refine And.intro rfl ?_
            refine And.intro (fun g1 => ?_) (fun g1 => ?_)
            · have hlt : i < r.verbs.length := lt_map g1
              rw [vrb_step hlt] at hr
              repeat refine And.intro rfl ?_
              refine ix_at (e := eN) (xs := r.verbs) (hlt) rfl ?_
              repeat refine And.intro rfl ?_
              repeat refine And.intro rfl ?_
              refine And.intro (fun g2 => ?_) (fun g2 => ?_)
              · repeat refine And.intro rfl ?_
                refine And.intro (fun g3 => ?_) (fun g3 => ?_)
                · have hin := inR_in g2 g3
                  repeat refine And.intro rfl ?_
                  refine And.intro (fun g4 => ?_) (fun g4 => ?_)
                  · have h0' := gt0 g4
                    repeat refine And.intro rfl ?_
                    refine ix_atw (e := eN) (xs := r.verbs) ((show i - 1 < r.verbs.length by omega)) (wrap_pred h0' hlt hs) rfl ?_
                    repeat refine And.intro rfl ?_
                    repeat refine And.intro rfl ?_
                    refine And.intro (fun g5 => ?_) (fun g5 => ?_)
                    · refine bd ?_
                      rw [hr, prevI_less hlt h0', show decide (r.verbs[i - 1]'(by omega) ≥ r.verbs[i]) = true from g5, hin]; rfl
                    · repeat refine And.intro rfl ?_
                      exact ⟨_, _, _, ⟨i + 1, rfl, hlt, by rw [hr, prevI_less hlt h0', show decide (r.verbs[i - 1]'(by omega) ≥ r.verbs[i]) = false from g5, hin]; rfl, rfl, rfl⟩, by omega, rfl, rfl, ⟨rfl, rfl, rfl, nd (wrap_succ hlt hs), trivial⟩, ⟨rfl, trivial⟩, ⟨rfl, trivial⟩⟩
                  · have hz := le0 g4
                    repeat refine And.intro rfl ?_
                    exact ⟨_, _, _, ⟨i + 1, rfl, hlt, by rw [hr, show lessI (prevI r.verbs i) r.verbs[i] = true from by subst hz; rfl, hin]; rfl, rfl, rfl⟩, by omega, rfl, rfl, ⟨rfl, rfl, rfl, nd (wrap_succ hlt hs), trivial⟩, ⟨rfl, trivial⟩, ⟨rfl, trivial⟩⟩
                · refine bd ?_
                  rw [hr, inR_hi g3]; rfl
              · refine bd ?_
                rw [hr, inR_lo g2]; rfl
            · refine bd ?_
              rw [hr, vrb_end (ge_map g1)]
        · refine bd ?_
          simp only [ruleOk, show decide ((r.prefix_.length : Int) > 16) = true from h3, Bool.not_true, Bool.false_and, Bool.and_false]
  · refine bd ?_
    rw [List.length_map] at h0
    simp only [ruleOk, h0, Bool.not_true, Bool.false_and]
end Go.Vc
