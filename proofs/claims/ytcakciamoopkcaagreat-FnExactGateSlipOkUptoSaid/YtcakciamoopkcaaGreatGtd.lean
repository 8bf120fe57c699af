/- Contracts: slips of the specification. -/
import Derived.Test.YtcakciamoopkcaaGreatGtc
namespace Go.Vc
open Go.Proofs
set_option maxRecDepth 100000
set_option pp.maxSteps 400
set_option pp.deepTerms false
set_option linter.unusedSimpArgs false
set_option linter.unusedVariables false
theorem slipF_door {l : GateLaw} {s : GateSlip} (h : nameOk s.door = false) : slipF l s = false := by unfold slipF; rw [h]; rfl
theorem slipF_ask {l : GateLaw} {s : GateSlip} (h : askOkF l s.ask = false) : slipF l s = false := by unfold slipF; rw [h]; simp
theorem slipF_given {l : GateLaw} {s : GateSlip} (h : decide (s.given < 0) = true) : slipF l s = false := by unfold slipF; rw [h]; simp
theorem slipF_len {l : GateLaw} {s : GateSlip} (h : decide ((s.wants.length : Int) > 8) = true) : slipF l s = false := by unfold slipF; rw [h]; simp
theorem slipF_all {l : GateLaw} {s : GateSlip} (h1 : nameOk s.door = true) (h2 : askOkF l s.ask = true) (h3 : decide (s.given < 0) = false) (h4 : decide ((s.wants.length : Int) > 8) = false) : slipF l s = s.wants.all wantF := by unfold slipF; rw [h1, h2, h3, h4]; rfl
theorem s_l9SlipOk (l : GateLaw) (s : GateSlip) : Spec P 18 [st l.e, st s.e] (.d (.bool (slipF l s))) := by
  refine Spec.of_vc vcT vcM [.tmp 4] Tryz.func18 rfl rfl rfl rfl (fun hok => ?_)
  repeat refine And.intro rfl ?_
  refine Or.inl (Exists.intro _ (And.intro (s_l1NameOk _) ?_))
  repeat refine And.intro rfl ?_
  refine And.intro (fun h1 => ?_) (fun h1 => ?_)
  · simp only [Bool.not_eq_true', Bool.not_eq_false'] at h1
    repeat refine And.intro rfl ?_
    refine Or.inl (Exists.intro _ (And.intro (s_l8AskOk l s.ask) ?_))
    repeat refine And.intro rfl ?_
    refine And.intro (fun h2 => ?_) (fun h2 => ?_)
    · simp only [Bool.not_eq_true', Bool.not_eq_false'] at h2
      repeat refine And.intro rfl ?_
      refine And.intro (fun h3 => ?_) (fun h3 => ?_)
      · repeat refine And.intro rfl ?_
        refine And.intro (fun h4 => ?_) (fun h4 => ?_)
        · rw [List.length_map] at h4
          refine bd ?_
          rw [slipF_len h4]
        · rw [List.length_map] at h4
          have hs : s.wants.length ≤ big := by have := of_decide_eq_false h4; unfold big; omega
          rw [slipF_all h1 h2 h3 h4]
          repeat refine And.intro rfl ?_
          refine ⟨fun m l h => ∃ (i : Nat) , m = s.wants.length - i ∧ i ≤ s.wants.length ∧ (s.wants.all wantF = (s.wants.drop i).all wantF) ∧ l = [(3, .ptr 1 0), (5, .d (.int .i64 i))] ∧ h = ⟨[(1, .cells 50 (s.e.map .d))], 2, 0⟩,
            ⟨_, _, _, ⟨0, rfl, Nat.zero_le _, rfl, rfl, rfl⟩, rfl, rfl, ⟨rfl, rfl, trivial⟩, ⟨rfl, trivial⟩, ⟨rfl, trivial⟩⟩, ?_⟩
          rintro m l hh ⟨i, rfl, hi, hr, rfl, rfl⟩
          repeat refine And.intro rfl ?_
          refine And.intro (fun h5 => ?_) (fun h5 => ?_)
          · have hlt : i < s.wants.length := lt_map h5
            rw [all_step hlt] at hr
            repeat refine And.intro rfl ?_
            refine ix_at (e := GateWant.e) (xs := s.wants) (hlt) rfl ?_
            repeat refine And.intro rfl ?_
            repeat' first
              | refine And.intro rfl ?_
              | refine And.intro (fun h => ?_) (fun h => ?_)
              | refine Or.inl (Exists.intro _ (And.intro (s_l1NameOk _) ?_))
              | (refine ix_at (e := GateWant.e) (xs := s.wants) hlt rfl ?_)
            all_goals first
              | (refine bd ?_; (try simp only [Bool.not_eq_true', Bool.not_eq_false'] at *); rw [hr]; simp only [wantF, *, Bool.true_and, Bool.false_and, Bool.and_true, Bool.and_false, Bool.not_true, Bool.not_false]; done)
              | exact ⟨_, _, _, ⟨i + 1, rfl, hlt, (by (try simp only [Bool.not_eq_true', Bool.not_eq_false'] at *); rw [hr]; simp only [wantF, *, Bool.true_and, Bool.false_and, Bool.and_true, Bool.and_false, Bool.not_true, Bool.not_false]), rfl, rfl⟩, by omega, rfl, rfl, ⟨rfl, nd (wrap_succ hlt hs), trivial⟩, ⟨rfl, trivial⟩, ⟨rfl, trivial⟩⟩
          · refine bd ?_
            rw [hr, all_end (ge_map h5)]
      · refine bd ?_
        rw [slipF_given h3]
    · simp only [Bool.not_eq_true', Bool.not_eq_false'] at h2
      refine bd ?_
      rw [slipF_ask h2]
  · simp only [Bool.not_eq_true', Bool.not_eq_false'] at h1
    refine bd ?_
    rw [slipF_door h1]
theorem s_GateSlipOk (l : GateLaw) (s : GateSlip) : Spec P 6 [st l.e, st s.e] (.d (.bool (lawOk l && slipF l s))) := by
  refine Spec.of_vc vcT vcM [.tmp 4] Tryz.func6 rfl rfl rfl rfl (fun hok => ?_)
  repeat refine And.intro rfl ?_
  refine Or.inl (Exists.intro _ (And.intro (s_GateLawOk l) ?_))
  repeat refine And.intro rfl ?_
  refine And.intro (fun h => ?_) (fun h => ?_)
  · repeat refine And.intro rfl ?_
    refine Or.inl (Exists.intro _ (And.intro (s_l9SlipOk l s) ?_))
    refine bd ?_
    simp only [h, Bool.true_and]
  · refine bd ?_
    simp only [h, Bool.false_and]
end Go.Vc
