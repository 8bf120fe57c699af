/- Contracts: GateAskOk and GateSlipOk of the program. -/
import Derived.Test.YtcakciamoopkcaaGreatGte
namespace Go.Vc
open Go.Proofs
set_option maxRecDepth 100000
set_option pp.maxSteps 400
set_option pp.deepTerms false
set_option linter.unusedSimpArgs false
set_option linter.unusedVariables false
theorem ask_no {l : GateLaw} {a : GateAsk} (h : nameOk a.who = true) (h2 : inR a.verb 1 6 = true) : askOkF l a = (progF (onlyF a) a && formF l a) := by
  unfold askOkF
  rw [h, h2, prog_rest h2]; rfl
section
variable {l : GateLaw} {a : GateAsk} (h : nameOk a.who = true)
include h
theorem ask_1 (hv : a.verb = 1) : askOkF l a = (progF (oneF a) a && (kindF l a && (l.teams.any (·.name == a.team) && ((decide (kidx l a ≥ 0) && valsF l a) && (decide ((a.holds.length : Int) ≤ 3) && asc a.holds))))) := by
  rw [ask_no h (by rw [hv]; decide), kind_vals2]
  unfold onlyF formF; rw [hv]; rfl
theorem ask_2 (hv : a.verb = 2) : askOkF l a = (progF (twoF a) a && (kindF l a && ((decide (kidx l a ≥ 0) && valsF l a) && decide (a.seen ≥ 0)))) := by
  rw [ask_no h (by rw [hv]; decide), kind_vals]
  unfold onlyF formF; rw [hv]; rfl
theorem ask_3 (hv : a.verb = 3) : askOkF l a = (progF (threeF a) a && (kindF l a && decide (a.seen ≥ 0))) := by
  rw [ask_no h (by rw [hv]; decide)]
  unfold onlyF formF; rw [hv]; rfl
theorem ask_4 (hv : a.verb = 4) : askOkF l a = (progF (fourF a) a && (kindF l a && nameOk a.hold)) := by
  rw [ask_no h (by rw [hv]; decide)]
  unfold onlyF formF; rw [hv]; rfl
theorem ask_5 (hv : a.verb = 5) : askOkF l a = (progF (fiveF a) a && (nameOk a.to_ && ruleOk a.rule)) := by
  rw [ask_no h (by rw [hv]; decide)]
  unfold onlyF formF; rw [hv]; rfl
theorem ask_6 (hv : a.verb = 6) : askOkF l a = (progF (sixF a) a && decide (a.number ≥ 1)) := by
  rw [ask_no h (by rw [hv]; decide)]
  unfold onlyF formF; rw [hv]; rfl
end
set_option maxHeartbeats 4000000 in
theorem i_GateAskOk (l : GateLaw) (a : GateAsk) : Spec P 25 [st l.e, st a.e] (.d (.bool (lawOk l && askOkF l a))) := by
  refine Spec.of_vc vcT vcM [.tmp 4] Tryz.func25 rfl rfl rfl rfl (fun hok => ?_)
  repeat refine And.intro rfl ?_
  refine Or.inl (Exists.intro _ (And.intro (i_GateLawOk l) ?_))
  repeat refine And.intro rfl ?_
  refine And.intro (fun h0 => ?_) (fun h0 => ?_)
  · simp only [Bool.not_eq_true', Bool.not_eq_false'] at h0
    rw [h0, Bool.true_and]
    repeat refine And.intro rfl ?_
    refine Or.inl (Exists.intro _ (And.intro (i_isName _) ?_))
    repeat refine And.intro rfl ?_
    refine And.intro (fun h1 => ?_) (fun h1 => ?_)
    · simp only [Bool.not_eq_true', Bool.not_eq_false'] at h1
      repeat refine And.intro rfl ?_
      refine And.intro (fun h2 => ?_) (fun h2 => ?_)
      · repeat refine And.intro rfl ?_
        refine And.intro (fun h3 => ?_) (fun h3 => ?_)
        · refine bd ?_
          rw [askOk_verb (show inR a.verb 1 6 = false from by
            have := of_decide_eq_true h3
            simp only [inR, Bool.and_eq_false_iff, decide_eq_false_iff_not]; omega)]
        · have hv : a.verb = 1 ∨ a.verb = 2 ∨ a.verb = 3 ∨ a.verb = 4 ∨ a.verb = 5 ∨ a.verb = 6 := by
            have := of_decide_eq_false h2
            have := of_decide_eq_false h3
            omega
          rcases hv with hv | hv | hv | hv | hv | hv
          · rw [ask_1 h1 hv]
            repeat refine And.intro rfl ?_
            refine And.intro (by kernel_rfl) ?_
            repeat refine And.intro rfl ?_
            repeat refine And.intro rfl ?_
            refine Or.inl (Exists.intro _ (And.intro (i_verbs) ?_))
            repeat refine And.intro rfl ?_
            refine And.intro (show (0 : Int) ≤ a.verb ∧ a.verb < 7 from by omega) ⟨.iface 129 (.agg []), by rw [hv]; rfl, ?_⟩
            repeat refine And.intro rfl ?_
            repeat refine And.intro rfl ?_
            refine Or.inl (Exists.intro _ (And.intro (i_only1 a) ?_))
            repeat' first
              | refine And.intro rfl ?_
              | refine And.intro (fun h => ?_) (fun h => ?_)
              | refine Or.inl (Exists.intro _ (And.intro (i_equalTexts _ _) ?_))
              | refine Or.inl (Exists.intro _ (And.intro (i_sameRule (oneF a).rule a.rule) ?_))
              | refine Or.inl (Exists.intro _ (And.intro (i_form1 l a) ?_))
            all_goals (refine bd ?_; simp only [progF, *, Bool.true_and, Bool.and_true, Bool.false_and, Bool.and_false])
          · rw [ask_2 h1 hv]
            repeat refine And.intro rfl ?_
            refine And.intro (by kernel_rfl) ?_
            repeat refine And.intro rfl ?_
            repeat refine And.intro rfl ?_
            refine Or.inl (Exists.intro _ (And.intro (i_verbs) ?_))
            repeat refine And.intro rfl ?_
            refine And.intro (show (0 : Int) ≤ a.verb ∧ a.verb < 7 from by omega) ⟨.iface 130 (.agg []), by rw [hv]; rfl, ?_⟩
            repeat refine And.intro rfl ?_
            repeat refine And.intro rfl ?_
            refine Or.inl (Exists.intro _ (And.intro (i_only2 a) ?_))
            repeat' first
              | refine And.intro rfl ?_
              | refine And.intro (fun h => ?_) (fun h => ?_)
              | refine Or.inl (Exists.intro _ (And.intro (i_equalTexts _ _) ?_))
              | refine Or.inl (Exists.intro _ (And.intro (i_sameRule (twoF a).rule a.rule) ?_))
              | refine Or.inl (Exists.intro _ (And.intro (i_form2 l a) ?_))
            all_goals (refine bd ?_; simp only [progF, *, Bool.true_and, Bool.and_true, Bool.false_and, Bool.and_false])
          · rw [ask_3 h1 hv]
            repeat refine And.intro rfl ?_
            refine And.intro (by kernel_rfl) ?_
            repeat refine And.intro rfl ?_
            repeat refine And.intro rfl ?_
            refine Or.inl (Exists.intro _ (And.intro (i_verbs) ?_))
            repeat refine And.intro rfl ?_
            refine And.intro (show (0 : Int) ≤ a.verb ∧ a.verb < 7 from by omega) ⟨.iface 131 (.agg []), by rw [hv]; rfl, ?_⟩
            repeat refine And.intro rfl ?_
            repeat refine And.intro rfl ?_
            refine Or.inl (Exists.intro _ (And.intro (i_only3 a) ?_))
            repeat' first
              | refine And.intro rfl ?_
              | refine And.intro (fun h => ?_) (fun h => ?_)
              | refine Or.inl (Exists.intro _ (And.intro (i_equalTexts _ _) ?_))
              | refine Or.inl (Exists.intro _ (And.intro (i_sameRule (threeF a).rule a.rule) ?_))
              | refine Or.inl (Exists.intro _ (And.intro (i_form3 l a) ?_))
            all_goals (refine bd ?_; simp only [progF, *, Bool.true_and, Bool.and_true, Bool.false_and, Bool.and_false])
          · rw [ask_4 h1 hv]
            repeat refine And.intro rfl ?_
            refine And.intro (by kernel_rfl) ?_
            repeat refine And.intro rfl ?_
            repeat refine And.intro rfl ?_
            refine Or.inl (Exists.intro _ (And.intro (i_verbs) ?_))
            repeat refine And.intro rfl ?_
            refine And.intro (show (0 : Int) ≤ a.verb ∧ a.verb < 7 from by omega) ⟨.iface 132 (.agg []), by rw [hv]; rfl, ?_⟩
            repeat refine And.intro rfl ?_
            repeat refine And.intro rfl ?_
            refine Or.inl (Exists.intro _ (And.intro (i_only4 a) ?_))
            repeat' first
              | refine And.intro rfl ?_
              | refine And.intro (fun h => ?_) (fun h => ?_)
              | refine Or.inl (Exists.intro _ (And.intro (i_equalTexts _ _) ?_))
              | refine Or.inl (Exists.intro _ (And.intro (i_sameRule (fourF a).rule a.rule) ?_))
              | refine Or.inl (Exists.intro _ (And.intro (i_form4 l a) ?_))
            all_goals (refine bd ?_; simp only [progF, *, Bool.true_and, Bool.and_true, Bool.false_and, Bool.and_false])
          · rw [ask_5 h1 hv]
            repeat refine And.intro rfl ?_
            refine And.intro (by kernel_rfl) ?_
            repeat refine And.intro rfl ?_
            repeat refine And.intro rfl ?_
            refine Or.inl (Exists.intro _ (And.intro (i_verbs) ?_))
            repeat refine And.intro rfl ?_
            refine And.intro (show (0 : Int) ≤ a.verb ∧ a.verb < 7 from by omega) ⟨.iface 133 (.agg []), by rw [hv]; rfl, ?_⟩
            repeat refine And.intro rfl ?_
            repeat refine And.intro rfl ?_
            refine Or.inl (Exists.intro _ (And.intro (i_only5 a) ?_))
            repeat' first
              | refine And.intro rfl ?_
              | refine And.intro (fun h => ?_) (fun h => ?_)
              | refine Or.inl (Exists.intro _ (And.intro (i_equalTexts _ _) ?_))
              | refine Or.inl (Exists.intro _ (And.intro (i_sameRule (fiveF a).rule a.rule) ?_))
              | refine Or.inl (Exists.intro _ (And.intro (i_form5 l a) ?_))
            all_goals (refine bd ?_; simp only [progF, *, Bool.true_and, Bool.and_true, Bool.false_and, Bool.and_false])
          · rw [ask_6 h1 hv]
            repeat refine And.intro rfl ?_
            refine And.intro (by kernel_rfl) ?_
            repeat refine And.intro rfl ?_
            repeat refine And.intro rfl ?_
            refine Or.inl (Exists.intro _ (And.intro (i_verbs) ?_))
            repeat refine And.intro rfl ?_
            refine And.intro (show (0 : Int) ≤ a.verb ∧ a.verb < 7 from by omega) ⟨.iface 134 (.agg []), by rw [hv]; rfl, ?_⟩
            repeat refine And.intro rfl ?_
            repeat refine And.intro rfl ?_
            refine Or.inl (Exists.intro _ (And.intro (i_only6 a) ?_))
            repeat' first
              | refine And.intro rfl ?_
              | refine And.intro (fun h => ?_) (fun h => ?_)
              | refine Or.inl (Exists.intro _ (And.intro (i_equalTexts _ _) ?_))
              | refine Or.inl (Exists.intro _ (And.intro (i_sameRule (sixF a).rule a.rule) ?_))
              | refine Or.inl (Exists.intro _ (And.intro (i_form6 l a) ?_))
            all_goals (refine bd ?_; simp only [progF, *, Bool.true_and, Bool.and_true, Bool.false_and, Bool.and_false])
      · refine bd ?_
        rw [askOk_verb (show inR a.verb 1 6 = false from by
            have := of_decide_eq_true h2
            simp only [inR, Bool.and_eq_false_iff, decide_eq_false_iff_not]; omega)]
    · simp only [Bool.not_eq_true', Bool.not_eq_false'] at h1
      refine bd ?_
      rw [askOk_who h1]
  · simp only [Bool.not_eq_true', Bool.not_eq_false'] at h0
    refine bd ?_
    rw [h0]; rfl
theorem i_GateSlipOk (l : GateLaw) (s : GateSlip) : Spec P 9 [st l.e, st s.e] (.d (.bool (lawOk l && slipF l s))) := by
  refine Spec.of_vc vcT vcM [.tmp 4] Tryz.func9 rfl rfl rfl rfl (fun hok => ?_)
  repeat refine And.intro rfl ?_
  refine Or.inl (Exists.intro _ (And.intro (i_isName _) ?_))
  repeat refine And.intro rfl ?_
  refine And.intro (fun h1 => ?_) (fun h1 => ?_)
  · simp only [Bool.not_eq_true', Bool.not_eq_false'] at h1
    repeat refine And.intro rfl ?_
    refine Or.inl (Exists.intro _ (And.intro (i_GateAskOk l s.ask) ?_))
    repeat refine And.intro rfl ?_
    refine And.intro (fun h2 => ?_) (fun h2 => ?_)
    · simp only [Bool.not_eq_true', Bool.not_eq_false', Bool.and_eq_true] at h2
      repeat refine And.intro rfl ?_
      refine And.intro (fun h3 => ?_) (fun h3 => ?_)
      · repeat refine And.intro rfl ?_
        refine And.intro (fun h4 => ?_) (fun h4 => ?_)
        · rw [List.length_map] at h4
          refine bd ?_
          rw [slipF_len h4, Bool.and_false]
        · rw [List.length_map] at h4
          have hs : s.wants.length ≤ big := by have := of_decide_eq_false h4; unfold big; omega
          rw [slipF_all h1 h2.2 h3 h4, h2.1, Bool.true_and]
          repeat refine And.intro rfl ?_
          refine ⟨fun m l h => ∃ (i : Nat) , m = s.wants.length - i ∧ i ≤ s.wants.length ∧ (s.wants.all wantF = (s.wants.drop i).all wantF) ∧ l = [(30, .d (lGateWant s.wants)), (31, .d (.int .i64 (s.wants.map GateWant.e).length)), (32, .d (.int .i64 i))] ∧ h = hp0,
            ⟨_, _, _, ⟨0, rfl, Nat.zero_le _, rfl, rfl, rfl⟩, rfl, rfl, ⟨rfl, rfl, rfl, trivial⟩, trivial, trivial⟩, ?_⟩
          rintro m l hh ⟨i, rfl, hi, hr, rfl, rfl⟩
          repeat refine And.intro rfl ?_
          refine And.intro (fun h5 => ?_) (fun h5 => ?_)
          · have hlt : i < s.wants.length := lt_map h5
            rw [all_step hlt] at hr
            repeat refine And.intro rfl ?_
            refine ix_at (e := GateWant.e) (xs := s.wants) (hlt) rfl ?_
            repeat refine And.intro rfl ?_
            repeat' first
              | refine And.intro rfl ?_
              | refine And.intro (fun h => ?_) (fun h => ?_)
              | refine Or.inl (Exists.intro _ (And.intro (i_isName _) ?_))
            all_goals first
              | (refine bd ?_; (try simp only [Bool.not_eq_true', Bool.not_eq_false'] at *); rw [hr]; simp only [wantF, *, Bool.true_and, Bool.false_and, Bool.and_true, Bool.and_false, Bool.not_true, Bool.not_false]; done)
              | exact ⟨_, _, _, ⟨i + 1, rfl, hlt, (by (try simp only [Bool.not_eq_true', Bool.not_eq_false'] at *); rw [hr]; simp only [wantF, *, Bool.true_and, Bool.false_and, Bool.and_true, Bool.and_false, Bool.not_true, Bool.not_false]), rfl, rfl⟩, by omega, rfl, rfl, ⟨rfl, rfl, nd (wrap_succ hlt hs), trivial⟩, trivial, trivial⟩
          · refine bd ?_
            rw [hr, all_end (ge_map h5)]; rfl
      · refine bd ?_
        rw [slipF_given h3, Bool.and_false]
    · simp only [Bool.not_eq_true', Bool.not_eq_false'] at h2
      refine bd ?_
      cases hl : lawOk l with
      | false => rfl
      | true =>
        rw [hl, Bool.true_and] at h2
        rw [slipF_ask h2]; rfl
  · simp only [Bool.not_eq_true', Bool.not_eq_false'] at h1
    refine bd ?_
    rw [slipF_door h1, Bool.and_false]
end Go.Vc
