/- Contracts: asks and slips of the program. -/
import Derived.Test.YtcakciamoopkcaaGreatGtd
namespace Go.Vc
open Go.Proofs
set_option maxRecDepth 100000
set_option pp.maxSteps 400
set_option pp.deepTerms false
set_option linter.unusedSimpArgs false
set_option linter.unusedVariables false
theorem i_GateLawOk (l : GateLaw) : Spec P 48 [st l.e] (.d (.bool (lawOk l))) := by
  refine Spec.of_vc vcT vcM [.tmp 2] Tryz.func48 rfl rfl rfl rfl (fun hok => ?_)
  repeat refine And.intro rfl ?_
  refine Or.inl (Exists.intro _ (And.intro (i_GateMendsOk _ _) ?_))
  repeat refine And.intro rfl ?_
  refine And.intro (fun h => ?_) (fun h => ?_)
  · repeat refine And.intro rfl ?_
    refine Or.inl (Exists.intro _ (And.intro (i_GateTeamsOk _) ?_))
    refine bd ?_
    simp only [lawOk, h, Bool.true_and]
  · refine bd ?_
    simp only [lawOk, h, Bool.false_and]
theorem i_kindOk (l : GateLaw) (a : GateAsk) : Spec P 129 [st l.e, st a.e] (.d (.bool (kindF l a))) := by
  refine Spec.of_vc vcT vcM [.tmp 4] Tryz.func129 rfl rfl rfl rfl (fun hok => ?_)
  repeat refine And.intro rfl ?_
  refine Or.inl (Exists.intro _ (And.intro (i_shapeOf _ _) ?_))
  repeat refine And.intro rfl ?_
  refine And.intro (fun h => ?_) (fun h => ?_)
  · repeat refine And.intro rfl ?_
    refine Or.inl (Exists.intro _ (And.intro (i_isName _) ?_))
    refine bd ?_
    unfold kindF
    rw [show decide (kidx l a ≥ 0) = true from h]; rfl
  · refine bd ?_
    unfold kindF
    rw [show decide (kidx l a ≥ 0) = false from h]; rfl
theorem i_valuesOk (l : GateLaw) (a : GateAsk) : Spec P 130 [st l.e, st a.e] (.d (.bool (decide (kidx l a ≥ 0) && valsF l a))) := by
  refine Spec.of_vc vcT vcM [.tmp 4] Tryz.func130 rfl rfl rfl rfl (fun hok => ?_)
  repeat refine And.intro rfl ?_
  refine Or.inl (Exists.intro _ (And.intro (i_shapeOf _ _) ?_))
  repeat refine And.intro rfl ?_
  refine And.intro (by kernel_rfl) ?_
  repeat refine And.intro rfl ?_
  repeat refine And.intro rfl ?_
  refine And.intro (fun h => ?_) (fun h => ?_)
  · obtain ⟨j, hj, ej, _⟩ := idx_pos h
    repeat refine And.intro rfl ?_
    refine ix_atw (e := GateShape.e) (xs := l.shapes) (hj) (ej) rfl ?_
    repeat refine And.intro rfl ?_
    refine bd ?_
    rw [List.length_map, List.length_map, valsF_at hj ej, show decide (kidx l a ≥ 0) = true from h]; rfl
  · repeat refine And.intro rfl ?_
    refine bd ?_
    rw [show decide (kidx l a ≥ 0) = false from h]; rfl
def oneF (a : GateAsk) : GateAsk := ⟨[], 0, a.kind, a.name, a.team, a.values, a.holds, 0, [], [], noRule, 0⟩
def twoF (a : GateAsk) : GateAsk := ⟨[], 0, a.kind, a.name, [], a.values, [], a.seen, [], [], noRule, 0⟩
def threeF (a : GateAsk) : GateAsk := ⟨[], 0, a.kind, a.name, [], [], [], a.seen, [], [], noRule, 0⟩
def fourF (a : GateAsk) : GateAsk := ⟨[], 0, a.kind, a.name, [], [], [], 0, a.hold, [], noRule, 0⟩
def fiveF (a : GateAsk) : GateAsk := ⟨[], 0, [], [], [], [], [], 0, [], a.to_, a.rule, 0⟩
def sixF (a : GateAsk) : GateAsk := ⟨[], 0, [], [], [], [], [], 0, [], [], noRule, a.number⟩
theorem i_only1 (a : GateAsk) : Spec P 128 [.agg [], st a.e] (st (oneF a).e) := by
  refine Spec.of_vc vcT vcM [.cell 4 47] Tryz.func128 rfl rfl rfl rfl (fun hok => ?_)
  repeat refine And.intro rfl ?_
  rfl
theorem i_only2 (a : GateAsk) : Spec P 133 [.agg [], st a.e] (st (twoF a).e) := by
  refine Spec.of_vc vcT vcM [.cell 4 47] Tryz.func133 rfl rfl rfl rfl (fun hok => ?_)
  repeat refine And.intro rfl ?_
  rfl
theorem i_only3 (a : GateAsk) : Spec P 136 [.agg [], st a.e] (st (threeF a).e) := by
  refine Spec.of_vc vcT vcM [.cell 4 47] Tryz.func136 rfl rfl rfl rfl (fun hok => ?_)
  repeat refine And.intro rfl ?_
  rfl
theorem i_only4 (a : GateAsk) : Spec P 139 [.agg [], st a.e] (st (fourF a).e) := by
  refine Spec.of_vc vcT vcM [.cell 4 47] Tryz.func139 rfl rfl rfl rfl (fun hok => ?_)
  repeat refine And.intro rfl ?_
  rfl
theorem i_only5 (a : GateAsk) : Spec P 142 [.agg [], st a.e] (st (fiveF a).e) := by
  refine Spec.of_vc vcT vcM [.cell 4 47] Tryz.func142 rfl rfl rfl rfl (fun hok => ?_)
  repeat refine And.intro rfl ?_
  rfl
theorem i_only6 (a : GateAsk) : Spec P 145 [.agg [], st a.e] (st (sixF a).e) := by
  refine Spec.of_vc vcT vcM [.cell 4 47] Tryz.func145 rfl rfl rfl rfl (fun hok => ?_)
  repeat refine And.intro rfl ?_
  rfl
theorem i_form1 (l : GateLaw) (a : GateAsk) : Spec P 127 [.agg [], st l.e, st a.e] (.d (.bool (kindF l a && (l.teams.any (·.name == a.team) && ((decide (kidx l a ≥ 0) && valsF l a) && (decide ((a.holds.length : Int) ≤ 3) && asc a.holds)))))) := by
  refine Spec.of_vc vcT vcM [.tmp 6] Tryz.func127 rfl rfl rfl rfl (fun hok => ?_)
  repeat refine And.intro rfl ?_
  refine Or.inl (Exists.intro _ (And.intro (i_kindOk l a) ?_))
  rw [← idx_any]
  repeat' first
    | refine And.intro rfl ?_
    | refine And.intro (fun h => ?_) (fun h => ?_)
    | refine Or.inl (Exists.intro _ (And.intro (i_teamOf _ _) ?_))
    | refine Or.inl (Exists.intro _ (And.intro (i_valuesOk l a) ?_))
    | refine Or.inl (Exists.intro _ (And.intro (i_ascendingNames _) ?_))
  all_goals (refine bd ?_; first | (simp only [List.length_map, cond_true, cond_false, reduceCtorEq] at *; done) | ((try simp only [List.length_map, cond_true, cond_false] at *); simp only [Bool.and_true, *, Bool.false_or, Bool.true_or, Bool.or_false, Bool.or_true, Bool.and_true, Bool.true_and, Bool.and_false, Bool.false_and, Bool.not_true, Bool.not_false, Bool.not_not, cond_true, cond_false]))
theorem i_form2 (l : GateLaw) (a : GateAsk) : Spec P 132 [.agg [], st l.e, st a.e] (.d (.bool (kindF l a && ((decide (kidx l a ≥ 0) && valsF l a) && decide (a.seen ≥ 0))))) := by
  refine Spec.of_vc vcT vcM [.tmp 6] Tryz.func132 rfl rfl rfl rfl (fun hok => ?_)
  repeat refine And.intro rfl ?_
  refine Or.inl (Exists.intro _ (And.intro (i_kindOk l a) ?_))
  repeat' first
    | refine And.intro rfl ?_
    | refine And.intro (fun h => ?_) (fun h => ?_)
    | refine Or.inl (Exists.intro _ (And.intro (i_valuesOk l a) ?_))
  all_goals (refine bd ?_; first | (simp only [List.length_map, cond_true, cond_false, reduceCtorEq] at *; done) | ((try simp only [List.length_map, cond_true, cond_false] at *); simp only [Bool.and_true, *, Bool.false_or, Bool.true_or, Bool.or_false, Bool.or_true, Bool.and_true, Bool.true_and, Bool.and_false, Bool.false_and, Bool.not_true, Bool.not_false, Bool.not_not, cond_true, cond_false]))
theorem i_form3 (l : GateLaw) (a : GateAsk) : Spec P 135 [.agg [], st l.e, st a.e] (.d (.bool (kindF l a && decide (a.seen ≥ 0)))) := by
  refine Spec.of_vc vcT vcM [.tmp 6] Tryz.func135 rfl rfl rfl rfl (fun hok => ?_)
  repeat refine And.intro rfl ?_
  refine Or.inl (Exists.intro _ (And.intro (i_kindOk l a) ?_))
  repeat' first
    | refine And.intro rfl ?_
    | refine And.intro (fun h => ?_) (fun h => ?_)
  all_goals (refine bd ?_; first | (simp only [List.length_map, cond_true, cond_false, reduceCtorEq] at *; done) | ((try simp only [List.length_map, cond_true, cond_false] at *); simp only [Bool.and_true, *, Bool.false_or, Bool.true_or, Bool.or_false, Bool.or_true, Bool.and_true, Bool.true_and, Bool.and_false, Bool.false_and, Bool.not_true, Bool.not_false, Bool.not_not, cond_true, cond_false]))
theorem i_form4 (l : GateLaw) (a : GateAsk) : Spec P 138 [.agg [], st l.e, st a.e] (.d (.bool (kindF l a && nameOk a.hold))) := by
  refine Spec.of_vc vcT vcM [.tmp 6] Tryz.func138 rfl rfl rfl rfl (fun hok => ?_)
  repeat refine And.intro rfl ?_
  refine Or.inl (Exists.intro _ (And.intro (i_kindOk l a) ?_))
  repeat' first
    | refine And.intro rfl ?_
    | refine And.intro (fun h => ?_) (fun h => ?_)
    | refine Or.inl (Exists.intro _ (And.intro (i_isName _) ?_))
  all_goals (refine bd ?_; first | (simp only [List.length_map, cond_true, cond_false, reduceCtorEq] at *; done) | ((try simp only [List.length_map, cond_true, cond_false] at *); simp only [Bool.and_true, *, Bool.false_or, Bool.true_or, Bool.or_false, Bool.or_true, Bool.and_true, Bool.true_and, Bool.and_false, Bool.false_and, Bool.not_true, Bool.not_false, Bool.not_not, cond_true, cond_false]))
theorem i_form5 (l : GateLaw) (a : GateAsk) : Spec P 141 [.agg [], st l.e, st a.e] (.d (.bool (nameOk a.to_ && ruleOk a.rule))) := by
  refine Spec.of_vc vcT vcM [.tmp 6] Tryz.func141 rfl rfl rfl rfl (fun hok => ?_)
  repeat refine And.intro rfl ?_
  refine Or.inl (Exists.intro _ (And.intro (i_isName _) ?_))
  repeat' first
    | refine And.intro rfl ?_
    | refine And.intro (fun h => ?_) (fun h => ?_)
    | refine Or.inl (Exists.intro _ (And.intro (i_ruleOk a.rule) ?_))
  all_goals (refine bd ?_; first | (simp only [List.length_map, cond_true, cond_false, reduceCtorEq] at *; done) | ((try simp only [List.length_map, cond_true, cond_false] at *); simp only [Bool.and_true, *, Bool.false_or, Bool.true_or, Bool.or_false, Bool.or_true, Bool.and_true, Bool.true_and, Bool.and_false, Bool.false_and, Bool.not_true, Bool.not_false, Bool.not_not, cond_true, cond_false]))
theorem i_form6 (l : GateLaw) (a : GateAsk) : Spec P 144 [.agg [], st l.e, st a.e] (.d (.bool (decide (a.number ≥ 1)))) := by
  refine Spec.of_vc vcT vcM [.tmp 6] Tryz.func144 rfl rfl rfl rfl (fun hok => ?_)
  repeat refine And.intro rfl ?_
  rfl
theorem c_int (n : Int) : ((0 : Int) == n) = (n == 0) := by rw [Bool.eq_iff_iff, beq_iff_eq, beq_iff_eq]; exact eq_comm
theorem c_bs (s : Bs) : (([] : Bs) == s) = (s == []) := bs_comm _ _
theorem c_lenS (xs : List Bs) : (([] : List Bs) == xs) = ((xs.length : Int) == 0) := by cases xs <;> simp <;> omega
theorem c_lenI (xs : List Int) : (([] : List Int) == xs) = ((xs.length : Int) == 0) := by cases xs <;> simp <;> omega
theorem c_emp {α : Type} (xs : List α) : ((xs.length : Int) == 0) = xs.isEmpty := by cases xs <;> simp <;> omega
def progF (o a : GateAsk) : Bool := (((((((((o.kind == a.kind && o.name == a.name) && o.team == a.team) && o.values == a.values) && o.holds == a.holds) && o.seen == a.seen) && o.hold == a.hold) && o.to_ == a.to_) &&
  (o.rule.verbs == a.rule.verbs && (o.rule.kind == a.rule.kind && (o.rule.team == a.rule.team && o.rule.prefix_ == a.rule.prefix_)))) && o.number == a.number)
def onlyF (a : GateAsk) : GateAsk :=
  bif a.verb == 1 then oneF a else bif a.verb == 2 then twoF a else bif a.verb == 3 then threeF a else bif a.verb == 4 then fourF a else bif a.verb == 5 then fiveF a else sixF a
theorem prog_rest {a : GateAsk} (h : inR a.verb 1 6 = true) : progF (onlyF a) a = nothingF (restF a) := by
  obtain ⟨who, verb, kind, name, team, values, holds, seen, hold, to_, rule, number⟩ := a
  simp only [inR, Bool.and_eq_true, decide_eq_true_eq] at h
  have hv : verb = 1 ∨ verb = 2 ∨ verb = 3 ∨ verb = 4 ∨ verb = 5 ∨ verb = 6 := by omega
  rcases hv with rfl | rfl | rfl | rfl | rfl | rfl <;>
    simp [progF, onlyF, oneF, twoF, threeF, fourF, fiveF, sixF, nothingF, restF, noRule, c_int, c_emp, Bool.and_assoc]
theorem kind_vals {l : GateLaw} {a : GateAsk} (x : Bool) : (kindF l a && ((decide (kidx l a ≥ 0) && valsF l a) && x)) = (kindF l a && (valsF l a && x)) := by
  unfold kindF
  cases decide (kidx l a ≥ 0) <;> simp
theorem kind_vals2 {l : GateLaw} {a : GateAsk} (y x : Bool) : (kindF l a && (y && ((decide (kidx l a ≥ 0) && valsF l a) && x))) = (kindF l a && (y && (valsF l a && x))) := by
  unfold kindF
  cases decide (kidx l a ≥ 0) <;> simp
theorem i_verbs : Spec P 49 [] (.agg [.val .nilIface, .iface 129 (.agg []), .iface 130 (.agg []), .iface 131 (.agg []), .iface 132 (.agg []), .iface 133 (.agg []), .iface 134 (.agg [])]) := by
  refine Spec.of_vc vcT vcM [.cell 0 104] Tryz.func49 rfl rfl rfl rfl (fun hok => ?_)
  repeat refine And.intro rfl ?_
  rfl
end Go.Vc
