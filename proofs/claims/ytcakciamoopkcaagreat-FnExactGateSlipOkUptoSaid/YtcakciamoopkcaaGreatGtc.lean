/- Asks and slips: what is computed, and the specification's contracts. -/
import Derived.Test.YtcakciamoopkcaaGreatGta
import Derived.Test.YtcakciamoopkcaaGreatGtb
namespace Go.Vc
open Go.Proofs
set_option maxRecDepth 100000
set_option pp.maxSteps 400
set_option pp.deepTerms false
set_option linter.unusedSimpArgs false
set_option linter.unusedVariables false
def lawOk (l : GateLaw) : Bool := mendsOk l.shapes l.mends && teamsOk l.teams
def noRule : GateRule := ⟨[], [], [], []⟩
def restF (a : GateAsk) : GateAsk :=
  bif a.verb == 1 then { a with who := [], kind := [], name := [], team := [], values := [], holds := [] } else
  bif a.verb == 2 then { a with who := [], kind := [], name := [], values := [], seen := 0 } else
  bif a.verb == 3 then { a with who := [], kind := [], name := [], seen := 0 } else
  bif a.verb == 4 then { a with who := [], kind := [], name := [], hold := [] } else
  bif a.verb == 5 then { a with who := [], to_ := [], rule := noRule } else
  bif a.verb == 6 then { a with who := [], number := 0 } else { a with who := [] }
def nothingF (a : GateAsk) : Bool :=
  ((((((((((((a.kind == [] && a.name == []) && a.team == []) && ((a.values.length : Int) == 0)) && ((a.holds.length : Int) == 0)) && a.seen == 0) && a.hold == []) && a.to_ == []) && ((a.rule.verbs.length : Int) == 0)) && a.rule.kind == []) && a.rule.team == []) && a.rule.prefix_ == []) && a.number == 0)
def kidx (l : GateLaw) (a : GateAsk) : Int := idx (·.kind == a.kind) l.shapes
def kindF (l : GateLaw) (a : GateAsk) : Bool := decide (kidx l a ≥ 0) && nameOk a.name
def valsF (l : GateLaw) (a : GateAsk) : Bool := match l.shapes[(kidx l a).toNat]? with
  | some s => ((a.values.length : Int) == (s.fields.length : Int))
  | none => false
def formF (l : GateLaw) (a : GateAsk) : Bool :=
  bif a.verb == 1 then (kindF l a && (l.teams.any (·.name == a.team) && (valsF l a && (decide ((a.holds.length : Int) ≤ 3) && asc a.holds)))) else
  bif a.verb == 2 then (kindF l a && (valsF l a && decide (a.seen ≥ 0))) else
  bif a.verb == 3 then (kindF l a && decide (a.seen ≥ 0)) else
  bif a.verb == 4 then (kindF l a && nameOk a.hold) else
  bif a.verb == 5 then (nameOk a.to_ && ruleOk a.rule) else decide (a.number ≥ 1)
def askOkF (l : GateLaw) (a : GateAsk) : Bool := nameOk a.who && (inR a.verb 1 6 && (nothingF (restF a) && formF l a))
def wantF (w : GateWant) : Bool := nameOk w.kind && (nameOk w.name && !decide (w.version < 0))
def slipF (l : GateLaw) (s : GateSlip) : Bool := nameOk s.door && (askOkF l s.ask && (!decide (s.given < 0) && (!decide ((s.wants.length : Int) > 8) && s.wants.all wantF)))
theorem s_GateLawOk (l : GateLaw) : Spec P 17 [st l.e] (.d (.bool (lawOk l))) := by
  refine Spec.of_vc vcT vcM [.tmp 2] Tryz.func17 rfl rfl rfl rfl (fun hok => ?_)
  repeat refine And.intro rfl ?_
  refine Or.inl (Exists.intro _ (And.intro (s_GateMendsOk _ _) ?_))
  repeat refine And.intro rfl ?_
  refine And.intro (fun h => ?_) (fun h => ?_)
  · repeat refine And.intro rfl ?_
    refine Or.inl (Exists.intro _ (And.intro (s_GateTeamsOk _) ?_))
    refine bd ?_
    simp only [lawOk, h, Bool.true_and]
  · refine bd ?_
    simp only [lawOk, h, Bool.false_and]
theorem s_l8Nothing (a : GateAsk) : Spec P 67 [st a.e] (.d (.bool (nothingF a))) := by
  refine Spec.of_vc vcT vcM [.tmp 2] Tryz.func67 rfl rfl rfl rfl (fun hok => ?_)
  repeat' first
    | refine And.intro rfl ?_
    | refine And.intro (fun h => ?_) (fun h => ?_)
  all_goals (refine bd ?_; (try simp only [List.length_map, cond_true, cond_false] at *); simp only [nothingF, *, Bool.false_or, Bool.true_or, Bool.or_false, Bool.or_true, Bool.and_true, Bool.true_and, Bool.and_false, Bool.false_and, Bool.not_true, Bool.not_false, Bool.not_not, cond_true, cond_false])
theorem s_l8Rest (a : GateAsk) : Spec P 68 [st a.e] (st (restF a).e) := by
  refine Spec.of_vc vcT vcM [.cell 2 47] Tryz.func68 rfl rfl rfl rfl (fun hok => ?_)
  repeat' first
    | refine And.intro rfl ?_
    | refine And.intro (fun h => ?_) (fun h => ?_)
  all_goals (have e : restF a = restF a := rfl; conv at e => lhs; unfold restF; simp only [*, cond_true, cond_false])
  all_goals (rw [← e]; rfl)
theorem getK {xs : List GateShape} {n : Int} {j : Nat} (hj : j < xs.length) (e : n = (j : Int)) : xs[n.toNat]? = some xs[j] := by
  rw [e, Int.toNat_natCast, List.getElem?_eq_getElem hj]
theorem valsF_at {l : GateLaw} {a : GateAsk} {j : Nat} (hj : j < l.shapes.length) (e : kidx l a = (j : Int)) : valsF l a = ((a.values.length : Int) == (l.shapes[j].fields.length : Int)) := by
  unfold valsF
  rw [getK hj e]
theorem askOk_who {l : GateLaw} {a : GateAsk} (h : nameOk a.who = false) : askOkF l a = false := by unfold askOkF; rw [h]; rfl
theorem askOk_verb {l : GateLaw} {a : GateAsk} (h : inR a.verb 1 6 = false) : askOkF l a = false := by unfold askOkF; rw [h]; simp
theorem askOk_rest {l : GateLaw} {a : GateAsk} (h : nothingF (restF a) = false) : askOkF l a = false := by unfold askOkF; rw [h]; simp
theorem askOk_form {l : GateLaw} {a : GateAsk} (h1 : nameOk a.who = true) (h2 : inR a.verb 1 6 = true) (h3 : nothingF (restF a) = true) : askOkF l a = formF l a := by unfold askOkF; rw [h1, h2, h3]; rfl
theorem ne_verb {v k : Int} (hk : k ≤ 4) (h : decide (v ≤ 4) = false) : (v == k) = false := by
  have := of_decide_eq_false h
  rw [← Bool.not_eq_true, beq_iff_eq]; omega
theorem no_verb {v : Int} (h : inR v 1 6 = true) (h4 : decide (v ≤ 4) = true) (v1 : (v == 1) = false) (v2 : (v == 2) = false) (v3 : (v == 3) = false) (v4 : (v == 4) = false) : False := by
  have := of_decide_eq_true h4
  simp only [inR, Bool.and_eq_true, decide_eq_true_eq] at h
  rw [← Bool.not_eq_true, beq_iff_eq] at v1 v2 v3 v4
  omega
theorem formF_kind {l : GateLaw} {a : GateAsk} (h : inR a.verb 1 6 = true) (h4 : decide (a.verb ≤ 4) = true) (hk : kindF l a = false) : formF l a = false := by
  unfold formF
  rw [hk]
  cases v1 : a.verb == 1 with
  | true => rfl
  | false => cases v2 : a.verb == 2 with
    | true => rfl
    | false => cases v3 : a.verb == 3 with
      | true => rfl
      | false => cases v4 : a.verb == 4 with
        | true => rfl
        | false => exact (no_verb h h4 v1 v2 v3 v4).elim
set_option maxHeartbeats 4000000 in
theorem s_l8AskOk (l : GateLaw) (a : GateAsk) : Spec P 40 [st l.e, st a.e] (.d (.bool (askOkF l a))) := by
  refine Spec.of_vc vcT vcM [.tmp 4] Tryz.func40 rfl rfl rfl rfl (fun hok => ?_)
  repeat refine And.intro rfl ?_
  refine Or.inl (Exists.intro _ (And.intro (s_l1NameOk _) ?_))
  repeat refine And.intro rfl ?_
  refine And.intro (fun h1 => ?_) (fun h1 => ?_)
  · simp only [Bool.not_eq_true', Bool.not_eq_false'] at h1
    repeat refine And.intro rfl ?_
    refine Or.inl (Exists.intro _ (And.intro (s_l1In _ _ _) ?_))
    repeat refine And.intro rfl ?_
    refine And.intro (fun h2 => ?_) (fun h2 => ?_)
    · simp only [Bool.not_eq_true', Bool.not_eq_false'] at h2
      repeat refine And.intro rfl ?_
      refine Or.inl (Exists.intro _ (And.intro (s_l8Rest a) ?_))
      repeat refine And.intro rfl ?_
      refine Or.inl (Exists.intro _ (And.intro (s_l8Nothing (restF a)) ?_))
      repeat refine And.intro rfl ?_
      refine And.intro (fun h3 => ?_) (fun h3 => ?_)
      · simp only [Bool.not_eq_true', Bool.not_eq_false'] at h3
        refine bd ?_
        rw [askOk_rest h3]
      · simp only [Bool.not_eq_true', Bool.not_eq_false'] at h3
        rw [askOk_form h1 h2 h3]
        repeat refine And.intro rfl ?_
        refine Or.inl (Exists.intro _ (And.intro (s_l1Shape _ _) ?_))
        repeat refine And.intro rfl ?_
        refine And.intro (fun h4 => ?_) (fun h4 => ?_)
        · repeat refine And.intro rfl ?_
          refine And.intro (fun h5 => ?_) (fun h5 => ?_)
          · obtain ⟨j, hj, ej, _⟩ := idx_pos (p := fun s : GateShape => s.kind == a.kind) (xs := l.shapes) (decide_eq_true (by have := of_decide_eq_false h5; omega))
            repeat refine And.intro rfl ?_
            refine Or.inl (Exists.intro _ (And.intro (s_l1NameOk _) ?_))
            repeat refine And.intro rfl ?_
            refine And.intro (fun h6 => ?_) (fun h6 => ?_)
            · change (!nameOk a.name) = true at h6
              simp only [Bool.not_eq_true', Bool.not_eq_false'] at h6
              refine bd ?_
              rw [formF_kind h2 h4 (by unfold kindF; rw [h6, Bool.and_false])]
            · change (!nameOk a.name) = false at h6
              simp only [Bool.not_eq_true', Bool.not_eq_false'] at h6
              have hk : kindF l a = true := by
                unfold kindF kidx
                rw [h6, ej]; simp
              repeat refine And.intro rfl ?_
              refine And.intro (fun v1 => ?_) (fun v1 => ?_)
              · repeat refine And.intro rfl ?_
                refine And.intro (by kernel_rfl) ?_
                repeat refine And.intro rfl ?_
                repeat refine And.intro rfl ?_
                refine ix_atw (e := GateShape.e) (xs := l.shapes) (hj) (ej) rfl ?_
                repeat refine And.intro rfl ?_
                repeat' first
                  | refine And.intro rfl ?_
                  | refine And.intro (fun h => ?_) (fun h => ?_)
                  | refine Or.inl (Exists.intro _ (And.intro (s_l4Team _ _) ?_))
                  | refine Or.inl (Exists.intro _ (And.intro (s_l1Ascending _) ?_))
                all_goals (refine bd ?_; first | (simp only [List.length_map, cond_true, cond_false, reduceCtorEq] at *; done) | ((try simp only [List.length_map, cond_true, cond_false] at *); simp only [formF, v1, hk, valsF_at hj ej, *, Bool.false_or, Bool.true_or, Bool.or_false, Bool.or_true, Bool.and_true, Bool.true_and, Bool.and_false, Bool.false_and, Bool.not_true, Bool.not_false, Bool.not_not, cond_true, cond_false]))
              · repeat refine And.intro rfl ?_
                refine And.intro (fun v2 => ?_) (fun v2 => ?_)
                · repeat refine And.intro rfl ?_
                  refine And.intro (by kernel_rfl) ?_
                  repeat refine And.intro rfl ?_
                  repeat refine And.intro rfl ?_
                  refine ix_atw (e := GateShape.e) (xs := l.shapes) (hj) (ej) rfl ?_
                  repeat refine And.intro rfl ?_
                  repeat' first
                    | refine And.intro rfl ?_
                    | refine And.intro (fun h => ?_) (fun h => ?_)
                  all_goals (refine bd ?_; first | (simp only [List.length_map, cond_true, cond_false, reduceCtorEq] at *; done) | ((try simp only [List.length_map, cond_true, cond_false] at *); simp only [formF, v1, v2, hk, valsF_at hj ej, *, Bool.false_or, Bool.true_or, Bool.or_false, Bool.or_true, Bool.and_true, Bool.true_and, Bool.and_false, Bool.false_and, Bool.not_true, Bool.not_false, Bool.not_not, cond_true, cond_false]))
                · repeat refine And.intro rfl ?_
                  refine And.intro (fun v3 => ?_) (fun v3 => ?_)
                  · repeat' first
                      | refine And.intro rfl ?_
                      | refine And.intro (fun h => ?_) (fun h => ?_)
                    all_goals (refine bd ?_; first | (simp only [List.length_map, cond_true, cond_false, reduceCtorEq] at *; done) | ((try simp only [List.length_map, cond_true, cond_false] at *); simp only [formF, v1, v2, v3, hk, *, Bool.false_or, Bool.true_or, Bool.or_false, Bool.or_true, Bool.and_true, Bool.true_and, Bool.and_false, Bool.false_and, Bool.not_true, Bool.not_false, Bool.not_not, cond_true, cond_false]))
                  · repeat refine And.intro rfl ?_
                    refine And.intro (fun v4 => ?_) (fun v4 => ?_)
                    · repeat' first
                        | refine And.intro rfl ?_
                        | refine And.intro (fun h => ?_) (fun h => ?_)
                        | refine Or.inl (Exists.intro _ (And.intro (s_l1NameOk _) ?_))
                      all_goals (refine bd ?_; first | (simp only [List.length_map, cond_true, cond_false, reduceCtorEq] at *; done) | ((try simp only [List.length_map, cond_true, cond_false] at *); simp only [formF, v1, v2, v3, v4, hk, *, Bool.false_or, Bool.true_or, Bool.or_false, Bool.or_true, Bool.and_true, Bool.true_and, Bool.and_false, Bool.false_and, Bool.not_true, Bool.not_false, Bool.not_not, cond_true, cond_false]))
                    · exact (no_verb h2 h4 v1 v2 v3 v4).elim
          · refine bd ?_
            rw [formF_kind h2 h4 (by unfold kindF kidx; rw [show decide (idx (fun s : GateShape => s.kind == a.kind) l.shapes ≥ 0) = false from decide_eq_false (by have := of_decide_eq_true h5; omega)]; rfl)]
        · have g1 : (a.verb == 1) = false := ne_verb (k := 1) (by omega) h4
          have g2 : (a.verb == 2) = false := ne_verb (k := 2) (by omega) h4
          have g3 : (a.verb == 3) = false := ne_verb (k := 3) (by omega) h4
          have g4 : (a.verb == 4) = false := ne_verb (k := 4) (by omega) h4
          repeat refine And.intro rfl ?_
          refine And.intro (fun v1 => ?_) (fun v1 => ?_)
          · exact absurd v1 (by rw [g1]; simp)
          · repeat refine And.intro rfl ?_
            refine And.intro (fun v2 => ?_) (fun v2 => ?_)
            · exact absurd v2 (by rw [g2]; simp)
            · repeat refine And.intro rfl ?_
              refine And.intro (fun v3 => ?_) (fun v3 => ?_)
              · exact absurd v3 (by rw [g3]; simp)
              · repeat refine And.intro rfl ?_
                refine And.intro (fun v4 => ?_) (fun v4 => ?_)
                · exact absurd v4 (by rw [g4]; simp)
                · repeat refine And.intro rfl ?_
                  refine And.intro (fun v5 => ?_) (fun v5 => ?_)
                  · repeat' first
                      | refine And.intro rfl ?_
                      | refine And.intro (fun h => ?_) (fun h => ?_)
                      | refine Or.inl (Exists.intro _ (And.intro (s_l1NameOk _) ?_))
                      | refine Or.inl (Exists.intro _ (And.intro (s_l4RuleOk a.rule) ?_))
                    all_goals (refine bd ?_; first | (simp only [List.length_map, cond_true, cond_false, reduceCtorEq] at *; done) | ((try simp only [List.length_map, cond_true, cond_false] at *); simp only [formF, g1, g2, g3, g4, v5, *, Bool.false_or, Bool.true_or, Bool.or_false, Bool.or_true, Bool.and_true, Bool.true_and, Bool.and_false, Bool.false_and, Bool.not_true, Bool.not_false, Bool.not_not, cond_true, cond_false]))
                  · repeat' first
                      | refine And.intro rfl ?_
                      | refine And.intro (fun h => ?_) (fun h => ?_)
                    all_goals (refine bd ?_; first | (simp only [List.length_map, cond_true, cond_false, reduceCtorEq] at *; done) | ((try simp only [List.length_map, cond_true, cond_false] at *); simp only [formF, g1, g2, g3, g4, v5, *, Bool.false_or, Bool.true_or, Bool.or_false, Bool.or_true, Bool.and_true, Bool.true_and, Bool.and_false, Bool.false_and, Bool.not_true, Bool.not_false, Bool.not_not, cond_true, cond_false]))
    · simp only [Bool.not_eq_true', Bool.not_eq_false'] at h2
      refine bd ?_
      rw [askOk_verb h2]
  · simp only [Bool.not_eq_true', Bool.not_eq_false'] at h1
    refine bd ?_
    rw [askOk_who h1]
end Go.Vc
