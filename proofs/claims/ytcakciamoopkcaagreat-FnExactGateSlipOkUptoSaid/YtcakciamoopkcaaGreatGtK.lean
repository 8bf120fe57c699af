/- Contracts: mends. -/
import Derived.Test.YtcakciamoopkcaaGreatGtJ
namespace Go.Vc
open Go.Proofs
set_option maxRecDepth 100000
set_option pp.maxSteps 400
set_option pp.deepTerms false
set_option linter.unusedSimpArgs false
set_option linter.unusedVariables false
theorem s_l3Plain (fs : List GateField) (n : Bs) : Spec P 81 [.d (lGateField fs), .d (.str n)] (.d (.bool (plainF fs n))) := by
  refine Spec.of_vc vcT vcM [.tmp 4] Tryz.func81 rfl rfl rfl rfl (fun hok => ?_)
  repeat refine And.intro rfl ?_
  refine Or.inl (Exists.intro _ (And.intro (s_l3Field _ _) ?_))
  repeat refine And.intro rfl ?_
  refine And.intro (fun h => ?_) (fun h => ?_)
  · obtain ⟨j, hj, e, _⟩ := idx_pos h
    repeat refine And.intro rfl ?_
    refine ix_atw (e := GateField.e) (xs := fs) (hj) (e) rfl ?_
    repeat refine And.intro rfl ?_
    refine bd ?_
    rw [plain_pos hj h e]
  · refine bd ?_
    rw [plain_neg h]
/-- the closure of mendOk, called there -/
theorem i_mendPlain (fs : List GateField) (m : GateMend) (n : Bs) : HSpec P 97 [.d (.str n), .ptr 0 0] ⟨[(1, .cells 95 (m.e.map .d)), (0, .cells 91 [.d (lGateField fs)])], 2, 0⟩ (.d (.bool (plainF fs n)))
    ⟨[(1, .cells 95 (m.e.map .d)), (0, .cells 91 [.d (lGateField fs)])], 2, 0⟩ := by
  refine HSpec.of_vc vcT vcM [.tmp 3] Tryz.func97 rfl rfl rfl rfl rfl (fun hok => ?_)
  repeat refine And.intro rfl ?_
  refine Or.inl (Exists.intro _ (And.intro (i_placeOf _ _) ?_))
  repeat refine And.intro rfl ?_
  refine And.intro (fun h => ?_) (fun h => ?_)
  · obtain ⟨j, hj, e, _⟩ := idx_pos h
    repeat refine And.intro rfl ?_
    refine ix_atw (e := GateField.e) (xs := fs) (hj) (e) rfl ?_
    repeat refine And.intro rfl ?_
    refine And.intro (bd ?_) (And.intro rfl ⟨rfl, rfl, trivial, ⟨rfl, rfl, trivial⟩, ⟨rfl, rfl, trivial⟩⟩)
    rw [plain_pos hj h e]
  · refine And.intro (bd ?_) (And.intro rfl ⟨rfl, rfl, trivial, ⟨rfl, rfl, trivial⟩, ⟨rfl, rfl, trivial⟩⟩)
    rw [plain_neg h]
theorem b_tt : (true == true) = true := rfl
theorem b_ff : (false == false) = true := rfl
theorem b_tf : (true == false) = false := rfl
theorem b_ft : (false == true) = false := rfl
theorem neg_lt {k : Int} (h : decide (k ≥ 0) = true) : decide (k < 0) = false := by
  have := of_decide_eq_true h
  exact decide_eq_false (by omega)
theorem neg_ge {k : Int} (h : decide (k ≥ 0) = false) : decide (k < 0) = true := by
  have := of_decide_eq_false h
  exact decide_eq_true (by omega)
theorem mendF_no {fs : List GateField} {m : GateMend} (h : decide (idx (·.name == m.field) fs ≥ 0) = false) : mendF fs m = false := by
  unfold mendF
  rw [plain_neg h]; rfl
theorem mendF_yes {fs : List GateField} {m : GateMend} {j : Nat} (hj : j < fs.length) (e : idx (·.name == m.field) fs = (j : Int)) : mendF fs m = ((plainF fs m.field && ((m.when_ == [] || plainF fs m.when_) && (m.from_ == [] || plainF fs m.from_))) &&
  (!((m.when_ == m.field) || ((m.from_ == m.field) || ((m.when_ == [] && !(m.is_ == [])) || ((m.put == []) == (m.from_ == []))))) &&
   (m.put == [] || fitsF fs[j] m.put))) := by
  unfold mendF
  rw [e, Int.toNat_natCast, List.getElem?_eq_getElem hj]
theorem plain_field {fs : List GateField} {n : Bs} (h : plainF fs n = true) : decide (idx (·.name == n) fs ≥ 0) = true := by
  unfold plainF at h
  exact (Bool.and_eq_true_iff.1 h).1
set_option maxHeartbeats 4000000 in
theorem s_l3MendOk (xs : List GateShape) (m : GateMend) : Spec P 61 [.d (lGateShape xs), st m.e] (.d (.bool (mendOkF xs m))) := by
  refine Spec.of_vc vcT vcM [.tmp 4] Tryz.func61 rfl rfl rfl rfl (fun hok => ?_)
  repeat refine And.intro rfl ?_
  refine Or.inl (Exists.intro _ (And.intro (s_l1Shape _ _) ?_))
  cases h : decide (idx (·.kind == m.kind) xs ≥ 0) with
  | false =>
    refine And.intro (fun _ => ?_) (fun h' => absurd h' (by rw [neg_ge h]; simp))
    refine bd ?_
    unfold mendOkF
    split <;> simp only [h, Bool.false_and]
  | true =>
    obtain ⟨j, hj, e, _⟩ := idx_pos h
    refine And.intro (fun h' => absurd h' (by rw [neg_lt h]; simp)) (fun _ => ?_)
    repeat refine And.intro rfl ?_
    refine ix_atw (e := GateShape.e) (xs := xs) (hj) (e) rfl ?_
    repeat refine And.intro rfl ?_
    have em : mendOkF xs m = mendF xs[j].fields m := by
      unfold mendOkF
      rw [e, Int.toNat_natCast, List.getElem?_eq_getElem hj]
      have : decide ((j : Int) ≥ 0) = true := decide_eq_true (by omega)
      simp only [this, Bool.true_and]
    rw [em]
    cases hp : decide (idx (fun x : GateField => x.name == m.field) (xs[j]'hj).fields ≥ 0) with
    | false =>
      rw [mendF_no hp]
      have hp' := plain_neg hp
      repeat' first
        | refine And.intro rfl ?_
        | refine And.intro (fun h => ?_) (fun h => ?_)
        | refine Or.inl (Exists.intro _ (And.intro (s_l3Plain _ _) ?_))
      all_goals first
        | rfl
        | (exfalso; simp_all; done)
    | true =>
      obtain ⟨j2, hj2, e2, _⟩ := idx_pos hp
      rw [mendF_yes hj2 e2]
      repeat' first
        | refine And.intro rfl ?_
        | refine And.intro (fun h => ?_) (fun h => ?_)
        | refine Or.inl (Exists.intro _ (And.intro (s_l3Plain _ _) ?_))
        | refine Or.inl (Exists.intro _ (And.intro (s_l3Field _ _) ?_))
        | refine Or.inl (Exists.intro _ (And.intro (s_GateFits _ _) ?_))
        | refine And.intro (by kernel_rfl) ?_
        | refine ix_atw (e := GateField.e) (xs := (xs[j]'hj).fields) hj2 e2 rfl ?_
      all_goals (refine bd ?_; (try simp only [Bool.not_eq_true', Bool.not_eq_false'] at *); first | (simp only [*, b_tt, b_ff, b_tf, b_ft, Bool.false_or, Bool.true_or, Bool.or_false, Bool.or_true, Bool.and_true, Bool.true_and, Bool.and_false, Bool.false_and, Bool.not_true, Bool.not_false, Bool.not_not, cond_true, cond_false]; done) | (cases hx : (m.put == []) <;> cases hy : (m.from_ == []) <;> simp only [hx, hy, b_tt, b_ff, b_tf, b_ft, reduceCtorEq] at * <;> first | (simp only [*, b_tt, b_ff, b_tf, b_ft, Bool.false_or, Bool.true_or, Bool.or_false, Bool.or_true, Bool.and_true, Bool.true_and, Bool.and_false, Bool.false_and, Bool.not_true, Bool.not_false, Bool.not_not, cond_true, cond_false]; done) | (simp_all; done)))
set_option maxHeartbeats 4000000 in
theorem i_mendOk (fs : List GateField) (m : GateMend) : Spec P 89 [.d (lGateField fs), st m.e] (.d (.bool (mendF fs m))) := by
    refine Spec.of_vc vcT vcM [.tmp 4] Tryz.func89 rfl rfl rfl rfl (fun hok => ?_)
    cases hp : decide (idx (fun x : GateField => x.name == m.field) fs ≥ 0) with
    | false =>
      rw [mendF_no hp]
      have hp' := plain_neg hp
      repeat' first
        | refine And.intro rfl ?_
        | refine And.intro (fun h => ?_) (fun h => ?_)
        | refine Or.inr (Or.inl (Exists.intro _ (Exists.intro _ (And.intro (i_mendPlain fs m _) ?_))))
      all_goals first
        | rfl
        | (exfalso; simp_all; done)
    | true =>
      obtain ⟨j2, hj2, e2, _⟩ := idx_pos hp
      rw [mendF_yes hj2 e2]
      repeat' first
        | refine And.intro rfl ?_
        | refine And.intro (fun h => ?_) (fun h => ?_)
        | refine Or.inr (Or.inl (Exists.intro _ (Exists.intro _ (And.intro (i_mendPlain fs m _) ?_))))
        | refine Or.inl (Exists.intro _ (And.intro (i_placeOf _ _) ?_))
        | refine Or.inl (Exists.intro _ (And.intro (i_GateFits _ _) ?_))
        | refine And.intro (by kernel_rfl) ?_
        | refine ix_atw (e := GateField.e) (xs := fs) hj2 e2 rfl ?_
      all_goals (refine bd ?_; (try simp only [Bool.not_eq_true', Bool.not_eq_false'] at *); first | (simp only [*, b_tt, b_ff, b_tf, b_ft, Bool.false_or, Bool.true_or, Bool.or_false, Bool.or_true, Bool.and_true, Bool.true_and, Bool.and_false, Bool.false_and, Bool.not_true, Bool.not_false, Bool.not_not, cond_true, cond_false]; done) | (cases hx : (m.put == []) <;> cases hy : (m.from_ == []) <;> simp only [hx, hy, b_tt, b_ff, b_tf, b_ft, reduceCtorEq] at * <;> first | (simp only [*, b_tt, b_ff, b_tf, b_ft, Bool.false_or, Bool.true_or, Bool.or_false, Bool.or_true, Bool.and_true, Bool.true_and, Bool.and_false, Bool.false_and, Bool.not_true, Bool.not_false, Bool.not_not, cond_true, cond_false]; done) | (simp_all; done)))
end Go.Vc
