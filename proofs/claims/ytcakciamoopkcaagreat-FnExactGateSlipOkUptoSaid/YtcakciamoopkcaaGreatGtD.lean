/- Contracts: decimals, fields. -/
import Derived.Test.YtcakciamoopkcaaGreatGtC
namespace Go.Vc
open Go.Proofs
set_option maxRecDepth 100000
set_option pp.maxSteps 400
set_option pp.deepTerms false
set_option linter.unusedSimpArgs false
set_option linter.unusedVariables false
theorem s_l1Number (s : Bs) : Spec P 94 [.d (.str s)] (.d (.int .i64 (numF s))) := by
  refine Spec.of_vc vcT vcM [.tmp 2] Tryz.func94 rfl rfl rfl rfl (fun hok => ?_)
  have hs : s.length ≤ big := hok.1
  repeat refine And.intro rfl ?_
  refine Or.inl (Exists.intro _ (And.intro (s_l1In _ _ _) ?_))
  repeat refine And.intro rfl ?_
  refine And.intro (fun h => ?_) (fun h => ?_)
  · repeat refine And.intro rfl ?_
    refine And.intro (fun h2 => ?_) (fun h2 => ?_)
    · refine ix_str0 (num_small h).1 ?_
      repeat refine And.intro rfl ?_
      refine And.intro (fun h3 => ?_) (fun h3 => ?_)
      · refine nd ?_
        unfold numF
        rw [numOf_zero h h2 h3]
      · have hgo := numOf_go h (.inr h3)
        repeat refine And.intro rfl ?_
        refine ⟨fun m l h => ∃ (i : Nat) (n : Int), m = s.length - i ∧ i ≤ s.length ∧ ((0 ≤ n ∧ n < 10 ^ i) ∧ numOf s = numAcc n (s.drop i)) ∧ l = [(0, .d (.str s)), (3, .d (.int .i64 n)), (4, .d (.int .i64 i))] ∧ h = hp0,
          ⟨_, _, _, ⟨0, _, rfl, Nat.zero_le _, ⟨⟨Int.le_refl 0, by decide⟩, hgo⟩, rfl, rfl⟩, rfl, rfl, ⟨rfl, rfl, rfl, trivial⟩, trivial, trivial⟩, ?_⟩
        rintro m l hh ⟨i, n, rfl, hi, hr, rfl, rfl⟩
        obtain ⟨hn, hr⟩ := hr
        repeat refine And.intro rfl ?_
        refine And.intro (fun h1 => ?_) (fun h1 => ?_)
        · have hlt : i < s.length := lt_str h1
          rw [numAcc_step hlt] at hr
          repeat refine And.intro rfl ?_
          refine ix_str (hlt) ?_
          repeat refine And.intro rfl ?_
          repeat refine And.intro rfl ?_
          refine And.intro (fun h2 => ?_) (fun h2 => ?_)
          · repeat refine And.intro rfl ?_
            refine ix_str (hlt) ?_
            repeat refine And.intro rfl ?_
            repeat refine And.intro rfl ?_
            refine And.intro (fun h3 => ?_) (fun h3 => ?_)
            · refine nd ?_
              unfold numF
              rw [hr, h2, h3]; rfl
            · repeat refine And.intro rfl ?_
              refine ix_str (hlt) ?_
              repeat refine And.intro rfl ?_
              obtain ⟨q1, q2⟩ := num_room hn (by have := (num_small h).2; omega) h2 h3
              repeat refine And.intro rfl ?_
              exact ⟨_, _, _, ⟨i + 1, _, rfl, hlt, ⟨q2, by rw [hr, h2, h3]; rfl⟩, rfl, rfl⟩, by omega, rfl, rfl, ⟨rfl, nd q1, nd (wrap_succ hlt hs), trivial⟩, trivial, trivial⟩
          · refine nd ?_
            unfold numF
            rw [hr, h2]; rfl
        · refine nd ?_
          unfold numF
          rw [hr, numAcc_end (ge_str h1)]
    · have hgo := numOf_go h (.inl h2)
      repeat refine And.intro rfl ?_
      refine ⟨fun m l h => ∃ (i : Nat) (n : Int), m = s.length - i ∧ i ≤ s.length ∧ ((0 ≤ n ∧ n < 10 ^ i) ∧ numOf s = numAcc n (s.drop i)) ∧ l = [(0, .d (.str s)), (3, .d (.int .i64 n)), (4, .d (.int .i64 i))] ∧ h = hp0,
        ⟨_, _, _, ⟨0, _, rfl, Nat.zero_le _, ⟨⟨Int.le_refl 0, by decide⟩, hgo⟩, rfl, rfl⟩, rfl, rfl, ⟨rfl, rfl, rfl, trivial⟩, trivial, trivial⟩, ?_⟩
      rintro m l hh ⟨i, n, rfl, hi, hr, rfl, rfl⟩
      obtain ⟨hn, hr⟩ := hr
      repeat refine And.intro rfl ?_
      refine And.intro (fun h1 => ?_) (fun h1 => ?_)
      · have hlt : i < s.length := lt_str h1
        rw [numAcc_step hlt] at hr
        repeat refine And.intro rfl ?_
        refine ix_str (hlt) ?_
        repeat refine And.intro rfl ?_
        repeat refine And.intro rfl ?_
        refine And.intro (fun h2 => ?_) (fun h2 => ?_)
        · repeat refine And.intro rfl ?_
          refine ix_str (hlt) ?_
          repeat refine And.intro rfl ?_
          repeat refine And.intro rfl ?_
          refine And.intro (fun h3 => ?_) (fun h3 => ?_)
          · refine nd ?_
            unfold numF
            rw [hr, h2, h3]; rfl
          · repeat refine And.intro rfl ?_
            refine ix_str (hlt) ?_
            repeat refine And.intro rfl ?_
            obtain ⟨q1, q2⟩ := num_room hn (by have := (num_small h).2; omega) h2 h3
            repeat refine And.intro rfl ?_
            exact ⟨_, _, _, ⟨i + 1, _, rfl, hlt, ⟨q2, by rw [hr, h2, h3]; rfl⟩, rfl, rfl⟩, by omega, rfl, rfl, ⟨rfl, nd q1, nd (wrap_succ hlt hs), trivial⟩, trivial, trivial⟩
        · refine nd ?_
          unfold numF
          rw [hr, h2]; rfl
      · refine nd ?_
        unfold numF
        rw [hr, numAcc_end (ge_str h1)]
  · refine nd ?_
    unfold numF
    rw [numOf_no h]
theorem s_GateFits (f : GateField) (v : Bs) : Spec P 82 [st f.e, .d (.str v)] (.d (.bool (fitsF f v))) := by
  refine Spec.of_vc vcT vcM [.tmp 4] Tryz.func82 rfl rfl rfl rfl (fun hok => ?_)
  have hs : v.length ≤ big := hok.2.1
  repeat refine And.intro rfl ?_
  refine And.intro (fun h1 => ?_) (fun h1 => ?_)
  · repeat refine And.intro rfl ?_
    refine Or.inl (Exists.intro _ (And.intro (s_l1Number _) ?_))
    cases hq : numOf v with
    | none =>
      repeat refine And.intro rfl ?_
      refine And.intro (fun h2 => ?_) (fun h2 => ?_)
      · have := of_decide_eq_true h2
        unfold numF at this
        rw [hq] at this
        exact absurd this (by decide)
      · refine bd ?_
        unfold fitsF
        rw [h1, hq]; rfl
    | some n =>
      repeat refine And.intro rfl ?_
      refine And.intro (fun h2 => ?_) (fun h2 => ?_)
      · repeat refine And.intro rfl ?_
        refine Or.inl (Exists.intro _ (And.intro (s_l1In _ _ _) ?_))
        refine bd ?_
        unfold fitsF numF
        rw [h1, hq]; rfl
      · have := of_decide_eq_false h2
        unfold numF at this
        rw [hq] at this
        exact absurd (numOf_nonneg hq) this
  · repeat refine And.intro rfl ?_
    refine And.intro (fun h2 => ?_) (fun h2 => ?_)
    · repeat refine And.intro rfl ?_
      refine And.intro (fun h3 => ?_) (fun h3 => ?_)
      · repeat refine And.intro rfl ?_
        refine Or.inl (Exists.intro _ (And.intro (s_l1Has _ _) ?_))
        refine bd ?_
        unfold fitsF
        rw [h1, h2, h3]; rfl
      · refine bd ?_
        unfold fitsF
        rw [h1, h2, h3]; rfl
    · repeat refine And.intro rfl ?_
      refine And.intro (fun h3 => ?_) (fun h3 => ?_)
      · have e : fitsF f v = (v.all txByte && (!(v == []) && inR (v.length : Int) f.least f.most)) := by
          unfold fitsF; rw [h1, h2, h3]; rfl
        repeat refine And.intro rfl ?_
        refine ⟨fun m l h => ∃ (i : Nat) , m = v.length - i ∧ i ≤ v.length ∧ (v.all txByte = (v.drop i).all txByte) ∧ l = [(1, .d (.str v)), (2, .ptr 0 0), (6, .d (.int .i64 i))] ∧ h = ⟨[(0, .cells 141 (f.e.map .d))], 1, 0⟩,
          ⟨_, _, _, ⟨0, rfl, Nat.zero_le _, rfl, rfl, rfl⟩, rfl, rfl, ⟨rfl, rfl, rfl, trivial⟩, ⟨rfl, trivial⟩, ⟨rfl, trivial⟩⟩, ?_⟩
        rintro m l hh ⟨i, rfl, hi, hr, rfl, rfl⟩
        repeat refine And.intro rfl ?_
        refine And.intro (fun h4 => ?_) (fun h4 => ?_)
        · have hlt : i < v.length := lt_str h4
          rw [all_step hlt] at hr
          repeat refine And.intro rfl ?_
          refine ix_str (hlt) ?_
          repeat refine And.intro rfl ?_
          repeat refine And.intro rfl ?_
          refine Or.inl (Exists.intro _ (And.intro (s_l1In _ _ _) ?_))
          repeat refine And.intro rfl ?_
          refine And.intro (fun h5 => ?_) (fun h5 => ?_)
          · refine bd ?_
            rw [wrap_byte] at h5
            rw [e, hr, show txByte v[i] = false from by simpa [txByte] using h5]; rfl
          · rw [wrap_byte] at h5
            repeat refine And.intro rfl ?_
            exact ⟨_, _, _, ⟨i + 1, rfl, hlt, by rw [hr, show txByte v[i] = true from by simpa [txByte] using h5]; rfl, rfl, rfl⟩, by omega, rfl, rfl, ⟨rfl, rfl, nd (wrap_succ hlt hs), trivial⟩, ⟨rfl, trivial⟩, ⟨rfl, trivial⟩⟩
        · rw [all_end (ge_str h4)] at hr
          repeat refine And.intro rfl ?_
          refine And.intro (fun h5 => ?_) (fun h5 => ?_)
          · repeat refine And.intro rfl ?_
            refine Or.inl (Exists.intro _ (And.intro (s_l1In _ _ _) ?_))
            refine bd ?_
            rw [e, hr, h5]; rfl
          · refine bd ?_
            rw [e, hr, h5]; rfl
      · repeat refine And.intro rfl ?_
        refine And.intro (fun h4 => ?_) (fun h4 => ?_)
        · repeat refine And.intro rfl ?_
          refine Or.inl (Exists.intro _ (And.intro (s_l1NameOk _) ?_))
          refine bd ?_
          unfold fitsF; rw [h1, h2, h3, h4]; rfl
        · refine bd ?_
          unfold fitsF; rw [h1, h2, h3, h4]; rfl
theorem s_l1Bare (f : GateField) : Spec P 93 [st f.e] (.d (.bool (bareF f))) := by
  refine Spec.of_vc vcT vcM [.tmp 2] Tryz.func93 rfl rfl rfl rfl (fun hok => ?_)
  repeat' first
    | refine And.intro rfl ?_
    | refine And.intro (fun h => ?_) (fun h => ?_)
  all_goals (refine bd ?_; (try simp only [List.length_map, cond_true, cond_false] at *); simp only [bareF, *, Bool.false_or, Bool.true_or, Bool.or_false, Bool.or_true, Bool.and_true, Bool.true_and, Bool.and_false, Bool.false_and, Bool.not_true, Bool.not_false, Bool.not_not, cond_true, cond_false])
end Go.Vc
