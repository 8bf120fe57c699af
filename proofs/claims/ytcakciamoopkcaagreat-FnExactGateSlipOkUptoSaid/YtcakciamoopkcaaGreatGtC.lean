/- Contracts: lists of names, decimals. -/
import Derived.Test.YtcakciamoopkcaaGreatGtB
namespace Go.Vc
open Go.Proofs
set_option maxRecDepth 100000
set_option pp.maxSteps 400
set_option pp.deepTerms false
set_option linter.unusedSimpArgs false
set_option linter.unusedVariables false
theorem s_l1Ascending (xs : List Bs) : Spec P 70 [.d (lS xs)] (.d (.bool (asc xs))) := by
  refine Spec.of_vc vcT vcM [.tmp 2] Tryz.func70 rfl rfl rfl rfl (fun hok => ?_)
  have hs : xs.length ≤ big := len_map hok.1.1
  repeat refine And.intro rfl ?_
  refine ⟨fun m l h => ∃ (i : Nat) , m = xs.length - i ∧ i ≤ xs.length ∧ (asc xs = ascK id (prevK id xs i) (xs.drop i)) ∧ l = [(0, .d (lS xs)), (3, .d (.int .i64 i))] ∧ h = hp0,
    ⟨_, _, _, ⟨0, rfl, Nat.zero_le _, rfl, rfl, rfl⟩, rfl, rfl, ⟨rfl, rfl, trivial⟩, trivial, trivial⟩, ?_⟩
  rintro m l hh ⟨i, rfl, hi, hr, rfl, rfl⟩
  repeat refine And.intro rfl ?_
  refine And.intro (fun h1 => ?_) (fun h1 => ?_)
  · have hlt : i < xs.length := lt_map h1
    repeat refine And.intro rfl ?_
    refine And.intro (by kernel_rfl) ?_
    repeat refine And.intro rfl ?_
    repeat refine And.intro rfl ?_
    refine ix_at (e := eB) (xs := xs) (hlt) rfl ?_
    repeat refine And.intro rfl ?_
    repeat refine And.intro rfl ?_
    refine Or.inl (Exists.intro _ (And.intro (s_l1NameOk _) ?_))
    repeat refine And.intro rfl ?_
    refine And.intro (fun h2 => ?_) (fun h2 => ?_)
    · repeat refine And.intro rfl ?_
      refine And.intro (fun h3 => ?_) (fun h3 => ?_)
      · have h0 := gt0 h3
        repeat refine And.intro rfl ?_
        refine ix_atw (e := eB) (xs := xs) ((show i - 1 < xs.length by omega)) (wrap_pred h0 hlt hs) rfl ?_
        repeat refine And.intro rfl ?_
        repeat refine And.intro rfl ?_
        refine ix_at (e := eB) (xs := xs) (hlt) rfl ?_
        repeat refine And.intro rfl ?_
        repeat refine And.intro rfl ?_
        refine And.intro (fun h4 => ?_) (fun h4 => ?_)
        · refine bd ?_
          rw [hr]; exact asc_less (key := id) hlt h0 h4
        · repeat refine And.intro rfl ?_
          exact ⟨_, _, _, ⟨i + 1, rfl, hlt, by rw [hr]; exact asc_ok (key := id) hlt h2 (.inr ⟨h0, h4⟩), rfl, rfl⟩, by omega, rfl, rfl, ⟨rfl, nd (wrap_succ hlt hs), trivial⟩, trivial, trivial⟩
      · repeat refine And.intro rfl ?_
        refine And.intro (fun h => absurd h (by simp)) (fun _ => ?_)
        repeat refine And.intro rfl ?_
        exact ⟨_, _, _, ⟨i + 1, rfl, hlt, by rw [hr]; exact asc_ok (key := id) hlt h2 (.inl (le0 h3)), rfl, rfl⟩, by omega, rfl, rfl, ⟨rfl, nd (wrap_succ hlt hs), trivial⟩, trivial, trivial⟩
    · repeat refine And.intro rfl ?_
      refine And.intro (fun _ => ?_) (fun h => absurd h (by simp))
      refine bd ?_
      rw [hr]; exact asc_name (key := id) hlt h2
  · refine bd ?_
    rw [hr, asc_end (ge_map h1)]
theorem i_ascendingNames (xs : List Bs) : Spec P 95 [.d (lS xs)] (.d (.bool (asc xs))) := by
  refine Spec.of_vc vcT vcM [.tmp 2] Tryz.func95 rfl rfl rfl rfl (fun hok => ?_)
  have hs : xs.length ≤ big := len_map hok.1.1
  repeat refine And.intro rfl ?_
  refine ⟨fun m l h => ∃ (i : Nat) , m = xs.length - i ∧ i ≤ xs.length ∧ (asc xs = ascK id (prevK id xs i) (xs.drop i)) ∧ l = [(0, .d (lS xs)), (5, .d (lS xs)), (6, .d (.int .i64 (xs.map eB).length)), (7, .d (.int .i64 i))] ∧ h = hp0,
    ⟨_, _, _, ⟨0, rfl, Nat.zero_le _, rfl, rfl, rfl⟩, rfl, rfl, ⟨rfl, rfl, rfl, rfl, trivial⟩, trivial, trivial⟩, ?_⟩
  rintro m l hh ⟨i, rfl, hi, hr, rfl, rfl⟩
  repeat refine And.intro rfl ?_
  refine And.intro (fun h1 => ?_) (fun h1 => ?_)
  · have hlt : i < xs.length := lt_map h1
    repeat refine And.intro rfl ?_
    refine ix_at (e := eB) (xs := xs) (hlt) rfl ?_
    repeat refine And.intro rfl ?_
    repeat refine And.intro rfl ?_
    refine Or.inl (Exists.intro _ (And.intro (i_isName _) ?_))
    repeat refine And.intro rfl ?_
    refine And.intro (fun h2 => ?_) (fun h2 => ?_)
    · repeat refine And.intro rfl ?_
      refine And.intro (fun h3 => ?_) (fun h3 => ?_)
      · have h0 := gt0 h3
        repeat refine And.intro rfl ?_
        refine ix_atw (e := eB) (xs := xs) ((show i - 1 < xs.length by omega)) (wrap_pred h0 hlt hs) rfl ?_
        repeat refine And.intro rfl ?_
        repeat refine And.intro rfl ?_
        refine And.intro (fun h4 => ?_) (fun h4 => ?_)
        · refine bd ?_
          rw [hr]; exact asc_less (key := id) hlt h0 h4
        · repeat refine And.intro rfl ?_
          exact ⟨_, _, _, ⟨i + 1, rfl, hlt, by rw [hr]; exact asc_ok (key := id) hlt h2 (.inr ⟨h0, h4⟩), rfl, rfl⟩, by omega, rfl, rfl, ⟨rfl, rfl, rfl, nd (wrap_succ hlt hs), trivial⟩, trivial, trivial⟩
      · repeat refine And.intro rfl ?_
        exact ⟨_, _, _, ⟨i + 1, rfl, hlt, by rw [hr]; exact asc_ok (key := id) hlt h2 (.inl (le0 h3)), rfl, rfl⟩, by omega, rfl, rfl, ⟨rfl, rfl, rfl, nd (wrap_succ hlt hs), trivial⟩, trivial, trivial⟩
    · refine bd ?_
      rw [hr]; exact asc_name (key := id) hlt h2
  · refine bd ?_
    rw [hr, asc_end (ge_map h1)]
theorem s_l1Has (xs : List Bs) (s : Bs) : Spec P 84 [.d (lS xs), .d (.str s)] (.d (.bool (xs.any (· == s)))) := by
  refine Spec.of_vc vcT vcM [.tmp 4] Tryz.func84 rfl rfl rfl rfl (fun hok => ?_)
  have hs : xs.length ≤ big := len_map hok.1.1
  repeat refine And.intro rfl ?_
  refine ⟨fun m l h => ∃ (i : Nat) , m = xs.length - i ∧ i ≤ xs.length ∧ (xs.any (· == s) = (xs.drop i).any (· == s)) ∧ l = [(0, .d (lS xs)), (1, .d (.str s)), (5, .d (.int .i64 i))] ∧ h = hp0,
    ⟨_, _, _, ⟨0, rfl, Nat.zero_le _, rfl, rfl, rfl⟩, rfl, rfl, ⟨rfl, rfl, rfl, trivial⟩, trivial, trivial⟩, ?_⟩
  rintro m l hh ⟨i, rfl, hi, hr, rfl, rfl⟩
  repeat refine And.intro rfl ?_
  refine And.intro (fun h1 => ?_) (fun h1 => ?_)
  · have hlt : i < xs.length := lt_map h1
    repeat refine And.intro rfl ?_
    refine ix_at (e := eB) (xs := xs) (hlt) rfl ?_
    repeat refine And.intro rfl ?_
    rw [any_step hlt] at hr
    repeat refine And.intro rfl ?_
    refine And.intro (fun h2 => ?_) (fun h2 => ?_)
    · refine bd ?_
      rw [hr, h2]; rfl
    · repeat refine And.intro rfl ?_
      exact ⟨_, _, _, ⟨i + 1, rfl, hlt, by rw [hr, h2]; rfl, rfl, rfl⟩, by omega, rfl, rfl, ⟨rfl, rfl, nd (wrap_succ hlt hs), trivial⟩, trivial, trivial⟩
  · refine bd ?_
    rw [hr, any_end (ge_map h1)]
end Go.Vc
