/- Contracts: the reference's GateTeamsOk. -/
import Derived.Test.YtcakciamoopkcaaGreatGtM
namespace Go.Vc
open Go.Proofs
set_option maxRecDepth 100000
set_option pp.maxSteps 400
set_option pp.deepTerms false
set_option linter.unusedSimpArgs false
set_option linter.unusedVariables false
def stepOk (xs : List GateTeam) (t : GateTeam) : Bool := overOk xs t && upN xs 5 t.name == []
theorem asc_names {α : Type} {key : α → Bs} : ∀ {xs : List α} {p : Option Bs}, ascK key p xs = true → ∀ y ∈ xs, nameOk (key y) = true
  | [], _, _, y, hy => by cases hy
  | x :: xs, p, h, y, hy => by
    simp only [ascK, Bool.and_eq_true] at h
    rcases List.mem_cons.1 hy with rfl | hy
    · exact h.1.1
    · exact asc_names h.2 y hy
theorem teams_alt (xs : List GateTeam) (h0 : decide ((xs.length : Int) > 12) = false) : teamsOk xs = (ascK (·.name) none xs && xs.all (stepOk xs)) := by
  have e : teamsOk xs = ((ascK (·.name) none xs && xs.all (overOk xs)) && xs.all (fun t => upN xs 4 t.over == [])) := by simp only [teamsOk, h0]; rfl
  rw [e]
  cases ha : ascK (fun t : GateTeam => t.name) none xs with
  | false => rfl
  | true =>
    have hs : ∀ t ∈ xs, stepOk xs t = (overOk xs t && upN xs 4 t.over == []) := fun t ht => by
      have hn := asc_names ha t ht
      have : (t.name == []) = false := by
        cases e : t.name == [] with
        | false => rfl
        | true => rw [beq_iff_eq.1 e] at hn; cases hn
      simp only [stepOk, upN, this, cond_false, overF_asc ha t ht]
    simp only [Bool.true_and]
    rw [Bool.eq_iff_iff]
    simp only [Bool.and_eq_true, List.all_eq_true]
    constructor
    · intro h t ht
      rw [hs t ht, Bool.and_eq_true]
      exact ⟨h.1 t ht, h.2 t ht⟩
    · intro h
      exact ⟨fun t ht => (Bool.and_eq_true_iff.1 ((hs t ht) ▸ h t ht)).1, fun t ht => (Bool.and_eq_true_iff.1 ((hs t ht) ▸ h t ht)).2⟩
theorem s_GateTeamsOk (xs : List GateTeam) : Spec P 38 [.d (lGateTeam xs)] (.d (.bool (teamsOk xs))) := by
  refine Spec.of_vc vcT vcM [.tmp 2] Tryz.func38 rfl rfl rfl rfl (fun hok => ?_)
  have hs : xs.length ≤ big := len_map hok.1.1
  repeat refine And.intro rfl ?_
  refine And.intro (fun h0 => ?_) (fun h0 => ?_)
  · refine bd ?_
    rw [List.length_map] at h0
    simp only [teamsOk, h0]; rfl
  rw [List.length_map] at h0
  rw [teams_alt xs h0]
  repeat refine And.intro rfl ?_
  refine ⟨fun m l h => ∃ (i : Nat) , m = xs.length - i ∧ i ≤ xs.length ∧ ((ascK (·.name) none xs && xs.all (stepOk xs)) = (ascK (·.name) (prevK (·.name) xs i) (xs.drop i) && (xs.drop i).all (stepOk xs))) ∧ l = [(0, .d (lGateTeam xs)), (3, .d (.int .i64 i))] ∧ h = hp0,
    ⟨_, _, _, ⟨0, rfl, Nat.zero_le _, rfl, rfl, rfl⟩, rfl, rfl, ⟨rfl, rfl, trivial⟩, trivial, trivial⟩, ?_⟩
  rintro m l hh ⟨i, rfl, hi, hr, rfl, rfl⟩
  repeat refine And.intro rfl ?_
  refine And.intro (fun h1 => ?_) (fun h1 => ?_)
  · have hlt : i < xs.length := lt_map h1
    repeat refine And.intro rfl ?_
    refine ix_at (e := GateTeam.e) (xs := xs) (hlt) rfl ?_
    repeat refine And.intro rfl ?_
    repeat refine And.intro rfl ?_
    refine And.intro (by kernel_rfl) ?_
    repeat refine And.intro rfl ?_
    repeat refine And.intro rfl ?_
    refine Or.inl (Exists.intro _ (And.intro (s_l1NameOk _) ?_))
    repeat refine And.intro rfl ?_
    refine And.intro (fun h2 => ?_) (fun h2 => ?_)
    · repeat refine And.intro rfl ?_
      refine And.intro (fun h3 => ?_) (fun h3 => ?_)
      · have h0' := gt0 h3
        repeat refine And.intro rfl ?_
        refine ix_atw (e := GateTeam.e) (xs := xs) ((show i - 1 < xs.length by omega)) (wrap_pred h0' hlt hs) rfl ?_
        repeat refine And.intro rfl ?_
        repeat refine And.intro rfl ?_
        refine And.intro (fun h4 => ?_) (fun h4 => ?_)
        · have ha := asc_ok (key := fun s : GateTeam => s.name) hlt h2 (.inr ⟨h0', h4⟩)
          repeat refine And.intro rfl ?_
          refine And.intro (fun h5 => ?_) (fun h5 => ?_)
          · repeat refine And.intro rfl ?_
            refine Or.inl (Exists.intro _ (And.intro (s_l4Team xs (xs[i]'hlt).over) ?_))
            repeat refine And.intro rfl ?_
            refine And.intro (fun h6 => ?_) (fun h6 => ?_)
            · refine bd ?_
              simp only [Bool.not_eq_true', Bool.not_eq_false', cond_true, cond_false] at h5 h6
              rw [hr, all_step hlt, show stepOk xs (xs[i]'hlt) = false from by simp only [stepOk, overOk, h5, h6, Bool.or_false, Bool.false_and]]
              simp only [Bool.false_and, Bool.and_false]
            · simp only [Bool.not_eq_true', Bool.not_eq_false', cond_true, cond_false] at h5 h6
              have ho : overOk xs (xs[i]'hlt) = true := by simp only [overOk, h5, h6, Bool.false_or]
              rw [ha, all_step hlt] at hr
              refine ⟨fun m l h => ∃ (c : Nat) (u : Bs), m = 5 - c ∧ c ≤ 5 ∧ upN xs 5 (xs[i]'hlt).name = upN xs (5 - c) u ∧ l = [(0, .d (lGateTeam xs)), (3, .d (.int .i64 i)), (5, .d (.str u)), (6, .d (.int .i64 c))] ∧ h = hp0,
                ⟨_, _, _, ⟨0, _, rfl, Nat.zero_le _, rfl, rfl, rfl⟩, rfl, rfl, ⟨rfl, rfl, rfl, rfl, trivial⟩, trivial, trivial⟩, ?_⟩
              rintro m l hh ⟨c, u, rfl, hc, hu, rfl, rfl⟩
              repeat refine And.intro rfl ?_
              refine And.intro (fun h7 => ?_) (fun h7 => ?_)
              · have hc4 : c ≤ 4 := by have := of_decide_eq_true h7; omega
                repeat refine And.intro rfl ?_
                refine And.intro (fun h8 => ?_) (fun h8 => ?_)
                · have hne : (u == []) = false := by simpa using h8
                  repeat refine And.intro rfl ?_
                  refine Or.inl (Exists.intro _ (And.intro (s_l4Over xs u) ?_))
                  refine ⟨_, _, _, ⟨c + 1, _, rfl, by omega, ?_, rfl, rfl⟩, by omega, rfl, rfl, ⟨rfl, rfl, rfl, nd (wrap_succ (n := 5) (by omega) (by decide)), trivial⟩, trivial, trivial⟩
                  rw [hu, show 5 - c = (5 - (c + 1)) + 1 from by omega]
                  simp only [upN, hne, cond_false]
                · have hue : u = [] := by simpa using h8
                  subst hue
                  rw [upN_nil] at hu
                  repeat refine And.intro rfl ?_
                  refine And.intro (fun h => absurd h (by simp)) (fun _ => ?_)
                  repeat refine And.intro rfl ?_
                  exact ⟨_, _, _, ⟨i + 1, rfl, hlt, by rw [hr, stepOk, ho, hu]; rfl, rfl, rfl⟩, by omega, rfl, rfl, ⟨rfl, nd (wrap_succ hlt hs), trivial⟩, trivial, trivial⟩
              · have hc5 : c = 5 := by have := of_decide_eq_false h7; omega
                subst hc5
                replace hu : upN xs 5 (xs[i]'hlt).name = u := hu
                repeat refine And.intro rfl ?_
                refine And.intro (fun h9 => ?_) (fun h9 => ?_)
                · refine bd ?_
                  have hne : (u == []) = false := by simpa using h9
                  rw [hr, stepOk, hu, hne]; simp only [Bool.and_false, Bool.false_and]
                · have hue : u = [] := by simpa using h9
                  repeat refine And.intro rfl ?_
                  exact ⟨_, _, _, ⟨i + 1, rfl, hlt, by rw [hr, stepOk, ho, hu, hue]; rfl, rfl, rfl⟩, by omega, rfl, rfl, ⟨rfl, nd (wrap_succ hlt hs), trivial⟩, trivial, trivial⟩
          · repeat refine And.intro rfl ?_
            refine And.intro (fun h => absurd h (by simp)) (fun _ => ?_)
            simp only [Bool.not_eq_true', Bool.not_eq_false'] at h5
            have ho : overOk xs (xs[i]'hlt) = true := by simp only [overOk, h5, Bool.true_or]
            rw [ha, all_step hlt] at hr
            refine ⟨fun m l h => ∃ (c : Nat) (u : Bs), m = 5 - c ∧ c ≤ 5 ∧ upN xs 5 (xs[i]'hlt).name = upN xs (5 - c) u ∧ l = [(0, .d (lGateTeam xs)), (3, .d (.int .i64 i)), (5, .d (.str u)), (6, .d (.int .i64 c))] ∧ h = hp0,
              ⟨_, _, _, ⟨0, _, rfl, Nat.zero_le _, rfl, rfl, rfl⟩, rfl, rfl, ⟨rfl, rfl, rfl, rfl, trivial⟩, trivial, trivial⟩, ?_⟩
            rintro m l hh ⟨c, u, rfl, hc, hu, rfl, rfl⟩
            repeat refine And.intro rfl ?_
            refine And.intro (fun h7 => ?_) (fun h7 => ?_)
            · have hc4 : c ≤ 4 := by have := of_decide_eq_true h7; omega
              repeat refine And.intro rfl ?_
              refine And.intro (fun h8 => ?_) (fun h8 => ?_)
              · have hne : (u == []) = false := by simpa using h8
                repeat refine And.intro rfl ?_
                refine Or.inl (Exists.intro _ (And.intro (s_l4Over xs u) ?_))
                refine ⟨_, _, _, ⟨c + 1, _, rfl, by omega, ?_, rfl, rfl⟩, by omega, rfl, rfl, ⟨rfl, rfl, rfl, nd (wrap_succ (n := 5) (by omega) (by decide)), trivial⟩, trivial, trivial⟩
                rw [hu, show 5 - c = (5 - (c + 1)) + 1 from by omega]
                simp only [upN, hne, cond_false]
              · have hue : u = [] := by simpa using h8
                subst hue
                rw [upN_nil] at hu
                repeat refine And.intro rfl ?_
                refine And.intro (fun h => absurd h (by simp)) (fun _ => ?_)
                repeat refine And.intro rfl ?_
                exact ⟨_, _, _, ⟨i + 1, rfl, hlt, by rw [hr, stepOk, ho, hu]; rfl, rfl, rfl⟩, by omega, rfl, rfl, ⟨rfl, nd (wrap_succ hlt hs), trivial⟩, trivial, trivial⟩
            · have hc5 : c = 5 := by have := of_decide_eq_false h7; omega
              subst hc5
              replace hu : upN xs 5 (xs[i]'hlt).name = u := hu
              repeat refine And.intro rfl ?_
              refine And.intro (fun h9 => ?_) (fun h9 => ?_)
              · refine bd ?_
                have hne : (u == []) = false := by simpa using h9
                rw [hr, stepOk, hu, hne]; simp only [Bool.and_false, Bool.false_and]
              · have hue : u = [] := by simpa using h9
                repeat refine And.intro rfl ?_
                exact ⟨_, _, _, ⟨i + 1, rfl, hlt, by rw [hr, stepOk, ho, hu, hue]; rfl, rfl, rfl⟩, by omega, rfl, rfl, ⟨rfl, nd (wrap_succ hlt hs), trivial⟩, trivial, trivial⟩
        · repeat refine And.intro rfl ?_
          refine And.intro (fun _ => ?_) (fun h => absurd h (by simp))
          refine bd ?_
          rw [hr, ← asc_less (key := fun s : GateTeam => s.name) hlt h0' h4]; rfl
      · repeat refine And.intro rfl ?_
        refine And.intro (fun _ => ?_) (fun h => absurd h (by simp))
        have ha := asc_ok (key := fun s : GateTeam => s.name) hlt h2 (.inl (le0 h3))
        repeat refine And.intro rfl ?_
        refine And.intro (fun h5 => ?_) (fun h5 => ?_)
        · repeat refine And.intro rfl ?_
          refine Or.inl (Exists.intro _ (And.intro (s_l4Team xs (xs[i]'hlt).over) ?_))
          repeat refine And.intro rfl ?_
          refine And.intro (fun h6 => ?_) (fun h6 => ?_)
          · refine bd ?_
            simp only [Bool.not_eq_true', Bool.not_eq_false', cond_true, cond_false] at h5 h6
            rw [hr, all_step hlt, show stepOk xs (xs[i]'hlt) = false from by simp only [stepOk, overOk, h5, h6, Bool.or_false, Bool.false_and]]
            simp only [Bool.false_and, Bool.and_false]
          · simp only [Bool.not_eq_true', Bool.not_eq_false', cond_true, cond_false] at h5 h6
            have ho : overOk xs (xs[i]'hlt) = true := by simp only [overOk, h5, h6, Bool.false_or]
            rw [ha, all_step hlt] at hr
            refine ⟨fun m l h => ∃ (c : Nat) (u : Bs), m = 5 - c ∧ c ≤ 5 ∧ upN xs 5 (xs[i]'hlt).name = upN xs (5 - c) u ∧ l = [(0, .d (lGateTeam xs)), (3, .d (.int .i64 i)), (5, .d (.str u)), (6, .d (.int .i64 c))] ∧ h = hp0,
              ⟨_, _, _, ⟨0, _, rfl, Nat.zero_le _, rfl, rfl, rfl⟩, rfl, rfl, ⟨rfl, rfl, rfl, rfl, trivial⟩, trivial, trivial⟩, ?_⟩
            rintro m l hh ⟨c, u, rfl, hc, hu, rfl, rfl⟩
            repeat refine And.intro rfl ?_
            refine And.intro (fun h7 => ?_) (fun h7 => ?_)
            · have hc4 : c ≤ 4 := by have := of_decide_eq_true h7; omega
              repeat refine And.intro rfl ?_
              refine And.intro (fun h8 => ?_) (fun h8 => ?_)
              · have hne : (u == []) = false := by simpa using h8
                repeat refine And.intro rfl ?_
                refine Or.inl (Exists.intro _ (And.intro (s_l4Over xs u) ?_))
                refine ⟨_, _, _, ⟨c + 1, _, rfl, by omega, ?_, rfl, rfl⟩, by omega, rfl, rfl, ⟨rfl, rfl, rfl, nd (wrap_succ (n := 5) (by omega) (by decide)), trivial⟩, trivial, trivial⟩
                rw [hu, show 5 - c = (5 - (c + 1)) + 1 from by omega]
                simp only [upN, hne, cond_false]
              · have hue : u = [] := by simpa using h8
                subst hue
                rw [upN_nil] at hu
                repeat refine And.intro rfl ?_
                refine And.intro (fun h => absurd h (by simp)) (fun _ => ?_)
                repeat refine And.intro rfl ?_
                exact ⟨_, _, _, ⟨i + 1, rfl, hlt, by rw [hr, stepOk, ho, hu]; rfl, rfl, rfl⟩, by omega, rfl, rfl, ⟨rfl, nd (wrap_succ hlt hs), trivial⟩, trivial, trivial⟩
            · have hc5 : c = 5 := by have := of_decide_eq_false h7; omega
              subst hc5
              replace hu : upN xs 5 (xs[i]'hlt).name = u := hu
              repeat refine And.intro rfl ?_
              refine And.intro (fun h9 => ?_) (fun h9 => ?_)
              · refine bd ?_
                have hne : (u == []) = false := by simpa using h9
                rw [hr, stepOk, hu, hne]; simp only [Bool.and_false, Bool.false_and]
              · have hue : u = [] := by simpa using h9
                repeat refine And.intro rfl ?_
                exact ⟨_, _, _, ⟨i + 1, rfl, hlt, by rw [hr, stepOk, ho, hu, hue]; rfl, rfl, rfl⟩, by omega, rfl, rfl, ⟨rfl, nd (wrap_succ hlt hs), trivial⟩, trivial, trivial⟩
        · repeat refine And.intro rfl ?_
          refine And.intro (fun h => absurd h (by simp)) (fun _ => ?_)
          simp only [Bool.not_eq_true', Bool.not_eq_false'] at h5
          have ho : overOk xs (xs[i]'hlt) = true := by simp only [overOk, h5, Bool.true_or]
          rw [ha, all_step hlt] at hr
          refine ⟨fun m l h => ∃ (c : Nat) (u : Bs), m = 5 - c ∧ c ≤ 5 ∧ upN xs 5 (xs[i]'hlt).name = upN xs (5 - c) u ∧ l = [(0, .d (lGateTeam xs)), (3, .d (.int .i64 i)), (5, .d (.str u)), (6, .d (.int .i64 c))] ∧ h = hp0,
            ⟨_, _, _, ⟨0, _, rfl, Nat.zero_le _, rfl, rfl, rfl⟩, rfl, rfl, ⟨rfl, rfl, rfl, rfl, trivial⟩, trivial, trivial⟩, ?_⟩
          rintro m l hh ⟨c, u, rfl, hc, hu, rfl, rfl⟩
          repeat refine And.intro rfl ?_
          refine And.intro (fun h7 => ?_) (fun h7 => ?_)
          · have hc4 : c ≤ 4 := by have := of_decide_eq_true h7; omega
            repeat refine And.intro rfl ?_
            refine And.intro (fun h8 => ?_) (fun h8 => ?_)
            · have hne : (u == []) = false := by simpa using h8
              repeat refine And.intro rfl ?_
              refine Or.inl (Exists.intro _ (And.intro (s_l4Over xs u) ?_))
              refine ⟨_, _, _, ⟨c + 1, _, rfl, by omega, ?_, rfl, rfl⟩, by omega, rfl, rfl, ⟨rfl, rfl, rfl, nd (wrap_succ (n := 5) (by omega) (by decide)), trivial⟩, trivial, trivial⟩
              rw [hu, show 5 - c = (5 - (c + 1)) + 1 from by omega]
              simp only [upN, hne, cond_false]
            · have hue : u = [] := by simpa using h8
              subst hue
              rw [upN_nil] at hu
              repeat refine And.intro rfl ?_
              refine And.intro (fun h => absurd h (by simp)) (fun _ => ?_)
              repeat refine And.intro rfl ?_
              exact ⟨_, _, _, ⟨i + 1, rfl, hlt, by rw [hr, stepOk, ho, hu]; rfl, rfl, rfl⟩, by omega, rfl, rfl, ⟨rfl, nd (wrap_succ hlt hs), trivial⟩, trivial, trivial⟩
          · have hc5 : c = 5 := by have := of_decide_eq_false h7; omega
            subst hc5
            replace hu : upN xs 5 (xs[i]'hlt).name = u := hu
            repeat refine And.intro rfl ?_
            refine And.intro (fun h9 => ?_) (fun h9 => ?_)
            · refine bd ?_
              have hne : (u == []) = false := by simpa using h9
              rw [hr, stepOk, hu, hne]; simp only [Bool.and_false, Bool.false_and]
            · have hue : u = [] := by simpa using h9
              repeat refine And.intro rfl ?_
              exact ⟨_, _, _, ⟨i + 1, rfl, hlt, by rw [hr, stepOk, ho, hu, hue]; rfl, rfl, rfl⟩, by omega, rfl, rfl, ⟨rfl, nd (wrap_succ hlt hs), trivial⟩, trivial, trivial⟩
    · repeat refine And.intro rfl ?_
      refine And.intro (fun h => absurd h (by simp)) (fun _ => ?_)
      repeat refine And.intro rfl ?_
      refine And.intro (fun _ => ?_) (fun h => absurd h (by simp))
      refine bd ?_
      rw [hr, ← asc_name (key := fun s : GateTeam => s.name) hlt h2]; rfl
  · refine bd ?_
    rw [hr, asc_end (ge_map h1), all_end (ge_map h1)]; rfl
end Go.Vc
