/- Contracts of the functions that the laws bring with them, printed by genlaws.py. -/
import Derived.Test.YtcakciamoopkcaaGreatGtQ
namespace Go.Vc
open Go.Proofs
set_option maxRecDepth 100000
set_option pp.maxSteps 400
set_option pp.deepTerms false
set_option linter.unusedSimpArgs false
set_option linter.unusedVariables false
theorem szStringS : ∃ m : List Bs → Int → Int, ∀ x n, Spec P 34 [.d (lS x), .d (.int .i64 n)] (.d (.int .i64 (m x n))) := by
  refine ⟨fun x n => szB (IntKind.i64.wrap (n - ((x.map eB).length : Int))) fun n => szL (fun (s : Bs) n => IntKind.i64.wrap (n - (s.length : Int))) x n, fun xs n => ?_⟩
  refine Spec.of_vc vcT vcM [.tmp 4] Tryz.func34 rfl rfl rfl rfl (fun hok => ?_)
  have hs : xs.length ≤ big := by have := hok.1.1; rwa [List.length_map] at this
  refine And.intro (fun h => nd (by simp only [szB, h, cond_true, cond_false])) (fun h => ?_)
  simp only [szB, h, cond_true, cond_false]
  refine ⟨fun k l h => ∃ (i : Nat) (v : Int), k = xs.length - i ∧ i ≤ xs.length ∧ szL (fun (s : Bs) n => IntKind.i64.wrap (n - (s.length : Int))) xs (IntKind.i64.wrap (n - ((xs.map eB).length : Int))) = szL (fun (s : Bs) n => IntKind.i64.wrap (n - (s.length : Int))) (xs.drop i) v ∧ l = [(0, .d (lS xs)), (1, .d (.int .i64 v)), (5, .d (.int .i64 i))] ∧ h = hp0,
    ⟨_, _, _, ⟨0, _, rfl, Nat.zero_le _, rfl, rfl, rfl⟩, rfl, rfl, ⟨rfl, rfl, rfl, trivial⟩, trivial, trivial⟩, ?_⟩
  rintro k l h1 ⟨i, v, rfl, hi, hr, rfl, rfl⟩
  refine And.intro (fun h1 => ?_) (fun h1 => ?_)
  · have hlt : i < xs.length := lt_map h1
    repeat refine And.intro rfl ?_
    refine ix_at (e := eB) (xs := xs) (hlt) rfl ?_
    repeat refine And.intro rfl ?_
    refine And.intro (fun h2 => ?_) (fun h2 => ?_)
    · refine nd ?_
      rw [hr, szL_step hlt]
      simp only [szB, h2, cond_true]
    · refine ⟨_, _, _, ⟨i + 1, _, rfl, hlt, ?_, rfl, rfl⟩, by omega, rfl, rfl, ⟨rfl, rfl, nd (wrap_succ hlt hs), trivial⟩, trivial, trivial⟩
      rw [hr, szL_step hlt]
      simp only [szB, h2, cond_false]
  · refine nd ?_
    rw [hr, List.drop_of_length_le (ge_map h1)]; rfl
theorem szIntS : ∃ m : List Int → Int → Int, ∀ x n, Spec P 59 [.d (lI x), .d (.int .i64 n)] (.d (.int .i64 (m x n))) := by
  refine ⟨fun x n => szB (IntKind.i64.wrap (n - ((x.map eN).length : Int))) fun n => n, fun x n => ?_⟩
  refine Spec.of_vc vcT vcM [.tmp 4] Tryz.func59 rfl rfl rfl rfl (fun hok => ?_)
  refine And.intro (fun h => nd (by simp only [szB, h, cond_true, cond_false])) (fun h => nd (by simp only [szB, h, cond_true, cond_false]))
theorem szGateField : ∃ m : GateField → Int → Int, ∀ x n, Spec P 79 [st x.e, .d (.int .i64 n)] (.d (.int .i64 (m x n))) := by
  obtain ⟨m0, hm0⟩ := szStringS
  refine ⟨fun x n => szB (IntKind.i64.wrap (n - (x.name.length : Int))) fun n => szB (m0 x.words n) fun n => szB (IntKind.i64.wrap (n - (x.to_.length : Int))) fun n => szB (IntKind.i64.wrap (n - (x.default_.length : Int))) fun n => szB (IntKind.i64.wrap (n - (x.weighs.length : Int))) fun n => n, fun x n => ?_⟩
  refine Spec.of_vc vcT vcM [.tmp 4] Tryz.func79 rfl rfl rfl rfl (fun hok => ?_)
  refine And.intro (fun h => nd (by simp only [szB, h, *, cond_true, cond_false])) (fun h0 => ?_)
  repeat refine And.intro rfl ?_
  refine Or.inl (Exists.intro _ (And.intro (hm0 _ _) ?_))
  refine And.intro (fun h => nd (by simp only [szB, h, *, cond_true, cond_false])) (fun h1 => ?_)
  refine And.intro (fun h => nd (by simp only [szB, h, *, cond_true, cond_false])) (fun h2 => ?_)
  refine And.intro (fun h => nd (by simp only [szB, h, *, cond_true, cond_false])) (fun h3 => ?_)
  refine And.intro (fun h => nd (by simp only [szB, h, *, cond_true, cond_false])) (fun h4 => ?_)
  exact nd (by simp only [szB, *, cond_true, cond_false])
theorem szGateFieldS : ∃ m : List GateField → Int → Int, ∀ x n, Spec P 58 [.d (lGateField x), .d (.int .i64 n)] (.d (.int .i64 (m x n))) := by
  obtain ⟨m, hm⟩ := szGateField
  refine ⟨fun x n => szB (IntKind.i64.wrap (n - ((x.map GateField.e).length : Int))) fun n => szL m x n, fun xs n => ?_⟩
  refine Spec.of_vc vcT vcM [.tmp 4] Tryz.func58 rfl rfl rfl rfl (fun hok => ?_)
  have hs : xs.length ≤ big := by have := hok.1.1; rwa [List.length_map] at this
  refine And.intro (fun h => nd (by simp only [szB, h, cond_true, cond_false])) (fun h => ?_)
  simp only [szB, h, cond_true, cond_false]
  refine ⟨fun k l h => ∃ (i : Nat) (v : Int), k = xs.length - i ∧ i ≤ xs.length ∧ szL m xs (IntKind.i64.wrap (n - ((xs.map GateField.e).length : Int))) = szL m (xs.drop i) v ∧ l = [(0, .d (lGateField xs)), (1, .d (.int .i64 v)), (5, .d (.int .i64 i))] ∧ h = hp0,
    ⟨_, _, _, ⟨0, _, rfl, Nat.zero_le _, rfl, rfl, rfl⟩, rfl, rfl, ⟨rfl, rfl, rfl, trivial⟩, trivial, trivial⟩, ?_⟩
  rintro k l h1 ⟨i, v, rfl, hi, hr, rfl, rfl⟩
  refine And.intro (fun h1 => ?_) (fun h1 => ?_)
  · have hlt : i < xs.length := lt_map h1
    repeat refine And.intro rfl ?_
    refine ix_at (e := GateField.e) (xs := xs) (hlt) rfl ?_
    repeat refine And.intro rfl ?_
    repeat refine And.intro rfl ?_
    refine Or.inl (Exists.intro _ (And.intro (hm _ _) ?_))
    refine And.intro (fun h2 => ?_) (fun h2 => ?_)
    · refine nd ?_
      rw [hr, szL_step hlt]
      simp only [szB, h2, cond_true]
    · refine ⟨_, _, _, ⟨i + 1, _, rfl, hlt, ?_, rfl, rfl⟩, by omega, rfl, rfl, ⟨rfl, rfl, nd (wrap_succ hlt hs), trivial⟩, trivial, trivial⟩
      rw [hr, szL_step hlt]
      simp only [szB, h2, cond_false]
  · refine nd ?_
    rw [hr, List.drop_of_length_le (ge_map h1)]; rfl
theorem szGateShape : ∃ m : GateShape → Int → Int, ∀ x n, Spec P 31 [st x.e, .d (.int .i64 n)] (.d (.int .i64 (m x n))) := by
  obtain ⟨m0, hm0⟩ := szGateFieldS
  refine ⟨fun x n => szB (IntKind.i64.wrap (n - (x.kind.length : Int))) fun n => szB (m0 x.fields n) fun n => n, fun x n => ?_⟩
  refine Spec.of_vc vcT vcM [.tmp 4] Tryz.func31 rfl rfl rfl rfl (fun hok => ?_)
  refine And.intro (fun h => nd (by simp only [szB, h, *, cond_true, cond_false])) (fun h0 => ?_)
  repeat refine And.intro rfl ?_
  refine Or.inl (Exists.intro _ (And.intro (hm0 _ _) ?_))
  refine And.intro (fun h => nd (by simp only [szB, h, *, cond_true, cond_false])) (fun h1 => ?_)
  exact nd (by simp only [szB, *, cond_true, cond_false])
theorem szGateShapeS : ∃ m : List GateShape → Int → Int, ∀ x n, Spec P 12 [.d (lGateShape x), .d (.int .i64 n)] (.d (.int .i64 (m x n))) := by
  obtain ⟨m, hm⟩ := szGateShape
  refine ⟨fun x n => szB (IntKind.i64.wrap (n - ((x.map GateShape.e).length : Int))) fun n => szL m x n, fun xs n => ?_⟩
  refine Spec.of_vc vcT vcM [.tmp 4] Tryz.func12 rfl rfl rfl rfl (fun hok => ?_)
  have hs : xs.length ≤ big := by have := hok.1.1; rwa [List.length_map] at this
  refine And.intro (fun h => nd (by simp only [szB, h, cond_true, cond_false])) (fun h => ?_)
  simp only [szB, h, cond_true, cond_false]
  refine ⟨fun k l h => ∃ (i : Nat) (v : Int), k = xs.length - i ∧ i ≤ xs.length ∧ szL m xs (IntKind.i64.wrap (n - ((xs.map GateShape.e).length : Int))) = szL m (xs.drop i) v ∧ l = [(0, .d (lGateShape xs)), (1, .d (.int .i64 v)), (5, .d (.int .i64 i))] ∧ h = hp0,
    ⟨_, _, _, ⟨0, _, rfl, Nat.zero_le _, rfl, rfl, rfl⟩, rfl, rfl, ⟨rfl, rfl, rfl, trivial⟩, trivial, trivial⟩, ?_⟩
  rintro k l h1 ⟨i, v, rfl, hi, hr, rfl, rfl⟩
  refine And.intro (fun h1 => ?_) (fun h1 => ?_)
  · have hlt : i < xs.length := lt_map h1
    repeat refine And.intro rfl ?_
    refine ix_at (e := GateShape.e) (xs := xs) (hlt) rfl ?_
    repeat refine And.intro rfl ?_
    repeat refine And.intro rfl ?_
    refine Or.inl (Exists.intro _ (And.intro (hm _ _) ?_))
    refine And.intro (fun h2 => ?_) (fun h2 => ?_)
    · refine nd ?_
      rw [hr, szL_step hlt]
      simp only [szB, h2, cond_true]
    · refine ⟨_, _, _, ⟨i + 1, _, rfl, hlt, ?_, rfl, rfl⟩, by omega, rfl, rfl, ⟨rfl, rfl, nd (wrap_succ hlt hs), trivial⟩, trivial, trivial⟩
      rw [hr, szL_step hlt]
      simp only [szB, h2, cond_false]
  · refine nd ?_
    rw [hr, List.drop_of_length_le (ge_map h1)]; rfl
theorem szGateMend : ∃ m : GateMend → Int → Int, ∀ x n, Spec P 32 [st x.e, .d (.int .i64 n)] (.d (.int .i64 (m x n))) := by
  refine ⟨fun x n => szB (IntKind.i64.wrap (n - (x.kind.length : Int))) fun n => szB (IntKind.i64.wrap (n - (x.field.length : Int))) fun n => szB (IntKind.i64.wrap (n - (x.when_.length : Int))) fun n => szB (IntKind.i64.wrap (n - (x.is_.length : Int))) fun n => szB (IntKind.i64.wrap (n - (x.put.length : Int))) fun n => szB (IntKind.i64.wrap (n - (x.from_.length : Int))) fun n => n, fun x n => ?_⟩
  refine Spec.of_vc vcT vcM [.tmp 4] Tryz.func32 rfl rfl rfl rfl (fun hok => ?_)
  refine And.intro (fun h => nd (by simp only [szB, h, *, cond_true, cond_false])) (fun h0 => ?_)
  refine And.intro (fun h => nd (by simp only [szB, h, *, cond_true, cond_false])) (fun h1 => ?_)
  refine And.intro (fun h => nd (by simp only [szB, h, *, cond_true, cond_false])) (fun h2 => ?_)
  refine And.intro (fun h => nd (by simp only [szB, h, *, cond_true, cond_false])) (fun h3 => ?_)
  refine And.intro (fun h => nd (by simp only [szB, h, *, cond_true, cond_false])) (fun h4 => ?_)
  refine And.intro (fun h => nd (by simp only [szB, h, *, cond_true, cond_false])) (fun h5 => ?_)
  exact nd (by simp only [szB, *, cond_true, cond_false])
theorem szGateMendS : ∃ m : List GateMend → Int → Int, ∀ x n, Spec P 13 [.d (lGateMend x), .d (.int .i64 n)] (.d (.int .i64 (m x n))) := by
  obtain ⟨m, hm⟩ := szGateMend
  refine ⟨fun x n => szB (IntKind.i64.wrap (n - ((x.map GateMend.e).length : Int))) fun n => szL m x n, fun xs n => ?_⟩
  refine Spec.of_vc vcT vcM [.tmp 4] Tryz.func13 rfl rfl rfl rfl (fun hok => ?_)
  have hs : xs.length ≤ big := by have := hok.1.1; rwa [List.length_map] at this
  refine And.intro (fun h => nd (by simp only [szB, h, cond_true, cond_false])) (fun h => ?_)
  simp only [szB, h, cond_true, cond_false]
  refine ⟨fun k l h => ∃ (i : Nat) (v : Int), k = xs.length - i ∧ i ≤ xs.length ∧ szL m xs (IntKind.i64.wrap (n - ((xs.map GateMend.e).length : Int))) = szL m (xs.drop i) v ∧ l = [(0, .d (lGateMend xs)), (1, .d (.int .i64 v)), (5, .d (.int .i64 i))] ∧ h = hp0,
    ⟨_, _, _, ⟨0, _, rfl, Nat.zero_le _, rfl, rfl, rfl⟩, rfl, rfl, ⟨rfl, rfl, rfl, trivial⟩, trivial, trivial⟩, ?_⟩
  rintro k l h1 ⟨i, v, rfl, hi, hr, rfl, rfl⟩
  refine And.intro (fun h1 => ?_) (fun h1 => ?_)
  · have hlt : i < xs.length := lt_map h1
    repeat refine And.intro rfl ?_
    refine ix_at (e := GateMend.e) (xs := xs) (hlt) rfl ?_
    repeat refine And.intro rfl ?_
    repeat refine And.intro rfl ?_
    refine Or.inl (Exists.intro _ (And.intro (hm _ _) ?_))
    refine And.intro (fun h2 => ?_) (fun h2 => ?_)
    · refine nd ?_
      rw [hr, szL_step hlt]
      simp only [szB, h2, cond_true]
    · refine ⟨_, _, _, ⟨i + 1, _, rfl, hlt, ?_, rfl, rfl⟩, by omega, rfl, rfl, ⟨rfl, rfl, nd (wrap_succ hlt hs), trivial⟩, trivial, trivial⟩
      rw [hr, szL_step hlt]
      simp only [szB, h2, cond_false]
  · refine nd ?_
    rw [hr, List.drop_of_length_le (ge_map h1)]; rfl
theorem szGateTeam : ∃ m : GateTeam → Int → Int, ∀ x n, Spec P 33 [st x.e, .d (.int .i64 n)] (.d (.int .i64 (m x n))) := by
  refine ⟨fun x n => szB (IntKind.i64.wrap (n - (x.name.length : Int))) fun n => szB (IntKind.i64.wrap (n - (x.over.length : Int))) fun n => n, fun x n => ?_⟩
  refine Spec.of_vc vcT vcM [.tmp 4] Tryz.func33 rfl rfl rfl rfl (fun hok => ?_)
  refine And.intro (fun h => nd (by simp only [szB, h, *, cond_true, cond_false])) (fun h0 => ?_)
  refine And.intro (fun h => nd (by simp only [szB, h, *, cond_true, cond_false])) (fun h1 => ?_)
  exact nd (by simp only [szB, *, cond_true, cond_false])
theorem szGateTeamS : ∃ m : List GateTeam → Int → Int, ∀ x n, Spec P 14 [.d (lGateTeam x), .d (.int .i64 n)] (.d (.int .i64 (m x n))) := by
  obtain ⟨m, hm⟩ := szGateTeam
  refine ⟨fun x n => szB (IntKind.i64.wrap (n - ((x.map GateTeam.e).length : Int))) fun n => szL m x n, fun xs n => ?_⟩
  refine Spec.of_vc vcT vcM [.tmp 4] Tryz.func14 rfl rfl rfl rfl (fun hok => ?_)
  have hs : xs.length ≤ big := by have := hok.1.1; rwa [List.length_map] at this
  refine And.intro (fun h => nd (by simp only [szB, h, cond_true, cond_false])) (fun h => ?_)
  simp only [szB, h, cond_true, cond_false]
  refine ⟨fun k l h => ∃ (i : Nat) (v : Int), k = xs.length - i ∧ i ≤ xs.length ∧ szL m xs (IntKind.i64.wrap (n - ((xs.map GateTeam.e).length : Int))) = szL m (xs.drop i) v ∧ l = [(0, .d (lGateTeam xs)), (1, .d (.int .i64 v)), (5, .d (.int .i64 i))] ∧ h = hp0,
    ⟨_, _, _, ⟨0, _, rfl, Nat.zero_le _, rfl, rfl, rfl⟩, rfl, rfl, ⟨rfl, rfl, rfl, trivial⟩, trivial, trivial⟩, ?_⟩
  rintro k l h1 ⟨i, v, rfl, hi, hr, rfl, rfl⟩
  refine And.intro (fun h1 => ?_) (fun h1 => ?_)
  · have hlt : i < xs.length := lt_map h1
    repeat refine And.intro rfl ?_
    refine ix_at (e := GateTeam.e) (xs := xs) (hlt) rfl ?_
    repeat refine And.intro rfl ?_
    repeat refine And.intro rfl ?_
    refine Or.inl (Exists.intro _ (And.intro (hm _ _) ?_))
    refine And.intro (fun h2 => ?_) (fun h2 => ?_)
    · refine nd ?_
      rw [hr, szL_step hlt]
      simp only [szB, h2, cond_true]
    · refine ⟨_, _, _, ⟨i + 1, _, rfl, hlt, ?_, rfl, rfl⟩, by omega, rfl, rfl, ⟨rfl, rfl, nd (wrap_succ hlt hs), trivial⟩, trivial, trivial⟩
      rw [hr, szL_step hlt]
      simp only [szB, h2, cond_false]
  · refine nd ?_
    rw [hr, List.drop_of_length_le (ge_map h1)]; rfl
theorem szGateLaw : ∃ m : GateLaw → Int → Int, ∀ x n, Spec P 4 [st x.e, .d (.int .i64 n)] (.d (.int .i64 (m x n))) := by
  obtain ⟨m0, hm0⟩ := szGateShapeS
  obtain ⟨m1, hm1⟩ := szGateMendS
  obtain ⟨m2, hm2⟩ := szGateTeamS
  refine ⟨fun x n => szB (m0 x.shapes n) fun n => szB (m1 x.mends n) fun n => szB (m2 x.teams n) fun n => n, fun x n => ?_⟩
  refine Spec.of_vc vcT vcM [.tmp 4] Tryz.func4 rfl rfl rfl rfl (fun hok => ?_)
  repeat refine And.intro rfl ?_
  refine Or.inl (Exists.intro _ (And.intro (hm0 _ _) ?_))
  refine And.intro (fun h => nd (by simp only [szB, h, *, cond_true, cond_false])) (fun h0 => ?_)
  repeat refine And.intro rfl ?_
  refine Or.inl (Exists.intro _ (And.intro (hm1 _ _) ?_))
  refine And.intro (fun h => nd (by simp only [szB, h, *, cond_true, cond_false])) (fun h1 => ?_)
  repeat refine And.intro rfl ?_
  refine Or.inl (Exists.intro _ (And.intro (hm2 _ _) ?_))
  refine And.intro (fun h => nd (by simp only [szB, h, *, cond_true, cond_false])) (fun h2 => ?_)
  exact nd (by simp only [szB, *, cond_true, cond_false])
theorem szGateRule : ∃ m : GateRule → Int → Int, ∀ x n, Spec P 35 [st x.e, .d (.int .i64 n)] (.d (.int .i64 (m x n))) := by
  obtain ⟨m0, hm0⟩ := szIntS
  refine ⟨fun x n => szB (m0 x.verbs n) fun n => szB (IntKind.i64.wrap (n - (x.kind.length : Int))) fun n => szB (IntKind.i64.wrap (n - (x.team.length : Int))) fun n => szB (IntKind.i64.wrap (n - (x.prefix_.length : Int))) fun n => n, fun x n => ?_⟩
  refine Spec.of_vc vcT vcM [.tmp 4] Tryz.func35 rfl rfl rfl rfl (fun hok => ?_)
  repeat refine And.intro rfl ?_
  refine Or.inl (Exists.intro _ (And.intro (hm0 _ _) ?_))
  refine And.intro (fun h => nd (by simp only [szB, h, *, cond_true, cond_false])) (fun h0 => ?_)
  refine And.intro (fun h => nd (by simp only [szB, h, *, cond_true, cond_false])) (fun h1 => ?_)
  refine And.intro (fun h => nd (by simp only [szB, h, *, cond_true, cond_false])) (fun h2 => ?_)
  refine And.intro (fun h => nd (by simp only [szB, h, *, cond_true, cond_false])) (fun h3 => ?_)
  exact nd (by simp only [szB, *, cond_true, cond_false])
theorem szGateAsk : ∃ m : GateAsk → Int → Int, ∀ x n, Spec P 15 [st x.e, .d (.int .i64 n)] (.d (.int .i64 (m x n))) := by
  obtain ⟨m0, hm0⟩ := szStringS
  obtain ⟨m1, hm1⟩ := szGateRule
  refine ⟨fun x n => szB (IntKind.i64.wrap (n - (x.who.length : Int))) fun n => szB (IntKind.i64.wrap (n - (x.kind.length : Int))) fun n => szB (IntKind.i64.wrap (n - (x.name.length : Int))) fun n => szB (IntKind.i64.wrap (n - (x.team.length : Int))) fun n => szB (m0 x.values n) fun n => szB (m0 x.holds n) fun n => szB (IntKind.i64.wrap (n - (x.hold.length : Int))) fun n => szB (IntKind.i64.wrap (n - (x.to_.length : Int))) fun n => szB (m1 x.rule n) fun n => n, fun x n => ?_⟩
  refine Spec.of_vc vcT vcM [.tmp 4] Tryz.func15 rfl rfl rfl rfl (fun hok => ?_)
  refine And.intro (fun h => nd (by simp only [szB, h, *, cond_true, cond_false])) (fun h0 => ?_)
  refine And.intro (fun h => nd (by simp only [szB, h, *, cond_true, cond_false])) (fun h1 => ?_)
  refine And.intro (fun h => nd (by simp only [szB, h, *, cond_true, cond_false])) (fun h2 => ?_)
  refine And.intro (fun h => nd (by simp only [szB, h, *, cond_true, cond_false])) (fun h3 => ?_)
  repeat refine And.intro rfl ?_
  refine Or.inl (Exists.intro _ (And.intro (hm0 _ _) ?_))
  refine And.intro (fun h => nd (by simp only [szB, h, *, cond_true, cond_false])) (fun h4 => ?_)
  repeat refine And.intro rfl ?_
  refine Or.inl (Exists.intro _ (And.intro (hm0 _ _) ?_))
  refine And.intro (fun h => nd (by simp only [szB, h, *, cond_true, cond_false])) (fun h5 => ?_)
  refine And.intro (fun h => nd (by simp only [szB, h, *, cond_true, cond_false])) (fun h6 => ?_)
  refine And.intro (fun h => nd (by simp only [szB, h, *, cond_true, cond_false])) (fun h7 => ?_)
  repeat refine And.intro rfl ?_
  refine Or.inl (Exists.intro _ (And.intro (hm1 _ _) ?_))
  refine And.intro (fun h => nd (by simp only [szB, h, *, cond_true, cond_false])) (fun h8 => ?_)
  exact nd (by simp only [szB, *, cond_true, cond_false])
theorem szGateWant : ∃ m : GateWant → Int → Int, ∀ x n, Spec P 36 [st x.e, .d (.int .i64 n)] (.d (.int .i64 (m x n))) := by
  refine ⟨fun x n => szB (IntKind.i64.wrap (n - (x.kind.length : Int))) fun n => szB (IntKind.i64.wrap (n - (x.name.length : Int))) fun n => n, fun x n => ?_⟩
  refine Spec.of_vc vcT vcM [.tmp 4] Tryz.func36 rfl rfl rfl rfl (fun hok => ?_)
  refine And.intro (fun h => nd (by simp only [szB, h, *, cond_true, cond_false])) (fun h0 => ?_)
  refine And.intro (fun h => nd (by simp only [szB, h, *, cond_true, cond_false])) (fun h1 => ?_)
  exact nd (by simp only [szB, *, cond_true, cond_false])
theorem szGateWantS : ∃ m : List GateWant → Int → Int, ∀ x n, Spec P 16 [.d (lGateWant x), .d (.int .i64 n)] (.d (.int .i64 (m x n))) := by
  obtain ⟨m, hm⟩ := szGateWant
  refine ⟨fun x n => szB (IntKind.i64.wrap (n - ((x.map GateWant.e).length : Int))) fun n => szL m x n, fun xs n => ?_⟩
  refine Spec.of_vc vcT vcM [.tmp 4] Tryz.func16 rfl rfl rfl rfl (fun hok => ?_)
  have hs : xs.length ≤ big := by have := hok.1.1; rwa [List.length_map] at this
  refine And.intro (fun h => nd (by simp only [szB, h, cond_true, cond_false])) (fun h => ?_)
  simp only [szB, h, cond_true, cond_false]
  refine ⟨fun k l h => ∃ (i : Nat) (v : Int), k = xs.length - i ∧ i ≤ xs.length ∧ szL m xs (IntKind.i64.wrap (n - ((xs.map GateWant.e).length : Int))) = szL m (xs.drop i) v ∧ l = [(0, .d (lGateWant xs)), (1, .d (.int .i64 v)), (5, .d (.int .i64 i))] ∧ h = hp0,
    ⟨_, _, _, ⟨0, _, rfl, Nat.zero_le _, rfl, rfl, rfl⟩, rfl, rfl, ⟨rfl, rfl, rfl, trivial⟩, trivial, trivial⟩, ?_⟩
  rintro k l h1 ⟨i, v, rfl, hi, hr, rfl, rfl⟩
  refine And.intro (fun h1 => ?_) (fun h1 => ?_)
  · have hlt : i < xs.length := lt_map h1
    repeat refine And.intro rfl ?_
    refine ix_at (e := GateWant.e) (xs := xs) (hlt) rfl ?_
    repeat refine And.intro rfl ?_
    repeat refine And.intro rfl ?_
    refine Or.inl (Exists.intro _ (And.intro (hm _ _) ?_))
    refine And.intro (fun h2 => ?_) (fun h2 => ?_)
    · refine nd ?_
      rw [hr, szL_step hlt]
      simp only [szB, h2, cond_true]
    · refine ⟨_, _, _, ⟨i + 1, _, rfl, hlt, ?_, rfl, rfl⟩, by omega, rfl, rfl, ⟨rfl, rfl, nd (wrap_succ hlt hs), trivial⟩, trivial, trivial⟩
      rw [hr, szL_step hlt]
      simp only [szB, h2, cond_false]
  · refine nd ?_
    rw [hr, List.drop_of_length_le (ge_map h1)]; rfl
theorem szGateSlip : ∃ m : GateSlip → Int → Int, ∀ x n, Spec P 5 [st x.e, .d (.int .i64 n)] (.d (.int .i64 (m x n))) := by
  obtain ⟨m0, hm0⟩ := szGateAsk
  obtain ⟨m1, hm1⟩ := szGateWantS
  refine ⟨fun x n => szB (IntKind.i64.wrap (n - (x.door.length : Int))) fun n => szB (m0 x.ask n) fun n => szB (m1 x.wants n) fun n => n, fun x n => ?_⟩
  refine Spec.of_vc vcT vcM [.tmp 4] Tryz.func5 rfl rfl rfl rfl (fun hok => ?_)
  refine And.intro (fun h => nd (by simp only [szB, h, *, cond_true, cond_false])) (fun h0 => ?_)
  repeat refine And.intro rfl ?_
  refine Or.inl (Exists.intro _ (And.intro (hm0 _ _) ?_))
  refine And.intro (fun h => nd (by simp only [szB, h, *, cond_true, cond_false])) (fun h1 => ?_)
  repeat refine And.intro rfl ?_
  refine Or.inl (Exists.intro _ (And.intro (hm1 _ _) ?_))
  refine And.intro (fun h => nd (by simp only [szB, h, *, cond_true, cond_false])) (fun h2 => ?_)
  exact nd (by simp only [szB, *, cond_true, cond_false])
theorem to_StringS (xs : List Bs) : Spec P 44 [.d (lS xs)] (.d (lS xs)) := by
  refine Spec.of_vc vcT vcM [.tmp 2] Tryz.func44 rfl rfl rfl rfl (fun hok => ?_)
  have hs : xs.length ≤ big := by have := hok.1.1; rwa [List.length_map] at this
  repeat refine And.intro rfl ?_
  refine And.intro (Int.natCast_nonneg _) (And.intro (Int.le_refl _) (And.intro (mk_ok hs) ?_))
  refine ⟨fun k l h => ∃ i : Nat, k = xs.length - i ∧ i ≤ xs.length ∧ l = [(0, .d (lS xs)), (3, .own 0), (4, .d (.int .i64 i))] ∧ h = ⟨[(0, .row 9 [D.str []].length (rowsAt eB xs [D.str []] i))], 1, 0⟩,
    ⟨_, _, _, ⟨0, rfl, Nat.zero_le _, rfl, rfl⟩, rfl, rfl, ⟨rfl, rfl, rfl, trivial⟩, ⟨rfl, trivial⟩, ⟨rowsAt_start, trivial⟩⟩, ?_⟩
  rintro k l h1 ⟨i, rfl, hi, rfl, rfl⟩
  refine And.intro (fun h1 => ?_) (fun h1 => ?_)
  · have hlt : i < xs.length := lt_map h1
    repeat refine And.intro rfl ?_
    refine ix_at (e := eB) (xs := xs) (hlt) rfl ?_
    repeat refine And.intro rfl ?_
    repeat refine And.intro rfl ?_
    refine And.intro (Int.natCast_nonneg _) (And.intro (by rw [rowsAt_len hi]; omega) ?_)
    repeat refine And.intro rfl ?_
    refine ⟨_, rowsAt_get hlt, Nat.le_refl _, ?_⟩
    exact ⟨_, _, _, ⟨i + 1, rfl, hlt, rfl, rfl⟩, by omega, rfl, rfl, ⟨rfl, rfl, nd (wrap_succ hlt hs), trivial⟩, ⟨rfl, trivial⟩, ⟨rowsAt_set hlt rfl, trivial⟩⟩
  · exact ld (rowsAt_end (ge_map h1) hi)
theorem to_IntS (xs : List Int) : Spec P 73 [.d (lI xs)] (.d (lI xs)) := by
  refine Spec.of_vc vcT vcM [.tmp 2] Tryz.func73 rfl rfl rfl rfl (fun hok => ?_)
  have hs : xs.length ≤ big := by have := hok.1.1; rwa [List.length_map] at this
  repeat refine And.intro rfl ?_
  refine And.intro (Int.natCast_nonneg _) (And.intro (Int.le_refl _) (And.intro (mk_ok hs) ?_))
  refine ⟨fun k l h => ∃ i : Nat, k = xs.length - i ∧ i ≤ xs.length ∧ l = [(0, .d (lI xs)), (3, .own 0), (4, .d (.int .i64 i))] ∧ h = ⟨[(0, .row 3 [D.int .i64 0].length (rowsAt eN xs [D.int .i64 0] i))], 1, 0⟩,
    ⟨_, _, _, ⟨0, rfl, Nat.zero_le _, rfl, rfl⟩, rfl, rfl, ⟨rfl, rfl, rfl, trivial⟩, ⟨rfl, trivial⟩, ⟨rowsAt_start, trivial⟩⟩, ?_⟩
  rintro k l h1 ⟨i, rfl, hi, rfl, rfl⟩
  refine And.intro (fun h1 => ?_) (fun h1 => ?_)
  · have hlt : i < xs.length := lt_map h1
    repeat refine And.intro rfl ?_
    refine ix_at (e := eN) (xs := xs) (hlt) rfl ?_
    repeat refine And.intro rfl ?_
    repeat refine And.intro rfl ?_
    refine And.intro (Int.natCast_nonneg _) (And.intro (by rw [rowsAt_len hi]; omega) ?_)
    repeat refine And.intro rfl ?_
    refine ⟨_, rowsAt_get hlt, Nat.le_refl _, ?_⟩
    exact ⟨_, _, _, ⟨i + 1, rfl, hlt, rfl, rfl⟩, by omega, rfl, rfl, ⟨rfl, rfl, nd (wrap_succ hlt hs), trivial⟩, ⟨rfl, trivial⟩, ⟨rowsAt_set hlt rfl, trivial⟩⟩
  · exact ld (rowsAt_end (ge_map h1) hi)
def GateField.z : List D := [.str [], .int .i64 0, .int .i64 0, .int .i64 0, .list [], .str [], .int .i64 0, .bool false, .bool false, .str [], .str []]
theorem to_GateField (x : GateField) : Spec P 86 [st x.e] (st x.e) := by
  refine Spec.of_vc vcT vcM [.cell 2 141] Tryz.func86 rfl rfl rfl rfl (fun hok => ?_)
  repeat refine And.intro rfl ?_
  refine Or.inl (Exists.intro _ (And.intro (to_StringS _) ?_))
  repeat refine And.intro rfl ?_
  rfl
theorem to_GateFieldS (xs : List GateField) : Spec P 72 [.d (lGateField xs)] (.d (lGateField xs)) := by
  refine Spec.of_vc vcT vcM [.tmp 2] Tryz.func72 rfl rfl rfl rfl (fun hok => ?_)
  have hs : xs.length ≤ big := by have := hok.1.1; rwa [List.length_map] at this
  repeat refine And.intro rfl ?_
  refine And.intro (Int.natCast_nonneg _) (And.intro (Int.le_refl _) (And.intro (mk_ok hs) ?_))
  refine ⟨fun k l h => ∃ i : Nat, k = xs.length - i ∧ i ≤ xs.length ∧ l = [(0, .d (lGateField xs)), (3, .own 0), (4, .d (.int .i64 i))] ∧ h = ⟨[(0, .row 141 GateField.z.length (rowsAt GateField.e xs GateField.z i))], 1, 0⟩,
    ⟨_, _, _, ⟨0, rfl, Nat.zero_le _, rfl, rfl⟩, rfl, rfl, ⟨rfl, rfl, rfl, trivial⟩, ⟨rfl, trivial⟩, ⟨rowsAt_start, trivial⟩⟩, ?_⟩
  rintro k l h1 ⟨i, rfl, hi, rfl, rfl⟩
  refine And.intro (fun h1 => ?_) (fun h1 => ?_)
  · have hlt : i < xs.length := lt_map h1
    repeat refine And.intro rfl ?_
    refine ix_at (e := GateField.e) (xs := xs) (hlt) rfl ?_
    repeat refine And.intro rfl ?_
    repeat refine And.intro rfl ?_
    refine Or.inl (Exists.intro _ (And.intro (to_GateField _) ?_))
    repeat refine And.intro rfl ?_
    refine And.intro (Int.natCast_nonneg _) (And.intro (by rw [rowsAt_len hi]; omega) ?_)
    repeat refine And.intro rfl ?_
    refine ⟨_, rowsAt_get hlt, Nat.le_refl _, ?_⟩
    exact ⟨_, _, _, ⟨i + 1, rfl, hlt, rfl, rfl⟩, by omega, rfl, rfl, ⟨rfl, rfl, nd (wrap_succ hlt hs), trivial⟩, ⟨rfl, trivial⟩, ⟨rowsAt_set hlt rfl, trivial⟩⟩
  · exact ld (rowsAt_end (ge_map h1) hi)
def GateShape.z : List D := [.str [], .list []]
theorem to_GateShape (x : GateShape) : Spec P 41 [st x.e] (st x.e) := by
  refine Spec.of_vc vcT vcM [.cell 2 93] Tryz.func41 rfl rfl rfl rfl (fun hok => ?_)
  repeat refine And.intro rfl ?_
  refine Or.inl (Exists.intro _ (And.intro (to_GateFieldS _) ?_))
  repeat refine And.intro rfl ?_
  rfl
theorem to_GateShapeS (xs : List GateShape) : Spec P 19 [.d (lGateShape xs)] (.d (lGateShape xs)) := by
  refine Spec.of_vc vcT vcM [.tmp 2] Tryz.func19 rfl rfl rfl rfl (fun hok => ?_)
  have hs : xs.length ≤ big := by have := hok.1.1; rwa [List.length_map] at this
  repeat refine And.intro rfl ?_
  refine And.intro (Int.natCast_nonneg _) (And.intro (Int.le_refl _) (And.intro (mk_ok hs) ?_))
  refine ⟨fun k l h => ∃ i : Nat, k = xs.length - i ∧ i ≤ xs.length ∧ l = [(0, .d (lGateShape xs)), (3, .own 0), (4, .d (.int .i64 i))] ∧ h = ⟨[(0, .row 93 GateShape.z.length (rowsAt GateShape.e xs GateShape.z i))], 1, 0⟩,
    ⟨_, _, _, ⟨0, rfl, Nat.zero_le _, rfl, rfl⟩, rfl, rfl, ⟨rfl, rfl, rfl, trivial⟩, ⟨rfl, trivial⟩, ⟨rowsAt_start, trivial⟩⟩, ?_⟩
  rintro k l h1 ⟨i, rfl, hi, rfl, rfl⟩
  refine And.intro (fun h1 => ?_) (fun h1 => ?_)
  · have hlt : i < xs.length := lt_map h1
    repeat refine And.intro rfl ?_
    refine ix_at (e := GateShape.e) (xs := xs) (hlt) rfl ?_
    repeat refine And.intro rfl ?_
    repeat refine And.intro rfl ?_
    refine Or.inl (Exists.intro _ (And.intro (to_GateShape _) ?_))
    repeat refine And.intro rfl ?_
    refine And.intro (Int.natCast_nonneg _) (And.intro (by rw [rowsAt_len hi]; omega) ?_)
    repeat refine And.intro rfl ?_
    refine ⟨_, rowsAt_get hlt, Nat.le_refl _, ?_⟩
    exact ⟨_, _, _, ⟨i + 1, rfl, hlt, rfl, rfl⟩, by omega, rfl, rfl, ⟨rfl, rfl, nd (wrap_succ hlt hs), trivial⟩, ⟨rfl, trivial⟩, ⟨rowsAt_set hlt rfl, trivial⟩⟩
  · exact ld (rowsAt_end (ge_map h1) hi)
def GateMend.z : List D := [.str [], .str [], .str [], .str [], .str [], .str []]
theorem to_GateMend (x : GateMend) : Spec P 42 [st x.e] (st x.e) := by
  refine Spec.of_vc vcT vcM [.cell 2 95] Tryz.func42 rfl rfl rfl rfl (fun hok => ?_)
  repeat refine And.intro rfl ?_
  rfl
theorem to_GateMendS (xs : List GateMend) : Spec P 20 [.d (lGateMend xs)] (.d (lGateMend xs)) := by
  refine Spec.of_vc vcT vcM [.tmp 2] Tryz.func20 rfl rfl rfl rfl (fun hok => ?_)
  have hs : xs.length ≤ big := by have := hok.1.1; rwa [List.length_map] at this
  repeat refine And.intro rfl ?_
  refine And.intro (Int.natCast_nonneg _) (And.intro (Int.le_refl _) (And.intro (mk_ok hs) ?_))
  refine ⟨fun k l h => ∃ i : Nat, k = xs.length - i ∧ i ≤ xs.length ∧ l = [(0, .d (lGateMend xs)), (3, .own 0), (4, .d (.int .i64 i))] ∧ h = ⟨[(0, .row 95 GateMend.z.length (rowsAt GateMend.e xs GateMend.z i))], 1, 0⟩,
    ⟨_, _, _, ⟨0, rfl, Nat.zero_le _, rfl, rfl⟩, rfl, rfl, ⟨rfl, rfl, rfl, trivial⟩, ⟨rfl, trivial⟩, ⟨rowsAt_start, trivial⟩⟩, ?_⟩
  rintro k l h1 ⟨i, rfl, hi, rfl, rfl⟩
  refine And.intro (fun h1 => ?_) (fun h1 => ?_)
  · have hlt : i < xs.length := lt_map h1
    repeat refine And.intro rfl ?_
    refine ix_at (e := GateMend.e) (xs := xs) (hlt) rfl ?_
    repeat refine And.intro rfl ?_
    repeat refine And.intro rfl ?_
    refine Or.inl (Exists.intro _ (And.intro (to_GateMend _) ?_))
    repeat refine And.intro rfl ?_
    refine And.intro (Int.natCast_nonneg _) (And.intro (by rw [rowsAt_len hi]; omega) ?_)
    repeat refine And.intro rfl ?_
    refine ⟨_, rowsAt_get hlt, Nat.le_refl _, ?_⟩
    exact ⟨_, _, _, ⟨i + 1, rfl, hlt, rfl, rfl⟩, by omega, rfl, rfl, ⟨rfl, rfl, nd (wrap_succ hlt hs), trivial⟩, ⟨rfl, trivial⟩, ⟨rowsAt_set hlt rfl, trivial⟩⟩
  · exact ld (rowsAt_end (ge_map h1) hi)
def GateTeam.z : List D := [.str [], .str []]
theorem to_GateTeam (x : GateTeam) : Spec P 43 [st x.e] (st x.e) := by
  refine Spec.of_vc vcT vcM [.cell 2 97] Tryz.func43 rfl rfl rfl rfl (fun hok => ?_)
  repeat refine And.intro rfl ?_
  rfl
theorem to_GateTeamS (xs : List GateTeam) : Spec P 21 [.d (lGateTeam xs)] (.d (lGateTeam xs)) := by
  refine Spec.of_vc vcT vcM [.tmp 2] Tryz.func21 rfl rfl rfl rfl (fun hok => ?_)
  have hs : xs.length ≤ big := by have := hok.1.1; rwa [List.length_map] at this
  repeat refine And.intro rfl ?_
  refine And.intro (Int.natCast_nonneg _) (And.intro (Int.le_refl _) (And.intro (mk_ok hs) ?_))
  refine ⟨fun k l h => ∃ i : Nat, k = xs.length - i ∧ i ≤ xs.length ∧ l = [(0, .d (lGateTeam xs)), (3, .own 0), (4, .d (.int .i64 i))] ∧ h = ⟨[(0, .row 97 GateTeam.z.length (rowsAt GateTeam.e xs GateTeam.z i))], 1, 0⟩,
    ⟨_, _, _, ⟨0, rfl, Nat.zero_le _, rfl, rfl⟩, rfl, rfl, ⟨rfl, rfl, rfl, trivial⟩, ⟨rfl, trivial⟩, ⟨rowsAt_start, trivial⟩⟩, ?_⟩
  rintro k l h1 ⟨i, rfl, hi, rfl, rfl⟩
  refine And.intro (fun h1 => ?_) (fun h1 => ?_)
  · have hlt : i < xs.length := lt_map h1
    repeat refine And.intro rfl ?_
    refine ix_at (e := GateTeam.e) (xs := xs) (hlt) rfl ?_
    repeat refine And.intro rfl ?_
    repeat refine And.intro rfl ?_
    refine Or.inl (Exists.intro _ (And.intro (to_GateTeam _) ?_))
    repeat refine And.intro rfl ?_
    refine And.intro (Int.natCast_nonneg _) (And.intro (by rw [rowsAt_len hi]; omega) ?_)
    repeat refine And.intro rfl ?_
    refine ⟨_, rowsAt_get hlt, Nat.le_refl _, ?_⟩
    exact ⟨_, _, _, ⟨i + 1, rfl, hlt, rfl, rfl⟩, by omega, rfl, rfl, ⟨rfl, rfl, nd (wrap_succ hlt hs), trivial⟩, ⟨rfl, trivial⟩, ⟨rowsAt_set hlt rfl, trivial⟩⟩
  · exact ld (rowsAt_end (ge_map h1) hi)
def GateLaw.z : List D := [.list [], .list [], .list []]
theorem to_GateLaw (x : GateLaw) : Spec P 7 [st x.e] (st x.e) := by
  refine Spec.of_vc vcT vcM [.cell 2 43] Tryz.func7 rfl rfl rfl rfl (fun hok => ?_)
  repeat refine And.intro rfl ?_
  refine Or.inl (Exists.intro _ (And.intro (to_GateShapeS _) ?_))
  repeat refine And.intro rfl ?_
  refine Or.inl (Exists.intro _ (And.intro (to_GateMendS _) ?_))
  repeat refine And.intro rfl ?_
  refine Or.inl (Exists.intro _ (And.intro (to_GateTeamS _) ?_))
  repeat refine And.intro rfl ?_
  rfl
def GateRule.z : List D := [.list [], .str [], .str [], .str []]
theorem to_GateRule (x : GateRule) : Spec P 45 [st x.e] (st x.e) := by
  refine Spec.of_vc vcT vcM [.cell 2 45] Tryz.func45 rfl rfl rfl rfl (fun hok => ?_)
  repeat refine And.intro rfl ?_
  refine Or.inl (Exists.intro _ (And.intro (to_IntS _) ?_))
  repeat refine And.intro rfl ?_
  rfl
def GateAsk.z : List D := [.str [], .int .i64 0, .str [], .str [], .str [], .list [], .list [], .int .i64 0, .str [], .str [], .list [], .str [], .str [], .str [], .int .i64 0]
theorem to_GateAsk (x : GateAsk) : Spec P 22 [st x.e] (st x.e) := by
  refine Spec.of_vc vcT vcM [.cell 2 47] Tryz.func22 rfl rfl rfl rfl (fun hok => ?_)
  repeat refine And.intro rfl ?_
  refine Or.inl (Exists.intro _ (And.intro (to_StringS _) ?_))
  repeat refine And.intro rfl ?_
  refine Or.inl (Exists.intro _ (And.intro (to_StringS _) ?_))
  repeat refine And.intro rfl ?_
  refine Or.inl (Exists.intro _ (And.intro (to_GateRule _) ?_))
  repeat refine And.intro rfl ?_
  rfl
def GateWant.z : List D := [.str [], .str [], .int .i64 0]
theorem to_GateWant (x : GateWant) : Spec P 46 [st x.e] (st x.e) := by
  refine Spec.of_vc vcT vcM [.cell 2 69] Tryz.func46 rfl rfl rfl rfl (fun hok => ?_)
  repeat refine And.intro rfl ?_
  rfl
theorem to_GateWantS (xs : List GateWant) : Spec P 23 [.d (lGateWant xs)] (.d (lGateWant xs)) := by
  refine Spec.of_vc vcT vcM [.tmp 2] Tryz.func23 rfl rfl rfl rfl (fun hok => ?_)
  have hs : xs.length ≤ big := by have := hok.1.1; rwa [List.length_map] at this
  repeat refine And.intro rfl ?_
  refine And.intro (Int.natCast_nonneg _) (And.intro (Int.le_refl _) (And.intro (mk_ok hs) ?_))
  refine ⟨fun k l h => ∃ i : Nat, k = xs.length - i ∧ i ≤ xs.length ∧ l = [(0, .d (lGateWant xs)), (3, .own 0), (4, .d (.int .i64 i))] ∧ h = ⟨[(0, .row 69 GateWant.z.length (rowsAt GateWant.e xs GateWant.z i))], 1, 0⟩,
    ⟨_, _, _, ⟨0, rfl, Nat.zero_le _, rfl, rfl⟩, rfl, rfl, ⟨rfl, rfl, rfl, trivial⟩, ⟨rfl, trivial⟩, ⟨rowsAt_start, trivial⟩⟩, ?_⟩
  rintro k l h1 ⟨i, rfl, hi, rfl, rfl⟩
  refine And.intro (fun h1 => ?_) (fun h1 => ?_)
  · have hlt : i < xs.length := lt_map h1
    repeat refine And.intro rfl ?_
    refine ix_at (e := GateWant.e) (xs := xs) (hlt) rfl ?_
    repeat refine And.intro rfl ?_
    repeat refine And.intro rfl ?_
    refine Or.inl (Exists.intro _ (And.intro (to_GateWant _) ?_))
    repeat refine And.intro rfl ?_
    refine And.intro (Int.natCast_nonneg _) (And.intro (by rw [rowsAt_len hi]; omega) ?_)
    repeat refine And.intro rfl ?_
    refine ⟨_, rowsAt_get hlt, Nat.le_refl _, ?_⟩
    exact ⟨_, _, _, ⟨i + 1, rfl, hlt, rfl, rfl⟩, by omega, rfl, rfl, ⟨rfl, rfl, nd (wrap_succ hlt hs), trivial⟩, ⟨rfl, trivial⟩, ⟨rowsAt_set hlt rfl, trivial⟩⟩
  · exact ld (rowsAt_end (ge_map h1) hi)
def GateSlip.z : List D := [.str [], .str [], .int .i64 0, .str [], .str [], .str [], .list [], .list [], .int .i64 0, .str [], .str [], .list [], .str [], .str [], .str [], .int .i64 0, .int .i64 0, .list []]
theorem to_GateSlip (x : GateSlip) : Spec P 8 [st x.e] (st x.e) := by
  refine Spec.of_vc vcT vcM [.cell 2 50] Tryz.func8 rfl rfl rfl rfl (fun hok => ?_)
  repeat refine And.intro rfl ?_
  refine Or.inl (Exists.intro _ (And.intro (to_GateAsk _) ?_))
  repeat refine And.intro rfl ?_
  refine Or.inl (Exists.intro _ (And.intro (to_GateWantS _) ?_))
  repeat refine And.intro rfl ?_
  rfl
theorem eq_StringS (xs : List Bs) : Spec P 55 [.d (lS xs), .d (lS xs)] (.d (.bool true)) := by
  refine Spec.of_vc vcT vcM [.tmp 4] Tryz.func55 rfl rfl rfl rfl (fun hok => ?_)
  have hs : xs.length ≤ big := by have := hok.1.1; rwa [List.length_map] at this
  repeat refine And.intro rfl ?_
  refine And.intro (fun h => absurd h (by simp)) (fun _ => ?_)
  refine ⟨fun k l h => ∃ i : Nat, k = xs.length - i ∧ i ≤ xs.length ∧ l = [(0, .d (lS xs)), (1, .d (lS xs)), (5, .d (.int .i64 i))] ∧ h = hp0,
    ⟨_, _, _, ⟨0, rfl, Nat.zero_le _, rfl, rfl⟩, rfl, rfl, ⟨rfl, rfl, rfl, trivial⟩, trivial, trivial⟩, ?_⟩
  rintro k l h1 ⟨i, rfl, hi, rfl, rfl⟩
  refine And.intro (fun h1 => ?_) (fun h1 => ?_)
  · have hlt : i < xs.length := lt_map h1
    repeat refine And.intro rfl ?_
    refine And.intro (by kernel_rfl) ?_
    repeat refine And.intro rfl ?_
    repeat refine And.intro rfl ?_
    refine ix_at (e := eB) (xs := xs) (hlt) rfl ?_
    repeat refine And.intro rfl ?_
    repeat refine And.intro rfl ?_
    refine ix_at (e := eB) (xs := xs) (hlt) rfl ?_
    repeat refine And.intro rfl ?_
    repeat refine And.intro rfl ?_
    refine And.intro (fun h => absurd h (by simp)) (fun _ => ?_)
    exact ⟨_, _, _, ⟨i + 1, rfl, hlt, rfl, rfl⟩, by omega, rfl, rfl, ⟨rfl, rfl, nd (wrap_succ hlt hs), trivial⟩, trivial, trivial⟩
  · rfl
theorem eq_IntS (xs : List Int) : Spec P 78 [.d (lI xs), .d (lI xs)] (.d (.bool true)) := by
  refine Spec.of_vc vcT vcM [.tmp 4] Tryz.func78 rfl rfl rfl rfl (fun hok => ?_)
  have hs : xs.length ≤ big := by have := hok.1.1; rwa [List.length_map] at this
  repeat refine And.intro rfl ?_
  refine And.intro (fun h => absurd h (by simp)) (fun _ => ?_)
  refine ⟨fun k l h => ∃ i : Nat, k = xs.length - i ∧ i ≤ xs.length ∧ l = [(0, .d (lI xs)), (1, .d (lI xs)), (5, .d (.int .i64 i))] ∧ h = hp0,
    ⟨_, _, _, ⟨0, rfl, Nat.zero_le _, rfl, rfl⟩, rfl, rfl, ⟨rfl, rfl, rfl, trivial⟩, trivial, trivial⟩, ?_⟩
  rintro k l h1 ⟨i, rfl, hi, rfl, rfl⟩
  refine And.intro (fun h1 => ?_) (fun h1 => ?_)
  · have hlt : i < xs.length := lt_map h1
    repeat refine And.intro rfl ?_
    refine And.intro (by kernel_rfl) ?_
    repeat refine And.intro rfl ?_
    repeat refine And.intro rfl ?_
    refine ix_at (e := eN) (xs := xs) (hlt) rfl ?_
    repeat refine And.intro rfl ?_
    repeat refine And.intro rfl ?_
    refine ix_at (e := eN) (xs := xs) (hlt) rfl ?_
    repeat refine And.intro rfl ?_
    repeat refine And.intro rfl ?_
    refine And.intro (fun h => absurd h (by simp)) (fun _ => ?_)
    exact ⟨_, _, _, ⟨i + 1, rfl, hlt, rfl, rfl⟩, by omega, rfl, rfl, ⟨rfl, rfl, nd (wrap_succ hlt hs), trivial⟩, trivial, trivial⟩
  · rfl
theorem eq_GateField (x : GateField) : Spec P 92 [st x.e, st x.e] (.d (.bool true)) := by
  refine Spec.of_vc vcT vcM [.tmp 4] Tryz.func92 rfl rfl rfl rfl (fun hok => ?_)
  repeat refine And.intro rfl ?_
  refine And.intro (fun h => absurd h (by simp)) (fun _ => ?_)
  repeat refine And.intro rfl ?_
  refine And.intro (fun h => absurd h (by simp)) (fun _ => ?_)
  repeat refine And.intro rfl ?_
  refine And.intro (fun h => absurd h (by simp)) (fun _ => ?_)
  repeat refine And.intro rfl ?_
  refine And.intro (fun h => absurd h (by simp)) (fun _ => ?_)
  repeat refine And.intro rfl ?_
  refine Or.inl (Exists.intro _ (And.intro (eq_StringS _) ?_))
  repeat refine And.intro rfl ?_
  refine And.intro (fun h => absurd h (by simp)) (fun _ => ?_)
  repeat refine And.intro rfl ?_
  refine And.intro (fun h => absurd h (by simp)) (fun _ => ?_)
  repeat refine And.intro rfl ?_
  refine And.intro (fun h => absurd h (by simp)) (fun _ => ?_)
  repeat refine And.intro rfl ?_
  refine And.intro (fun h => absurd h (by simp)) (fun _ => ?_)
  repeat refine And.intro rfl ?_
  refine And.intro (fun h => absurd h (by simp)) (fun _ => ?_)
  repeat refine And.intro rfl ?_
  refine And.intro (fun h => absurd h (by simp)) (fun _ => ?_)
  repeat refine And.intro rfl ?_
  refine And.intro (fun h => absurd h (by simp)) (fun _ => ?_)
  repeat refine And.intro rfl ?_
  rfl
theorem eq_GateFieldS (xs : List GateField) : Spec P 77 [.d (lGateField xs), .d (lGateField xs)] (.d (.bool true)) := by
  refine Spec.of_vc vcT vcM [.tmp 4] Tryz.func77 rfl rfl rfl rfl (fun hok => ?_)
  have hs : xs.length ≤ big := by have := hok.1.1; rwa [List.length_map] at this
  repeat refine And.intro rfl ?_
  refine And.intro (fun h => absurd h (by simp)) (fun _ => ?_)
  refine ⟨fun k l h => ∃ i : Nat, k = xs.length - i ∧ i ≤ xs.length ∧ l = [(0, .d (lGateField xs)), (1, .d (lGateField xs)), (5, .d (.int .i64 i))] ∧ h = hp0,
    ⟨_, _, _, ⟨0, rfl, Nat.zero_le _, rfl, rfl⟩, rfl, rfl, ⟨rfl, rfl, rfl, trivial⟩, trivial, trivial⟩, ?_⟩
  rintro k l h1 ⟨i, rfl, hi, rfl, rfl⟩
  refine And.intro (fun h1 => ?_) (fun h1 => ?_)
  · have hlt : i < xs.length := lt_map h1
    repeat refine And.intro rfl ?_
    refine And.intro (by kernel_rfl) ?_
    repeat refine And.intro rfl ?_
    repeat refine And.intro rfl ?_
    refine ix_at (e := GateField.e) (xs := xs) (hlt) rfl ?_
    repeat refine And.intro rfl ?_
    repeat refine And.intro rfl ?_
    refine ix_at (e := GateField.e) (xs := xs) (hlt) rfl ?_
    repeat refine And.intro rfl ?_
    repeat refine And.intro rfl ?_
    refine Or.inl (Exists.intro _ (And.intro (eq_GateField _) ?_))
    repeat refine And.intro rfl ?_
    refine And.intro (fun h => absurd h (by simp)) (fun _ => ?_)
    exact ⟨_, _, _, ⟨i + 1, rfl, hlt, rfl, rfl⟩, by omega, rfl, rfl, ⟨rfl, rfl, nd (wrap_succ hlt hs), trivial⟩, trivial, trivial⟩
  · rfl
theorem eq_GateShape (x : GateShape) : Spec P 52 [st x.e, st x.e] (.d (.bool true)) := by
  refine Spec.of_vc vcT vcM [.tmp 4] Tryz.func52 rfl rfl rfl rfl (fun hok => ?_)
  repeat refine And.intro rfl ?_
  refine And.intro (fun h => absurd h (by simp)) (fun _ => ?_)
  repeat refine And.intro rfl ?_
  refine Or.inl (Exists.intro _ (And.intro (eq_GateFieldS _) ?_))
  repeat refine And.intro rfl ?_
  refine And.intro (fun h => absurd h (by simp)) (fun _ => ?_)
  repeat refine And.intro rfl ?_
  rfl
theorem eq_GateShapeS (xs : List GateShape) : Spec P 26 [.d (lGateShape xs), .d (lGateShape xs)] (.d (.bool true)) := by
  refine Spec.of_vc vcT vcM [.tmp 4] Tryz.func26 rfl rfl rfl rfl (fun hok => ?_)
  have hs : xs.length ≤ big := by have := hok.1.1; rwa [List.length_map] at this
  repeat refine And.intro rfl ?_
  refine And.intro (fun h => absurd h (by simp)) (fun _ => ?_)
  refine ⟨fun k l h => ∃ i : Nat, k = xs.length - i ∧ i ≤ xs.length ∧ l = [(0, .d (lGateShape xs)), (1, .d (lGateShape xs)), (5, .d (.int .i64 i))] ∧ h = hp0,
    ⟨_, _, _, ⟨0, rfl, Nat.zero_le _, rfl, rfl⟩, rfl, rfl, ⟨rfl, rfl, rfl, trivial⟩, trivial, trivial⟩, ?_⟩
  rintro k l h1 ⟨i, rfl, hi, rfl, rfl⟩
  refine And.intro (fun h1 => ?_) (fun h1 => ?_)
  · have hlt : i < xs.length := lt_map h1
    repeat refine And.intro rfl ?_
    refine And.intro (by kernel_rfl) ?_
    repeat refine And.intro rfl ?_
    repeat refine And.intro rfl ?_
    refine ix_at (e := GateShape.e) (xs := xs) (hlt) rfl ?_
    repeat refine And.intro rfl ?_
    repeat refine And.intro rfl ?_
    refine ix_at (e := GateShape.e) (xs := xs) (hlt) rfl ?_
    repeat refine And.intro rfl ?_
    repeat refine And.intro rfl ?_
    refine Or.inl (Exists.intro _ (And.intro (eq_GateShape _) ?_))
    repeat refine And.intro rfl ?_
    refine And.intro (fun h => absurd h (by simp)) (fun _ => ?_)
    exact ⟨_, _, _, ⟨i + 1, rfl, hlt, rfl, rfl⟩, by omega, rfl, rfl, ⟨rfl, rfl, nd (wrap_succ hlt hs), trivial⟩, trivial, trivial⟩
  · rfl
theorem eq_GateMend (x : GateMend) : Spec P 53 [st x.e, st x.e] (.d (.bool true)) := by
  refine Spec.of_vc vcT vcM [.tmp 4] Tryz.func53 rfl rfl rfl rfl (fun hok => ?_)
  repeat refine And.intro rfl ?_
  refine And.intro (fun h => absurd h (by simp)) (fun _ => ?_)
  repeat refine And.intro rfl ?_
  refine And.intro (fun h => absurd h (by simp)) (fun _ => ?_)
  repeat refine And.intro rfl ?_
  refine And.intro (fun h => absurd h (by simp)) (fun _ => ?_)
  repeat refine And.intro rfl ?_
  refine And.intro (fun h => absurd h (by simp)) (fun _ => ?_)
  repeat refine And.intro rfl ?_
  refine And.intro (fun h => absurd h (by simp)) (fun _ => ?_)
  repeat refine And.intro rfl ?_
  refine And.intro (fun h => absurd h (by simp)) (fun _ => ?_)
  repeat refine And.intro rfl ?_
  rfl
theorem eq_GateMendS (xs : List GateMend) : Spec P 27 [.d (lGateMend xs), .d (lGateMend xs)] (.d (.bool true)) := by
  refine Spec.of_vc vcT vcM [.tmp 4] Tryz.func27 rfl rfl rfl rfl (fun hok => ?_)
  have hs : xs.length ≤ big := by have := hok.1.1; rwa [List.length_map] at this
  repeat refine And.intro rfl ?_
  refine And.intro (fun h => absurd h (by simp)) (fun _ => ?_)
  refine ⟨fun k l h => ∃ i : Nat, k = xs.length - i ∧ i ≤ xs.length ∧ l = [(0, .d (lGateMend xs)), (1, .d (lGateMend xs)), (5, .d (.int .i64 i))] ∧ h = hp0,
    ⟨_, _, _, ⟨0, rfl, Nat.zero_le _, rfl, rfl⟩, rfl, rfl, ⟨rfl, rfl, rfl, trivial⟩, trivial, trivial⟩, ?_⟩
  rintro k l h1 ⟨i, rfl, hi, rfl, rfl⟩
  refine And.intro (fun h1 => ?_) (fun h1 => ?_)
  · have hlt : i < xs.length := lt_map h1
    repeat refine And.intro rfl ?_
    refine And.intro (by kernel_rfl) ?_
    repeat refine And.intro rfl ?_
    repeat refine And.intro rfl ?_
    refine ix_at (e := GateMend.e) (xs := xs) (hlt) rfl ?_
    repeat refine And.intro rfl ?_
    repeat refine And.intro rfl ?_
    refine ix_at (e := GateMend.e) (xs := xs) (hlt) rfl ?_
    repeat refine And.intro rfl ?_
    repeat refine And.intro rfl ?_
    refine Or.inl (Exists.intro _ (And.intro (eq_GateMend _) ?_))
    repeat refine And.intro rfl ?_
    refine And.intro (fun h => absurd h (by simp)) (fun _ => ?_)
    exact ⟨_, _, _, ⟨i + 1, rfl, hlt, rfl, rfl⟩, by omega, rfl, rfl, ⟨rfl, rfl, nd (wrap_succ hlt hs), trivial⟩, trivial, trivial⟩
  · rfl
theorem eq_GateTeam (x : GateTeam) : Spec P 54 [st x.e, st x.e] (.d (.bool true)) := by
  refine Spec.of_vc vcT vcM [.tmp 4] Tryz.func54 rfl rfl rfl rfl (fun hok => ?_)
  repeat refine And.intro rfl ?_
  refine And.intro (fun h => absurd h (by simp)) (fun _ => ?_)
  repeat refine And.intro rfl ?_
  refine And.intro (fun h => absurd h (by simp)) (fun _ => ?_)
  repeat refine And.intro rfl ?_
  rfl
theorem eq_GateTeamS (xs : List GateTeam) : Spec P 28 [.d (lGateTeam xs), .d (lGateTeam xs)] (.d (.bool true)) := by
  refine Spec.of_vc vcT vcM [.tmp 4] Tryz.func28 rfl rfl rfl rfl (fun hok => ?_)
  have hs : xs.length ≤ big := by have := hok.1.1; rwa [List.length_map] at this
  repeat refine And.intro rfl ?_
  refine And.intro (fun h => absurd h (by simp)) (fun _ => ?_)
  refine ⟨fun k l h => ∃ i : Nat, k = xs.length - i ∧ i ≤ xs.length ∧ l = [(0, .d (lGateTeam xs)), (1, .d (lGateTeam xs)), (5, .d (.int .i64 i))] ∧ h = hp0,
    ⟨_, _, _, ⟨0, rfl, Nat.zero_le _, rfl, rfl⟩, rfl, rfl, ⟨rfl, rfl, rfl, trivial⟩, trivial, trivial⟩, ?_⟩
  rintro k l h1 ⟨i, rfl, hi, rfl, rfl⟩
  refine And.intro (fun h1 => ?_) (fun h1 => ?_)
  · have hlt : i < xs.length := lt_map h1
    repeat refine And.intro rfl ?_
    refine And.intro (by kernel_rfl) ?_
    repeat refine And.intro rfl ?_
    repeat refine And.intro rfl ?_
    refine ix_at (e := GateTeam.e) (xs := xs) (hlt) rfl ?_
    repeat refine And.intro rfl ?_
    repeat refine And.intro rfl ?_
    refine ix_at (e := GateTeam.e) (xs := xs) (hlt) rfl ?_
    repeat refine And.intro rfl ?_
    repeat refine And.intro rfl ?_
    refine Or.inl (Exists.intro _ (And.intro (eq_GateTeam _) ?_))
    repeat refine And.intro rfl ?_
    refine And.intro (fun h => absurd h (by simp)) (fun _ => ?_)
    exact ⟨_, _, _, ⟨i + 1, rfl, hlt, rfl, rfl⟩, by omega, rfl, rfl, ⟨rfl, rfl, nd (wrap_succ hlt hs), trivial⟩, trivial, trivial⟩
  · rfl
theorem eq_GateLaw (x : GateLaw) : Spec P 10 [st x.e, st x.e] (.d (.bool true)) := by
  refine Spec.of_vc vcT vcM [.tmp 4] Tryz.func10 rfl rfl rfl rfl (fun hok => ?_)
  repeat refine And.intro rfl ?_
  refine Or.inl (Exists.intro _ (And.intro (eq_GateShapeS _) ?_))
  repeat refine And.intro rfl ?_
  refine And.intro (fun h => absurd h (by simp)) (fun _ => ?_)
  repeat refine And.intro rfl ?_
  refine Or.inl (Exists.intro _ (And.intro (eq_GateMendS _) ?_))
  repeat refine And.intro rfl ?_
  refine And.intro (fun h => absurd h (by simp)) (fun _ => ?_)
  repeat refine And.intro rfl ?_
  refine Or.inl (Exists.intro _ (And.intro (eq_GateTeamS _) ?_))
  repeat refine And.intro rfl ?_
  refine And.intro (fun h => absurd h (by simp)) (fun _ => ?_)
  repeat refine And.intro rfl ?_
  rfl
theorem eq_GateRule (x : GateRule) : Spec P 56 [st x.e, st x.e] (.d (.bool true)) := by
  refine Spec.of_vc vcT vcM [.tmp 4] Tryz.func56 rfl rfl rfl rfl (fun hok => ?_)
  repeat refine And.intro rfl ?_
  refine Or.inl (Exists.intro _ (And.intro (eq_IntS _) ?_))
  repeat refine And.intro rfl ?_
  refine And.intro (fun h => absurd h (by simp)) (fun _ => ?_)
  repeat refine And.intro rfl ?_
  refine And.intro (fun h => absurd h (by simp)) (fun _ => ?_)
  repeat refine And.intro rfl ?_
  refine And.intro (fun h => absurd h (by simp)) (fun _ => ?_)
  repeat refine And.intro rfl ?_
  refine And.intro (fun h => absurd h (by simp)) (fun _ => ?_)
  repeat refine And.intro rfl ?_
  rfl
theorem eq_GateAsk (x : GateAsk) : Spec P 29 [st x.e, st x.e] (.d (.bool true)) := by
  refine Spec.of_vc vcT vcM [.tmp 4] Tryz.func29 rfl rfl rfl rfl (fun hok => ?_)
  repeat refine And.intro rfl ?_
  refine And.intro (fun h => absurd h (by simp)) (fun _ => ?_)
  repeat refine And.intro rfl ?_
  refine And.intro (fun h => absurd h (by simp)) (fun _ => ?_)
  repeat refine And.intro rfl ?_
  refine And.intro (fun h => absurd h (by simp)) (fun _ => ?_)
  repeat refine And.intro rfl ?_
  refine And.intro (fun h => absurd h (by simp)) (fun _ => ?_)
  repeat refine And.intro rfl ?_
  refine And.intro (fun h => absurd h (by simp)) (fun _ => ?_)
  repeat refine And.intro rfl ?_
  refine Or.inl (Exists.intro _ (And.intro (eq_StringS _) ?_))
  repeat refine And.intro rfl ?_
  refine And.intro (fun h => absurd h (by simp)) (fun _ => ?_)
  repeat refine And.intro rfl ?_
  refine Or.inl (Exists.intro _ (And.intro (eq_StringS _) ?_))
  repeat refine And.intro rfl ?_
  refine And.intro (fun h => absurd h (by simp)) (fun _ => ?_)
  repeat refine And.intro rfl ?_
  refine And.intro (fun h => absurd h (by simp)) (fun _ => ?_)
  repeat refine And.intro rfl ?_
  refine And.intro (fun h => absurd h (by simp)) (fun _ => ?_)
  repeat refine And.intro rfl ?_
  refine And.intro (fun h => absurd h (by simp)) (fun _ => ?_)
  repeat refine And.intro rfl ?_
  refine Or.inl (Exists.intro _ (And.intro (eq_GateRule _) ?_))
  repeat refine And.intro rfl ?_
  refine And.intro (fun h => absurd h (by simp)) (fun _ => ?_)
  repeat refine And.intro rfl ?_
  refine And.intro (fun h => absurd h (by simp)) (fun _ => ?_)
  repeat refine And.intro rfl ?_
  rfl
theorem eq_GateWant (x : GateWant) : Spec P 57 [st x.e, st x.e] (.d (.bool true)) := by
  refine Spec.of_vc vcT vcM [.tmp 4] Tryz.func57 rfl rfl rfl rfl (fun hok => ?_)
  repeat refine And.intro rfl ?_
  refine And.intro (fun h => absurd h (by simp)) (fun _ => ?_)
  repeat refine And.intro rfl ?_
  refine And.intro (fun h => absurd h (by simp)) (fun _ => ?_)
  repeat refine And.intro rfl ?_
  refine And.intro (fun h => absurd h (by simp)) (fun _ => ?_)
  repeat refine And.intro rfl ?_
  rfl
theorem eq_GateWantS (xs : List GateWant) : Spec P 30 [.d (lGateWant xs), .d (lGateWant xs)] (.d (.bool true)) := by
  refine Spec.of_vc vcT vcM [.tmp 4] Tryz.func30 rfl rfl rfl rfl (fun hok => ?_)
  have hs : xs.length ≤ big := by have := hok.1.1; rwa [List.length_map] at this
  repeat refine And.intro rfl ?_
  refine And.intro (fun h => absurd h (by simp)) (fun _ => ?_)
  refine ⟨fun k l h => ∃ i : Nat, k = xs.length - i ∧ i ≤ xs.length ∧ l = [(0, .d (lGateWant xs)), (1, .d (lGateWant xs)), (5, .d (.int .i64 i))] ∧ h = hp0,
    ⟨_, _, _, ⟨0, rfl, Nat.zero_le _, rfl, rfl⟩, rfl, rfl, ⟨rfl, rfl, rfl, trivial⟩, trivial, trivial⟩, ?_⟩
  rintro k l h1 ⟨i, rfl, hi, rfl, rfl⟩
  refine And.intro (fun h1 => ?_) (fun h1 => ?_)
  · have hlt : i < xs.length := lt_map h1
    repeat refine And.intro rfl ?_
    refine And.intro (by kernel_rfl) ?_
    repeat refine And.intro rfl ?_
    repeat refine And.intro rfl ?_
    refine ix_at (e := GateWant.e) (xs := xs) (hlt) rfl ?_
    repeat refine And.intro rfl ?_
    repeat refine And.intro rfl ?_
    refine ix_at (e := GateWant.e) (xs := xs) (hlt) rfl ?_
    repeat refine And.intro rfl ?_
    repeat refine And.intro rfl ?_
    refine Or.inl (Exists.intro _ (And.intro (eq_GateWant _) ?_))
    repeat refine And.intro rfl ?_
    refine And.intro (fun h => absurd h (by simp)) (fun _ => ?_)
    exact ⟨_, _, _, ⟨i + 1, rfl, hlt, rfl, rfl⟩, by omega, rfl, rfl, ⟨rfl, rfl, nd (wrap_succ hlt hs), trivial⟩, trivial, trivial⟩
  · rfl
theorem eq_GateSlip (x : GateSlip) : Spec P 11 [st x.e, st x.e] (.d (.bool true)) := by
  refine Spec.of_vc vcT vcM [.tmp 4] Tryz.func11 rfl rfl rfl rfl (fun hok => ?_)
  repeat refine And.intro rfl ?_
  refine And.intro (fun h => absurd h (by simp)) (fun _ => ?_)
  repeat refine And.intro rfl ?_
  refine Or.inl (Exists.intro _ (And.intro (eq_GateAsk _) ?_))
  repeat refine And.intro rfl ?_
  refine And.intro (fun h => absurd h (by simp)) (fun _ => ?_)
  repeat refine And.intro rfl ?_
  refine And.intro (fun h => absurd h (by simp)) (fun _ => ?_)
  repeat refine And.intro rfl ?_
  refine Or.inl (Exists.intro _ (And.intro (eq_GateWantS _) ?_))
  repeat refine And.intro rfl ?_
  refine And.intro (fun h => absurd h (by simp)) (fun _ => ?_)
  repeat refine And.intro rfl ?_
  rfl
end Go.Vc
