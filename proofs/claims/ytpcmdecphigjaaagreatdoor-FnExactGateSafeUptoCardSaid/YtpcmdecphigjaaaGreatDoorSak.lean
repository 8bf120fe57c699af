/- Part 11 of a proof: Contracts of the functions that the laws bring with them, printed by genlaws.py. Contracts: rules that cover a rule. Contracts: safe. -/
import Derived.Test.YtpcmdecphigjaaaGreatDoorSaa
import Derived.Test.YtpcmdecphigjaaaGreatDoorSab
import Derived.Test.YtpcmdecphigjaaaGreatDoorSac
import Derived.Test.YtpcmdecphigjaaaGreatDoorSad
import Derived.Test.YtpcmdecphigjaaaGreatDoorSae
import Derived.Test.YtpcmdecphigjaaaGreatDoorSaf
import Derived.Test.YtpcmdecphigjaaaGreatDoorSag
import Derived.Test.YtpcmdecphigjaaaGreatDoorSah
import Derived.Test.YtpcmdecphigjaaaGreatDoorSai
import Derived.Test.YtpcmdecphigjaaaGreatDoorSaj
section
namespace Go.Vc
open Go.Proofs
set_option maxRecDepth 100000
set_option pp.maxSteps 400
set_option pp.deepTerms false
set_option linter.unusedSimpArgs false
set_option linter.unusedVariables false
theorem szStringS : ∃ m : List Bs → Int → Int, ∀ x n, Spec P 102 [.d (lS x), .d (.int .i64 n)] (.d (.int .i64 (m x n))) := by
  refine ⟨fun x n => szB (IntKind.i64.wrap (n - ((x.map eB).length : Int))) fun n => szL (fun (s : Bs) n => IntKind.i64.wrap (n - (s.length : Int))) x n, fun xs n => ?_⟩
  refine Spec.of_vc vcT vcM [.tmp 4] Tryz.func102 rfl rfl rfl rfl (fun hok => ?_)
  have hs : xs.length ≤ big := by have := hok.1.1; rwa [List.length_map] at this
  refine And.intro (fun h => nd (by simp only [szB, h, cond_true, cond_false])) (fun h => ?_)
  simp only [szB, h, cond_true, cond_false]
  refine ⟨fun k l h => ∃ (i : Nat) (v : Int), k = xs.length - i ∧ i ≤ xs.length ∧ szL (fun (s : Bs) n => IntKind.i64.wrap (n - (s.length : Int))) xs (IntKind.i64.wrap (n - ((xs.map eB).length : Int))) = szL (fun (s : Bs) n => IntKind.i64.wrap (n - (s.length : Int))) (xs.drop i) v ∧ l = [(0, .d (lS xs)), (1, .d (.int .i64 v)), (5, .d (.int .i64 i))] ∧ h = hp0,
    ⟨_, _, _, ⟨0, _, rfl, Nat.zero_le _, rfl, rfl, rfl⟩, rfl, rfl, ⟨rfl, rfl, rfl, trivial⟩, trivial, trivial⟩, ?_⟩
  rintro k l h1 ⟨i, v, rfl, hi, hr, rfl, rfl⟩
  refine And.intro (fun h1 => ?_) (fun h1 => ?_)
  · have hlt : i < xs.length := lt_map h1
    repeat refine And.intro rfl ?_
    refine ix_at (e := eB) (xs := xs) (hlt) rfl ?_
    repeat refine And.intro rfl ?_
    refine And.intro (fun h2 => ?_) (fun h2 => ?_)
    · refine nd ?_
      rw [hr, szL_step hlt]
      simp only [szB, h2, cond_true]
    · refine ⟨_, _, _, ⟨i + 1, _, rfl, hlt, ?_, rfl, rfl⟩, by omega, rfl, rfl, ⟨rfl, rfl, nd (wrap_succ hlt hs), trivial⟩, trivial, trivial⟩
      rw [hr, szL_step hlt]
      simp only [szB, h2, cond_false]
  · refine nd ?_
    rw [hr, List.drop_of_length_le (ge_map h1)]; rfl
theorem szIntS : ∃ m : List Int → Int → Int, ∀ x n, Spec P 147 [.d (lI x), .d (.int .i64 n)] (.d (.int .i64 (m x n))) := by
  refine ⟨fun x n => szB (IntKind.i64.wrap (n - ((x.map eN).length : Int))) fun n => n, fun x n => ?_⟩
  refine Spec.of_vc vcT vcM [.tmp 4] Tryz.func147 rfl rfl rfl rfl (fun hok => ?_)
  refine And.intro (fun h => nd (by simp only [szB, h, cond_true, cond_false])) (fun h => nd (by simp only [szB, h, cond_true, cond_false]))
theorem szGateField : ∃ m : GateField → Int → Int, ∀ x n, Spec P 146 [st x.e, .d (.int .i64 n)] (.d (.int .i64 (m x n))) := by
  obtain ⟨m0, hm0⟩ := szStringS
  refine ⟨fun x n => szB (IntKind.i64.wrap (n - (x.name.length : Int))) fun n => szB (m0 x.words n) fun n => szB (IntKind.i64.wrap (n - (x.to_.length : Int))) fun n => szB (IntKind.i64.wrap (n - (x.default_.length : Int))) fun n => szB (IntKind.i64.wrap (n - (x.weighs.length : Int))) fun n => n, fun x n => ?_⟩
  refine Spec.of_vc vcT vcM [.tmp 4] Tryz.func146 rfl rfl rfl rfl (fun hok => ?_)
  refine And.intro (fun h => nd (by simp only [szB, h, *, cond_true, cond_false])) (fun h0 => ?_)
  repeat refine And.intro rfl ?_
  refine Or.inl (Exists.intro _ (And.intro (hm0 _ _) ?_))
  refine And.intro (fun h => nd (by simp only [szB, h, *, cond_true, cond_false])) (fun h1 => ?_)
  refine And.intro (fun h => nd (by simp only [szB, h, *, cond_true, cond_false])) (fun h2 => ?_)
  refine And.intro (fun h => nd (by simp only [szB, h, *, cond_true, cond_false])) (fun h3 => ?_)
  refine And.intro (fun h => nd (by simp only [szB, h, *, cond_true, cond_false])) (fun h4 => ?_)
  exact nd (by simp only [szB, *, cond_true, cond_false])
theorem szGateFieldS : ∃ m : List GateField → Int → Int, ∀ x n, Spec P 101 [.d (lGateField x), .d (.int .i64 n)] (.d (.int .i64 (m x n))) := by
  obtain ⟨m, hm⟩ := szGateField
  refine ⟨fun x n => szB (IntKind.i64.wrap (n - ((x.map GateField.e).length : Int))) fun n => szL m x n, fun xs n => ?_⟩
  refine Spec.of_vc vcT vcM [.tmp 4] Tryz.func101 rfl rfl rfl rfl (fun hok => ?_)
  have hs : xs.length ≤ big := by have := hok.1.1; rwa [List.length_map] at this
  refine And.intro (fun h => nd (by simp only [szB, h, cond_true, cond_false])) (fun h => ?_)
  simp only [szB, h, cond_true, cond_false]
  refine ⟨fun k l h => ∃ (i : Nat) (v : Int), k = xs.length - i ∧ i ≤ xs.length ∧ szL m xs (IntKind.i64.wrap (n - ((xs.map GateField.e).length : Int))) = szL m (xs.drop i) v ∧ l = [(0, .d (lGateField xs)), (1, .d (.int .i64 v)), (5, .d (.int .i64 i))] ∧ h = hp0,
    ⟨_, _, _, ⟨0, _, rfl, Nat.zero_le _, rfl, rfl, rfl⟩, rfl, rfl, ⟨rfl, rfl, rfl, trivial⟩, trivial, trivial⟩, ?_⟩
  rintro k l h1 ⟨i, v, rfl, hi, hr, rfl, rfl⟩
  refine And.intro (fun h1 => ?_) (fun h1 => ?_)
  · have hlt : i < xs.length := lt_map h1
    repeat refine And.intro rfl ?_
    refine ix_at (e := GateField.e) (xs := xs) (hlt) rfl ?_
    repeat refine And.intro rfl ?_
    repeat refine And.intro rfl ?_
    refine Or.inl (Exists.intro _ (And.intro (hm _ _) ?_))
    refine And.intro (fun h2 => ?_) (fun h2 => ?_)
    · refine nd ?_
      rw [hr, szL_step hlt]
      simp only [szB, h2, cond_true]
    · refine ⟨_, _, _, ⟨i + 1, _, rfl, hlt, ?_, rfl, rfl⟩, by omega, rfl, rfl, ⟨rfl, rfl, nd (wrap_succ hlt hs), trivial⟩, trivial, trivial⟩
      rw [hr, szL_step hlt]
      simp only [szB, h2, cond_false]
  · refine nd ?_
    rw [hr, List.drop_of_length_le (ge_map h1)]; rfl
theorem szGateShape : ∃ m : GateShape → Int → Int, ∀ x n, Spec P 55 [st x.e, .d (.int .i64 n)] (.d (.int .i64 (m x n))) := by
  obtain ⟨m0, hm0⟩ := szGateFieldS
  refine ⟨fun x n => szB (IntKind.i64.wrap (n - (x.kind.length : Int))) fun n => szB (m0 x.fields n) fun n => n, fun x n => ?_⟩
  refine Spec.of_vc vcT vcM [.tmp 4] Tryz.func55 rfl rfl rfl rfl (fun hok => ?_)
  refine And.intro (fun h => nd (by simp only [szB, h, *, cond_true, cond_false])) (fun h0 => ?_)
  repeat refine And.intro rfl ?_
  refine Or.inl (Exists.intro _ (And.intro (hm0 _ _) ?_))
  refine And.intro (fun h => nd (by simp only [szB, h, *, cond_true, cond_false])) (fun h1 => ?_)
  exact nd (by simp only [szB, *, cond_true, cond_false])
theorem szGateShapeS : ∃ m : List GateShape → Int → Int, ∀ x n, Spec P 23 [.d (lGateShape x), .d (.int .i64 n)] (.d (.int .i64 (m x n))) := by
  obtain ⟨m, hm⟩ := szGateShape
  refine ⟨fun x n => szB (IntKind.i64.wrap (n - ((x.map GateShape.e).length : Int))) fun n => szL m x n, fun xs n => ?_⟩
  refine Spec.of_vc vcT vcM [.tmp 4] Tryz.func23 rfl rfl rfl rfl (fun hok => ?_)
  have hs : xs.length ≤ big := by have := hok.1.1; rwa [List.length_map] at this
  refine And.intro (fun h => nd (by simp only [szB, h, cond_true, cond_false])) (fun h => ?_)
  simp only [szB, h, cond_true, cond_false]
  refine ⟨fun k l h => ∃ (i : Nat) (v : Int), k = xs.length - i ∧ i ≤ xs.length ∧ szL m xs (IntKind.i64.wrap (n - ((xs.map GateShape.e).length : Int))) = szL m (xs.drop i) v ∧ l = [(0, .d (lGateShape xs)), (1, .d (.int .i64 v)), (5, .d (.int .i64 i))] ∧ h = hp0,
    ⟨_, _, _, ⟨0, _, rfl, Nat.zero_le _, rfl, rfl, rfl⟩, rfl, rfl, ⟨rfl, rfl, rfl, trivial⟩, trivial, trivial⟩, ?_⟩
  rintro k l h1 ⟨i, v, rfl, hi, hr, rfl, rfl⟩
  refine And.intro (fun h1 => ?_) (fun h1 => ?_)
  · have hlt : i < xs.length := lt_map h1
    repeat refine And.intro rfl ?_
    refine ix_at (e := GateShape.e) (xs := xs) (hlt) rfl ?_
    repeat refine And.intro rfl ?_
    repeat refine And.intro rfl ?_
    refine Or.inl (Exists.intro _ (And.intro (hm _ _) ?_))
    refine And.intro (fun h2 => ?_) (fun h2 => ?_)
    · refine nd ?_
      rw [hr, szL_step hlt]
      simp only [szB, h2, cond_true]
    · refine ⟨_, _, _, ⟨i + 1, _, rfl, hlt, ?_, rfl, rfl⟩, by omega, rfl, rfl, ⟨rfl, rfl, nd (wrap_succ hlt hs), trivial⟩, trivial, trivial⟩
      rw [hr, szL_step hlt]
      simp only [szB, h2, cond_false]
  · refine nd ?_
    rw [hr, List.drop_of_length_le (ge_map h1)]; rfl
theorem szGateMend : ∃ m : GateMend → Int → Int, ∀ x n, Spec P 56 [st x.e, .d (.int .i64 n)] (.d (.int .i64 (m x n))) := by
  refine ⟨fun x n => szB (IntKind.i64.wrap (n - (x.kind.length : Int))) fun n => szB (IntKind.i64.wrap (n - (x.field.length : Int))) fun n => szB (IntKind.i64.wrap (n - (x.when_.length : Int))) fun n => szB (IntKind.i64.wrap (n - (x.is_.length : Int))) fun n => szB (IntKind.i64.wrap (n - (x.put.length : Int))) fun n => szB (IntKind.i64.wrap (n - (x.from_.length : Int))) fun n => n, fun x n => ?_⟩
  refine Spec.of_vc vcT vcM [.tmp 4] Tryz.func56 rfl rfl rfl rfl (fun hok => ?_)
  refine And.intro (fun h => nd (by simp only [szB, h, *, cond_true, cond_false])) (fun h0 => ?_)
  refine And.intro (fun h => nd (by simp only [szB, h, *, cond_true, cond_false])) (fun h1 => ?_)
  refine And.intro (fun h => nd (by simp only [szB, h, *, cond_true, cond_false])) (fun h2 => ?_)
  refine And.intro (fun h => nd (by simp only [szB, h, *, cond_true, cond_false])) (fun h3 => ?_)
  refine And.intro (fun h => nd (by simp only [szB, h, *, cond_true, cond_false])) (fun h4 => ?_)
  refine And.intro (fun h => nd (by simp only [szB, h, *, cond_true, cond_false])) (fun h5 => ?_)
  exact nd (by simp only [szB, *, cond_true, cond_false])
theorem szGateMendS : ∃ m : List GateMend → Int → Int, ∀ x n, Spec P 24 [.d (lGateMend x), .d (.int .i64 n)] (.d (.int .i64 (m x n))) := by
  obtain ⟨m, hm⟩ := szGateMend
  refine ⟨fun x n => szB (IntKind.i64.wrap (n - ((x.map GateMend.e).length : Int))) fun n => szL m x n, fun xs n => ?_⟩
  refine Spec.of_vc vcT vcM [.tmp 4] Tryz.func24 rfl rfl rfl rfl (fun hok => ?_)
  have hs : xs.length ≤ big := by have := hok.1.1; rwa [List.length_map] at this
  refine And.intro (fun h => nd (by simp only [szB, h, cond_true, cond_false])) (fun h => ?_)
  simp only [szB, h, cond_true, cond_false]
  refine ⟨fun k l h => ∃ (i : Nat) (v : Int), k = xs.length - i ∧ i ≤ xs.length ∧ szL m xs (IntKind.i64.wrap (n - ((xs.map GateMend.e).length : Int))) = szL m (xs.drop i) v ∧ l = [(0, .d (lGateMend xs)), (1, .d (.int .i64 v)), (5, .d (.int .i64 i))] ∧ h = hp0,
    ⟨_, _, _, ⟨0, _, rfl, Nat.zero_le _, rfl, rfl, rfl⟩, rfl, rfl, ⟨rfl, rfl, rfl, trivial⟩, trivial, trivial⟩, ?_⟩
  rintro k l h1 ⟨i, v, rfl, hi, hr, rfl, rfl⟩
  refine And.intro (fun h1 => ?_) (fun h1 => ?_)
  · have hlt : i < xs.length := lt_map h1
    repeat refine And.intro rfl ?_
    refine ix_at (e := GateMend.e) (xs := xs) (hlt) rfl ?_
    repeat refine And.intro rfl ?_
    repeat refine And.intro rfl ?_
    refine Or.inl (Exists.intro _ (And.intro (hm _ _) ?_))
    refine And.intro (fun h2 => ?_) (fun h2 => ?_)
    · refine nd ?_
      rw [hr, szL_step hlt]
      simp only [szB, h2, cond_true]
    · refine ⟨_, _, _, ⟨i + 1, _, rfl, hlt, ?_, rfl, rfl⟩, by omega, rfl, rfl, ⟨rfl, rfl, nd (wrap_succ hlt hs), trivial⟩, trivial, trivial⟩
      rw [hr, szL_step hlt]
      simp only [szB, h2, cond_false]
  · refine nd ?_
    rw [hr, List.drop_of_length_le (ge_map h1)]; rfl
theorem szGateTeam : ∃ m : GateTeam → Int → Int, ∀ x n, Spec P 57 [st x.e, .d (.int .i64 n)] (.d (.int .i64 (m x n))) := by
  refine ⟨fun x n => szB (IntKind.i64.wrap (n - (x.name.length : Int))) fun n => szB (IntKind.i64.wrap (n - (x.over.length : Int))) fun n => n, fun x n => ?_⟩
  refine Spec.of_vc vcT vcM [.tmp 4] Tryz.func57 rfl rfl rfl rfl (fun hok => ?_)
  refine And.intro (fun h => nd (by simp only [szB, h, *, cond_true, cond_false])) (fun h0 => ?_)
  refine And.intro (fun h => nd (by simp only [szB, h, *, cond_true, cond_false])) (fun h1 => ?_)
  exact nd (by simp only [szB, *, cond_true, cond_false])
theorem szGateTeamS : ∃ m : List GateTeam → Int → Int, ∀ x n, Spec P 25 [.d (lGateTeam x), .d (.int .i64 n)] (.d (.int .i64 (m x n))) := by
  obtain ⟨m, hm⟩ := szGateTeam
  refine ⟨fun x n => szB (IntKind.i64.wrap (n - ((x.map GateTeam.e).length : Int))) fun n => szL m x n, fun xs n => ?_⟩
  refine Spec.of_vc vcT vcM [.tmp 4] Tryz.func25 rfl rfl rfl rfl (fun hok => ?_)
  have hs : xs.length ≤ big := by have := hok.1.1; rwa [List.length_map] at this
  refine And.intro (fun h => nd (by simp only [szB, h, cond_true, cond_false])) (fun h => ?_)
  simp only [szB, h, cond_true, cond_false]
  refine ⟨fun k l h => ∃ (i : Nat) (v : Int), k = xs.length - i ∧ i ≤ xs.length ∧ szL m xs (IntKind.i64.wrap (n - ((xs.map GateTeam.e).length : Int))) = szL m (xs.drop i) v ∧ l = [(0, .d (lGateTeam xs)), (1, .d (.int .i64 v)), (5, .d (.int .i64 i))] ∧ h = hp0,
    ⟨_, _, _, ⟨0, _, rfl, Nat.zero_le _, rfl, rfl, rfl⟩, rfl, rfl, ⟨rfl, rfl, rfl, trivial⟩, trivial, trivial⟩, ?_⟩
  rintro k l h1 ⟨i, v, rfl, hi, hr, rfl, rfl⟩
  refine And.intro (fun h1 => ?_) (fun h1 => ?_)
  · have hlt : i < xs.length := lt_map h1
    repeat refine And.intro rfl ?_
    refine ix_at (e := GateTeam.e) (xs := xs) (hlt) rfl ?_
    repeat refine And.intro rfl ?_
    repeat refine And.intro rfl ?_
    refine Or.inl (Exists.intro _ (And.intro (hm _ _) ?_))
    refine And.intro (fun h2 => ?_) (fun h2 => ?_)
    · refine nd ?_
      rw [hr, szL_step hlt]
      simp only [szB, h2, cond_true]
    · refine ⟨_, _, _, ⟨i + 1, _, rfl, hlt, ?_, rfl, rfl⟩, by omega, rfl, rfl, ⟨rfl, rfl, nd (wrap_succ hlt hs), trivial⟩, trivial, trivial⟩
      rw [hr, szL_step hlt]
      simp only [szB, h2, cond_false]
  · refine nd ?_
    rw [hr, List.drop_of_length_le (ge_map h1)]; rfl
theorem szGateLaw : ∃ m : GateLaw → Int → Int, ∀ x n, Spec P 6 [st x.e, .d (.int .i64 n)] (.d (.int .i64 (m x n))) := by
  obtain ⟨m0, hm0⟩ := szGateShapeS
  obtain ⟨m1, hm1⟩ := szGateMendS
  obtain ⟨m2, hm2⟩ := szGateTeamS
  refine ⟨fun x n => szB (m0 x.shapes n) fun n => szB (m1 x.mends n) fun n => szB (m2 x.teams n) fun n => n, fun x n => ?_⟩
  refine Spec.of_vc vcT vcM [.tmp 4] Tryz.func6 rfl rfl rfl rfl (fun hok => ?_)
  repeat refine And.intro rfl ?_
  refine Or.inl (Exists.intro _ (And.intro (hm0 _ _) ?_))
  refine And.intro (fun h => nd (by simp only [szB, h, *, cond_true, cond_false])) (fun h0 => ?_)
  repeat refine And.intro rfl ?_
  refine Or.inl (Exists.intro _ (And.intro (hm1 _ _) ?_))
  refine And.intro (fun h => nd (by simp only [szB, h, *, cond_true, cond_false])) (fun h1 => ?_)
  repeat refine And.intro rfl ?_
  refine Or.inl (Exists.intro _ (And.intro (hm2 _ _) ?_))
  refine And.intro (fun h => nd (by simp only [szB, h, *, cond_true, cond_false])) (fun h2 => ?_)
  exact nd (by simp only [szB, *, cond_true, cond_false])
theorem szGateObject : ∃ m : GateObject → Int → Int, ∀ x n, Spec P 58 [st x.e, .d (.int .i64 n)] (.d (.int .i64 (m x n))) := by
  obtain ⟨m0, hm0⟩ := szStringS
  refine ⟨fun x n => szB (IntKind.i64.wrap (n - (x.kind.length : Int))) fun n => szB (IntKind.i64.wrap (n - (x.name.length : Int))) fun n => szB (IntKind.i64.wrap (n - (x.team.length : Int))) fun n => szB (m0 x.values n) fun n => szB (m0 x.holds n) fun n => n, fun x n => ?_⟩
  refine Spec.of_vc vcT vcM [.tmp 4] Tryz.func58 rfl rfl rfl rfl (fun hok => ?_)
  refine And.intro (fun h => nd (by simp only [szB, h, *, cond_true, cond_false])) (fun h0 => ?_)
  refine And.intro (fun h => nd (by simp only [szB, h, *, cond_true, cond_false])) (fun h1 => ?_)
  refine And.intro (fun h => nd (by simp only [szB, h, *, cond_true, cond_false])) (fun h2 => ?_)
  repeat refine And.intro rfl ?_
  refine Or.inl (Exists.intro _ (And.intro (hm0 _ _) ?_))
  refine And.intro (fun h => nd (by simp only [szB, h, *, cond_true, cond_false])) (fun h3 => ?_)
  repeat refine And.intro rfl ?_
  refine Or.inl (Exists.intro _ (And.intro (hm0 _ _) ?_))
  refine And.intro (fun h => nd (by simp only [szB, h, *, cond_true, cond_false])) (fun h4 => ?_)
  exact nd (by simp only [szB, *, cond_true, cond_false])
theorem szGateObjectS : ∃ m : List GateObject → Int → Int, ∀ x n, Spec P 26 [.d (lGateObject x), .d (.int .i64 n)] (.d (.int .i64 (m x n))) := by
  obtain ⟨m, hm⟩ := szGateObject
  refine ⟨fun x n => szB (IntKind.i64.wrap (n - ((x.map GateObject.e).length : Int))) fun n => szL m x n, fun xs n => ?_⟩
  refine Spec.of_vc vcT vcM [.tmp 4] Tryz.func26 rfl rfl rfl rfl (fun hok => ?_)
  have hs : xs.length ≤ big := by have := hok.1.1; rwa [List.length_map] at this
  refine And.intro (fun h => nd (by simp only [szB, h, cond_true, cond_false])) (fun h => ?_)
  simp only [szB, h, cond_true, cond_false]
  refine ⟨fun k l h => ∃ (i : Nat) (v : Int), k = xs.length - i ∧ i ≤ xs.length ∧ szL m xs (IntKind.i64.wrap (n - ((xs.map GateObject.e).length : Int))) = szL m (xs.drop i) v ∧ l = [(0, .d (lGateObject xs)), (1, .d (.int .i64 v)), (5, .d (.int .i64 i))] ∧ h = hp0,
    ⟨_, _, _, ⟨0, _, rfl, Nat.zero_le _, rfl, rfl, rfl⟩, rfl, rfl, ⟨rfl, rfl, rfl, trivial⟩, trivial, trivial⟩, ?_⟩
  rintro k l h1 ⟨i, v, rfl, hi, hr, rfl, rfl⟩
  refine And.intro (fun h1 => ?_) (fun h1 => ?_)
  · have hlt : i < xs.length := lt_map h1
    repeat refine And.intro rfl ?_
    refine ix_at (e := GateObject.e) (xs := xs) (hlt) rfl ?_
    repeat refine And.intro rfl ?_
    repeat refine And.intro rfl ?_
    refine Or.inl (Exists.intro _ (And.intro (hm _ _) ?_))
    refine And.intro (fun h2 => ?_) (fun h2 => ?_)
    · refine nd ?_
      rw [hr, szL_step hlt]
      simp only [szB, h2, cond_true]
    · refine ⟨_, _, _, ⟨i + 1, _, rfl, hlt, ?_, rfl, rfl⟩, by omega, rfl, rfl, ⟨rfl, rfl, nd (wrap_succ hlt hs), trivial⟩, trivial, trivial⟩
      rw [hr, szL_step hlt]
      simp only [szB, h2, cond_false]
  · refine nd ?_
    rw [hr, List.drop_of_length_le (ge_map h1)]; rfl
theorem szGateRule : ∃ m : GateRule → Int → Int, ∀ x n, Spec P 103 [st x.e, .d (.int .i64 n)] (.d (.int .i64 (m x n))) := by
  obtain ⟨m0, hm0⟩ := szIntS
  refine ⟨fun x n => szB (m0 x.verbs n) fun n => szB (IntKind.i64.wrap (n - (x.kind.length : Int))) fun n => szB (IntKind.i64.wrap (n - (x.team.length : Int))) fun n => szB (IntKind.i64.wrap (n - (x.prefix_.length : Int))) fun n => n, fun x n => ?_⟩
  refine Spec.of_vc vcT vcM [.tmp 4] Tryz.func103 rfl rfl rfl rfl (fun hok => ?_)
  repeat refine And.intro rfl ?_
  refine Or.inl (Exists.intro _ (And.intro (hm0 _ _) ?_))
  refine And.intro (fun h => nd (by simp only [szB, h, *, cond_true, cond_false])) (fun h0 => ?_)
  refine And.intro (fun h => nd (by simp only [szB, h, *, cond_true, cond_false])) (fun h1 => ?_)
  refine And.intro (fun h => nd (by simp only [szB, h, *, cond_true, cond_false])) (fun h2 => ?_)
  refine And.intro (fun h => nd (by simp only [szB, h, *, cond_true, cond_false])) (fun h3 => ?_)
  exact nd (by simp only [szB, *, cond_true, cond_false])
theorem szGateGrant : ∃ m : GateGrant → Int → Int, ∀ x n, Spec P 59 [st x.e, .d (.int .i64 n)] (.d (.int .i64 (m x n))) := by
  obtain ⟨m0, hm0⟩ := szGateRule
  refine ⟨fun x n => szB (IntKind.i64.wrap (n - (x.to_.length : Int))) fun n => szB (IntKind.i64.wrap (n - (x.by_.length : Int))) fun n => szB (m0 x.rule n) fun n => n, fun x n => ?_⟩
  refine Spec.of_vc vcT vcM [.tmp 4] Tryz.func59 rfl rfl rfl rfl (fun hok => ?_)
  refine And.intro (fun h => nd (by simp only [szB, h, *, cond_true, cond_false])) (fun h0 => ?_)
  refine And.intro (fun h => nd (by simp only [szB, h, *, cond_true, cond_false])) (fun h1 => ?_)
  repeat refine And.intro rfl ?_
  refine Or.inl (Exists.intro _ (And.intro (hm0 _ _) ?_))
  refine And.intro (fun h => nd (by simp only [szB, h, *, cond_true, cond_false])) (fun h2 => ?_)
  exact nd (by simp only [szB, *, cond_true, cond_false])
theorem szGateGrantS : ∃ m : List GateGrant → Int → Int, ∀ x n, Spec P 27 [.d (lGateGrant x), .d (.int .i64 n)] (.d (.int .i64 (m x n))) := by
  obtain ⟨m, hm⟩ := szGateGrant
  refine ⟨fun x n => szB (IntKind.i64.wrap (n - ((x.map GateGrant.e).length : Int))) fun n => szL m x n, fun xs n => ?_⟩
  refine Spec.of_vc vcT vcM [.tmp 4] Tryz.func27 rfl rfl rfl rfl (fun hok => ?_)
  have hs : xs.length ≤ big := by have := hok.1.1; rwa [List.length_map] at this
  refine And.intro (fun h => nd (by simp only [szB, h, cond_true, cond_false])) (fun h => ?_)
  simp only [szB, h, cond_true, cond_false]
  refine ⟨fun k l h => ∃ (i : Nat) (v : Int), k = xs.length - i ∧ i ≤ xs.length ∧ szL m xs (IntKind.i64.wrap (n - ((xs.map GateGrant.e).length : Int))) = szL m (xs.drop i) v ∧ l = [(0, .d (lGateGrant xs)), (1, .d (.int .i64 v)), (5, .d (.int .i64 i))] ∧ h = hp0,
    ⟨_, _, _, ⟨0, _, rfl, Nat.zero_le _, rfl, rfl, rfl⟩, rfl, rfl, ⟨rfl, rfl, rfl, trivial⟩, trivial, trivial⟩, ?_⟩
  rintro k l h1 ⟨i, v, rfl, hi, hr, rfl, rfl⟩
  refine And.intro (fun h1 => ?_) (fun h1 => ?_)
  · have hlt : i < xs.length := lt_map h1
    repeat refine And.intro rfl ?_
    refine ix_at (e := GateGrant.e) (xs := xs) (hlt) rfl ?_
    repeat refine And.intro rfl ?_
    repeat refine And.intro rfl ?_
    refine Or.inl (Exists.intro _ (And.intro (hm _ _) ?_))
    refine And.intro (fun h2 => ?_) (fun h2 => ?_)
    · refine nd ?_
      rw [hr, szL_step hlt]
      simp only [szB, h2, cond_true]
    · refine ⟨_, _, _, ⟨i + 1, _, rfl, hlt, ?_, rfl, rfl⟩, by omega, rfl, rfl, ⟨rfl, rfl, nd (wrap_succ hlt hs), trivial⟩, trivial, trivial⟩
      rw [hr, szL_step hlt]
      simp only [szB, h2, cond_false]
  · refine nd ?_
    rw [hr, List.drop_of_length_le (ge_map h1)]; rfl
theorem szGateLedger : ∃ m : GateLedger → Int → Int, ∀ x n, Spec P 60 [st x.e, .d (.int .i64 n)] (.d (.int .i64 (m x n))) := by
  refine ⟨fun x n => szB (IntKind.i64.wrap (n - (x.team.length : Int))) fun n => szB (IntKind.i64.wrap (n - (x.resource.length : Int))) fun n => n, fun x n => ?_⟩
  refine Spec.of_vc vcT vcM [.tmp 4] Tryz.func60 rfl rfl rfl rfl (fun hok => ?_)
  refine And.intro (fun h => nd (by simp only [szB, h, *, cond_true, cond_false])) (fun h0 => ?_)
  refine And.intro (fun h => nd (by simp only [szB, h, *, cond_true, cond_false])) (fun h1 => ?_)
  exact nd (by simp only [szB, *, cond_true, cond_false])
theorem szGateLedgerS : ∃ m : List GateLedger → Int → Int, ∀ x n, Spec P 28 [.d (lGateLedger x), .d (.int .i64 n)] (.d (.int .i64 (m x n))) := by
  obtain ⟨m, hm⟩ := szGateLedger
  refine ⟨fun x n => szB (IntKind.i64.wrap (n - ((x.map GateLedger.e).length : Int))) fun n => szL m x n, fun xs n => ?_⟩
  refine Spec.of_vc vcT vcM [.tmp 4] Tryz.func28 rfl rfl rfl rfl (fun hok => ?_)
  have hs : xs.length ≤ big := by have := hok.1.1; rwa [List.length_map] at this
  refine And.intro (fun h => nd (by simp only [szB, h, cond_true, cond_false])) (fun h => ?_)
  simp only [szB, h, cond_true, cond_false]
  refine ⟨fun k l h => ∃ (i : Nat) (v : Int), k = xs.length - i ∧ i ≤ xs.length ∧ szL m xs (IntKind.i64.wrap (n - ((xs.map GateLedger.e).length : Int))) = szL m (xs.drop i) v ∧ l = [(0, .d (lGateLedger xs)), (1, .d (.int .i64 v)), (5, .d (.int .i64 i))] ∧ h = hp0,
    ⟨_, _, _, ⟨0, _, rfl, Nat.zero_le _, rfl, rfl, rfl⟩, rfl, rfl, ⟨rfl, rfl, rfl, trivial⟩, trivial, trivial⟩, ?_⟩
  rintro k l h1 ⟨i, v, rfl, hi, hr, rfl, rfl⟩
  refine And.intro (fun h1 => ?_) (fun h1 => ?_)
  · have hlt : i < xs.length := lt_map h1
    repeat refine And.intro rfl ?_
    refine ix_at (e := GateLedger.e) (xs := xs) (hlt) rfl ?_
    repeat refine And.intro rfl ?_
    repeat refine And.intro rfl ?_
    refine Or.inl (Exists.intro _ (And.intro (hm _ _) ?_))
    refine And.intro (fun h2 => ?_) (fun h2 => ?_)
    · refine nd ?_
      rw [hr, szL_step hlt]
      simp only [szB, h2, cond_true]
    · refine ⟨_, _, _, ⟨i + 1, _, rfl, hlt, ?_, rfl, rfl⟩, by omega, rfl, rfl, ⟨rfl, rfl, nd (wrap_succ hlt hs), trivial⟩, trivial, trivial⟩
      rw [hr, szL_step hlt]
      simp only [szB, h2, cond_false]
  · refine nd ?_
    rw [hr, List.drop_of_length_le (ge_map h1)]; rfl
theorem szGatePurse : ∃ m : GatePurse → Int → Int, ∀ x n, Spec P 61 [st x.e, .d (.int .i64 n)] (.d (.int .i64 (m x n))) := by
  refine ⟨fun x n => szB (IntKind.i64.wrap (n - (x.door.length : Int))) fun n => szB (IntKind.i64.wrap (n - (x.team.length : Int))) fun n => szB (IntKind.i64.wrap (n - (x.resource.length : Int))) fun n => n, fun x n => ?_⟩
  refine Spec.of_vc vcT vcM [.tmp 4] Tryz.func61 rfl rfl rfl rfl (fun hok => ?_)
  refine And.intro (fun h => nd (by simp only [szB, h, *, cond_true, cond_false])) (fun h0 => ?_)
  refine And.intro (fun h => nd (by simp only [szB, h, *, cond_true, cond_false])) (fun h1 => ?_)
  refine And.intro (fun h => nd (by simp only [szB, h, *, cond_true, cond_false])) (fun h2 => ?_)
  exact nd (by simp only [szB, *, cond_true, cond_false])
theorem szGatePurseS : ∃ m : List GatePurse → Int → Int, ∀ x n, Spec P 29 [.d (lGatePurse x), .d (.int .i64 n)] (.d (.int .i64 (m x n))) := by
  obtain ⟨m, hm⟩ := szGatePurse
  refine ⟨fun x n => szB (IntKind.i64.wrap (n - ((x.map GatePurse.e).length : Int))) fun n => szL m x n, fun xs n => ?_⟩
  refine Spec.of_vc vcT vcM [.tmp 4] Tryz.func29 rfl rfl rfl rfl (fun hok => ?_)
  have hs : xs.length ≤ big := by have := hok.1.1; rwa [List.length_map] at this
  refine And.intro (fun h => nd (by simp only [szB, h, cond_true, cond_false])) (fun h => ?_)
  simp only [szB, h, cond_true, cond_false]
  refine ⟨fun k l h => ∃ (i : Nat) (v : Int), k = xs.length - i ∧ i ≤ xs.length ∧ szL m xs (IntKind.i64.wrap (n - ((xs.map GatePurse.e).length : Int))) = szL m (xs.drop i) v ∧ l = [(0, .d (lGatePurse xs)), (1, .d (.int .i64 v)), (5, .d (.int .i64 i))] ∧ h = hp0,
    ⟨_, _, _, ⟨0, _, rfl, Nat.zero_le _, rfl, rfl, rfl⟩, rfl, rfl, ⟨rfl, rfl, rfl, trivial⟩, trivial, trivial⟩, ?_⟩
  rintro k l h1 ⟨i, v, rfl, hi, hr, rfl, rfl⟩
  refine And.intro (fun h1 => ?_) (fun h1 => ?_)
  · have hlt : i < xs.length := lt_map h1
    repeat refine And.intro rfl ?_
    refine ix_at (e := GatePurse.e) (xs := xs) (hlt) rfl ?_
    repeat refine And.intro rfl ?_
    repeat refine And.intro rfl ?_
    refine Or.inl (Exists.intro _ (And.intro (hm _ _) ?_))
    refine And.intro (fun h2 => ?_) (fun h2 => ?_)
    · refine nd ?_
      rw [hr, szL_step hlt]
      simp only [szB, h2, cond_true]
    · refine ⟨_, _, _, ⟨i + 1, _, rfl, hlt, ?_, rfl, rfl⟩, by omega, rfl, rfl, ⟨rfl, rfl, nd (wrap_succ hlt hs), trivial⟩, trivial, trivial⟩
      rw [hr, szL_step hlt]
      simp only [szB, h2, cond_false]
  · refine nd ?_
    rw [hr, List.drop_of_length_le (ge_map h1)]; rfl
theorem szGateBook : ∃ m : GateBook → Int → Int, ∀ x n, Spec P 7 [st x.e, .d (.int .i64 n)] (.d (.int .i64 (m x n))) := by
  obtain ⟨m0, hm0⟩ := szGateObjectS
  obtain ⟨m1, hm1⟩ := szGateGrantS
  obtain ⟨m2, hm2⟩ := szGateLedgerS
  obtain ⟨m3, hm3⟩ := szGatePurseS
  refine ⟨fun x n => szB (m0 x.objects n) fun n => szB (m1 x.grants n) fun n => szB (m2 x.ledgers n) fun n => szB (m3 x.purses n) fun n => n, fun x n => ?_⟩
  refine Spec.of_vc vcT vcM [.tmp 4] Tryz.func7 rfl rfl rfl rfl (fun hok => ?_)
  repeat refine And.intro rfl ?_
  refine Or.inl (Exists.intro _ (And.intro (hm0 _ _) ?_))
  refine And.intro (fun h => nd (by simp only [szB, h, *, cond_true, cond_false])) (fun h0 => ?_)
  repeat refine And.intro rfl ?_
  refine Or.inl (Exists.intro _ (And.intro (hm1 _ _) ?_))
  refine And.intro (fun h => nd (by simp only [szB, h, *, cond_true, cond_false])) (fun h1 => ?_)
  repeat refine And.intro rfl ?_
  refine Or.inl (Exists.intro _ (And.intro (hm2 _ _) ?_))
  refine And.intro (fun h => nd (by simp only [szB, h, *, cond_true, cond_false])) (fun h2 => ?_)
  repeat refine And.intro rfl ?_
  refine Or.inl (Exists.intro _ (And.intro (hm3 _ _) ?_))
  refine And.intro (fun h => nd (by simp only [szB, h, *, cond_true, cond_false])) (fun h3 => ?_)
  exact nd (by simp only [szB, *, cond_true, cond_false])
theorem szGateAsk : ∃ m : GateAsk → Int → Int, ∀ x n, Spec P 207 [st x.e, .d (.int .i64 n)] (.d (.int .i64 (m x n))) := by
  obtain ⟨m0, hm0⟩ := szStringS
  obtain ⟨m1, hm1⟩ := szGateRule
  refine ⟨fun x n => szB (IntKind.i64.wrap (n - (x.who.length : Int))) fun n => szB (IntKind.i64.wrap (n - (x.kind.length : Int))) fun n => szB (IntKind.i64.wrap (n - (x.name.length : Int))) fun n => szB (IntKind.i64.wrap (n - (x.team.length : Int))) fun n => szB (m0 x.values n) fun n => szB (m0 x.holds n) fun n => szB (IntKind.i64.wrap (n - (x.hold.length : Int))) fun n => szB (IntKind.i64.wrap (n - (x.to_.length : Int))) fun n => szB (m1 x.rule n) fun n => n, fun x n => ?_⟩
  refine Spec.of_vc vcT vcM [.tmp 4] Tryz.func207 rfl rfl rfl rfl (fun hok => ?_)
  refine And.intro (fun h => nd (by simp only [szB, h, *, cond_true, cond_false])) (fun h0 => ?_)
  refine And.intro (fun h => nd (by simp only [szB, h, *, cond_true, cond_false])) (fun h1 => ?_)
  refine And.intro (fun h => nd (by simp only [szB, h, *, cond_true, cond_false])) (fun h2 => ?_)
  refine And.intro (fun h => nd (by simp only [szB, h, *, cond_true, cond_false])) (fun h3 => ?_)
  repeat refine And.intro rfl ?_
  refine Or.inl (Exists.intro _ (And.intro (hm0 _ _) ?_))
  refine And.intro (fun h => nd (by simp only [szB, h, *, cond_true, cond_false])) (fun h4 => ?_)
  repeat refine And.intro rfl ?_
  refine Or.inl (Exists.intro _ (And.intro (hm0 _ _) ?_))
  refine And.intro (fun h => nd (by simp only [szB, h, *, cond_true, cond_false])) (fun h5 => ?_)
  refine And.intro (fun h => nd (by simp only [szB, h, *, cond_true, cond_false])) (fun h6 => ?_)
  refine And.intro (fun h => nd (by simp only [szB, h, *, cond_true, cond_false])) (fun h7 => ?_)
  repeat refine And.intro rfl ?_
  refine Or.inl (Exists.intro _ (And.intro (hm1 _ _) ?_))
  refine And.intro (fun h => nd (by simp only [szB, h, *, cond_true, cond_false])) (fun h8 => ?_)
  exact nd (by simp only [szB, *, cond_true, cond_false])
theorem szGateWant : ∃ m : GateWant → Int → Int, ∀ x n, Spec P 220 [st x.e, .d (.int .i64 n)] (.d (.int .i64 (m x n))) := by
  refine ⟨fun x n => szB (IntKind.i64.wrap (n - (x.kind.length : Int))) fun n => szB (IntKind.i64.wrap (n - (x.name.length : Int))) fun n => n, fun x n => ?_⟩
  refine Spec.of_vc vcT vcM [.tmp 4] Tryz.func220 rfl rfl rfl rfl (fun hok => ?_)
  refine And.intro (fun h => nd (by simp only [szB, h, *, cond_true, cond_false])) (fun h0 => ?_)
  refine And.intro (fun h => nd (by simp only [szB, h, *, cond_true, cond_false])) (fun h1 => ?_)
  exact nd (by simp only [szB, *, cond_true, cond_false])
theorem szGateWantS : ∃ m : List GateWant → Int → Int, ∀ x n, Spec P 208 [.d (lGateWant x), .d (.int .i64 n)] (.d (.int .i64 (m x n))) := by
  obtain ⟨m, hm⟩ := szGateWant
  refine ⟨fun x n => szB (IntKind.i64.wrap (n - ((x.map GateWant.e).length : Int))) fun n => szL m x n, fun xs n => ?_⟩
  refine Spec.of_vc vcT vcM [.tmp 4] Tryz.func208 rfl rfl rfl rfl (fun hok => ?_)
  have hs : xs.length ≤ big := by have := hok.1.1; rwa [List.length_map] at this
  refine And.intro (fun h => nd (by simp only [szB, h, cond_true, cond_false])) (fun h => ?_)
  simp only [szB, h, cond_true, cond_false]
  refine ⟨fun k l h => ∃ (i : Nat) (v : Int), k = xs.length - i ∧ i ≤ xs.length ∧ szL m xs (IntKind.i64.wrap (n - ((xs.map GateWant.e).length : Int))) = szL m (xs.drop i) v ∧ l = [(0, .d (lGateWant xs)), (1, .d (.int .i64 v)), (5, .d (.int .i64 i))] ∧ h = hp0,
    ⟨_, _, _, ⟨0, _, rfl, Nat.zero_le _, rfl, rfl, rfl⟩, rfl, rfl, ⟨rfl, rfl, rfl, trivial⟩, trivial, trivial⟩, ?_⟩
  rintro k l h1 ⟨i, v, rfl, hi, hr, rfl, rfl⟩
  refine And.intro (fun h1 => ?_) (fun h1 => ?_)
  · have hlt : i < xs.length := lt_map h1
    repeat refine And.intro rfl ?_
    refine ix_at (e := GateWant.e) (xs := xs) (hlt) rfl ?_
    repeat refine And.intro rfl ?_
    repeat refine And.intro rfl ?_
    refine Or.inl (Exists.intro _ (And.intro (hm _ _) ?_))
    refine And.intro (fun h2 => ?_) (fun h2 => ?_)
    · refine nd ?_
      rw [hr, szL_step hlt]
      simp only [szB, h2, cond_true]
    · refine ⟨_, _, _, ⟨i + 1, _, rfl, hlt, ?_, rfl, rfl⟩, by omega, rfl, rfl, ⟨rfl, rfl, nd (wrap_succ hlt hs), trivial⟩, trivial, trivial⟩
      rw [hr, szL_step hlt]
      simp only [szB, h2, cond_false]
  · refine nd ?_
    rw [hr, List.drop_of_length_le (ge_map h1)]; rfl
theorem szGateSlip : ∃ m : GateSlip → Int → Int, ∀ x n, Spec P 179 [st x.e, .d (.int .i64 n)] (.d (.int .i64 (m x n))) := by
  obtain ⟨m0, hm0⟩ := szGateAsk
  obtain ⟨m1, hm1⟩ := szGateWantS
  refine ⟨fun x n => szB (IntKind.i64.wrap (n - (x.door.length : Int))) fun n => szB (m0 x.ask n) fun n => szB (m1 x.wants n) fun n => n, fun x n => ?_⟩
  refine Spec.of_vc vcT vcM [.tmp 4] Tryz.func179 rfl rfl rfl rfl (fun hok => ?_)
  refine And.intro (fun h => nd (by simp only [szB, h, *, cond_true, cond_false])) (fun h0 => ?_)
  repeat refine And.intro rfl ?_
  refine Or.inl (Exists.intro _ (And.intro (hm0 _ _) ?_))
  refine And.intro (fun h => nd (by simp only [szB, h, *, cond_true, cond_false])) (fun h1 => ?_)
  repeat refine And.intro rfl ?_
  refine Or.inl (Exists.intro _ (And.intro (hm1 _ _) ?_))
  refine And.intro (fun h => nd (by simp only [szB, h, *, cond_true, cond_false])) (fun h2 => ?_)
  exact nd (by simp only [szB, *, cond_true, cond_false])
theorem szGateSlipS : ∃ m : List GateSlip → Int → Int, ∀ x n, Spec P 137 [.d (lGateSlip x), .d (.int .i64 n)] (.d (.int .i64 (m x n))) := by
  obtain ⟨m, hm⟩ := szGateSlip
  refine ⟨fun x n => szB (IntKind.i64.wrap (n - ((x.map GateSlip.e).length : Int))) fun n => szL m x n, fun xs n => ?_⟩
  refine Spec.of_vc vcT vcM [.tmp 4] Tryz.func137 rfl rfl rfl rfl (fun hok => ?_)
  have hs : xs.length ≤ big := by have := hok.1.1; rwa [List.length_map] at this
  refine And.intro (fun h => nd (by simp only [szB, h, cond_true, cond_false])) (fun h => ?_)
  simp only [szB, h, cond_true, cond_false]
  refine ⟨fun k l h => ∃ (i : Nat) (v : Int), k = xs.length - i ∧ i ≤ xs.length ∧ szL m xs (IntKind.i64.wrap (n - ((xs.map GateSlip.e).length : Int))) = szL m (xs.drop i) v ∧ l = [(0, .d (lGateSlip xs)), (1, .d (.int .i64 v)), (5, .d (.int .i64 i))] ∧ h = hp0,
    ⟨_, _, _, ⟨0, _, rfl, Nat.zero_le _, rfl, rfl, rfl⟩, rfl, rfl, ⟨rfl, rfl, rfl, trivial⟩, trivial, trivial⟩, ?_⟩
  rintro k l h1 ⟨i, v, rfl, hi, hr, rfl, rfl⟩
  refine And.intro (fun h1 => ?_) (fun h1 => ?_)
  · have hlt : i < xs.length := lt_map h1
    repeat refine And.intro rfl ?_
    refine ix_at (e := GateSlip.e) (xs := xs) (hlt) rfl ?_
    repeat refine And.intro rfl ?_
    repeat refine And.intro rfl ?_
    refine Or.inl (Exists.intro _ (And.intro (hm _ _) ?_))
    refine And.intro (fun h2 => ?_) (fun h2 => ?_)
    · refine nd ?_
      rw [hr, szL_step hlt]
      simp only [szB, h2, cond_true]
    · refine ⟨_, _, _, ⟨i + 1, _, rfl, hlt, ?_, rfl, rfl⟩, by omega, rfl, rfl, ⟨rfl, rfl, nd (wrap_succ hlt hs), trivial⟩, trivial, trivial⟩
      rw [hr, szL_step hlt]
      simp only [szB, h2, cond_false]
  · refine nd ?_
    rw [hr, List.drop_of_length_le (ge_map h1)]; rfl
theorem szGateDoor : ∃ m : GateDoor → Int → Int, ∀ x n, Spec P 89 [st x.e, .d (.int .i64 n)] (.d (.int .i64 (m x n))) := by
  obtain ⟨m0, hm0⟩ := szGateBook
  obtain ⟨m1, hm1⟩ := szGateSlipS
  refine ⟨fun x n => szB (IntKind.i64.wrap (n - (x.name.length : Int))) fun n => szB (m0 x.view n) fun n => szB (m1 x.slips n) fun n => n, fun x n => ?_⟩
  refine Spec.of_vc vcT vcM [.tmp 4] Tryz.func89 rfl rfl rfl rfl (fun hok => ?_)
  refine And.intro (fun h => nd (by simp only [szB, h, *, cond_true, cond_false])) (fun h0 => ?_)
  repeat refine And.intro rfl ?_
  refine Or.inl (Exists.intro _ (And.intro (hm0 _ _) ?_))
  refine And.intro (fun h => nd (by simp only [szB, h, *, cond_true, cond_false])) (fun h1 => ?_)
  repeat refine And.intro rfl ?_
  refine Or.inl (Exists.intro _ (And.intro (hm1 _ _) ?_))
  refine And.intro (fun h => nd (by simp only [szB, h, *, cond_true, cond_false])) (fun h2 => ?_)
  exact nd (by simp only [szB, *, cond_true, cond_false])
theorem szGateDoorS : ∃ m : List GateDoor → Int → Int, ∀ x n, Spec P 48 [.d (lGateDoor x), .d (.int .i64 n)] (.d (.int .i64 (m x n))) := by
  obtain ⟨m, hm⟩ := szGateDoor
  refine ⟨fun x n => szB (IntKind.i64.wrap (n - ((x.map GateDoor.e).length : Int))) fun n => szL m x n, fun xs n => ?_⟩
  refine Spec.of_vc vcT vcM [.tmp 4] Tryz.func48 rfl rfl rfl rfl (fun hok => ?_)
  have hs : xs.length ≤ big := by have := hok.1.1; rwa [List.length_map] at this
  refine And.intro (fun h => nd (by simp only [szB, h, cond_true, cond_false])) (fun h => ?_)
  simp only [szB, h, cond_true, cond_false]
  refine ⟨fun k l h => ∃ (i : Nat) (v : Int), k = xs.length - i ∧ i ≤ xs.length ∧ szL m xs (IntKind.i64.wrap (n - ((xs.map GateDoor.e).length : Int))) = szL m (xs.drop i) v ∧ l = [(0, .d (lGateDoor xs)), (1, .d (.int .i64 v)), (5, .d (.int .i64 i))] ∧ h = hp0,
    ⟨_, _, _, ⟨0, _, rfl, Nat.zero_le _, rfl, rfl, rfl⟩, rfl, rfl, ⟨rfl, rfl, rfl, trivial⟩, trivial, trivial⟩, ?_⟩
  rintro k l h1 ⟨i, v, rfl, hi, hr, rfl, rfl⟩
  refine And.intro (fun h1 => ?_) (fun h1 => ?_)
  · have hlt : i < xs.length := lt_map h1
    repeat refine And.intro rfl ?_
    refine ix_at (e := GateDoor.e) (xs := xs) (hlt) rfl ?_
    repeat refine And.intro rfl ?_
    repeat refine And.intro rfl ?_
    refine Or.inl (Exists.intro _ (And.intro (hm _ _) ?_))
    refine And.intro (fun h2 => ?_) (fun h2 => ?_)
    · refine nd ?_
      rw [hr, szL_step hlt]
      simp only [szB, h2, cond_true]
    · refine ⟨_, _, _, ⟨i + 1, _, rfl, hlt, ?_, rfl, rfl⟩, by omega, rfl, rfl, ⟨rfl, rfl, nd (wrap_succ hlt hs), trivial⟩, trivial, trivial⟩
      rw [hr, szL_step hlt]
      simp only [szB, h2, cond_false]
  · refine nd ?_
    rw [hr, List.drop_of_length_le (ge_map h1)]; rfl
theorem szGateWorld : ∃ m : GateWorld → Int → Int, ∀ x n, Spec P 16 [st x.e, .d (.int .i64 n)] (.d (.int .i64 (m x n))) := by
  obtain ⟨m0, hm0⟩ := szGateBook
  obtain ⟨m1, hm1⟩ := szGateDoorS
  refine ⟨fun x n => szB (m0 x.book n) fun n => szB (m1 x.doors n) fun n => n, fun x n => ?_⟩
  refine Spec.of_vc vcT vcM [.tmp 4] Tryz.func16 rfl rfl rfl rfl (fun hok => ?_)
  repeat refine And.intro rfl ?_
  refine Or.inl (Exists.intro _ (And.intro (hm0 _ _) ?_))
  refine And.intro (fun h => nd (by simp only [szB, h, *, cond_true, cond_false])) (fun h0 => ?_)
  repeat refine And.intro rfl ?_
  refine Or.inl (Exists.intro _ (And.intro (hm1 _ _) ?_))
  refine And.intro (fun h => nd (by simp only [szB, h, *, cond_true, cond_false])) (fun h1 => ?_)
  exact nd (by simp only [szB, *, cond_true, cond_false])
theorem szGateAct : ∃ m : GateAct → Int → Int, ∀ x n, Spec P 8 [st x.e, .d (.int .i64 n)] (.d (.int .i64 (m x n))) := by
  refine ⟨fun x n => szB (IntKind.i64.wrap (n - (x.kind.length : Int))) fun n => szB (IntKind.i64.wrap (n - (x.team.length : Int))) fun n => szB (IntKind.i64.wrap (n - (x.name.length : Int))) fun n => n, fun x n => ?_⟩
  refine Spec.of_vc vcT vcM [.tmp 4] Tryz.func8 rfl rfl rfl rfl (fun hok => ?_)
  refine And.intro (fun h => nd (by simp only [szB, h, *, cond_true, cond_false])) (fun h0 => ?_)
  refine And.intro (fun h => nd (by simp only [szB, h, *, cond_true, cond_false])) (fun h1 => ?_)
  refine And.intro (fun h => nd (by simp only [szB, h, *, cond_true, cond_false])) (fun h2 => ?_)
  exact nd (by simp only [szB, *, cond_true, cond_false])
theorem to_StringS (xs : List Bs) : Spec P 119 [.d (lS xs)] (.d (lS xs)) := by
  refine Spec.of_vc vcT vcM [.tmp 2] Tryz.func119 rfl rfl rfl rfl (fun hok => ?_)
  have hs : xs.length ≤ big := by have := hok.1.1; rwa [List.length_map] at this
  repeat refine And.intro rfl ?_
  refine And.intro (Int.natCast_nonneg _) (And.intro (Int.le_refl _) (And.intro (mk_ok hs) ?_))
  refine ⟨fun k l h => ∃ i : Nat, k = xs.length - i ∧ i ≤ xs.length ∧ l = [(0, .d (lS xs)), (3, .own 0), (4, .d (.int .i64 i))] ∧ h = ⟨[(0, .row 9 [D.str []].length (rowsAt eB xs [D.str []] i))], 1, 0⟩,
    ⟨_, _, _, ⟨0, rfl, Nat.zero_le _, rfl, rfl⟩, rfl, rfl, ⟨rfl, rfl, rfl, trivial⟩, ⟨rfl, trivial⟩, ⟨rowsAt_start, trivial⟩⟩, ?_⟩
  rintro k l h1 ⟨i, rfl, hi, rfl, rfl⟩
  refine And.intro (fun h1 => ?_) (fun h1 => ?_)
  · have hlt : i < xs.length := lt_map h1
    repeat refine And.intro rfl ?_
    refine ix_at (e := eB) (xs := xs) (hlt) rfl ?_
    repeat refine And.intro rfl ?_
    repeat refine And.intro rfl ?_
    refine And.intro (Int.natCast_nonneg _) (And.intro (by rw [rowsAt_len hi]; omega) ?_)
    repeat refine And.intro rfl ?_
    refine ⟨_, rowsAt_get hlt, Nat.le_refl _, ?_⟩
    exact ⟨_, _, _, ⟨i + 1, rfl, hlt, rfl, rfl⟩, by omega, rfl, rfl, ⟨rfl, rfl, nd (wrap_succ hlt hs), trivial⟩, ⟨rfl, trivial⟩, ⟨rowsAt_set hlt rfl, trivial⟩⟩
  · exact ld (rowsAt_end (ge_map h1) hi)
theorem to_IntS (xs : List Int) : Spec P 159 [.d (lI xs)] (.d (lI xs)) := by
  refine Spec.of_vc vcT vcM [.tmp 2] Tryz.func159 rfl rfl rfl rfl (fun hok => ?_)
  have hs : xs.length ≤ big := by have := hok.1.1; rwa [List.length_map] at this
  repeat refine And.intro rfl ?_
  refine And.intro (Int.natCast_nonneg _) (And.intro (Int.le_refl _) (And.intro (mk_ok hs) ?_))
  refine ⟨fun k l h => ∃ i : Nat, k = xs.length - i ∧ i ≤ xs.length ∧ l = [(0, .d (lI xs)), (3, .own 0), (4, .d (.int .i64 i))] ∧ h = ⟨[(0, .row 3 [D.int .i64 0].length (rowsAt eN xs [D.int .i64 0] i))], 1, 0⟩,
    ⟨_, _, _, ⟨0, rfl, Nat.zero_le _, rfl, rfl⟩, rfl, rfl, ⟨rfl, rfl, rfl, trivial⟩, ⟨rfl, trivial⟩, ⟨rowsAt_start, trivial⟩⟩, ?_⟩
  rintro k l h1 ⟨i, rfl, hi, rfl, rfl⟩
  refine And.intro (fun h1 => ?_) (fun h1 => ?_)
  · have hlt : i < xs.length := lt_map h1
    repeat refine And.intro rfl ?_
    refine ix_at (e := eN) (xs := xs) (hlt) rfl ?_
    repeat refine And.intro rfl ?_
    repeat refine And.intro rfl ?_
    refine And.intro (Int.natCast_nonneg _) (And.intro (by rw [rowsAt_len hi]; omega) ?_)
    repeat refine And.intro rfl ?_
    refine ⟨_, rowsAt_get hlt, Nat.le_refl _, ?_⟩
    exact ⟨_, _, _, ⟨i + 1, rfl, hlt, rfl, rfl⟩, by omega, rfl, rfl, ⟨rfl, rfl, nd (wrap_succ hlt hs), trivial⟩, ⟨rfl, trivial⟩, ⟨rowsAt_set hlt rfl, trivial⟩⟩
  · exact ld (rowsAt_end (ge_map h1) hi)
def GateField.z : List D := [.str [], .int .i64 0, .int .i64 0, .int .i64 0, .list [], .str [], .int .i64 0, .bool false, .bool false, .str [], .str []]
theorem to_GateField (x : GateField) : Spec P 158 [st x.e] (st x.e) := by
  refine Spec.of_vc vcT vcM [.cell 2 191] Tryz.func158 rfl rfl rfl rfl (fun hok => ?_)
  repeat refine And.intro rfl ?_
  refine Or.inl (Exists.intro _ (And.intro (to_StringS _) ?_))
  repeat refine And.intro rfl ?_
  rfl
theorem to_GateFieldS (xs : List GateField) : Spec P 118 [.d (lGateField xs)] (.d (lGateField xs)) := by
  refine Spec.of_vc vcT vcM [.tmp 2] Tryz.func118 rfl rfl rfl rfl (fun hok => ?_)
  have hs : xs.length ≤ big := by have := hok.1.1; rwa [List.length_map] at this
  repeat refine And.intro rfl ?_
  refine And.intro (Int.natCast_nonneg _) (And.intro (Int.le_refl _) (And.intro (mk_ok hs) ?_))
  refine ⟨fun k l h => ∃ i : Nat, k = xs.length - i ∧ i ≤ xs.length ∧ l = [(0, .d (lGateField xs)), (3, .own 0), (4, .d (.int .i64 i))] ∧ h = ⟨[(0, .row 191 GateField.z.length (rowsAt GateField.e xs GateField.z i))], 1, 0⟩,
    ⟨_, _, _, ⟨0, rfl, Nat.zero_le _, rfl, rfl⟩, rfl, rfl, ⟨rfl, rfl, rfl, trivial⟩, ⟨rfl, trivial⟩, ⟨rowsAt_start, trivial⟩⟩, ?_⟩
  rintro k l h1 ⟨i, rfl, hi, rfl, rfl⟩
  refine And.intro (fun h1 => ?_) (fun h1 => ?_)
  · have hlt : i < xs.length := lt_map h1
    repeat refine And.intro rfl ?_
    refine ix_at (e := GateField.e) (xs := xs) (hlt) rfl ?_
    repeat refine And.intro rfl ?_
    repeat refine And.intro rfl ?_
    refine Or.inl (Exists.intro _ (And.intro (to_GateField _) ?_))
    repeat refine And.intro rfl ?_
    refine And.intro (Int.natCast_nonneg _) (And.intro (by rw [rowsAt_len hi]; omega) ?_)
    repeat refine And.intro rfl ?_
    refine ⟨_, rowsAt_get hlt, Nat.le_refl _, ?_⟩
    exact ⟨_, _, _, ⟨i + 1, rfl, hlt, rfl, rfl⟩, by omega, rfl, rfl, ⟨rfl, rfl, nd (wrap_succ hlt hs), trivial⟩, ⟨rfl, trivial⟩, ⟨rowsAt_set hlt rfl, trivial⟩⟩
  · exact ld (rowsAt_end (ge_map h1) hi)
def GateShape.z : List D := [.str [], .list []]
theorem to_GateShape (x : GateShape) : Spec P 69 [st x.e] (st x.e) := by
  refine Spec.of_vc vcT vcM [.cell 2 139] Tryz.func69 rfl rfl rfl rfl (fun hok => ?_)
  repeat refine And.intro rfl ?_
  refine Or.inl (Exists.intro _ (And.intro (to_GateFieldS _) ?_))
  repeat refine And.intro rfl ?_
  rfl
theorem to_GateShapeS (xs : List GateShape) : Spec P 32 [.d (lGateShape xs)] (.d (lGateShape xs)) := by
  refine Spec.of_vc vcT vcM [.tmp 2] Tryz.func32 rfl rfl rfl rfl (fun hok => ?_)
  have hs : xs.length ≤ big := by have := hok.1.1; rwa [List.length_map] at this
  repeat refine And.intro rfl ?_
  refine And.intro (Int.natCast_nonneg _) (And.intro (Int.le_refl _) (And.intro (mk_ok hs) ?_))
  refine ⟨fun k l h => ∃ i : Nat, k = xs.length - i ∧ i ≤ xs.length ∧ l = [(0, .d (lGateShape xs)), (3, .own 0), (4, .d (.int .i64 i))] ∧ h = ⟨[(0, .row 139 GateShape.z.length (rowsAt GateShape.e xs GateShape.z i))], 1, 0⟩,
    ⟨_, _, _, ⟨0, rfl, Nat.zero_le _, rfl, rfl⟩, rfl, rfl, ⟨rfl, rfl, rfl, trivial⟩, ⟨rfl, trivial⟩, ⟨rowsAt_start, trivial⟩⟩, ?_⟩
  rintro k l h1 ⟨i, rfl, hi, rfl, rfl⟩
  refine And.intro (fun h1 => ?_) (fun h1 => ?_)
  · have hlt : i < xs.length := lt_map h1
    repeat refine And.intro rfl ?_
    refine ix_at (e := GateShape.e) (xs := xs) (hlt) rfl ?_
    repeat refine And.intro rfl ?_
    repeat refine And.intro rfl ?_
    refine Or.inl (Exists.intro _ (And.intro (to_GateShape _) ?_))
    repeat refine And.intro rfl ?_
    refine And.intro (Int.natCast_nonneg _) (And.intro (by rw [rowsAt_len hi]; omega) ?_)
    repeat refine And.intro rfl ?_
    refine ⟨_, rowsAt_get hlt, Nat.le_refl _, ?_⟩
    exact ⟨_, _, _, ⟨i + 1, rfl, hlt, rfl, rfl⟩, by omega, rfl, rfl, ⟨rfl, rfl, nd (wrap_succ hlt hs), trivial⟩, ⟨rfl, trivial⟩, ⟨rowsAt_set hlt rfl, trivial⟩⟩
  · exact ld (rowsAt_end (ge_map h1) hi)
def GateMend.z : List D := [.str [], .str [], .str [], .str [], .str [], .str []]
theorem to_GateMend (x : GateMend) : Spec P 70 [st x.e] (st x.e) := by
  refine Spec.of_vc vcT vcM [.cell 2 141] Tryz.func70 rfl rfl rfl rfl (fun hok => ?_)
  repeat refine And.intro rfl ?_
  rfl
theorem to_GateMendS (xs : List GateMend) : Spec P 33 [.d (lGateMend xs)] (.d (lGateMend xs)) := by
  refine Spec.of_vc vcT vcM [.tmp 2] Tryz.func33 rfl rfl rfl rfl (fun hok => ?_)
  have hs : xs.length ≤ big := by have := hok.1.1; rwa [List.length_map] at this
  repeat refine And.intro rfl ?_
  refine And.intro (Int.natCast_nonneg _) (And.intro (Int.le_refl _) (And.intro (mk_ok hs) ?_))
  refine ⟨fun k l h => ∃ i : Nat, k = xs.length - i ∧ i ≤ xs.length ∧ l = [(0, .d (lGateMend xs)), (3, .own 0), (4, .d (.int .i64 i))] ∧ h = ⟨[(0, .row 141 GateMend.z.length (rowsAt GateMend.e xs GateMend.z i))], 1, 0⟩,
    ⟨_, _, _, ⟨0, rfl, Nat.zero_le _, rfl, rfl⟩, rfl, rfl, ⟨rfl, rfl, rfl, trivial⟩, ⟨rfl, trivial⟩, ⟨rowsAt_start, trivial⟩⟩, ?_⟩
  rintro k l h1 ⟨i, rfl, hi, rfl, rfl⟩
  refine And.intro (fun h1 => ?_) (fun h1 => ?_)
  · have hlt : i < xs.length := lt_map h1
    repeat refine And.intro rfl ?_
    refine ix_at (e := GateMend.e) (xs := xs) (hlt) rfl ?_
    repeat refine And.intro rfl ?_
    repeat refine And.intro rfl ?_
    refine Or.inl (Exists.intro _ (And.intro (to_GateMend _) ?_))
    repeat refine And.intro rfl ?_
    refine And.intro (Int.natCast_nonneg _) (And.intro (by rw [rowsAt_len hi]; omega) ?_)
    repeat refine And.intro rfl ?_
    refine ⟨_, rowsAt_get hlt, Nat.le_refl _, ?_⟩
    exact ⟨_, _, _, ⟨i + 1, rfl, hlt, rfl, rfl⟩, by omega, rfl, rfl, ⟨rfl, rfl, nd (wrap_succ hlt hs), trivial⟩, ⟨rfl, trivial⟩, ⟨rowsAt_set hlt rfl, trivial⟩⟩
  · exact ld (rowsAt_end (ge_map h1) hi)
def GateTeam.z : List D := [.str [], .str []]
theorem to_GateTeam (x : GateTeam) : Spec P 71 [st x.e] (st x.e) := by
  refine Spec.of_vc vcT vcM [.cell 2 143] Tryz.func71 rfl rfl rfl rfl (fun hok => ?_)
  repeat refine And.intro rfl ?_
  rfl
theorem to_GateTeamS (xs : List GateTeam) : Spec P 34 [.d (lGateTeam xs)] (.d (lGateTeam xs)) := by
  refine Spec.of_vc vcT vcM [.tmp 2] Tryz.func34 rfl rfl rfl rfl (fun hok => ?_)
  have hs : xs.length ≤ big := by have := hok.1.1; rwa [List.length_map] at this
  repeat refine And.intro rfl ?_
  refine And.intro (Int.natCast_nonneg _) (And.intro (Int.le_refl _) (And.intro (mk_ok hs) ?_))
  refine ⟨fun k l h => ∃ i : Nat, k = xs.length - i ∧ i ≤ xs.length ∧ l = [(0, .d (lGateTeam xs)), (3, .own 0), (4, .d (.int .i64 i))] ∧ h = ⟨[(0, .row 143 GateTeam.z.length (rowsAt GateTeam.e xs GateTeam.z i))], 1, 0⟩,
    ⟨_, _, _, ⟨0, rfl, Nat.zero_le _, rfl, rfl⟩, rfl, rfl, ⟨rfl, rfl, rfl, trivial⟩, ⟨rfl, trivial⟩, ⟨rowsAt_start, trivial⟩⟩, ?_⟩
  rintro k l h1 ⟨i, rfl, hi, rfl, rfl⟩
  refine And.intro (fun h1 => ?_) (fun h1 => ?_)
  · have hlt : i < xs.length := lt_map h1
    repeat refine And.intro rfl ?_
    refine ix_at (e := GateTeam.e) (xs := xs) (hlt) rfl ?_
    repeat refine And.intro rfl ?_
    repeat refine And.intro rfl ?_
    refine Or.inl (Exists.intro _ (And.intro (to_GateTeam _) ?_))
    repeat refine And.intro rfl ?_
    refine And.intro (Int.natCast_nonneg _) (And.intro (by rw [rowsAt_len hi]; omega) ?_)
    repeat refine And.intro rfl ?_
    refine ⟨_, rowsAt_get hlt, Nat.le_refl _, ?_⟩
    exact ⟨_, _, _, ⟨i + 1, rfl, hlt, rfl, rfl⟩, by omega, rfl, rfl, ⟨rfl, rfl, nd (wrap_succ hlt hs), trivial⟩, ⟨rfl, trivial⟩, ⟨rowsAt_set hlt rfl, trivial⟩⟩
  · exact ld (rowsAt_end (ge_map h1) hi)
def GateLaw.z : List D := [.list [], .list [], .list []]
theorem to_GateLaw (x : GateLaw) : Spec P 10 [st x.e] (st x.e) := by
  refine Spec.of_vc vcT vcM [.cell 2 43] Tryz.func10 rfl rfl rfl rfl (fun hok => ?_)
  repeat refine And.intro rfl ?_
  refine Or.inl (Exists.intro _ (And.intro (to_GateShapeS _) ?_))
  repeat refine And.intro rfl ?_
  refine Or.inl (Exists.intro _ (And.intro (to_GateMendS _) ?_))
  repeat refine And.intro rfl ?_
  refine Or.inl (Exists.intro _ (And.intro (to_GateTeamS _) ?_))
  repeat refine And.intro rfl ?_
  rfl
def GateObject.z : List D := [.str [], .str [], .str [], .list [], .bool false, .list [], .int .i64 0]
theorem to_GateObject (x : GateObject) : Spec P 72 [st x.e] (st x.e) := by
  refine Spec.of_vc vcT vcM [.cell 2 145] Tryz.func72 rfl rfl rfl rfl (fun hok => ?_)
  repeat refine And.intro rfl ?_
  refine Or.inl (Exists.intro _ (And.intro (to_StringS _) ?_))
  repeat refine And.intro rfl ?_
  refine Or.inl (Exists.intro _ (And.intro (to_StringS _) ?_))
  repeat refine And.intro rfl ?_
  rfl
theorem to_GateObjectS (xs : List GateObject) : Spec P 35 [.d (lGateObject xs)] (.d (lGateObject xs)) := by
  refine Spec.of_vc vcT vcM [.tmp 2] Tryz.func35 rfl rfl rfl rfl (fun hok => ?_)
  have hs : xs.length ≤ big := by have := hok.1.1; rwa [List.length_map] at this
  repeat refine And.intro rfl ?_
  refine And.intro (Int.natCast_nonneg _) (And.intro (Int.le_refl _) (And.intro (mk_ok hs) ?_))
  refine ⟨fun k l h => ∃ i : Nat, k = xs.length - i ∧ i ≤ xs.length ∧ l = [(0, .d (lGateObject xs)), (3, .own 0), (4, .d (.int .i64 i))] ∧ h = ⟨[(0, .row 145 GateObject.z.length (rowsAt GateObject.e xs GateObject.z i))], 1, 0⟩,
    ⟨_, _, _, ⟨0, rfl, Nat.zero_le _, rfl, rfl⟩, rfl, rfl, ⟨rfl, rfl, rfl, trivial⟩, ⟨rfl, trivial⟩, ⟨rowsAt_start, trivial⟩⟩, ?_⟩
  rintro k l h1 ⟨i, rfl, hi, rfl, rfl⟩
  refine And.intro (fun h1 => ?_) (fun h1 => ?_)
  · have hlt : i < xs.length := lt_map h1
    repeat refine And.intro rfl ?_
    refine ix_at (e := GateObject.e) (xs := xs) (hlt) rfl ?_
    repeat refine And.intro rfl ?_
    repeat refine And.intro rfl ?_
    refine Or.inl (Exists.intro _ (And.intro (to_GateObject _) ?_))
    repeat refine And.intro rfl ?_
    refine And.intro (Int.natCast_nonneg _) (And.intro (by rw [rowsAt_len hi]; omega) ?_)
    repeat refine And.intro rfl ?_
    refine ⟨_, rowsAt_get hlt, Nat.le_refl _, ?_⟩
    exact ⟨_, _, _, ⟨i + 1, rfl, hlt, rfl, rfl⟩, by omega, rfl, rfl, ⟨rfl, rfl, nd (wrap_succ hlt hs), trivial⟩, ⟨rfl, trivial⟩, ⟨rowsAt_set hlt rfl, trivial⟩⟩
  · exact ld (rowsAt_end (ge_map h1) hi)
def GateRule.z : List D := [.list [], .str [], .str [], .str []]
theorem to_GateRule (x : GateRule) : Spec P 120 [st x.e] (st x.e) := by
  refine Spec.of_vc vcT vcM [.cell 2 103] Tryz.func120 rfl rfl rfl rfl (fun hok => ?_)
  repeat refine And.intro rfl ?_
  refine Or.inl (Exists.intro _ (And.intro (to_IntS _) ?_))
  repeat refine And.intro rfl ?_
  rfl
def GateGrant.z : List D := [.int .i64 0, .str [], .str [], .list [], .str [], .str [], .str []]
theorem to_GateGrant (x : GateGrant) : Spec P 73 [st x.e] (st x.e) := by
  refine Spec.of_vc vcT vcM [.cell 2 105] Tryz.func73 rfl rfl rfl rfl (fun hok => ?_)
  repeat refine And.intro rfl ?_
  refine Or.inl (Exists.intro _ (And.intro (to_GateRule _) ?_))
  repeat refine And.intro rfl ?_
  rfl
theorem to_GateGrantS (xs : List GateGrant) : Spec P 36 [.d (lGateGrant xs)] (.d (lGateGrant xs)) := by
  refine Spec.of_vc vcT vcM [.tmp 2] Tryz.func36 rfl rfl rfl rfl (fun hok => ?_)
  have hs : xs.length ≤ big := by have := hok.1.1; rwa [List.length_map] at this
  repeat refine And.intro rfl ?_
  refine And.intro (Int.natCast_nonneg _) (And.intro (Int.le_refl _) (And.intro (mk_ok hs) ?_))
  refine ⟨fun k l h => ∃ i : Nat, k = xs.length - i ∧ i ≤ xs.length ∧ l = [(0, .d (lGateGrant xs)), (3, .own 0), (4, .d (.int .i64 i))] ∧ h = ⟨[(0, .row 105 GateGrant.z.length (rowsAt GateGrant.e xs GateGrant.z i))], 1, 0⟩,
    ⟨_, _, _, ⟨0, rfl, Nat.zero_le _, rfl, rfl⟩, rfl, rfl, ⟨rfl, rfl, rfl, trivial⟩, ⟨rfl, trivial⟩, ⟨rowsAt_start, trivial⟩⟩, ?_⟩
  rintro k l h1 ⟨i, rfl, hi, rfl, rfl⟩
  refine And.intro (fun h1 => ?_) (fun h1 => ?_)
  · have hlt : i < xs.length := lt_map h1
    repeat refine And.intro rfl ?_
    refine ix_at (e := GateGrant.e) (xs := xs) (hlt) rfl ?_
    repeat refine And.intro rfl ?_
    repeat refine And.intro rfl ?_
    refine Or.inl (Exists.intro _ (And.intro (to_GateGrant _) ?_))
    repeat refine And.intro rfl ?_
    refine And.intro (Int.natCast_nonneg _) (And.intro (by rw [rowsAt_len hi]; omega) ?_)
    repeat refine And.intro rfl ?_
    refine ⟨_, rowsAt_get hlt, Nat.le_refl _, ?_⟩
    exact ⟨_, _, _, ⟨i + 1, rfl, hlt, rfl, rfl⟩, by omega, rfl, rfl, ⟨rfl, rfl, nd (wrap_succ hlt hs), trivial⟩, ⟨rfl, trivial⟩, ⟨rowsAt_set hlt rfl, trivial⟩⟩
  · exact ld (rowsAt_end (ge_map h1) hi)
def GateLedger.z : List D := [.str [], .str [], .int .i64 0, .int .i64 0]
theorem to_GateLedger (x : GateLedger) : Spec P 74 [st x.e] (st x.e) := by
  refine Spec.of_vc vcT vcM [.cell 2 148] Tryz.func74 rfl rfl rfl rfl (fun hok => ?_)
  repeat refine And.intro rfl ?_
  rfl
theorem to_GateLedgerS (xs : List GateLedger) : Spec P 37 [.d (lGateLedger xs)] (.d (lGateLedger xs)) := by
  refine Spec.of_vc vcT vcM [.tmp 2] Tryz.func37 rfl rfl rfl rfl (fun hok => ?_)
  have hs : xs.length ≤ big := by have := hok.1.1; rwa [List.length_map] at this
  repeat refine And.intro rfl ?_
  refine And.intro (Int.natCast_nonneg _) (And.intro (Int.le_refl _) (And.intro (mk_ok hs) ?_))
  refine ⟨fun k l h => ∃ i : Nat, k = xs.length - i ∧ i ≤ xs.length ∧ l = [(0, .d (lGateLedger xs)), (3, .own 0), (4, .d (.int .i64 i))] ∧ h = ⟨[(0, .row 148 GateLedger.z.length (rowsAt GateLedger.e xs GateLedger.z i))], 1, 0⟩,
    ⟨_, _, _, ⟨0, rfl, Nat.zero_le _, rfl, rfl⟩, rfl, rfl, ⟨rfl, rfl, rfl, trivial⟩, ⟨rfl, trivial⟩, ⟨rowsAt_start, trivial⟩⟩, ?_⟩
  rintro k l h1 ⟨i, rfl, hi, rfl, rfl⟩
  refine And.intro (fun h1 => ?_) (fun h1 => ?_)
  · have hlt : i < xs.length := lt_map h1
    repeat refine And.intro rfl ?_
    refine ix_at (e := GateLedger.e) (xs := xs) (hlt) rfl ?_
    repeat refine And.intro rfl ?_
    repeat refine And.intro rfl ?_
    refine Or.inl (Exists.intro _ (And.intro (to_GateLedger _) ?_))
    repeat refine And.intro rfl ?_
    refine And.intro (Int.natCast_nonneg _) (And.intro (by rw [rowsAt_len hi]; omega) ?_)
    repeat refine And.intro rfl ?_
    refine ⟨_, rowsAt_get hlt, Nat.le_refl _, ?_⟩
    exact ⟨_, _, _, ⟨i + 1, rfl, hlt, rfl, rfl⟩, by omega, rfl, rfl, ⟨rfl, rfl, nd (wrap_succ hlt hs), trivial⟩, ⟨rfl, trivial⟩, ⟨rowsAt_set hlt rfl, trivial⟩⟩
  · exact ld (rowsAt_end (ge_map h1) hi)
def GatePurse.z : List D := [.str [], .str [], .str [], .int .i64 0, .int .i64 0]
theorem to_GatePurse (x : GatePurse) : Spec P 75 [st x.e] (st x.e) := by
  refine Spec.of_vc vcT vcM [.cell 2 150] Tryz.func75 rfl rfl rfl rfl (fun hok => ?_)
  repeat refine And.intro rfl ?_
  rfl
theorem to_GatePurseS (xs : List GatePurse) : Spec P 38 [.d (lGatePurse xs)] (.d (lGatePurse xs)) := by
  refine Spec.of_vc vcT vcM [.tmp 2] Tryz.func38 rfl rfl rfl rfl (fun hok => ?_)
  have hs : xs.length ≤ big := by have := hok.1.1; rwa [List.length_map] at this
  repeat refine And.intro rfl ?_
  refine And.intro (Int.natCast_nonneg _) (And.intro (Int.le_refl _) (And.intro (mk_ok hs) ?_))
  refine ⟨fun k l h => ∃ i : Nat, k = xs.length - i ∧ i ≤ xs.length ∧ l = [(0, .d (lGatePurse xs)), (3, .own 0), (4, .d (.int .i64 i))] ∧ h = ⟨[(0, .row 150 GatePurse.z.length (rowsAt GatePurse.e xs GatePurse.z i))], 1, 0⟩,
    ⟨_, _, _, ⟨0, rfl, Nat.zero_le _, rfl, rfl⟩, rfl, rfl, ⟨rfl, rfl, rfl, trivial⟩, ⟨rfl, trivial⟩, ⟨rowsAt_start, trivial⟩⟩, ?_⟩
  rintro k l h1 ⟨i, rfl, hi, rfl, rfl⟩
  refine And.intro (fun h1 => ?_) (fun h1 => ?_)
  · have hlt : i < xs.length := lt_map h1
    repeat refine And.intro rfl ?_
    refine ix_at (e := GatePurse.e) (xs := xs) (hlt) rfl ?_
    repeat refine And.intro rfl ?_
    repeat refine And.intro rfl ?_
    refine Or.inl (Exists.intro _ (And.intro (to_GatePurse _) ?_))
    repeat refine And.intro rfl ?_
    refine And.intro (Int.natCast_nonneg _) (And.intro (by rw [rowsAt_len hi]; omega) ?_)
    repeat refine And.intro rfl ?_
    refine ⟨_, rowsAt_get hlt, Nat.le_refl _, ?_⟩
    exact ⟨_, _, _, ⟨i + 1, rfl, hlt, rfl, rfl⟩, by omega, rfl, rfl, ⟨rfl, rfl, nd (wrap_succ hlt hs), trivial⟩, ⟨rfl, trivial⟩, ⟨rowsAt_set hlt rfl, trivial⟩⟩
  · exact ld (rowsAt_end (ge_map h1) hi)
def GateBook.z : List D := [.int .i64 0, .int .i64 0, .int .i64 0, .list [], .list [], .list [], .list []]
theorem to_GateBook (x : GateBook) : Spec P 11 [st x.e] (st x.e) := by
  refine Spec.of_vc vcT vcM [.cell 2 50] Tryz.func11 rfl rfl rfl rfl (fun hok => ?_)
  repeat refine And.intro rfl ?_
  refine Or.inl (Exists.intro _ (And.intro (to_GateObjectS _) ?_))
  repeat refine And.intro rfl ?_
  refine Or.inl (Exists.intro _ (And.intro (to_GateGrantS _) ?_))
  repeat refine And.intro rfl ?_
  refine Or.inl (Exists.intro _ (And.intro (to_GateLedgerS _) ?_))
  repeat refine And.intro rfl ?_
  refine Or.inl (Exists.intro _ (And.intro (to_GatePurseS _) ?_))
  repeat refine And.intro rfl ?_
  rfl
def GateAsk.z : List D := [.str [], .int .i64 0, .str [], .str [], .str [], .list [], .list [], .int .i64 0, .str [], .str [], .list [], .str [], .str [], .str [], .int .i64 0]
theorem to_GateAsk (x : GateAsk) : Spec P 209 [st x.e] (st x.e) := by
  refine Spec.of_vc vcT vcM [.cell 2 168] Tryz.func209 rfl rfl rfl rfl (fun hok => ?_)
  repeat refine And.intro rfl ?_
  refine Or.inl (Exists.intro _ (And.intro (to_StringS _) ?_))
  repeat refine And.intro rfl ?_
  refine Or.inl (Exists.intro _ (And.intro (to_StringS _) ?_))
  repeat refine And.intro rfl ?_
  refine Or.inl (Exists.intro _ (And.intro (to_GateRule _) ?_))
  repeat refine And.intro rfl ?_
  rfl
def GateWant.z : List D := [.str [], .str [], .int .i64 0]
theorem to_GateWant (x : GateWant) : Spec P 221 [st x.e] (st x.e) := by
  refine Spec.of_vc vcT vcM [.cell 2 214] Tryz.func221 rfl rfl rfl rfl (fun hok => ?_)
  repeat refine And.intro rfl ?_
  rfl
theorem to_GateWantS (xs : List GateWant) : Spec P 210 [.d (lGateWant xs)] (.d (lGateWant xs)) := by
  refine Spec.of_vc vcT vcM [.tmp 2] Tryz.func210 rfl rfl rfl rfl (fun hok => ?_)
  have hs : xs.length ≤ big := by have := hok.1.1; rwa [List.length_map] at this
  repeat refine And.intro rfl ?_
  refine And.intro (Int.natCast_nonneg _) (And.intro (Int.le_refl _) (And.intro (mk_ok hs) ?_))
  refine ⟨fun k l h => ∃ i : Nat, k = xs.length - i ∧ i ≤ xs.length ∧ l = [(0, .d (lGateWant xs)), (3, .own 0), (4, .d (.int .i64 i))] ∧ h = ⟨[(0, .row 214 GateWant.z.length (rowsAt GateWant.e xs GateWant.z i))], 1, 0⟩,
    ⟨_, _, _, ⟨0, rfl, Nat.zero_le _, rfl, rfl⟩, rfl, rfl, ⟨rfl, rfl, rfl, trivial⟩, ⟨rfl, trivial⟩, ⟨rowsAt_start, trivial⟩⟩, ?_⟩
  rintro k l h1 ⟨i, rfl, hi, rfl, rfl⟩
  refine And.intro (fun h1 => ?_) (fun h1 => ?_)
  · have hlt : i < xs.length := lt_map h1
    repeat refine And.intro rfl ?_
    refine ix_at (e := GateWant.e) (xs := xs) (hlt) rfl ?_
    repeat refine And.intro rfl ?_
    repeat refine And.intro rfl ?_
    refine Or.inl (Exists.intro _ (And.intro (to_GateWant _) ?_))
    repeat refine And.intro rfl ?_
    refine And.intro (Int.natCast_nonneg _) (And.intro (by rw [rowsAt_len hi]; omega) ?_)
    repeat refine And.intro rfl ?_
    refine ⟨_, rowsAt_get hlt, Nat.le_refl _, ?_⟩
    exact ⟨_, _, _, ⟨i + 1, rfl, hlt, rfl, rfl⟩, by omega, rfl, rfl, ⟨rfl, rfl, nd (wrap_succ hlt hs), trivial⟩, ⟨rfl, trivial⟩, ⟨rowsAt_set hlt rfl, trivial⟩⟩
  · exact ld (rowsAt_end (ge_map h1) hi)
def GateSlip.z : List D := [.str [], .str [], .int .i64 0, .str [], .str [], .str [], .list [], .list [], .int .i64 0, .str [], .str [], .list [], .str [], .str [], .str [], .int .i64 0, .int .i64 0, .list []]
theorem to_GateSlip (x : GateSlip) : Spec P 182 [st x.e] (st x.e) := by
  refine Spec.of_vc vcT vcM [.cell 2 171] Tryz.func182 rfl rfl rfl rfl (fun hok => ?_)
  repeat refine And.intro rfl ?_
  refine Or.inl (Exists.intro _ (And.intro (to_GateAsk _) ?_))
  repeat refine And.intro rfl ?_
  refine Or.inl (Exists.intro _ (And.intro (to_GateWantS _) ?_))
  repeat refine And.intro rfl ?_
  rfl
theorem to_GateSlipS (xs : List GateSlip) : Spec P 140 [.d (lGateSlip xs)] (.d (lGateSlip xs)) := by
  refine Spec.of_vc vcT vcM [.tmp 2] Tryz.func140 rfl rfl rfl rfl (fun hok => ?_)
  have hs : xs.length ≤ big := by have := hok.1.1; rwa [List.length_map] at this
  repeat refine And.intro rfl ?_
  refine And.intro (Int.natCast_nonneg _) (And.intro (Int.le_refl _) (And.intro (mk_ok hs) ?_))
  refine ⟨fun k l h => ∃ i : Nat, k = xs.length - i ∧ i ≤ xs.length ∧ l = [(0, .d (lGateSlip xs)), (3, .own 0), (4, .d (.int .i64 i))] ∧ h = ⟨[(0, .row 171 GateSlip.z.length (rowsAt GateSlip.e xs GateSlip.z i))], 1, 0⟩,
    ⟨_, _, _, ⟨0, rfl, Nat.zero_le _, rfl, rfl⟩, rfl, rfl, ⟨rfl, rfl, rfl, trivial⟩, ⟨rfl, trivial⟩, ⟨rowsAt_start, trivial⟩⟩, ?_⟩
  rintro k l h1 ⟨i, rfl, hi, rfl, rfl⟩
  refine And.intro (fun h1 => ?_) (fun h1 => ?_)
  · have hlt : i < xs.length := lt_map h1
    repeat refine And.intro rfl ?_
    refine ix_at (e := GateSlip.e) (xs := xs) (hlt) rfl ?_
    repeat refine And.intro rfl ?_
    repeat refine And.intro rfl ?_
    refine Or.inl (Exists.intro _ (And.intro (to_GateSlip _) ?_))
    repeat refine And.intro rfl ?_
    refine And.intro (Int.natCast_nonneg _) (And.intro (by rw [rowsAt_len hi]; omega) ?_)
    repeat refine And.intro rfl ?_
    refine ⟨_, rowsAt_get hlt, Nat.le_refl _, ?_⟩
    exact ⟨_, _, _, ⟨i + 1, rfl, hlt, rfl, rfl⟩, by omega, rfl, rfl, ⟨rfl, rfl, nd (wrap_succ hlt hs), trivial⟩, ⟨rfl, trivial⟩, ⟨rowsAt_set hlt rfl, trivial⟩⟩
  · exact ld (rowsAt_end (ge_map h1) hi)
def GateDoor.z : List D := [.str [], .bool false, .int .i64 0, .int .i64 0, .int .i64 0, .list [], .list [], .list [], .list [], .list []]
theorem to_GateDoor (x : GateDoor) : Spec P 92 [st x.e] (st x.e) := by
  refine Spec.of_vc vcT vcM [.cell 2 96] Tryz.func92 rfl rfl rfl rfl (fun hok => ?_)
  repeat refine And.intro rfl ?_
  refine Or.inl (Exists.intro _ (And.intro (to_GateBook _) ?_))
  repeat refine And.intro rfl ?_
  refine Or.inl (Exists.intro _ (And.intro (to_GateSlipS _) ?_))
  repeat refine And.intro rfl ?_
  rfl
theorem to_GateDoorS (xs : List GateDoor) : Spec P 50 [.d (lGateDoor xs)] (.d (lGateDoor xs)) := by
  refine Spec.of_vc vcT vcM [.tmp 2] Tryz.func50 rfl rfl rfl rfl (fun hok => ?_)
  have hs : xs.length ≤ big := by have := hok.1.1; rwa [List.length_map] at this
  repeat refine And.intro rfl ?_
  refine And.intro (Int.natCast_nonneg _) (And.intro (Int.le_refl _) (And.intro (mk_ok hs) ?_))
  refine ⟨fun k l h => ∃ i : Nat, k = xs.length - i ∧ i ≤ xs.length ∧ l = [(0, .d (lGateDoor xs)), (3, .own 0), (4, .d (.int .i64 i))] ∧ h = ⟨[(0, .row 96 GateDoor.z.length (rowsAt GateDoor.e xs GateDoor.z i))], 1, 0⟩,
    ⟨_, _, _, ⟨0, rfl, Nat.zero_le _, rfl, rfl⟩, rfl, rfl, ⟨rfl, rfl, rfl, trivial⟩, ⟨rfl, trivial⟩, ⟨rowsAt_start, trivial⟩⟩, ?_⟩
  rintro k l h1 ⟨i, rfl, hi, rfl, rfl⟩
  refine And.intro (fun h1 => ?_) (fun h1 => ?_)
  · have hlt : i < xs.length := lt_map h1
    repeat refine And.intro rfl ?_
    refine ix_at (e := GateDoor.e) (xs := xs) (hlt) rfl ?_
    repeat refine And.intro rfl ?_
    repeat refine And.intro rfl ?_
    refine Or.inl (Exists.intro _ (And.intro (to_GateDoor _) ?_))
    repeat refine And.intro rfl ?_
    refine And.intro (Int.natCast_nonneg _) (And.intro (by rw [rowsAt_len hi]; omega) ?_)
    repeat refine And.intro rfl ?_
    refine ⟨_, rowsAt_get hlt, Nat.le_refl _, ?_⟩
    exact ⟨_, _, _, ⟨i + 1, rfl, hlt, rfl, rfl⟩, by omega, rfl, rfl, ⟨rfl, rfl, nd (wrap_succ hlt hs), trivial⟩, ⟨rfl, trivial⟩, ⟨rowsAt_set hlt rfl, trivial⟩⟩
  · exact ld (rowsAt_end (ge_map h1) hi)
def GateWorld.z : List D := [.int .i64 0, .int .i64 0, .int .i64 0, .list [], .list [], .list [], .list [], .list []]
theorem to_GateWorld (x : GateWorld) : Spec P 18 [st x.e] (st x.e) := by
  refine Spec.of_vc vcT vcM [.cell 2 64] Tryz.func18 rfl rfl rfl rfl (fun hok => ?_)
  repeat refine And.intro rfl ?_
  refine Or.inl (Exists.intro _ (And.intro (to_GateBook _) ?_))
  repeat refine And.intro rfl ?_
  refine Or.inl (Exists.intro _ (And.intro (to_GateDoorS _) ?_))
  repeat refine And.intro rfl ?_
  rfl
def GateAct.z : List D := [.int .i64 0, .str [], .str [], .str []]
theorem to_GateAct (x : GateAct) : Spec P 12 [st x.e] (st x.e) := by
  refine Spec.of_vc vcT vcM [.cell 2 52] Tryz.func12 rfl rfl rfl rfl (fun hok => ?_)
  repeat refine And.intro rfl ?_
  rfl
theorem eq_StringS (xs : List Bs) : Spec P 135 [.d (lS xs), .d (lS xs)] (.d (.bool true)) := by
  refine Spec.of_vc vcT vcM [.tmp 4] Tryz.func135 rfl rfl rfl rfl (fun hok => ?_)
  have hs : xs.length ≤ big := by have := hok.1.1; rwa [List.length_map] at this
  repeat refine And.intro rfl ?_
  refine And.intro (fun h => absurd h (by simp)) (fun _ => ?_)
  refine ⟨fun k l h => ∃ i : Nat, k = xs.length - i ∧ i ≤ xs.length ∧ l = [(0, .d (lS xs)), (1, .d (lS xs)), (5, .d (.int .i64 i))] ∧ h = hp0,
    ⟨_, _, _, ⟨0, rfl, Nat.zero_le _, rfl, rfl⟩, rfl, rfl, ⟨rfl, rfl, rfl, trivial⟩, trivial, trivial⟩, ?_⟩
  rintro k l h1 ⟨i, rfl, hi, rfl, rfl⟩
  refine And.intro (fun h1 => ?_) (fun h1 => ?_)
  · have hlt : i < xs.length := lt_map h1
    repeat refine And.intro rfl ?_
    refine And.intro (by kernel_rfl) ?_
    repeat refine And.intro rfl ?_
    repeat refine And.intro rfl ?_
    refine ix_at (e := eB) (xs := xs) (hlt) rfl ?_
    repeat refine And.intro rfl ?_
    repeat refine And.intro rfl ?_
    refine ix_at (e := eB) (xs := xs) (hlt) rfl ?_
    repeat refine And.intro rfl ?_
    repeat refine And.intro rfl ?_
    refine And.intro (fun h => absurd h (by simp)) (fun _ => ?_)
    exact ⟨_, _, _, ⟨i + 1, rfl, hlt, rfl, rfl⟩, by omega, rfl, rfl, ⟨rfl, rfl, nd (wrap_succ hlt hs), trivial⟩, trivial, trivial⟩
  · rfl
theorem eq_IntS (xs : List Int) : Spec P 178 [.d (lI xs), .d (lI xs)] (.d (.bool true)) := by
  refine Spec.of_vc vcT vcM [.tmp 4] Tryz.func178 rfl rfl rfl rfl (fun hok => ?_)
  have hs : xs.length ≤ big := by have := hok.1.1; rwa [List.length_map] at this
  repeat refine And.intro rfl ?_
  refine And.intro (fun h => absurd h (by simp)) (fun _ => ?_)
  refine ⟨fun k l h => ∃ i : Nat, k = xs.length - i ∧ i ≤ xs.length ∧ l = [(0, .d (lI xs)), (1, .d (lI xs)), (5, .d (.int .i64 i))] ∧ h = hp0,
    ⟨_, _, _, ⟨0, rfl, Nat.zero_le _, rfl, rfl⟩, rfl, rfl, ⟨rfl, rfl, rfl, trivial⟩, trivial, trivial⟩, ?_⟩
  rintro k l h1 ⟨i, rfl, hi, rfl, rfl⟩
  refine And.intro (fun h1 => ?_) (fun h1 => ?_)
  · have hlt : i < xs.length := lt_map h1
    repeat refine And.intro rfl ?_
    refine And.intro (by kernel_rfl) ?_
    repeat refine And.intro rfl ?_
    repeat refine And.intro rfl ?_
    refine ix_at (e := eN) (xs := xs) (hlt) rfl ?_
    repeat refine And.intro rfl ?_
    repeat refine And.intro rfl ?_
    refine ix_at (e := eN) (xs := xs) (hlt) rfl ?_
    repeat refine And.intro rfl ?_
    repeat refine And.intro rfl ?_
    refine And.intro (fun h => absurd h (by simp)) (fun _ => ?_)
    exact ⟨_, _, _, ⟨i + 1, rfl, hlt, rfl, rfl⟩, by omega, rfl, rfl, ⟨rfl, rfl, nd (wrap_succ hlt hs), trivial⟩, trivial, trivial⟩
  · rfl
theorem eq_GateField (x : GateField) : Spec P 177 [st x.e, st x.e] (.d (.bool true)) := by
  refine Spec.of_vc vcT vcM [.tmp 4] Tryz.func177 rfl rfl rfl rfl (fun hok => ?_)
  repeat refine And.intro rfl ?_
  refine And.intro (fun h => absurd h (by simp)) (fun _ => ?_)
  repeat refine And.intro rfl ?_
  refine And.intro (fun h => absurd h (by simp)) (fun _ => ?_)
  repeat refine And.intro rfl ?_
  refine And.intro (fun h => absurd h (by simp)) (fun _ => ?_)
  repeat refine And.intro rfl ?_
  refine And.intro (fun h => absurd h (by simp)) (fun _ => ?_)
  repeat refine And.intro rfl ?_
  refine Or.inl (Exists.intro _ (And.intro (eq_StringS _) ?_))
  repeat refine And.intro rfl ?_
  refine And.intro (fun h => absurd h (by simp)) (fun _ => ?_)
  repeat refine And.intro rfl ?_
  refine And.intro (fun h => absurd h (by simp)) (fun _ => ?_)
  repeat refine And.intro rfl ?_
  refine And.intro (fun h => absurd h (by simp)) (fun _ => ?_)
  repeat refine And.intro rfl ?_
  refine And.intro (fun h => absurd h (by simp)) (fun _ => ?_)
  repeat refine And.intro rfl ?_
  refine And.intro (fun h => absurd h (by simp)) (fun _ => ?_)
  repeat refine And.intro rfl ?_
  refine And.intro (fun h => absurd h (by simp)) (fun _ => ?_)
  repeat refine And.intro rfl ?_
  refine And.intro (fun h => absurd h (by simp)) (fun _ => ?_)
  repeat refine And.intro rfl ?_
  rfl
theorem eq_GateFieldS (xs : List GateField) : Spec P 134 [.d (lGateField xs), .d (lGateField xs)] (.d (.bool true)) := by
  refine Spec.of_vc vcT vcM [.tmp 4] Tryz.func134 rfl rfl rfl rfl (fun hok => ?_)
  have hs : xs.length ≤ big := by have := hok.1.1; rwa [List.length_map] at this
  repeat refine And.intro rfl ?_
  refine And.intro (fun h => absurd h (by simp)) (fun _ => ?_)
  refine ⟨fun k l h => ∃ i : Nat, k = xs.length - i ∧ i ≤ xs.length ∧ l = [(0, .d (lGateField xs)), (1, .d (lGateField xs)), (5, .d (.int .i64 i))] ∧ h = hp0,
    ⟨_, _, _, ⟨0, rfl, Nat.zero_le _, rfl, rfl⟩, rfl, rfl, ⟨rfl, rfl, rfl, trivial⟩, trivial, trivial⟩, ?_⟩
  rintro k l h1 ⟨i, rfl, hi, rfl, rfl⟩
  refine And.intro (fun h1 => ?_) (fun h1 => ?_)
  · have hlt : i < xs.length := lt_map h1
    repeat refine And.intro rfl ?_
    refine And.intro (by kernel_rfl) ?_
    repeat refine And.intro rfl ?_
    repeat refine And.intro rfl ?_
    refine ix_at (e := GateField.e) (xs := xs) (hlt) rfl ?_
    repeat refine And.intro rfl ?_
    repeat refine And.intro rfl ?_
    refine ix_at (e := GateField.e) (xs := xs) (hlt) rfl ?_
    repeat refine And.intro rfl ?_
    repeat refine And.intro rfl ?_
    refine Or.inl (Exists.intro _ (And.intro (eq_GateField _) ?_))
    repeat refine And.intro rfl ?_
    refine And.intro (fun h => absurd h (by simp)) (fun _ => ?_)
    exact ⟨_, _, _, ⟨i + 1, rfl, hlt, rfl, rfl⟩, by omega, rfl, rfl, ⟨rfl, rfl, nd (wrap_succ hlt hs), trivial⟩, trivial, trivial⟩
  · rfl
theorem eq_GateShape (x : GateShape) : Spec P 82 [st x.e, st x.e] (.d (.bool true)) := by
  refine Spec.of_vc vcT vcM [.tmp 4] Tryz.func82 rfl rfl rfl rfl (fun hok => ?_)
  repeat refine And.intro rfl ?_
  refine And.intro (fun h => absurd h (by simp)) (fun _ => ?_)
  repeat refine And.intro rfl ?_
  refine Or.inl (Exists.intro _ (And.intro (eq_GateFieldS _) ?_))
  repeat refine And.intro rfl ?_
  refine And.intro (fun h => absurd h (by simp)) (fun _ => ?_)
  repeat refine And.intro rfl ?_
  rfl
theorem eq_GateShapeS (xs : List GateShape) : Spec P 41 [.d (lGateShape xs), .d (lGateShape xs)] (.d (.bool true)) := by
  refine Spec.of_vc vcT vcM [.tmp 4] Tryz.func41 rfl rfl rfl rfl (fun hok => ?_)
  have hs : xs.length ≤ big := by have := hok.1.1; rwa [List.length_map] at this
  repeat refine And.intro rfl ?_
  refine And.intro (fun h => absurd h (by simp)) (fun _ => ?_)
  refine ⟨fun k l h => ∃ i : Nat, k = xs.length - i ∧ i ≤ xs.length ∧ l = [(0, .d (lGateShape xs)), (1, .d (lGateShape xs)), (5, .d (.int .i64 i))] ∧ h = hp0,
    ⟨_, _, _, ⟨0, rfl, Nat.zero_le _, rfl, rfl⟩, rfl, rfl, ⟨rfl, rfl, rfl, trivial⟩, trivial, trivial⟩, ?_⟩
  rintro k l h1 ⟨i, rfl, hi, rfl, rfl⟩
  refine And.intro (fun h1 => ?_) (fun h1 => ?_)
  · have hlt : i < xs.length := lt_map h1
    repeat refine And.intro rfl ?_
    refine And.intro (by kernel_rfl) ?_
    repeat refine And.intro rfl ?_
    repeat refine And.intro rfl ?_
    refine ix_at (e := GateShape.e) (xs := xs) (hlt) rfl ?_
    repeat refine And.intro rfl ?_
    repeat refine And.intro rfl ?_
    refine ix_at (e := GateShape.e) (xs := xs) (hlt) rfl ?_
    repeat refine And.intro rfl ?_
    repeat refine And.intro rfl ?_
    refine Or.inl (Exists.intro _ (And.intro (eq_GateShape _) ?_))
    repeat refine And.intro rfl ?_
    refine And.intro (fun h => absurd h (by simp)) (fun _ => ?_)
    exact ⟨_, _, _, ⟨i + 1, rfl, hlt, rfl, rfl⟩, by omega, rfl, rfl, ⟨rfl, rfl, nd (wrap_succ hlt hs), trivial⟩, trivial, trivial⟩
  · rfl
theorem eq_GateMend (x : GateMend) : Spec P 83 [st x.e, st x.e] (.d (.bool true)) := by
  refine Spec.of_vc vcT vcM [.tmp 4] Tryz.func83 rfl rfl rfl rfl (fun hok => ?_)
  repeat refine And.intro rfl ?_
  refine And.intro (fun h => absurd h (by simp)) (fun _ => ?_)
  repeat refine And.intro rfl ?_
  refine And.intro (fun h => absurd h (by simp)) (fun _ => ?_)
  repeat refine And.intro rfl ?_
  refine And.intro (fun h => absurd h (by simp)) (fun _ => ?_)
  repeat refine And.intro rfl ?_
  refine And.intro (fun h => absurd h (by simp)) (fun _ => ?_)
  repeat refine And.intro rfl ?_
  refine And.intro (fun h => absurd h (by simp)) (fun _ => ?_)
  repeat refine And.intro rfl ?_
  refine And.intro (fun h => absurd h (by simp)) (fun _ => ?_)
  repeat refine And.intro rfl ?_
  rfl
theorem eq_GateMendS (xs : List GateMend) : Spec P 42 [.d (lGateMend xs), .d (lGateMend xs)] (.d (.bool true)) := by
  refine Spec.of_vc vcT vcM [.tmp 4] Tryz.func42 rfl rfl rfl rfl (fun hok => ?_)
  have hs : xs.length ≤ big := by have := hok.1.1; rwa [List.length_map] at this
  repeat refine And.intro rfl ?_
  refine And.intro (fun h => absurd h (by simp)) (fun _ => ?_)
  refine ⟨fun k l h => ∃ i : Nat, k = xs.length - i ∧ i ≤ xs.length ∧ l = [(0, .d (lGateMend xs)), (1, .d (lGateMend xs)), (5, .d (.int .i64 i))] ∧ h = hp0,
    ⟨_, _, _, ⟨0, rfl, Nat.zero_le _, rfl, rfl⟩, rfl, rfl, ⟨rfl, rfl, rfl, trivial⟩, trivial, trivial⟩, ?_⟩
  rintro k l h1 ⟨i, rfl, hi, rfl, rfl⟩
  refine And.intro (fun h1 => ?_) (fun h1 => ?_)
  · have hlt : i < xs.length := lt_map h1
    repeat refine And.intro rfl ?_
    refine And.intro (by kernel_rfl) ?_
    repeat refine And.intro rfl ?_
    repeat refine And.intro rfl ?_
    refine ix_at (e := GateMend.e) (xs := xs) (hlt) rfl ?_
    repeat refine And.intro rfl ?_
    repeat refine And.intro rfl ?_
    refine ix_at (e := GateMend.e) (xs := xs) (hlt) rfl ?_
    repeat refine And.intro rfl ?_
    repeat refine And.intro rfl ?_
    refine Or.inl (Exists.intro _ (And.intro (eq_GateMend _) ?_))
    repeat refine And.intro rfl ?_
    refine And.intro (fun h => absurd h (by simp)) (fun _ => ?_)
    exact ⟨_, _, _, ⟨i + 1, rfl, hlt, rfl, rfl⟩, by omega, rfl, rfl, ⟨rfl, rfl, nd (wrap_succ hlt hs), trivial⟩, trivial, trivial⟩
  · rfl
theorem eq_GateTeam (x : GateTeam) : Spec P 84 [st x.e, st x.e] (.d (.bool true)) := by
  refine Spec.of_vc vcT vcM [.tmp 4] Tryz.func84 rfl rfl rfl rfl (fun hok => ?_)
  repeat refine And.intro rfl ?_
  refine And.intro (fun h => absurd h (by simp)) (fun _ => ?_)
  repeat refine And.intro rfl ?_
  refine And.intro (fun h => absurd h (by simp)) (fun _ => ?_)
  repeat refine And.intro rfl ?_
  rfl
theorem eq_GateTeamS (xs : List GateTeam) : Spec P 43 [.d (lGateTeam xs), .d (lGateTeam xs)] (.d (.bool true)) := by
  refine Spec.of_vc vcT vcM [.tmp 4] Tryz.func43 rfl rfl rfl rfl (fun hok => ?_)
  have hs : xs.length ≤ big := by have := hok.1.1; rwa [List.length_map] at this
  repeat refine And.intro rfl ?_
  refine And.intro (fun h => absurd h (by simp)) (fun _ => ?_)
  refine ⟨fun k l h => ∃ i : Nat, k = xs.length - i ∧ i ≤ xs.length ∧ l = [(0, .d (lGateTeam xs)), (1, .d (lGateTeam xs)), (5, .d (.int .i64 i))] ∧ h = hp0,
    ⟨_, _, _, ⟨0, rfl, Nat.zero_le _, rfl, rfl⟩, rfl, rfl, ⟨rfl, rfl, rfl, trivial⟩, trivial, trivial⟩, ?_⟩
  rintro k l h1 ⟨i, rfl, hi, rfl, rfl⟩
  refine And.intro (fun h1 => ?_) (fun h1 => ?_)
  · have hlt : i < xs.length := lt_map h1
    repeat refine And.intro rfl ?_
    refine And.intro (by kernel_rfl) ?_
    repeat refine And.intro rfl ?_
    repeat refine And.intro rfl ?_
    refine ix_at (e := GateTeam.e) (xs := xs) (hlt) rfl ?_
    repeat refine And.intro rfl ?_
    repeat refine And.intro rfl ?_
    refine ix_at (e := GateTeam.e) (xs := xs) (hlt) rfl ?_
    repeat refine And.intro rfl ?_
    repeat refine And.intro rfl ?_
    refine Or.inl (Exists.intro _ (And.intro (eq_GateTeam _) ?_))
    repeat refine And.intro rfl ?_
    refine And.intro (fun h => absurd h (by simp)) (fun _ => ?_)
    exact ⟨_, _, _, ⟨i + 1, rfl, hlt, rfl, rfl⟩, by omega, rfl, rfl, ⟨rfl, rfl, nd (wrap_succ hlt hs), trivial⟩, trivial, trivial⟩
  · rfl
theorem eq_GateLaw (x : GateLaw) : Spec P 14 [st x.e, st x.e] (.d (.bool true)) := by
  refine Spec.of_vc vcT vcM [.tmp 4] Tryz.func14 rfl rfl rfl rfl (fun hok => ?_)
  repeat refine And.intro rfl ?_
  refine Or.inl (Exists.intro _ (And.intro (eq_GateShapeS _) ?_))
  repeat refine And.intro rfl ?_
  refine And.intro (fun h => absurd h (by simp)) (fun _ => ?_)
  repeat refine And.intro rfl ?_
  refine Or.inl (Exists.intro _ (And.intro (eq_GateMendS _) ?_))
  repeat refine And.intro rfl ?_
  refine And.intro (fun h => absurd h (by simp)) (fun _ => ?_)
  repeat refine And.intro rfl ?_
  refine Or.inl (Exists.intro _ (And.intro (eq_GateTeamS _) ?_))
  repeat refine And.intro rfl ?_
  refine And.intro (fun h => absurd h (by simp)) (fun _ => ?_)
  repeat refine And.intro rfl ?_
  rfl
theorem eq_GateObject (x : GateObject) : Spec P 85 [st x.e, st x.e] (.d (.bool true)) := by
  refine Spec.of_vc vcT vcM [.tmp 4] Tryz.func85 rfl rfl rfl rfl (fun hok => ?_)
  repeat refine And.intro rfl ?_
  refine And.intro (fun h => absurd h (by simp)) (fun _ => ?_)
  repeat refine And.intro rfl ?_
  refine And.intro (fun h => absurd h (by simp)) (fun _ => ?_)
  repeat refine And.intro rfl ?_
  refine And.intro (fun h => absurd h (by simp)) (fun _ => ?_)
  repeat refine And.intro rfl ?_
  refine Or.inl (Exists.intro _ (And.intro (eq_StringS _) ?_))
  repeat refine And.intro rfl ?_
  refine And.intro (fun h => absurd h (by simp)) (fun _ => ?_)
  repeat refine And.intro rfl ?_
  refine And.intro (fun h => absurd h (by simp)) (fun _ => ?_)
  repeat refine And.intro rfl ?_
  refine Or.inl (Exists.intro _ (And.intro (eq_StringS _) ?_))
  repeat refine And.intro rfl ?_
  refine And.intro (fun h => absurd h (by simp)) (fun _ => ?_)
  repeat refine And.intro rfl ?_
  refine And.intro (fun h => absurd h (by simp)) (fun _ => ?_)
  repeat refine And.intro rfl ?_
  rfl
theorem eq_GateObjectS (xs : List GateObject) : Spec P 44 [.d (lGateObject xs), .d (lGateObject xs)] (.d (.bool true)) := by
  refine Spec.of_vc vcT vcM [.tmp 4] Tryz.func44 rfl rfl rfl rfl (fun hok => ?_)
  have hs : xs.length ≤ big := by have := hok.1.1; rwa [List.length_map] at this
  repeat refine And.intro rfl ?_
  refine And.intro (fun h => absurd h (by simp)) (fun _ => ?_)
  refine ⟨fun k l h => ∃ i : Nat, k = xs.length - i ∧ i ≤ xs.length ∧ l = [(0, .d (lGateObject xs)), (1, .d (lGateObject xs)), (5, .d (.int .i64 i))] ∧ h = hp0,
    ⟨_, _, _, ⟨0, rfl, Nat.zero_le _, rfl, rfl⟩, rfl, rfl, ⟨rfl, rfl, rfl, trivial⟩, trivial, trivial⟩, ?_⟩
  rintro k l h1 ⟨i, rfl, hi, rfl, rfl⟩
  refine And.intro (fun h1 => ?_) (fun h1 => ?_)
  · have hlt : i < xs.length := lt_map h1
    repeat refine And.intro rfl ?_
    refine And.intro (by kernel_rfl) ?_
    repeat refine And.intro rfl ?_
    repeat refine And.intro rfl ?_
    refine ix_at (e := GateObject.e) (xs := xs) (hlt) rfl ?_
    repeat refine And.intro rfl ?_
    repeat refine And.intro rfl ?_
    refine ix_at (e := GateObject.e) (xs := xs) (hlt) rfl ?_
    repeat refine And.intro rfl ?_
    repeat refine And.intro rfl ?_
    refine Or.inl (Exists.intro _ (And.intro (eq_GateObject _) ?_))
    repeat refine And.intro rfl ?_
    refine And.intro (fun h => absurd h (by simp)) (fun _ => ?_)
    exact ⟨_, _, _, ⟨i + 1, rfl, hlt, rfl, rfl⟩, by omega, rfl, rfl, ⟨rfl, rfl, nd (wrap_succ hlt hs), trivial⟩, trivial, trivial⟩
  · rfl
theorem eq_GateRule (x : GateRule) : Spec P 136 [st x.e, st x.e] (.d (.bool true)) := by
  refine Spec.of_vc vcT vcM [.tmp 4] Tryz.func136 rfl rfl rfl rfl (fun hok => ?_)
  repeat refine And.intro rfl ?_
  refine Or.inl (Exists.intro _ (And.intro (eq_IntS _) ?_))
  repeat refine And.intro rfl ?_
  refine And.intro (fun h => absurd h (by simp)) (fun _ => ?_)
  repeat refine And.intro rfl ?_
  refine And.intro (fun h => absurd h (by simp)) (fun _ => ?_)
  repeat refine And.intro rfl ?_
  refine And.intro (fun h => absurd h (by simp)) (fun _ => ?_)
  repeat refine And.intro rfl ?_
  refine And.intro (fun h => absurd h (by simp)) (fun _ => ?_)
  repeat refine And.intro rfl ?_
  rfl
theorem eq_GateGrant (x : GateGrant) : Spec P 86 [st x.e, st x.e] (.d (.bool true)) := by
  refine Spec.of_vc vcT vcM [.tmp 4] Tryz.func86 rfl rfl rfl rfl (fun hok => ?_)
  repeat refine And.intro rfl ?_
  refine And.intro (fun h => absurd h (by simp)) (fun _ => ?_)
  repeat refine And.intro rfl ?_
  refine And.intro (fun h => absurd h (by simp)) (fun _ => ?_)
  repeat refine And.intro rfl ?_
  refine And.intro (fun h => absurd h (by simp)) (fun _ => ?_)
  repeat refine And.intro rfl ?_
  refine Or.inl (Exists.intro _ (And.intro (eq_GateRule _) ?_))
  repeat refine And.intro rfl ?_
  refine And.intro (fun h => absurd h (by simp)) (fun _ => ?_)
  repeat refine And.intro rfl ?_
  rfl
theorem eq_GateGrantS (xs : List GateGrant) : Spec P 45 [.d (lGateGrant xs), .d (lGateGrant xs)] (.d (.bool true)) := by
  refine Spec.of_vc vcT vcM [.tmp 4] Tryz.func45 rfl rfl rfl rfl (fun hok => ?_)
  have hs : xs.length ≤ big := by have := hok.1.1; rwa [List.length_map] at this
  repeat refine And.intro rfl ?_
  refine And.intro (fun h => absurd h (by simp)) (fun _ => ?_)
  refine ⟨fun k l h => ∃ i : Nat, k = xs.length - i ∧ i ≤ xs.length ∧ l = [(0, .d (lGateGrant xs)), (1, .d (lGateGrant xs)), (5, .d (.int .i64 i))] ∧ h = hp0,
    ⟨_, _, _, ⟨0, rfl, Nat.zero_le _, rfl, rfl⟩, rfl, rfl, ⟨rfl, rfl, rfl, trivial⟩, trivial, trivial⟩, ?_⟩
  rintro k l h1 ⟨i, rfl, hi, rfl, rfl⟩
  refine And.intro (fun h1 => ?_) (fun h1 => ?_)
  · have hlt : i < xs.length := lt_map h1
    repeat refine And.intro rfl ?_
    refine And.intro (by kernel_rfl) ?_
    repeat refine And.intro rfl ?_
    repeat refine And.intro rfl ?_
    refine ix_at (e := GateGrant.e) (xs := xs) (hlt) rfl ?_
    repeat refine And.intro rfl ?_
    repeat refine And.intro rfl ?_
    refine ix_at (e := GateGrant.e) (xs := xs) (hlt) rfl ?_
    repeat refine And.intro rfl ?_
    repeat refine And.intro rfl ?_
    refine Or.inl (Exists.intro _ (And.intro (eq_GateGrant _) ?_))
    repeat refine And.intro rfl ?_
    refine And.intro (fun h => absurd h (by simp)) (fun _ => ?_)
    exact ⟨_, _, _, ⟨i + 1, rfl, hlt, rfl, rfl⟩, by omega, rfl, rfl, ⟨rfl, rfl, nd (wrap_succ hlt hs), trivial⟩, trivial, trivial⟩
  · rfl
theorem eq_GateLedger (x : GateLedger) : Spec P 87 [st x.e, st x.e] (.d (.bool true)) := by
  refine Spec.of_vc vcT vcM [.tmp 4] Tryz.func87 rfl rfl rfl rfl (fun hok => ?_)
  repeat refine And.intro rfl ?_
  refine And.intro (fun h => absurd h (by simp)) (fun _ => ?_)
  repeat refine And.intro rfl ?_
  refine And.intro (fun h => absurd h (by simp)) (fun _ => ?_)
  repeat refine And.intro rfl ?_
  refine And.intro (fun h => absurd h (by simp)) (fun _ => ?_)
  repeat refine And.intro rfl ?_
  refine And.intro (fun h => absurd h (by simp)) (fun _ => ?_)
  repeat refine And.intro rfl ?_
  rfl
theorem eq_GateLedgerS (xs : List GateLedger) : Spec P 46 [.d (lGateLedger xs), .d (lGateLedger xs)] (.d (.bool true)) := by
  refine Spec.of_vc vcT vcM [.tmp 4] Tryz.func46 rfl rfl rfl rfl (fun hok => ?_)
  have hs : xs.length ≤ big := by have := hok.1.1; rwa [List.length_map] at this
  repeat refine And.intro rfl ?_
  refine And.intro (fun h => absurd h (by simp)) (fun _ => ?_)
  refine ⟨fun k l h => ∃ i : Nat, k = xs.length - i ∧ i ≤ xs.length ∧ l = [(0, .d (lGateLedger xs)), (1, .d (lGateLedger xs)), (5, .d (.int .i64 i))] ∧ h = hp0,
    ⟨_, _, _, ⟨0, rfl, Nat.zero_le _, rfl, rfl⟩, rfl, rfl, ⟨rfl, rfl, rfl, trivial⟩, trivial, trivial⟩, ?_⟩
  rintro k l h1 ⟨i, rfl, hi, rfl, rfl⟩
  refine And.intro (fun h1 => ?_) (fun h1 => ?_)
  · have hlt : i < xs.length := lt_map h1
    repeat refine And.intro rfl ?_
    refine And.intro (by kernel_rfl) ?_
    repeat refine And.intro rfl ?_
    repeat refine And.intro rfl ?_
    refine ix_at (e := GateLedger.e) (xs := xs) (hlt) rfl ?_
    repeat refine And.intro rfl ?_
    repeat refine And.intro rfl ?_
    refine ix_at (e := GateLedger.e) (xs := xs) (hlt) rfl ?_
    repeat refine And.intro rfl ?_
    repeat refine And.intro rfl ?_
    refine Or.inl (Exists.intro _ (And.intro (eq_GateLedger _) ?_))
    repeat refine And.intro rfl ?_
    refine And.intro (fun h => absurd h (by simp)) (fun _ => ?_)
    exact ⟨_, _, _, ⟨i + 1, rfl, hlt, rfl, rfl⟩, by omega, rfl, rfl, ⟨rfl, rfl, nd (wrap_succ hlt hs), trivial⟩, trivial, trivial⟩
  · rfl
theorem eq_GatePurse (x : GatePurse) : Spec P 88 [st x.e, st x.e] (.d (.bool true)) := by
  refine Spec.of_vc vcT vcM [.tmp 4] Tryz.func88 rfl rfl rfl rfl (fun hok => ?_)
  repeat refine And.intro rfl ?_
  refine And.intro (fun h => absurd h (by simp)) (fun _ => ?_)
  repeat refine And.intro rfl ?_
  refine And.intro (fun h => absurd h (by simp)) (fun _ => ?_)
  repeat refine And.intro rfl ?_
  refine And.intro (fun h => absurd h (by simp)) (fun _ => ?_)
  repeat refine And.intro rfl ?_
  refine And.intro (fun h => absurd h (by simp)) (fun _ => ?_)
  repeat refine And.intro rfl ?_
  refine And.intro (fun h => absurd h (by simp)) (fun _ => ?_)
  repeat refine And.intro rfl ?_
  rfl
theorem eq_GatePurseS (xs : List GatePurse) : Spec P 47 [.d (lGatePurse xs), .d (lGatePurse xs)] (.d (.bool true)) := by
  refine Spec.of_vc vcT vcM [.tmp 4] Tryz.func47 rfl rfl rfl rfl (fun hok => ?_)
  have hs : xs.length ≤ big := by have := hok.1.1; rwa [List.length_map] at this
  repeat refine And.intro rfl ?_
  refine And.intro (fun h => absurd h (by simp)) (fun _ => ?_)
  refine ⟨fun k l h => ∃ i : Nat, k = xs.length - i ∧ i ≤ xs.length ∧ l = [(0, .d (lGatePurse xs)), (1, .d (lGatePurse xs)), (5, .d (.int .i64 i))] ∧ h = hp0,
    ⟨_, _, _, ⟨0, rfl, Nat.zero_le _, rfl, rfl⟩, rfl, rfl, ⟨rfl, rfl, rfl, trivial⟩, trivial, trivial⟩, ?_⟩
  rintro k l h1 ⟨i, rfl, hi, rfl, rfl⟩
  refine And.intro (fun h1 => ?_) (fun h1 => ?_)
  · have hlt : i < xs.length := lt_map h1
    repeat refine And.intro rfl ?_
    refine And.intro (by kernel_rfl) ?_
    repeat refine And.intro rfl ?_
    repeat refine And.intro rfl ?_
    refine ix_at (e := GatePurse.e) (xs := xs) (hlt) rfl ?_
    repeat refine And.intro rfl ?_
    repeat refine And.intro rfl ?_
    refine ix_at (e := GatePurse.e) (xs := xs) (hlt) rfl ?_
    repeat refine And.intro rfl ?_
    repeat refine And.intro rfl ?_
    refine Or.inl (Exists.intro _ (And.intro (eq_GatePurse _) ?_))
    repeat refine And.intro rfl ?_
    refine And.intro (fun h => absurd h (by simp)) (fun _ => ?_)
    exact ⟨_, _, _, ⟨i + 1, rfl, hlt, rfl, rfl⟩, by omega, rfl, rfl, ⟨rfl, rfl, nd (wrap_succ hlt hs), trivial⟩, trivial, trivial⟩
  · rfl
theorem eq_GateBook (x : GateBook) : Spec P 15 [st x.e, st x.e] (.d (.bool true)) := by
  refine Spec.of_vc vcT vcM [.tmp 4] Tryz.func15 rfl rfl rfl rfl (fun hok => ?_)
  repeat refine And.intro rfl ?_
  refine And.intro (fun h => absurd h (by simp)) (fun _ => ?_)
  repeat refine And.intro rfl ?_
  refine And.intro (fun h => absurd h (by simp)) (fun _ => ?_)
  repeat refine And.intro rfl ?_
  refine And.intro (fun h => absurd h (by simp)) (fun _ => ?_)
  repeat refine And.intro rfl ?_
  refine Or.inl (Exists.intro _ (And.intro (eq_GateObjectS _) ?_))
  repeat refine And.intro rfl ?_
  refine And.intro (fun h => absurd h (by simp)) (fun _ => ?_)
  repeat refine And.intro rfl ?_
  refine Or.inl (Exists.intro _ (And.intro (eq_GateGrantS _) ?_))
  repeat refine And.intro rfl ?_
  refine And.intro (fun h => absurd h (by simp)) (fun _ => ?_)
  repeat refine And.intro rfl ?_
  refine Or.inl (Exists.intro _ (And.intro (eq_GateLedgerS _) ?_))
  repeat refine And.intro rfl ?_
  refine And.intro (fun h => absurd h (by simp)) (fun _ => ?_)
  repeat refine And.intro rfl ?_
  refine Or.inl (Exists.intro _ (And.intro (eq_GatePurseS _) ?_))
  repeat refine And.intro rfl ?_
  refine And.intro (fun h => absurd h (by simp)) (fun _ => ?_)
  repeat refine And.intro rfl ?_
  rfl
theorem eq_GateAsk (x : GateAsk) : Spec P 211 [st x.e, st x.e] (.d (.bool true)) := by
  refine Spec.of_vc vcT vcM [.tmp 4] Tryz.func211 rfl rfl rfl rfl (fun hok => ?_)
  repeat refine And.intro rfl ?_
  refine And.intro (fun h => absurd h (by simp)) (fun _ => ?_)
  repeat refine And.intro rfl ?_
  refine And.intro (fun h => absurd h (by simp)) (fun _ => ?_)
  repeat refine And.intro rfl ?_
  refine And.intro (fun h => absurd h (by simp)) (fun _ => ?_)
  repeat refine And.intro rfl ?_
  refine And.intro (fun h => absurd h (by simp)) (fun _ => ?_)
  repeat refine And.intro rfl ?_
  refine And.intro (fun h => absurd h (by simp)) (fun _ => ?_)
  repeat refine And.intro rfl ?_
  refine Or.inl (Exists.intro _ (And.intro (eq_StringS _) ?_))
  repeat refine And.intro rfl ?_
  refine And.intro (fun h => absurd h (by simp)) (fun _ => ?_)
  repeat refine And.intro rfl ?_
  refine Or.inl (Exists.intro _ (And.intro (eq_StringS _) ?_))
  repeat refine And.intro rfl ?_
  refine And.intro (fun h => absurd h (by simp)) (fun _ => ?_)
  repeat refine And.intro rfl ?_
  refine And.intro (fun h => absurd h (by simp)) (fun _ => ?_)
  repeat refine And.intro rfl ?_
  refine And.intro (fun h => absurd h (by simp)) (fun _ => ?_)
  repeat refine And.intro rfl ?_
  refine And.intro (fun h => absurd h (by simp)) (fun _ => ?_)
  repeat refine And.intro rfl ?_
  refine Or.inl (Exists.intro _ (And.intro (eq_GateRule _) ?_))
  repeat refine And.intro rfl ?_
  refine And.intro (fun h => absurd h (by simp)) (fun _ => ?_)
  repeat refine And.intro rfl ?_
  refine And.intro (fun h => absurd h (by simp)) (fun _ => ?_)
  repeat refine And.intro rfl ?_
  rfl
theorem eq_GateWant (x : GateWant) : Spec P 222 [st x.e, st x.e] (.d (.bool true)) := by
  refine Spec.of_vc vcT vcM [.tmp 4] Tryz.func222 rfl rfl rfl rfl (fun hok => ?_)
  repeat refine And.intro rfl ?_
  refine And.intro (fun h => absurd h (by simp)) (fun _ => ?_)
  repeat refine And.intro rfl ?_
  refine And.intro (fun h => absurd h (by simp)) (fun _ => ?_)
  repeat refine And.intro rfl ?_
  refine And.intro (fun h => absurd h (by simp)) (fun _ => ?_)
  repeat refine And.intro rfl ?_
  rfl
theorem eq_GateWantS (xs : List GateWant) : Spec P 212 [.d (lGateWant xs), .d (lGateWant xs)] (.d (.bool true)) := by
  refine Spec.of_vc vcT vcM [.tmp 4] Tryz.func212 rfl rfl rfl rfl (fun hok => ?_)
  have hs : xs.length ≤ big := by have := hok.1.1; rwa [List.length_map] at this
  repeat refine And.intro rfl ?_
  refine And.intro (fun h => absurd h (by simp)) (fun _ => ?_)
  refine ⟨fun k l h => ∃ i : Nat, k = xs.length - i ∧ i ≤ xs.length ∧ l = [(0, .d (lGateWant xs)), (1, .d (lGateWant xs)), (5, .d (.int .i64 i))] ∧ h = hp0,
    ⟨_, _, _, ⟨0, rfl, Nat.zero_le _, rfl, rfl⟩, rfl, rfl, ⟨rfl, rfl, rfl, trivial⟩, trivial, trivial⟩, ?_⟩
  rintro k l h1 ⟨i, rfl, hi, rfl, rfl⟩
  refine And.intro (fun h1 => ?_) (fun h1 => ?_)
  · have hlt : i < xs.length := lt_map h1
    repeat refine And.intro rfl ?_
    refine And.intro (by kernel_rfl) ?_
    repeat refine And.intro rfl ?_
    repeat refine And.intro rfl ?_
    refine ix_at (e := GateWant.e) (xs := xs) (hlt) rfl ?_
    repeat refine And.intro rfl ?_
    repeat refine And.intro rfl ?_
    refine ix_at (e := GateWant.e) (xs := xs) (hlt) rfl ?_
    repeat refine And.intro rfl ?_
    repeat refine And.intro rfl ?_
    refine Or.inl (Exists.intro _ (And.intro (eq_GateWant _) ?_))
    repeat refine And.intro rfl ?_
    refine And.intro (fun h => absurd h (by simp)) (fun _ => ?_)
    exact ⟨_, _, _, ⟨i + 1, rfl, hlt, rfl, rfl⟩, by omega, rfl, rfl, ⟨rfl, rfl, nd (wrap_succ hlt hs), trivial⟩, trivial, trivial⟩
  · rfl
theorem eq_GateSlip (x : GateSlip) : Spec P 186 [st x.e, st x.e] (.d (.bool true)) := by
  refine Spec.of_vc vcT vcM [.tmp 4] Tryz.func186 rfl rfl rfl rfl (fun hok => ?_)
  repeat refine And.intro rfl ?_
  refine And.intro (fun h => absurd h (by simp)) (fun _ => ?_)
  repeat refine And.intro rfl ?_
  refine Or.inl (Exists.intro _ (And.intro (eq_GateAsk _) ?_))
  repeat refine And.intro rfl ?_
  refine And.intro (fun h => absurd h (by simp)) (fun _ => ?_)
  repeat refine And.intro rfl ?_
  refine And.intro (fun h => absurd h (by simp)) (fun _ => ?_)
  repeat refine And.intro rfl ?_
  refine Or.inl (Exists.intro _ (And.intro (eq_GateWantS _) ?_))
  repeat refine And.intro rfl ?_
  refine And.intro (fun h => absurd h (by simp)) (fun _ => ?_)
  repeat refine And.intro rfl ?_
  rfl
theorem eq_GateSlipS (xs : List GateSlip) : Spec P 143 [.d (lGateSlip xs), .d (lGateSlip xs)] (.d (.bool true)) := by
  refine Spec.of_vc vcT vcM [.tmp 4] Tryz.func143 rfl rfl rfl rfl (fun hok => ?_)
  have hs : xs.length ≤ big := by have := hok.1.1; rwa [List.length_map] at this
  repeat refine And.intro rfl ?_
  refine And.intro (fun h => absurd h (by simp)) (fun _ => ?_)
  refine ⟨fun k l h => ∃ i : Nat, k = xs.length - i ∧ i ≤ xs.length ∧ l = [(0, .d (lGateSlip xs)), (1, .d (lGateSlip xs)), (5, .d (.int .i64 i))] ∧ h = hp0,
    ⟨_, _, _, ⟨0, rfl, Nat.zero_le _, rfl, rfl⟩, rfl, rfl, ⟨rfl, rfl, rfl, trivial⟩, trivial, trivial⟩, ?_⟩
  rintro k l h1 ⟨i, rfl, hi, rfl, rfl⟩
  refine And.intro (fun h1 => ?_) (fun h1 => ?_)
  · have hlt : i < xs.length := lt_map h1
    repeat refine And.intro rfl ?_
    refine And.intro (by kernel_rfl) ?_
    repeat refine And.intro rfl ?_
    repeat refine And.intro rfl ?_
    refine ix_at (e := GateSlip.e) (xs := xs) (hlt) rfl ?_
    repeat refine And.intro rfl ?_
    repeat refine And.intro rfl ?_
    refine ix_at (e := GateSlip.e) (xs := xs) (hlt) rfl ?_
    repeat refine And.intro rfl ?_
    repeat refine And.intro rfl ?_
    refine Or.inl (Exists.intro _ (And.intro (eq_GateSlip _) ?_))
    repeat refine And.intro rfl ?_
    refine And.intro (fun h => absurd h (by simp)) (fun _ => ?_)
    exact ⟨_, _, _, ⟨i + 1, rfl, hlt, rfl, rfl⟩, by omega, rfl, rfl, ⟨rfl, rfl, nd (wrap_succ hlt hs), trivial⟩, trivial, trivial⟩
  · rfl
theorem eq_GateDoor (x : GateDoor) : Spec P 95 [st x.e, st x.e] (.d (.bool true)) := by
  refine Spec.of_vc vcT vcM [.tmp 4] Tryz.func95 rfl rfl rfl rfl (fun hok => ?_)
  repeat refine And.intro rfl ?_
  refine And.intro (fun h => absurd h (by simp)) (fun _ => ?_)
  repeat refine And.intro rfl ?_
  refine And.intro (fun h => absurd h (by simp)) (fun _ => ?_)
  repeat refine And.intro rfl ?_
  refine Or.inl (Exists.intro _ (And.intro (eq_GateBook _) ?_))
  repeat refine And.intro rfl ?_
  refine And.intro (fun h => absurd h (by simp)) (fun _ => ?_)
  repeat refine And.intro rfl ?_
  refine Or.inl (Exists.intro _ (And.intro (eq_GateSlipS _) ?_))
  repeat refine And.intro rfl ?_
  refine And.intro (fun h => absurd h (by simp)) (fun _ => ?_)
  repeat refine And.intro rfl ?_
  rfl
theorem eq_GateDoorS (xs : List GateDoor) : Spec P 52 [.d (lGateDoor xs), .d (lGateDoor xs)] (.d (.bool true)) := by
  refine Spec.of_vc vcT vcM [.tmp 4] Tryz.func52 rfl rfl rfl rfl (fun hok => ?_)
  have hs : xs.length ≤ big := by have := hok.1.1; rwa [List.length_map] at this
  repeat refine And.intro rfl ?_
  refine And.intro (fun h => absurd h (by simp)) (fun _ => ?_)
  refine ⟨fun k l h => ∃ i : Nat, k = xs.length - i ∧ i ≤ xs.length ∧ l = [(0, .d (lGateDoor xs)), (1, .d (lGateDoor xs)), (5, .d (.int .i64 i))] ∧ h = hp0,
    ⟨_, _, _, ⟨0, rfl, Nat.zero_le _, rfl, rfl⟩, rfl, rfl, ⟨rfl, rfl, rfl, trivial⟩, trivial, trivial⟩, ?_⟩
  rintro k l h1 ⟨i, rfl, hi, rfl, rfl⟩
  refine And.intro (fun h1 => ?_) (fun h1 => ?_)
  · have hlt : i < xs.length := lt_map h1
    repeat refine And.intro rfl ?_
    refine And.intro (by kernel_rfl) ?_
    repeat refine And.intro rfl ?_
    repeat refine And.intro rfl ?_
    refine ix_at (e := GateDoor.e) (xs := xs) (hlt) rfl ?_
    repeat refine And.intro rfl ?_
    repeat refine And.intro rfl ?_
    refine ix_at (e := GateDoor.e) (xs := xs) (hlt) rfl ?_
    repeat refine And.intro rfl ?_
    repeat refine And.intro rfl ?_
    refine Or.inl (Exists.intro _ (And.intro (eq_GateDoor _) ?_))
    repeat refine And.intro rfl ?_
    refine And.intro (fun h => absurd h (by simp)) (fun _ => ?_)
    exact ⟨_, _, _, ⟨i + 1, rfl, hlt, rfl, rfl⟩, by omega, rfl, rfl, ⟨rfl, rfl, nd (wrap_succ hlt hs), trivial⟩, trivial, trivial⟩
  · rfl
theorem eq_GateWorld (x : GateWorld) : Spec P 20 [st x.e, st x.e] (.d (.bool true)) := by
  refine Spec.of_vc vcT vcM [.tmp 4] Tryz.func20 rfl rfl rfl rfl (fun hok => ?_)
  repeat refine And.intro rfl ?_
  refine Or.inl (Exists.intro _ (And.intro (eq_GateBook _) ?_))
  repeat refine And.intro rfl ?_
  refine And.intro (fun h => absurd h (by simp)) (fun _ => ?_)
  repeat refine And.intro rfl ?_
  refine Or.inl (Exists.intro _ (And.intro (eq_GateDoorS _) ?_))
  repeat refine And.intro rfl ?_
  refine And.intro (fun h => absurd h (by simp)) (fun _ => ?_)
  repeat refine And.intro rfl ?_
  rfl
end Go.Vc
end

section
namespace Go.Vc
open Go.Proofs
set_option maxRecDepth 100000
set_option pp.maxSteps 400
set_option pp.deepTerms false
set_option linter.unusedSimpArgs false
set_option linter.unusedVariables false
def wideF (ts : List GateTeam) (r x : GateRule) : Bool := (r.kind == [] || r.kind == x.kind) && ((r.team == [] || (!(x.team == []) && under ts x.team r.team)) && startsF x.prefix_ r.prefix_)
def lackF (c : Int → Bool) : List Int → Int
  | [] => 0
  | v :: vs => bif c v then lackF c vs else v
theorem lack_step {c : Int → Bool} {vs : List Int} {i : Nat} (h : i < vs.length) : lackF c (vs.drop i) = bif c vs[i] then lackF c (vs.drop (i + 1)) else vs[i] := by
  rw [List.drop_eq_getElem_cons h]; rfl
theorem lack_end {c : Int → Bool} {vs : List Int} {i : Nat} (h : vs.length ≤ i) : lackF c (vs.drop i) = 0 := by
  rw [List.drop_of_length_le h]; rfl
def covI (ts : List GateTeam) (rs : List GateRule) (x : GateRule) (v : Int) : Bool := rs.any (fun r => hasF (setF r.verbs 0) v && wideF ts r x)
def covS (ts : List GateTeam) (rs : List GateRule) (x : GateRule) (v : Int) : Bool := rs.any (fun r => r.verbs.any (fun y => y == v) && wideF ts r x)
theorem i_wider (r : GateRule) (ts : List GateTeam) (x : GateRule) (v : Int) : Spec P 145 [st r.e, .d (lGateTeam ts), st x.e, .d (.int .i64 v)] (.d (.bool (hasF (setF r.verbs 0) v && wideF ts r x))) := by
  refine Spec.of_vc vcT vcM [.tmp 8] Tryz.func145 rfl rfl rfl rfl (fun hok => ?_)
  repeat' first
    | refine And.intro rfl ?_
    | refine And.intro (fun h => nomatch (show true = false from h)) (fun h => ?_)
    | refine And.intro (fun h => nomatch (show false = true from h)) (fun h => ?_)
    | refine And.intro (fun h => ?_) (fun h => nomatch (show true = false from h))
    | refine And.intro (fun h => ?_) (fun h => nomatch (show false = true from h))
    | refine And.intro (fun h => ?_) (fun h => ?_)
    | refine Or.inl (Exists.intro _ (And.intro (i_setOf r.verbs) ?_))
    | refine Or.inl (Exists.intro _ (And.intro (i_has _ v) ?_))
    | refine Or.inl (Exists.intro _ (And.intro (i_GateUnder ts x.team r.team) ?_))
    | refine Or.inl (Exists.intro _ (And.intro (i_hasPrefix x.prefix_ r.prefix_) ?_))
    | refine And.intro (by kernel_rfl) ?_
  all_goals (refine bd ?_; (try simp only [cond_false, cond_true, Bool.not_eq_true', Bool.not_eq_false'] at *); simp only [wideF, *, Bool.true_and, Bool.and_true, Bool.false_and, Bool.and_false, Bool.true_or, Bool.or_true, Bool.false_or, Bool.or_false, Bool.not_true, Bool.not_false])
theorem ok_rule {r : GateRule} (h : okAs [st r.e]) : r.verbs.length ≤ big := by
  have := h.1
  simp only [st, AV.ok, GateRule.e, List.map, okAs] at this
  exact len_map this.1.1
theorem i_bare (ts : List GateTeam) (rs : List GateRule) (x : GateRule) : Spec P 100 [.d (lGateTeam ts), .d (lGateRule rs), st x.e] (.d (.int .i64 (lackF (covI ts rs x) x.verbs))) := by
  refine Spec.of_vc vcT vcM [.tmp 6] Tryz.func100 rfl rfl rfl rfl (fun hok => ?_)
  have hs := ok_rule ⟨hok.2.2.1, trivial⟩
  have hs2 : rs.length ≤ big := len_map hok.2.1.1
  repeat refine And.intro rfl ?_
  refine ⟨fun m l h => ∃ (i : Nat) , m = x.verbs.length - i ∧ i ≤ x.verbs.length ∧ (lackF (covI ts rs x) x.verbs = lackF (covI ts rs x) (x.verbs.drop i)) ∧ l = [(0, .d (lGateTeam ts)), (1, .d (lGateRule rs)), (5, .ptr 0 0), (12, .d (lI x.verbs)), (13, .d (.int .i64 (x.verbs.map eN).length)), (14, .d (.int .i64 i))] ∧ h = ⟨[(0, .cells 103 (x.e.map .d))], 1, 0⟩,
    ⟨_, _, _, ⟨0, rfl, Nat.zero_le _, rfl, rfl, rfl⟩, rfl, rfl, ⟨rfl, rfl, rfl, rfl, rfl, rfl, trivial⟩, ⟨rfl, trivial⟩, ⟨rfl, trivial⟩⟩, ?_⟩
  rintro m l hh ⟨i, rfl, hi, hr, rfl, rfl⟩
  repeat refine And.intro rfl ?_
  refine And.intro (fun h1 => ?_) (fun h1 => ?_)
  · have hlt : i < x.verbs.length := lt_map h1
    rw [lack_step hlt] at hr
    have ho := hr
    clear hr
    repeat refine And.intro rfl ?_
    refine ix_at (e := eN) (xs := x.verbs) (hlt) rfl ?_
    repeat refine And.intro rfl ?_
    generalize x.verbs[i] = v at *
    repeat refine And.intro rfl ?_
    refine ⟨fun m l h => ∃ (q : Nat) , m = rs.length - q ∧ q ≤ rs.length ∧ (covI ts rs x v = (rs.drop q).any (fun r => hasF (setF r.verbs 0) v && wideF ts r x)) ∧ l = [(0, .d (lGateTeam ts)), (1, .d (lGateRule rs)), (5, .ptr 0 0), (8, .d (.int .i64 v)), (12, .d (lI x.verbs)), (13, .d (.int .i64 (x.verbs.map eN).length)), (14, .d (.int .i64 i)), (18, .d (lGateRule rs)), (19, .d (.int .i64 (rs.map GateRule.e).length)), (20, .d (.int .i64 q))] ∧ h = ⟨[(0, .cells 103 (x.e.map .d))], 1, 0⟩,
      ⟨_, _, _, ⟨0, rfl, Nat.zero_le _, (show covI ts rs x v = (rs.drop 0).any (fun r => hasF (setF r.verbs 0) v && wideF ts r x) from rfl), rfl, rfl⟩, rfl, rfl, ⟨rfl, rfl, rfl, rfl, rfl, rfl, rfl, rfl, rfl, rfl, trivial⟩, ⟨rfl, trivial⟩, ⟨rfl, trivial⟩⟩, ?_⟩
    rintro m l hh ⟨q, rfl, hq, hr, rfl, rfl⟩
    repeat refine And.intro rfl ?_
    refine And.intro (fun h2 => ?_) (fun h2 => ?_)
    · have hlt2 : q < rs.length := lt_map h2
      rw [any_step hlt2] at hr
      repeat refine And.intro rfl ?_
      refine ix_at (e := GateRule.e) (xs := rs) (hlt2) rfl ?_
      repeat refine And.intro rfl ?_
      repeat refine And.intro rfl ?_
      refine Or.inl (Exists.intro _ (And.intro (i_wider _ _ _ _) ?_))
      repeat refine And.intro rfl ?_
      refine And.intro (fun h3 => ?_) (fun h3 => ?_)
      · rw [show (hasF (setF rs[q].verbs 0) v && wideF ts rs[q] x) = true from h3, Bool.true_or] at hr
        rw [hr, cond_true] at ho
        repeat refine And.intro rfl ?_
        refine ⟨_, _, _, ⟨i + 1, rfl, hlt, ho, rfl, rfl⟩, by omega, rfl, rfl, ?_, ?_, ?_⟩
        all_goals (repeat' first | exact rfl | exact trivial | exact nd (wrap_succ hlt hs) | refine And.intro ?_ ?_)
      · rw [show (hasF (setF rs[q].verbs 0) v && wideF ts rs[q] x) = false from h3, Bool.false_or] at hr
        repeat refine And.intro rfl ?_
        refine ⟨_, _, _, ⟨q + 1, rfl, hlt2, hr, rfl, rfl⟩, by omega, rfl, rfl, ?_, ?_, ?_⟩
        all_goals (repeat' first | exact rfl | exact trivial | exact nd (wrap_succ hlt2 hs2) | refine And.intro ?_ ?_)
    · rw [any_end (ge_map h2)] at hr
      rw [hr, cond_false] at ho
      refine nd ?_
      exact ho.symm
  · refine nd ?_
    rw [hr, lack_end (ge_map h1)]
theorem s_l4Lacks (ts : List GateTeam) (rs : List GateRule) (x : GateRule) : Spec P 53 [.d (lGateTeam ts), .d (lGateRule rs), st x.e] (.d (.int .i64 (lackF (covS ts rs x) x.verbs))) := by
  refine Spec.of_vc vcT vcM [.tmp 6] Tryz.func53 rfl rfl rfl rfl (fun hok => ?_)
  have hs := ok_rule ⟨hok.2.2.1, trivial⟩
  have hs2 : rs.length ≤ big := len_map hok.2.1.1
  repeat refine And.intro rfl ?_
  refine ⟨fun m l h => ∃ (i : Nat) , m = x.verbs.length - i ∧ i ≤ x.verbs.length ∧ (lackF (covS ts rs x) x.verbs = lackF (covS ts rs x) (x.verbs.drop i)) ∧ l = [(0, .d (lGateTeam ts)), (1, .d (lGateRule rs)), (5, .ptr 0 0), (7, .d (.int .i64 i))] ∧ h = ⟨[(0, .cells 103 (x.e.map .d))], 1, 0⟩,
    ⟨_, _, _, ⟨0, rfl, Nat.zero_le _, rfl, rfl, rfl⟩, rfl, rfl, ⟨rfl, rfl, rfl, rfl, trivial⟩, ⟨rfl, trivial⟩, ⟨rfl, trivial⟩⟩, ?_⟩
  rintro m l hh ⟨i, rfl, hi, hr, rfl, rfl⟩
  repeat refine And.intro rfl ?_
  refine And.intro (fun h1 => ?_) (fun h1 => ?_)
  · have hlt : i < x.verbs.length := lt_map h1
    rw [lack_step hlt] at hr
    have ho := hr
    clear hr
    repeat refine And.intro rfl ?_
    refine ⟨fun m l h => ∃ (q : Nat) (fd : Bool), m = rs.length - q ∧ q ≤ rs.length ∧ (covS ts rs x x.verbs[i] = (fd || (rs.drop q).any (fun r => r.verbs.any (fun y => y == x.verbs[i]) && wideF ts r x))) ∧ l = [(0, .d (lGateTeam ts)), (1, .d (lGateRule rs)), (5, .ptr 0 0), (7, .d (.int .i64 i)), (8, .d (.bool fd)), (9, .d (.int .i64 q))] ∧ h = ⟨[(0, .cells 103 (x.e.map .d))], 1, 0⟩,
      ⟨_, _, _, ⟨0, _, rfl, Nat.zero_le _, (show covS ts rs x x.verbs[i] = (false || (rs.drop 0).any (fun r => r.verbs.any (fun y => y == x.verbs[i]) && wideF ts r x)) from rfl), rfl, rfl⟩, rfl, rfl, ⟨rfl, rfl, rfl, rfl, rfl, rfl, trivial⟩, ⟨rfl, trivial⟩, ⟨rfl, trivial⟩⟩, ?_⟩
    rintro m l hh ⟨q, fd, rfl, hq, hr, rfl, rfl⟩
    repeat refine And.intro rfl ?_
    refine And.intro (fun h2 => ?_) (fun h2 => ?_)
    · have hlt2 : q < rs.length := lt_map h2
      rw [any_step hlt2] at hr
      repeat refine And.intro rfl ?_
      refine ix_at (e := GateRule.e) (xs := rs) (hlt2) rfl ?_
      repeat refine And.intro rfl ?_
      repeat refine And.intro rfl ?_
      refine And.intro (by kernel_rfl) ?_
      repeat refine And.intro rfl ?_
      repeat' first
        | refine And.intro rfl ?_
        | refine And.intro (fun h => nomatch (show true = false from h)) (fun h => ?_)
        | refine And.intro (fun h => nomatch (show false = true from h)) (fun h => ?_)
        | refine And.intro (fun h => ?_) (fun h => nomatch (show true = false from h))
        | refine And.intro (fun h => ?_) (fun h => nomatch (show false = true from h))
        | refine And.intro (fun h => ?_) (fun h => ?_)
        | refine ix_at (e := eN) (xs := x.verbs) hlt rfl ?_
        | refine Or.inl (Exists.intro _ (And.intro (s_l4Verb rs[q] x.verbs[i]) ?_))
        | refine Or.inl (Exists.intro _ (And.intro (s_GateUnder ts x.team rs[q].team) ?_))
        | refine Or.inl (Exists.intro _ (And.intro (s_l4Begins x.prefix_ rs[q].prefix_) ?_))
      all_goals (simp only [cond_false, cond_true, Bool.not_eq_true', Bool.not_eq_false', reduceCtorEq] at *)
      all_goals first
        | (refine (fun hq : covS ts rs x x.verbs[i] = (true || (rs.drop (q + 1)).any (fun r => r.verbs.any (fun y => y == x.verbs[i]) && wideF ts r x)) => ?_) ?_
           rotate_left
           · rw [hr]
             clear hr
             simp only [wideF, *, Bool.true_and, Bool.and_true, Bool.false_and, Bool.and_false, Bool.true_or, Bool.or_true, Bool.false_or, Bool.or_false, Bool.not_true, Bool.not_false]
             done
           · repeat refine And.intro rfl ?_
             refine ⟨_, _, _, ⟨q + 1, true, rfl, hlt2, hq, rfl, rfl⟩, by omega, rfl, rfl, ?_, ?_, ?_⟩
             all_goals (repeat' first | exact rfl | exact trivial | exact nd (wrap_succ hlt2 hs2) | refine And.intro ?_ ?_)
             done)
        | (refine (fun hq : covS ts rs x x.verbs[i] = (fd || (rs.drop (q + 1)).any (fun r => r.verbs.any (fun y => y == x.verbs[i]) && wideF ts r x)) => ?_) ?_
           rotate_left
           · rw [hr]
             clear hr
             simp only [wideF, *, Bool.true_and, Bool.and_true, Bool.false_and, Bool.and_false, Bool.true_or, Bool.or_true, Bool.false_or, Bool.or_false, Bool.not_true, Bool.not_false]
             done
           · repeat refine And.intro rfl ?_
             refine ⟨_, _, _, ⟨q + 1, fd, rfl, hlt2, hq, rfl, rfl⟩, by omega, rfl, rfl, ?_, ?_, ?_⟩
             all_goals (repeat' first | exact rfl | exact trivial | exact nd (wrap_succ hlt2 hs2) | refine And.intro ?_ ?_)
             done)
    · rw [any_end (ge_map h2), Bool.or_false] at hr
      rw [hr] at ho
      repeat refine And.intro rfl ?_
      refine And.intro (fun h3 => ?_) (fun h3 => ?_)
      · have h3 : fd = false := nbt h3
        rw [h3, cond_false] at ho
        repeat refine And.intro rfl ?_
        refine ix_at (e := eN) (xs := x.verbs) (hlt) rfl ?_
        repeat refine And.intro rfl ?_
        refine nd ?_
        exact ho.symm
      · have h3 : fd = true := nbf h3
        rw [h3, cond_true] at ho
        repeat refine And.intro rfl ?_
        refine ⟨_, _, _, ⟨i + 1, rfl, hlt, ho, rfl, rfl⟩, by omega, rfl, rfl, ?_, ?_, ?_⟩
        all_goals (repeat' first | exact rfl | exact trivial | exact nd (wrap_succ hlt hs) | refine And.intro ?_ ?_)
  · refine nd ?_
    rw [hr, lack_end (ge_map h1)]
end Go.Vc
end

section
namespace Go.Vc
open Go.Proofs
set_option maxRecDepth 100000
set_option pp.maxSteps 400
set_option pp.deepTerms false
set_option linter.unusedSimpArgs false
set_option linter.unusedVariables false
def rulesF (ts : List GateTeam) (rs : List GateRule) (x : GateRule) : Bool := teamsOk ts && (ruleOk x && rs.all ruleOk)
theorem i_rulesOk (ts : List GateTeam) (rs : List GateRule) (x : GateRule) : Spec P 99 [.d (lGateTeam ts), .d (lGateRule rs), st x.e] (.d (.bool (rulesF ts rs x))) := by
  refine Spec.of_vc vcT vcM [.tmp 6] Tryz.func99 rfl rfl rfl rfl (fun hok => ?_)
  have hs : rs.length ≤ big := len_map hok.2.1.1
  repeat refine And.intro rfl ?_
  refine Or.inl (Exists.intro _ (And.intro (i_GateTeamsOk _) ?_))
  repeat refine And.intro rfl ?_
  refine And.intro (fun h1 => ?_) (fun h1 => ?_)
  · repeat refine And.intro rfl ?_
    refine Or.inl (Exists.intro _ (And.intro (i_ruleOk _) ?_))
    repeat refine And.intro rfl ?_
    refine And.intro (fun h2 => ?_) (fun h2 => ?_)
    · refine bd ?_
      simp only [Bool.not_eq_true', Bool.not_eq_false'] at h1 h2
      rw [rulesF, h1, h2]; rfl
    · simp only [Bool.not_eq_true', Bool.not_eq_false'] at h1 h2
      have e : rulesF ts rs x = rs.all ruleOk := by rw [rulesF, h1, h2]; rfl
      rw [e]
      repeat refine And.intro rfl ?_
      refine ⟨fun m l h => ∃ (i : Nat) , m = rs.length - i ∧ i ≤ rs.length ∧ (rs.all ruleOk = (rs.drop i).all ruleOk) ∧ l = [(17, .d (lGateRule rs)), (18, .d (.int .i64 (rs.map GateRule.e).length)), (19, .d (.int .i64 i))] ∧ h = hp0,
        ⟨_, _, _, ⟨0, rfl, Nat.zero_le _, rfl, rfl, rfl⟩, rfl, rfl, ⟨rfl, rfl, rfl, trivial⟩, trivial, trivial⟩, ?_⟩
      rintro m l hh ⟨i, rfl, hi, hr, rfl, rfl⟩
      repeat refine And.intro rfl ?_
      refine And.intro (fun h3 => ?_) (fun h3 => ?_)
      · have hlt : i < rs.length := lt_map h3
        rw [all_step hlt] at hr
        repeat refine And.intro rfl ?_
        refine ix_at (e := GateRule.e) (xs := rs) (hlt) rfl ?_
        repeat refine And.intro rfl ?_
        repeat refine And.intro rfl ?_
        refine Or.inl (Exists.intro _ (And.intro (i_ruleOk _) ?_))
        repeat refine And.intro rfl ?_
        refine And.intro (fun h4 => ?_) (fun h4 => ?_)
        · refine bd ?_
          rw [hr, nbt h4]; rfl
        · rw [nbf h4, Bool.true_and] at hr
          repeat refine And.intro rfl ?_
          refine ⟨_, _, _, ⟨i + 1, rfl, hlt, hr, rfl, rfl⟩, by omega, rfl, rfl, ?_, ?_, ?_⟩
          all_goals (repeat' first | exact rfl | exact trivial | exact nd (wrap_succ hlt hs) | refine And.intro ?_ ?_)
      · refine bd ?_
        rw [hr, all_end (ge_map h3)]
  · refine bd ?_
    simp only [Bool.not_eq_true', Bool.not_eq_false'] at h1
    rw [rulesF, h1]; rfl
def coverI (ts : List GateTeam) (rs : List GateRule) (x : GateRule) : Bool := rulesF ts rs x && lackF (covI ts rs x) x.verbs == 0
theorem i_GateCovers (ts : List GateTeam) (rs : List GateRule) (x : GateRule) : Spec P 54 [.d (lGateTeam ts), .d (lGateRule rs), st x.e] (.d (.bool (coverI ts rs x))) := by
  refine Spec.of_vc vcT vcM [.tmp 6] Tryz.func54 rfl rfl rfl rfl (fun hok => ?_)
  repeat refine And.intro rfl ?_
  refine Or.inl (Exists.intro _ (And.intro (i_rulesOk _ _ _) ?_))
  repeat' first
    | refine And.intro rfl ?_
    | refine And.intro (fun h => nomatch (show true = false from h)) (fun h => ?_)
    | refine And.intro (fun h => nomatch (show false = true from h)) (fun h => ?_)
    | refine And.intro (fun h => ?_) (fun h => nomatch (show true = false from h))
    | refine And.intro (fun h => ?_) (fun h => nomatch (show false = true from h))
    | refine And.intro (fun h => ?_) (fun h => ?_)
    | refine Or.inl (Exists.intro _ (And.intro (i_bare ts rs x) ?_))
  all_goals (refine bd ?_; simp only [coverI, *, Bool.true_and, Bool.false_and])
theorem lack_congr {c d : Int → Bool} : ∀ {vs : List Int}, (∀ v ∈ vs, c v = d v) → lackF c vs = lackF d vs
  | [], _ => rfl
  | v :: vs, h => by
    rw [lackF, lackF, h v (List.mem_cons_self ..), lack_congr (fun y hy => h y (List.mem_cons_of_mem _ hy))]
theorem cover_eq {ts : List GateTeam} {rs : List GateRule} {x : GateRule} (h1 : teamsOk ts = true) (h2 : rs.all ruleOk = true) (h3 : ruleOk x = true) : coverI ts rs x = (lackF (covS ts rs x) x.verbs == 0) := by
  unfold coverI rulesF
  rw [h1, h2, h3, Bool.true_and, Bool.true_and, Bool.true_and]
  rw [lack_congr (c := covI ts rs x) (d := covS ts rs x) fun v _ => ?_]
  refine any_congr' fun r hr => ?_
  rw [rule_has (List.all_eq_true.1 h2 r hr)]
def ruG (b : GateBook) : List GateRule := b.grants.map (·.rule)
def safeG (L : GateLaw) (b : GateBook) (g : GateGrant) : Bool := lackF (covS L.teams (ruG b) g.rule) g.rule.verbs == 0
def safeF (L : GateLaw) (b : GateBook) (w : GateWorld) : Bool := bookOk L b && (worldOk L w && w.book.grants.all (safeG L b))
theorem world_book {L : GateLaw} {w : GateWorld} (h : worldOk L w = true) : bookOk L w.book = true := by
  unfold worldOk at h; rw [Bool.and_eq_true] at h; exact h.1
theorem ru_take {b : GateBook} {i : Nat} (h : i < b.grants.length) : (b.grants.take i).map (·.rule) ++ [b.grants[i].rule] = (b.grants.take (i + 1)).map (·.rule) := by
  rw [List.take_add_one, List.getElem?_eq_getElem h, List.map_append]; rfl
theorem ru_all {b : GateBook} {i : Nat} (h : b.grants.length ≤ i) : (b.grants.take i).map (·.rule) = ruG b := by
  rw [List.take_of_length_le h]; rfl
theorem s_GateSafe (L : GateLaw) (b : GateBook) (w : GateWorld) : Spec P 21 [st L.e, st b.e, st w.e] (.d (.bool (safeF L b w))) := by
  refine Spec.of_vc vcT vcM [.tmp 6] Tryz.func21 rfl rfl rfl rfl (fun hok => ?_)
  have hs := (ok_book ⟨hok.2.1, trivial⟩).2.1
  have hs2 := (ok_world ⟨hok.2.2.1, trivial⟩).1
  repeat refine And.intro rfl ?_
  refine Or.inl (Exists.intro _ (And.intro (s_GateBookOk L b) ?_))
  repeat refine And.intro rfl ?_
  refine And.intro (fun h1 => ?_) (fun h1 => ?_)
  · repeat refine And.intro rfl ?_
    refine Or.inl (Exists.intro _ (And.intro (s_GateWorldOk L w) ?_))
    repeat refine And.intro rfl ?_
    refine And.intro (fun h2 => ?_) (fun h2 => ?_)
    · refine bd ?_
      rw [safeF, nbf h1, nbt h2]; rfl
    · have h1 := nbf h1
      have h2 := nbf h2
      have e : safeF L b w = w.book.grants.all (safeG L b) := by rw [safeF, h1, h2]; rfl
      rw [e]
      clear e
      repeat refine And.intro rfl ?_
      refine ⟨fun m l h => ∃ (i : Nat), m = b.grants.length - i ∧ i ≤ b.grants.length ∧ l = [(3, .ptr 0 0), (5, .ptr 2 0), (7, .own 3), (4, .ptr 1 0), (8, .d (.int .i64 i))] ∧ h = ⟨[(3, .row 103 4 (((b.grants.take i).map (·.rule)).map GateRule.e)), (2, .cells 64 (w.e.map .d)), (1, .cells 50 (b.e.map .d)), (0, .cells 43 (L.e.map .d))], 4, 0⟩,
        ⟨_, _, _, ⟨0, rfl, Nat.zero_le _, rfl, rfl⟩, rfl, rfl, ⟨rfl, rfl, rfl, rfl, rfl, trivial⟩, (by repeat' first|exact rfl|exact trivial|refine And.intro ?_ ?_), (by repeat' first|exact rfl|exact trivial|refine And.intro ?_ ?_)⟩, ?_⟩
      rintro m l hh ⟨i, rfl, hi, rfl, rfl⟩
      repeat refine And.intro rfl ?_
      refine And.intro (fun h3 => ?_) (fun h3 => ?_)
      · have hlt : i < b.grants.length := lt_map h3
        repeat refine And.intro rfl ?_
        refine ix_at (e := GateGrant.e) (xs := b.grants) (hlt) rfl ?_
        repeat refine And.intro rfl ?_
        repeat refine And.intro rfl ?_
        refine And.intro (fun r hr => by rw [List.mem_singleton.1 hr]; rfl) ?_
        repeat refine And.intro rfl ?_
        refine And.intro (by simp only [List.length_append, List.length_nil, List.length_cons, List.length_map, List.length_take] at *; unfold big at *; omega) ?_
        repeat refine And.intro rfl ?_
        refine ⟨_, _, _, ⟨i + 1, rfl, hlt, rfl, rfl⟩, by omega, rfl, rfl, ?_, ?_, ?_⟩
        all_goals (repeat' first | exact rfl | exact trivial | exact nd (wrap_succ hlt hs) | (rw [← ru_take hlt, List.map_append]; exact rfl) | refine And.intro ?_ ?_)
      · rw [ru_all (ge_map h3)]
        clear h3 hi
        repeat refine And.intro rfl ?_
        refine ⟨fun m l h => ∃ (q : Nat) , m = w.book.grants.length - q ∧ q ≤ w.book.grants.length ∧ (w.book.grants.all (safeG L b) = (w.book.grants.drop q).all (safeG L b)) ∧ l = [(3, .ptr 0 0), (5, .ptr 2 0), (7, .own 3), (9, .d (.int .i64 q))] ∧ h = ⟨[(3, .row 103 4 ((ruG b).map GateRule.e)), (2, .cells 64 (w.e.map .d)), (0, .cells 43 (L.e.map .d))], 4, 0⟩,
          ⟨_, _, _, ⟨0, rfl, Nat.zero_le _, rfl, rfl, rfl⟩, rfl, rfl, ⟨rfl, rfl, rfl, rfl, trivial⟩, (by repeat' first|exact rfl|exact trivial|refine And.intro ?_ ?_), (by repeat' first|exact rfl|exact trivial|refine And.intro ?_ ?_)⟩, ?_⟩
        rintro m l hh ⟨q, rfl, hq, hr, rfl, rfl⟩
        repeat refine And.intro rfl ?_
        refine And.intro (fun h4 => ?_) (fun h4 => ?_)
        · have hlt : q < w.book.grants.length := lt_map h4
          rw [all_step hlt] at hr
          repeat refine And.intro rfl ?_
          refine And.intro (by kernel_rfl) ?_
          repeat refine And.intro rfl ?_
          repeat refine And.intro rfl ?_
          refine ix_at (e := GateGrant.e) (xs := w.book.grants) (hlt) rfl ?_
          repeat refine And.intro rfl ?_
          repeat refine And.intro rfl ?_
          refine Or.inl (Exists.intro _ (And.intro (s_l4Lacks L.teams (ruG b) _) ?_))
          repeat refine And.intro rfl ?_
          refine And.intro (fun h5 => ?_) (fun h5 => ?_)
          · refine bd ?_
            rw [hr, safeG, nbt h5]; rfl
          · rw [safeG, nbf h5, Bool.true_and] at hr
            repeat refine And.intro rfl ?_
            refine ⟨_, _, _, ⟨q + 1, rfl, hlt, hr, rfl, rfl⟩, by omega, rfl, rfl, ?_, ?_, ?_⟩
            all_goals (repeat' first | exact rfl | exact trivial | exact nd (wrap_succ hlt hs2) | refine And.intro ?_ ?_)
        · refine bd ?_
          rw [hr, all_end (ge_map h4)]
  · refine bd ?_
    rw [safeF, nbt h1]; rfl
theorem i_GateSafe (L : GateLaw) (b : GateBook) (w : GateWorld) : Spec P 22 [st L.e, st b.e, st w.e] (.d (.bool (safeF L b w))) := by
  refine Spec.of_vc vcT vcM [.tmp 6] Tryz.func22 rfl rfl rfl rfl (fun hok => ?_)
  have hs := (ok_book ⟨hok.2.1, trivial⟩).2.1
  have hs2 := (ok_world ⟨hok.2.2.1, trivial⟩).1
  repeat refine And.intro rfl ?_
  refine Or.inl (Exists.intro _ (And.intro (i_GateBookOk L b) ?_))
  repeat refine And.intro rfl ?_
  refine And.intro (fun h1 => ?_) (fun h1 => ?_)
  · repeat refine And.intro rfl ?_
    refine Or.inl (Exists.intro _ (And.intro (i_GateWorldOk L w) ?_))
    repeat refine And.intro rfl ?_
    refine And.intro (fun h2 => ?_) (fun h2 => ?_)
    · refine bd ?_
      rw [safeF, nbf h1, nbt h2]; rfl
    · have h1 := nbf h1
      have h2 := nbf h2
      have e : safeF L b w = w.book.grants.all (safeG L b) := by rw [safeF, h1, h2]; rfl
      rw [e]
      clear e
      have hra : (ruG b).all ruleOk = true := by
        rw [List.all_eq_true]
        intro r hr
        obtain ⟨g, hg, rfl⟩ := List.mem_map.1 hr
        exact book_rule h1 g hg
      repeat refine And.intro rfl ?_
      refine ⟨fun m l h => ∃ (i : Nat), m = b.grants.length - i ∧ i ≤ b.grants.length ∧
          ((i = 0 ∧ l = [(3, .ptr 0 0), (5, .ptr 2 0), (7, .nils), (23, .d (lGateGrant b.grants)), (24, .d (.int .i64 (b.grants.map GateGrant.e).length)), (25, .d (.int .i64 i))] ∧ h = ⟨[(2, .cells 64 (w.e.map .d)), (0, .cells 43 (L.e.map .d))], 3, 0⟩) ∨
           (l = [(3, .ptr 0 0), (5, .ptr 2 0), (7, .own 4), (23, .d (lGateGrant b.grants)), (24, .d (.int .i64 (b.grants.map GateGrant.e).length)), (25, .d (.int .i64 i))] ∧ h = ⟨[(4, .row 103 4 (((b.grants.take i).map (·.rule)).map GateRule.e)), (2, .cells 64 (w.e.map .d)), (0, .cells 43 (L.e.map .d))], 5, 0⟩)),
        ⟨_, _, _, ⟨0, rfl, Nat.zero_le _, Or.inl ⟨rfl, rfl, rfl⟩⟩, rfl, rfl, ⟨rfl, rfl, rfl, rfl, rfl, rfl, trivial⟩, (by repeat' first|exact rfl|exact trivial|refine And.intro ?_ ?_), (by repeat' first|exact rfl|exact trivial|refine And.intro ?_ ?_)⟩, ?_⟩
      rintro m l hh ⟨i, rfl, hi, ⟨hz, rfl, rfl⟩ | ⟨rfl, rfl⟩⟩
      · repeat refine And.intro rfl ?_
        refine And.intro (fun h3 => ?_) (fun h3 => ?_)
        · have hlt : i < b.grants.length := lt_map h3
          repeat refine And.intro rfl ?_
          refine ix_at (e := GateGrant.e) (xs := b.grants) (hlt) rfl ?_
          repeat refine And.intro rfl ?_
          repeat refine And.intro rfl ?_
          refine And.intro (fun r hr => by rw [List.mem_singleton.1 hr]; rfl) ?_
          repeat refine And.intro rfl ?_
          refine And.intro (by simp only [List.length_nil, List.length_cons] at *; unfold big at *; omega) ?_
          repeat refine And.intro rfl ?_
          refine ⟨_, _, _, ⟨i + 1, rfl, hlt, Or.inr ⟨rfl, rfl⟩⟩, by omega, rfl, rfl, ?_, ?_, ?_⟩
          all_goals (repeat' first | exact rfl | exact trivial | exact nd (wrap_succ hlt hs) | (rw [← ru_take hlt, List.map_append]; subst hz; exact rfl) | refine And.intro ?_ ?_)
        · have hru : ([] : List GateRule) = ruG b := by
            have := ge_map h3
            rw [ruG, List.length_eq_zero_iff.1 (show b.grants.length = 0 by omega)]; rfl
          clear h3 hi
          repeat refine And.intro rfl ?_
          refine ⟨fun m l h => ∃ (q : Nat) , m = w.book.grants.length - q ∧ q ≤ w.book.grants.length ∧ (w.book.grants.all (safeG L b) = (w.book.grants.drop q).all (safeG L b)) ∧ l = [(3, .ptr 0 0), (5, .ptr 2 0), (7, .nils), (37, .d (lGateGrant w.book.grants)), (38, .d (.int .i64 (w.book.grants.map GateGrant.e).length)), (39, .d (.int .i64 q))] ∧ h = ⟨[ (2, .cells 64 (w.e.map .d)), (0, .cells 43 (L.e.map .d))], 3, 0⟩,
            ⟨_, _, _, ⟨0, rfl, Nat.zero_le _, rfl, rfl, rfl⟩, rfl, rfl, ⟨rfl, rfl, rfl, rfl, rfl, rfl, trivial⟩, (by repeat' first|exact rfl|exact trivial|refine And.intro ?_ ?_), (by repeat' first|exact rfl|exact trivial|refine And.intro ?_ ?_)⟩, ?_⟩
          rintro m l hh ⟨q, rfl, hq, hr, rfl, rfl⟩
          repeat refine And.intro rfl ?_
          refine And.intro (fun h4 => ?_) (fun h4 => ?_)
          · have hlt : q < w.book.grants.length := lt_map h4
            rw [all_step hlt] at hr
            repeat refine And.intro rfl ?_
            refine ix_at (e := GateGrant.e) (xs := w.book.grants) (hlt) rfl ?_
            repeat refine And.intro rfl ?_
            repeat refine And.intro rfl ?_
            refine Or.inl (Exists.intro _ (And.intro (i_GateCovers L.teams ([] : List GateRule) _) ?_))
            have hc : coverI L.teams ([] : List GateRule) w.book.grants[q].rule = safeG L b w.book.grants[q] := by
              unfold safeG
              rw [← hru]
              exact cover_eq (book_teams h1) (by rw [hru]; exact hra) (book_rule (world_book h2) _ (List.getElem_mem hlt))
            repeat refine And.intro rfl ?_
            refine And.intro (fun h5 => ?_) (fun h5 => ?_)
            · refine bd ?_
              rw [hr, ← hc, nbt h5]; rfl
            · rw [← hc, nbf h5, Bool.true_and] at hr
              repeat refine And.intro rfl ?_
              refine ⟨_, _, _, ⟨q + 1, rfl, hlt, hr, rfl, rfl⟩, by omega, rfl, rfl, ?_, ?_, ?_⟩
              all_goals (repeat' first | exact rfl | exact trivial | exact nd (wrap_succ hlt hs2) | refine And.intro ?_ ?_)
          · refine bd ?_
            rw [hr, all_end (ge_map h4)]
      · repeat refine And.intro rfl ?_
        refine And.intro (fun h3 => ?_) (fun h3 => ?_)
        · have hlt : i < b.grants.length := lt_map h3
          repeat refine And.intro rfl ?_
          refine ix_at (e := GateGrant.e) (xs := b.grants) (hlt) rfl ?_
          repeat refine And.intro rfl ?_
          repeat refine And.intro rfl ?_
          refine And.intro (fun r hr => by rw [List.mem_singleton.1 hr]; rfl) ?_
          repeat refine And.intro rfl ?_
          refine And.intro (by simp only [List.length_append, List.length_nil, List.length_cons, List.length_map, List.length_take] at *; unfold big at *; omega) ?_
          repeat refine And.intro rfl ?_
          refine ⟨_, _, _, ⟨i + 1, rfl, hlt, Or.inr ⟨rfl, rfl⟩⟩, by omega, rfl, rfl, ?_, ?_, ?_⟩
          all_goals (repeat' first | exact rfl | exact trivial | exact nd (wrap_succ hlt hs) | (rw [← ru_take hlt, List.map_append]; exact rfl) | refine And.intro ?_ ?_)
        · rw [ru_all (ge_map h3)]
          have hru : ruG b = ruG b := rfl
          clear h3 hi
          repeat refine And.intro rfl ?_
          refine ⟨fun m l h => ∃ (q : Nat) , m = w.book.grants.length - q ∧ q ≤ w.book.grants.length ∧ (w.book.grants.all (safeG L b) = (w.book.grants.drop q).all (safeG L b)) ∧ l = [(3, .ptr 0 0), (5, .ptr 2 0), (7, .own 4), (37, .d (lGateGrant w.book.grants)), (38, .d (.int .i64 (w.book.grants.map GateGrant.e).length)), (39, .d (.int .i64 q))] ∧ h = ⟨[(4, .row 103 4 ((ruG b).map GateRule.e)), (2, .cells 64 (w.e.map .d)), (0, .cells 43 (L.e.map .d))], 5, 0⟩,
            ⟨_, _, _, ⟨0, rfl, Nat.zero_le _, rfl, rfl, rfl⟩, rfl, rfl, ⟨rfl, rfl, rfl, rfl, rfl, rfl, trivial⟩, (by repeat' first|exact rfl|exact trivial|refine And.intro ?_ ?_), (by repeat' first|exact rfl|exact trivial|refine And.intro ?_ ?_)⟩, ?_⟩
          rintro m l hh ⟨q, rfl, hq, hr, rfl, rfl⟩
          repeat refine And.intro rfl ?_
          refine And.intro (fun h4 => ?_) (fun h4 => ?_)
          · have hlt : q < w.book.grants.length := lt_map h4
            rw [all_step hlt] at hr
            repeat refine And.intro rfl ?_
            refine ix_at (e := GateGrant.e) (xs := w.book.grants) (hlt) rfl ?_
            repeat refine And.intro rfl ?_
            repeat refine And.intro rfl ?_
            refine Or.inl (Exists.intro _ (And.intro (i_GateCovers L.teams (ruG b) _) ?_))
            have hc : coverI L.teams (ruG b) w.book.grants[q].rule = safeG L b w.book.grants[q] := by
              unfold safeG
              rw [← hru]
              exact cover_eq (book_teams h1) (by rw [hru]; exact hra) (book_rule (world_book h2) _ (List.getElem_mem hlt))
            repeat refine And.intro rfl ?_
            refine And.intro (fun h5 => ?_) (fun h5 => ?_)
            · refine bd ?_
              rw [hr, ← hc, nbt h5]; rfl
            · rw [← hc, nbf h5, Bool.true_and] at hr
              repeat refine And.intro rfl ?_
              refine ⟨_, _, _, ⟨q + 1, rfl, hlt, hr, rfl, rfl⟩, by omega, rfl, rfl, ?_, ?_, ?_⟩
              all_goals (repeat' first | exact rfl | exact trivial | exact nd (wrap_succ hlt hs2) | refine And.intro ?_ ?_)
          · refine bd ?_
            rw [hr, all_end (ge_map h4)]
  · refine bd ?_
    rw [safeF, nbt h1]; rfl
end Go.Vc
end
