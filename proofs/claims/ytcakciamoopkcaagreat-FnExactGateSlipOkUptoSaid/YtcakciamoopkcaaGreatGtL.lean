/- Contracts: teams. -/
import Derived.Test.YtcakciamoopkcaaGreatGtK
namespace Go.Vc
open Go.Proofs
set_option maxRecDepth 100000
set_option pp.maxSteps 400
set_option pp.deepTerms false
set_option linter.unusedSimpArgs false
set_option linter.unusedVariables false
/-- the team over a team -/
def overF (n : Bs) : List GateTeam → Bs
  | [] => []
  | t :: ts => bif t.name == n then t.over else overF n ts
theorem overF_step {n : Bs} {xs : List GateTeam} {i : Nat} (h : i < xs.length) : overF n (xs.drop i) = bif xs[i].name == n then xs[i].over else overF n (xs.drop (i + 1)) := by
  rw [List.drop_eq_getElem_cons h]; rfl
theorem overF_end {n : Bs} {xs : List GateTeam} {i : Nat} (h : xs.length ≤ i) : overF n (xs.drop i) = [] := by
  rw [List.drop_of_length_le h]; rfl
theorem s_l4Over (xs : List GateTeam) (s : Bs) : Spec P 64 [.d (lGateTeam xs), .d (.str s)] (.d (.str (overF s xs))) := by
  refine Spec.of_vc vcT vcM [.tmp 4] Tryz.func64 rfl rfl rfl rfl (fun hok => ?_)
  have hs : xs.length ≤ big := len_map hok.1.1
  repeat refine And.intro rfl ?_
  refine ⟨fun m l h => ∃ (i : Nat) , m = xs.length - i ∧ i ≤ xs.length ∧ (overF s xs = overF s (xs.drop i)) ∧ l = [(0, .d (lGateTeam xs)), (1, .d (.str s)), (5, .d (.int .i64 i))] ∧ h = hp0,
    ⟨_, _, _, ⟨0, rfl, Nat.zero_le _, rfl, rfl, rfl⟩, rfl, rfl, ⟨rfl, rfl, rfl, trivial⟩, trivial, trivial⟩, ?_⟩
  rintro m l hh ⟨i, rfl, hi, hr, rfl, rfl⟩
  repeat refine And.intro rfl ?_
  refine And.intro (fun h1 => ?_) (fun h1 => ?_)
  · have hlt : i < xs.length := lt_map h1
    repeat refine And.intro rfl ?_
    refine ix_at (e := GateTeam.e) (xs := xs) (hlt) rfl ?_
    repeat refine And.intro rfl ?_
    rw [overF_step hlt] at hr
    repeat refine And.intro rfl ?_
    refine And.intro (fun h2 => ?_) (fun h2 => ?_)
    · repeat refine And.intro rfl ?_
      refine ix_at (e := GateTeam.e) (xs := xs) (hlt) rfl ?_
      repeat refine And.intro rfl ?_
      refine sd ?_
      rw [hr, h2]; rfl
    · repeat refine And.intro rfl ?_
      exact ⟨_, _, _, ⟨i + 1, rfl, hlt, by rw [hr, h2]; rfl, rfl, rfl⟩, by omega, rfl, rfl, ⟨rfl, rfl, nd (wrap_succ hlt hs), trivial⟩, trivial, trivial⟩
  · refine sd ?_
    rw [hr, overF_end (ge_map h1)]
theorem s_l4Team (xs : List GateTeam) (s : Bs) : Spec P 63 [.d (lGateTeam xs), .d (.str s)] (.d (.bool (xs.any (·.name == s)))) := by
  refine Spec.of_vc vcT vcM [.tmp 4] Tryz.func63 rfl rfl rfl rfl (fun hok => ?_)
  have hs : xs.length ≤ big := len_map hok.1.1
  repeat refine And.intro rfl ?_
  refine ⟨fun m l h => ∃ (i : Nat) , m = xs.length - i ∧ i ≤ xs.length ∧ (xs.any (·.name == s) = (xs.drop i).any (·.name == s)) ∧ l = [(0, .d (lGateTeam xs)), (1, .d (.str s)), (5, .d (.int .i64 i))] ∧ h = hp0,
    ⟨_, _, _, ⟨0, rfl, Nat.zero_le _, rfl, rfl, rfl⟩, rfl, rfl, ⟨rfl, rfl, rfl, trivial⟩, trivial, trivial⟩, ?_⟩
  rintro m l hh ⟨i, rfl, hi, hr, rfl, rfl⟩
  repeat refine And.intro rfl ?_
  refine And.intro (fun h1 => ?_) (fun h1 => ?_)
  · have hlt : i < xs.length := lt_map h1
    repeat refine And.intro rfl ?_
    refine ix_at (e := GateTeam.e) (xs := xs) (hlt) rfl ?_
    repeat refine And.intro rfl ?_
    rw [any_step hlt] at hr
    repeat refine And.intro rfl ?_
    refine And.intro (fun h2 => ?_) (fun h2 => ?_)
    · refine bd ?_
      rw [hr, h2]; rfl
    · repeat refine And.intro rfl ?_
      exact ⟨_, _, _, ⟨i + 1, rfl, hlt, by rw [hr, h2]; rfl, rfl, rfl⟩, by omega, rfl, rfl, ⟨rfl, rfl, nd (wrap_succ hlt hs), trivial⟩, trivial, trivial⟩
  · refine bd ?_
    rw [hr, any_end (ge_map h1)]
/-! ### chains of teams -/
def upN (xs : List GateTeam) : Nat → Bs → Bs
  | 0, a => a
  | k + 1, a => bif a == [] then a else upN xs k (overF a xs)
theorem upN_nil (xs : List GateTeam) : ∀ k, upN xs k [] = []
  | 0 => rfl
  | _ + 1 => rfl
def teamsOk (xs : List GateTeam) : Bool := !decide ((xs.length : Int) > 12) &&
  ((ascK (·.name) none xs && xs.all (fun t => t.over == [] || xs.any (·.name == t.over))) && xs.all (fun t => upN xs 4 t.over == []))
theorem overF_idx : ∀ {xs : List GateTeam} {n : Bs} {k j : Nat}, idxBy (·.name == n) xs k = ((k + j : Nat) : Int) → ∃ h : j < xs.length, overF n xs = xs[j].over
  | [], n, k, j, h => by simp only [idxBy] at h; omega
  | x :: xs, n, k, j, h => by
    simp only [idxBy] at h
    cases hx : x.name == n with
    | true =>
      rw [hx] at h
      simp only [cond_true] at h
      obtain rfl : j = 0 := by omega
      exact ⟨by simp, by simp [overF, hx]⟩
    | false =>
      rw [hx] at h
      simp only [cond_false] at h
      cases j with
      | zero =>
        rcases idxBy_spec (p := fun t : GateTeam => t.name == n) xs (k + 1) with ⟨h1, _⟩ | ⟨j, _, h1, _⟩
        · rw [h1] at h; omega
        · rw [h1] at h; omega
      | succ j =>
        obtain ⟨h1, h2⟩ := overF_idx (n := n) (k := k + 1) (j := j) (by rw [h]; congr 1; omega)
        exact ⟨by simp; omega, by simp only [overF, hx, cond_false, h2, List.getElem_cons_succ]⟩
/-! ### the order of texts -/
theorem bl_irr : ∀ x : Bs, Op.bytesLess x x = false
  | [] => rfl
  | a :: x => by
    simp only [Op.bytesLess, bl_irr x, Bool.and_false, Bool.or_false]
    exact decide_eq_false (by rw [UInt8.lt_iff_toNat_lt]; omega)
theorem bl_trans : ∀ {x y z : Bs}, Op.bytesLess x y = true → Op.bytesLess y z = true → Op.bytesLess x z = true
  | _, _, [], _, h => by cases ‹Bs› <;> simp [Op.bytesLess] at h
  | _, [], _ :: _, h, _ => by cases ‹Bs› <;> simp [Op.bytesLess] at h
  | [], _ :: _, _ :: _, _, _ => rfl
  | a :: x, b :: y, c :: z, h1, h2 => by
    simp only [Op.bytesLess, Bool.or_eq_true, Bool.and_eq_true, decide_eq_true_eq, beq_iff_eq, UInt8.lt_iff_toNat_lt] at h1 h2 ⊢
    rcases h1 with h1 | ⟨rfl, h1⟩
    · rcases h2 with h2 | ⟨rfl, h2⟩
      · exact .inl (by omega)
      · exact .inl h1
    · rcases h2 with h2 | ⟨rfl, h2⟩
      · exact .inl h2
      · exact .inr ⟨rfl, bl_trans h1 h2⟩
theorem asc_head {α : Type} {key : α → Bs} : ∀ {xs : List α} {q : Bs}, ascK key (some q) xs = true → ∀ y ∈ xs, Op.bytesLess q (key y) = true
  | [], _, _, y, hy => by cases hy
  | x :: xs, q, h, y, hy => by
    simp only [ascK, lessO, Bool.and_eq_true] at h
    rcases List.mem_cons.1 hy with rfl | hy
    · exact h.1.2
    · exact bl_trans h.1.2 (asc_head h.2 y hy)
theorem overF_asc : ∀ {xs : List GateTeam} {p : Option Bs}, ascK (·.name) p xs = true → ∀ t ∈ xs, overF t.name xs = t.over
  | [], _, _, t, ht => by cases ht
  | x :: xs, p, h, t, ht => by
    simp only [ascK, Bool.and_eq_true] at h
    simp only [overF]
    rcases List.mem_cons.1 ht with rfl | ht
    · simp
    · have hl := asc_head h.2 t ht
      have : (x.name == t.name) = false := by
        cases e : x.name == t.name with
        | false => rfl
        | true =>
          have := beq_iff_eq.1 e
          rw [this, bl_irr] at hl
          cases hl
      rw [this]
      exact overF_asc h.2 t ht
end Go.Vc
