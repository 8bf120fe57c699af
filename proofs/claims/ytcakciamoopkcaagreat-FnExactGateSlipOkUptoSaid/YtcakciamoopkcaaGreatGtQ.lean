/- Helpers of the contracts' proofs: indexing, loops, rows. -/
import Derived.Test.YtcakciamoopkcaaGreatGtA
import Derived.Test.YtcakciamoopkcaaGreatGtT
namespace Go.Vc
/-! ### indexing -/
theorem ix_at {α : Type} {e : α → List D} {xs : List α} {k sz : Nat} {K : List D → Prop} (hk : k < xs.length) (hs : (e xs[k]).length = sz) (h : K (e xs[k])) :
    (0 : Int) ≤ (k : Int) ∧ ∃ b, (xs.map e)[(k : Int).toNat]? = some b ∧ b.length = sz ∧ K b :=
  ⟨Int.natCast_nonneg k, e xs[k], by simp [hk], hs, h⟩
theorem getMap {α : Type} {e : α → List D} {xs : List α} {k : Nat} (hk : k < xs.length) : (xs.map e)[(k : Int).toNat]? = some (e xs[k]) := by simp [hk]
theorem ix_str {s : Bs} {k : Nat} {K : UInt8 → Prop} (hk : k < s.length) (h : K s[k]) : (0 : Int) ≤ (k : Int) ∧ ∃ b, s[(k : Int).toNat]? = some b ∧ K b :=
  ⟨Int.natCast_nonneg k, s[k], by simp [hk], h⟩
theorem ix_atw {α : Type} {e : α → List D} {xs : List α} {k sz : Nat} {j : Int} {K : List D → Prop} (hk : k < xs.length) (hj : j = (k : Int)) (hs : (e xs[k]).length = sz) (h : K (e xs[k])) :
    (0 : Int) ≤ j ∧ ∃ b, (xs.map e)[j.toNat]? = some b ∧ b.length = sz ∧ K b := by subst hj; exact ix_at hk hs h
theorem ix_str0 {s : Bs} {K : UInt8 → Prop} (hk : 0 < s.length) (h : K s[0]) : (0 : Int) ≤ 0 ∧ ∃ b, s[(0 : Int).toNat]? = some b ∧ K b :=
  ⟨Int.le_refl 0, s[0], by simp [hk], h⟩
theorem wrap_pred {k n : Nat} (h0 : 0 < k) (h : k < n) (hn : n ≤ big) : IntKind.i64.wrap ((k : Int) - 1) = ((k - 1 : Nat) : Int) := by
  unfold big at hn
  rw [IntKind.wrap_i64]
  omega
theorem wrap_succ {k n : Nat} (h : k < n) (hn : n ≤ big) : IntKind.i64.wrap ((k : Int) + 1) = ((k + 1 : Nat) : Int) := by
  unfold big at hn
  rw [IntKind.wrap_i64]
  omega
theorem bd {a b : Bool} (h : a = b) : AV.d (.bool a) = AV.d (.bool b) := by rw [h]
theorem nd {a b : Int} (h : a = b) : AV.d (.int .i64 a) = AV.d (.int .i64 b) := by rw [h]
theorem sd {a b : Bs} (h : a = b) : AV.d (.str a) = AV.d (.str b) := by rw [h]
theorem ld {a b : List (List D)} (h : a = b) : AV.d (.list a) = AV.d (.list b) := by rw [h]
theorem lt_of_dec {a b : Int} (h : decide (a < b) = true) : a < b := of_decide_eq_true h
theorem lt_map {α : Type} {e : α → List D} {xs : List α} {i : Nat} (h : decide ((i : Int) < ((xs.map e).length : Int)) = true) : i < xs.length := by
  have := of_decide_eq_true h
  rw [List.length_map] at this
  omega
theorem ge_map {α : Type} {e : α → List D} {xs : List α} {i : Nat} (h : decide ((i : Int) < ((xs.map e).length : Int)) = false) : xs.length ≤ i := by
  have := of_decide_eq_false h
  rw [List.length_map] at this
  omega
theorem lt_str {s : Bs} {i : Nat} (h : decide ((i : Int) < (s.length : Int)) = true) : i < s.length := by
  have := of_decide_eq_true h
  omega
theorem ge_str {s : Bs} {i : Nat} (h : decide ((i : Int) < (s.length : Int)) = false) : s.length ≤ i := by
  have := of_decide_eq_false h
  omega
theorem len_map {α : Type} {e : α → List D} {xs : List α} (h : (xs.map e).length ≤ big) : xs.length ≤ big := by rwa [List.length_map] at h

theorem mk_ok {α : Type} {e : α → List D} {xs : List α} (h : xs.length ≤ big) : (((xs.map e).length : Nat) : Int) ≤ (big : Int) := by rw [List.length_map]; omega

/-! ### sizes -/
def szB (a : Int) (k : Int → Int) : Int := bif decide (a < 0) then -1 else k a
def szL {α : Type} (m : α → Int → Int) : List α → Int → Int
  | [], n => n
  | x :: xs, n => szB (m x n) (szL m xs)
theorem szL_step {α : Type} {m : α → Int → Int} {xs : List α} {i : Nat} {v : Int} (h : i < xs.length) : szL m (xs.drop i) v = szB (m xs[i] v) (szL m (xs.drop (i + 1))) := by
  rw [List.drop_eq_getElem_cons h]; rfl

/-! ### a row filled from its begin on -/
def rowsAt {α : Type} (e : α → List D) (xs : List α) (z : List D) (i : Nat) : List (List D) := (xs.take i).map e ++ List.replicate (xs.length - i) z
section
variable {α : Type} {e : α → List D} {xs : List α} {z : List D} {i : Nat}
theorem rowsAt_len (hi : i ≤ xs.length) : (rowsAt e xs z i).length = xs.length := by
  simp only [rowsAt, List.length_append, List.length_map, List.length_take, List.length_replicate]; omega
theorem rowsAt_start {t n : Nat} : some (AO.row t n (List.replicate ((((xs.map e).length : Nat) : Int)).toNat z)) = some (AO.row t n (rowsAt e xs z 0)) := by
  simp [rowsAt]
theorem rowsAt_get (hi : i < xs.length) : (rowsAt e xs z i)[i]? = some z := by
  unfold rowsAt
  rw [List.getElem?_append_right (by simp [Nat.min_le_left]), List.getElem?_replicate, if_pos (by simp; omega)]
theorem rowsAt_set {t n : Nat} (hi : i < xs.length) (hz : (e xs[i]).length = z.length) :
    some (AO.row t n ((rowsAt e xs z i).set i (overD z 0 (e xs[i])))) = some (AO.row t n (rowsAt e xs z (i + 1))) := by
  congr 2
  unfold rowsAt overD
  simp only [List.take_zero, List.nil_append, Nat.zero_add]
  rw [hz, List.drop_length, List.append_nil, List.set_append_right _ _ (by simp [Nat.min_le_left]), List.length_map, List.length_take, Nat.min_eq_left (by omega), Nat.sub_self]
  rw [show xs.length - i = (xs.length - (i + 1)) + 1 from by omega, List.replicate_succ, List.set_cons_zero]
  rw [List.take_succ_eq_append_getElem hi, List.map_append]
  simp
theorem rowsAt_end (h : xs.length ≤ i) (hi : i ≤ xs.length) : rowsAt e xs z i = xs.map e := by
  unfold rowsAt
  rw [List.take_of_length_le h, show xs.length - i = 0 from by omega]
  simp
end
theorem all_step {α : Type} {p : α → Bool} {s : List α} {i : Nat} (h : i < s.length) : (s.drop i).all p = (p s[i] && (s.drop (i + 1)).all p) := by
  rw [List.drop_eq_getElem_cons h, List.all_cons]
theorem all_end {α : Type} {p : α → Bool} {s : List α} {i : Nat} (h : s.length ≤ i) : (s.drop i).all p = true := by
  rw [List.drop_of_length_le h]; rfl
theorem any_step {α : Type} {p : α → Bool} {s : List α} {i : Nat} (h : i < s.length) : (s.drop i).any p = (p s[i] || (s.drop (i + 1)).any p) := by
  rw [List.drop_eq_getElem_cons h, List.any_cons]
theorem any_end {α : Type} {p : α → Bool} {s : List α} {i : Nat} (h : s.length ≤ i) : (s.drop i).any p = false := by
  rw [List.drop_of_length_le h]; rfl
end Go.Vc
