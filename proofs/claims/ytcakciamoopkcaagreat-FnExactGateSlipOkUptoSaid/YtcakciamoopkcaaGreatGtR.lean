/- Data of a type of the laws is a structure, printed by genlaws.py. -/
import Derived.Test.YtcakciamoopkcaaGreatGtr
namespace Go.Vc
open Go.Proofs
set_option maxRecDepth 100000
set_option linter.unusedSimpArgs false
set_option linter.unusedVariables false
theorem rows_un {α : Type} {e : α → List D} : ∀ {rows : List (List D)}, (∀ r ∈ rows, ∃ x, r = e x) → ∃ xs : List α, rows = xs.map e
  | [], _ => ⟨[], rfl⟩
  | r :: rs, h => by
    obtain ⟨x, hx⟩ := h r List.mem_cons_self
    obtain ⟨xs, hxs⟩ := rows_un fun r hr => h r (List.mem_cons_of_mem _ hr)
    exact ⟨x :: xs, by rw [hx, hxs]; rfl⟩
theorem un_slice {α : Type} {e : α → List D} {P : Program} {n : Nat} {t u : TypeId} {ds : List D} (hu : P.underlying t = some (.slice u)) (he : ∀ {n : Nat} {ds : List D}, Shape P n u ds → ∃ x, ds = e x) (h : Shape P n t ds) : ∃ xs : List α, ds = [.list (xs.map e)] := by
  cases n with
  | zero => exact h.elim
  | succ n =>
    unfold Shape at h
    rw [hu] at h
    obtain ⟨rows, rfl, hr⟩ := h
    obtain ⟨xs, hxs⟩ := rows_un fun r hrr => he (hr r hrr)
    exact ⟨xs, by rw [hxs]⟩
theorem un_int {n : Nat} {ds : List D} (h : Shape P n 3 ds) : ∃ x : Int, ds = eN x := by
  cases n with
  | zero => exact h.elim
  | succ n =>
    unfold Shape at h
    rw [show P.underlying 3 = some (.int .i64) from by kernel_rfl] at h
    exact h
theorem un_string {n : Nat} {ds : List D} (h : Shape P n 9 ds) : ∃ x : Bs, ds = eB x := by
  cases n with
  | zero => exact h.elim
  | succ n =>
    unfold Shape at h
    rw [show P.underlying 9 = some .string from by kernel_rfl] at h
    exact h
theorem un_bool {n : Nat} {ds : List D} (h : Shape P n 4 ds) : ∃ x : Bool, ds = [.bool x] := by
  cases n with
  | zero => exact h.elim
  | succ n =>
    unfold Shape at h
    rw [show P.underlying 4 = some .bool from by kernel_rfl] at h
    exact h
theorem un_GateField {n : Nat} {ds : List D} (h : Shape P n 139 ds) : ∃ x : GateField, ds = x.e := by
  cases n with
  | zero => exact h.elim
  | succ n =>
    have h := shape_fields (P := P) (t := 139) (ts := [9, 3, 3, 3, 27, 9, 3, 4, 4, 9, 9]) (by kernel_rfl) h
    simp only [ShapeFs] at h
    obtain ⟨a0, b0, rfl, h0, ⟨a1, b1, rfl, h1, ⟨a2, b2, rfl, h2, ⟨a3, b3, rfl, h3, ⟨a4, b4, rfl, h4, ⟨a5, b5, rfl, h5, ⟨a6, b6, rfl, h6, ⟨a7, b7, rfl, h7, ⟨a8, b8, rfl, h8, ⟨a9, b9, rfl, h9, ⟨a10, b10, rfl, h10, rfl⟩⟩⟩⟩⟩⟩⟩⟩⟩⟩⟩ := h
    obtain ⟨x0, rfl⟩ := un_string h0
    obtain ⟨x1, rfl⟩ := un_int h1
    obtain ⟨x2, rfl⟩ := un_int h2
    obtain ⟨x3, rfl⟩ := un_int h3
    obtain ⟨x4, rfl⟩ := (un_slice (e := eB) (show P.underlying 27 = some (.slice 9) from by kernel_rfl) un_string) h4
    obtain ⟨x5, rfl⟩ := un_string h5
    obtain ⟨x6, rfl⟩ := un_int h6
    obtain ⟨x7, rfl⟩ := un_bool h7
    obtain ⟨x8, rfl⟩ := un_bool h8
    obtain ⟨x9, rfl⟩ := un_string h9
    obtain ⟨x10, rfl⟩ := un_string h10
    exact ⟨⟨x0, x1, x2, x3, x4, x5, x6, x7, x8, x9, x10⟩, rfl⟩
theorem un_GateShape {n : Nat} {ds : List D} (h : Shape P n 78 ds) : ∃ x : GateShape, ds = x.e := by
  cases n with
  | zero => exact h.elim
  | succ n =>
    have h := shape_fields (P := P) (t := 78) (ts := [9, 76]) (by kernel_rfl) h
    simp only [ShapeFs] at h
    obtain ⟨a0, b0, rfl, h0, ⟨a1, b1, rfl, h1, rfl⟩⟩ := h
    obtain ⟨x0, rfl⟩ := un_string h0
    obtain ⟨x1, rfl⟩ := (un_slice (e := GateField.e) (show P.underlying 76 = some (.slice 139) from by kernel_rfl) un_GateField) h1
    exact ⟨⟨x0, x1⟩, rfl⟩
theorem un_GateMend {n : Nat} {ds : List D} (h : Shape P n 81 ds) : ∃ x : GateMend, ds = x.e := by
  cases n with
  | zero => exact h.elim
  | succ n =>
    have h := shape_fields (P := P) (t := 81) (ts := [9, 9, 9, 9, 9, 9]) (by kernel_rfl) h
    simp only [ShapeFs] at h
    obtain ⟨a0, b0, rfl, h0, ⟨a1, b1, rfl, h1, ⟨a2, b2, rfl, h2, ⟨a3, b3, rfl, h3, ⟨a4, b4, rfl, h4, ⟨a5, b5, rfl, h5, rfl⟩⟩⟩⟩⟩⟩ := h
    obtain ⟨x0, rfl⟩ := un_string h0
    obtain ⟨x1, rfl⟩ := un_string h1
    obtain ⟨x2, rfl⟩ := un_string h2
    obtain ⟨x3, rfl⟩ := un_string h3
    obtain ⟨x4, rfl⟩ := un_string h4
    obtain ⟨x5, rfl⟩ := un_string h5
    exact ⟨⟨x0, x1, x2, x3, x4, x5⟩, rfl⟩
theorem un_GateTeam {n : Nat} {ds : List D} (h : Shape P n 84 ds) : ∃ x : GateTeam, ds = x.e := by
  cases n with
  | zero => exact h.elim
  | succ n =>
    have h := shape_fields (P := P) (t := 84) (ts := [9, 9]) (by kernel_rfl) h
    simp only [ShapeFs] at h
    obtain ⟨a0, b0, rfl, h0, ⟨a1, b1, rfl, h1, rfl⟩⟩ := h
    obtain ⟨x0, rfl⟩ := un_string h0
    obtain ⟨x1, rfl⟩ := un_string h1
    exact ⟨⟨x0, x1⟩, rfl⟩
theorem un_GateLaw {n : Nat} {ds : List D} (h : Shape P n 26 ds) : ∃ x : GateLaw, ds = x.e := by
  cases n with
  | zero => exact h.elim
  | succ n =>
    have h := shape_fields (P := P) (t := 26) (ts := [22, 23, 24]) (by kernel_rfl) h
    simp only [ShapeFs] at h
    obtain ⟨a0, b0, rfl, h0, ⟨a1, b1, rfl, h1, ⟨a2, b2, rfl, h2, rfl⟩⟩⟩ := h
    obtain ⟨x0, rfl⟩ := (un_slice (e := GateShape.e) (show P.underlying 22 = some (.slice 78) from by kernel_rfl) un_GateShape) h0
    obtain ⟨x1, rfl⟩ := (un_slice (e := GateMend.e) (show P.underlying 23 = some (.slice 81) from by kernel_rfl) un_GateMend) h1
    obtain ⟨x2, rfl⟩ := (un_slice (e := GateTeam.e) (show P.underlying 24 = some (.slice 84) from by kernel_rfl) un_GateTeam) h2
    exact ⟨⟨x0, x1, x2⟩, rfl⟩
theorem un_GateRule {n : Nat} {ds : List D} (h : Shape P n 30 ds) : ∃ x : GateRule, ds = x.e := by
  cases n with
  | zero => exact h.elim
  | succ n =>
    have h := shape_fields (P := P) (t := 30) (ts := [28, 9, 9, 9]) (by kernel_rfl) h
    simp only [ShapeFs] at h
    obtain ⟨a0, b0, rfl, h0, ⟨a1, b1, rfl, h1, ⟨a2, b2, rfl, h2, ⟨a3, b3, rfl, h3, rfl⟩⟩⟩⟩ := h
    obtain ⟨x0, rfl⟩ := (un_slice (e := eN) (show P.underlying 28 = some (.slice 3) from by kernel_rfl) un_int) h0
    obtain ⟨x1, rfl⟩ := un_string h1
    obtain ⟨x2, rfl⟩ := un_string h2
    obtain ⟨x3, rfl⟩ := un_string h3
    exact ⟨⟨x0, x1, x2, x3⟩, rfl⟩
theorem un_GateAsk {n : Nat} {ds : List D} (h : Shape P n 32 ds) : ∃ x : GateAsk, ds = x.e := by
  cases n with
  | zero => exact h.elim
  | succ n =>
    have h := shape_fields (P := P) (t := 32) (ts := [9, 3, 9, 9, 9, 27, 27, 3, 9, 9, 30, 3]) (by kernel_rfl) h
    simp only [ShapeFs] at h
    obtain ⟨a0, b0, rfl, h0, ⟨a1, b1, rfl, h1, ⟨a2, b2, rfl, h2, ⟨a3, b3, rfl, h3, ⟨a4, b4, rfl, h4, ⟨a5, b5, rfl, h5, ⟨a6, b6, rfl, h6, ⟨a7, b7, rfl, h7, ⟨a8, b8, rfl, h8, ⟨a9, b9, rfl, h9, ⟨a10, b10, rfl, h10, ⟨a11, b11, rfl, h11, rfl⟩⟩⟩⟩⟩⟩⟩⟩⟩⟩⟩⟩ := h
    obtain ⟨x0, rfl⟩ := un_string h0
    obtain ⟨x1, rfl⟩ := un_int h1
    obtain ⟨x2, rfl⟩ := un_string h2
    obtain ⟨x3, rfl⟩ := un_string h3
    obtain ⟨x4, rfl⟩ := un_string h4
    obtain ⟨x5, rfl⟩ := (un_slice (e := eB) (show P.underlying 27 = some (.slice 9) from by kernel_rfl) un_string) h5
    obtain ⟨x6, rfl⟩ := (un_slice (e := eB) (show P.underlying 27 = some (.slice 9) from by kernel_rfl) un_string) h6
    obtain ⟨x7, rfl⟩ := un_int h7
    obtain ⟨x8, rfl⟩ := un_string h8
    obtain ⟨x9, rfl⟩ := un_string h9
    obtain ⟨x10, rfl⟩ := un_GateRule h10
    obtain ⟨x11, rfl⟩ := un_int h11
    exact ⟨⟨x0, x1, x2, x3, x4, x5, x6, x7, x8, x9, x10, x11⟩, rfl⟩
theorem un_GateWant {n : Nat} {ds : List D} (h : Shape P n 88 ds) : ∃ x : GateWant, ds = x.e := by
  cases n with
  | zero => exact h.elim
  | succ n =>
    have h := shape_fields (P := P) (t := 88) (ts := [9, 9, 3]) (by kernel_rfl) h
    simp only [ShapeFs] at h
    obtain ⟨a0, b0, rfl, h0, ⟨a1, b1, rfl, h1, ⟨a2, b2, rfl, h2, rfl⟩⟩⟩ := h
    obtain ⟨x0, rfl⟩ := un_string h0
    obtain ⟨x1, rfl⟩ := un_string h1
    obtain ⟨x2, rfl⟩ := un_int h2
    exact ⟨⟨x0, x1, x2⟩, rfl⟩
theorem un_GateSlip {n : Nat} {ds : List D} (h : Shape P n 35 ds) : ∃ x : GateSlip, ds = x.e := by
  cases n with
  | zero => exact h.elim
  | succ n =>
    have h := shape_fields (P := P) (t := 35) (ts := [9, 32, 3, 33]) (by kernel_rfl) h
    simp only [ShapeFs] at h
    obtain ⟨a0, b0, rfl, h0, ⟨a1, b1, rfl, h1, ⟨a2, b2, rfl, h2, ⟨a3, b3, rfl, h3, rfl⟩⟩⟩⟩ := h
    obtain ⟨x0, rfl⟩ := un_string h0
    obtain ⟨x1, rfl⟩ := un_GateAsk h1
    obtain ⟨x2, rfl⟩ := un_int h2
    obtain ⟨x3, rfl⟩ := (un_slice (e := GateWant.e) (show P.underlying 33 = some (.slice 88) from by kernel_rfl) un_GateWant) h3
    exact ⟨⟨x0, x1, x2, x3⟩, rfl⟩
end Go.Vc
