/- What the functions compute. No program, no memory. -/
import Derived.Test.YtcakciamoopkcaaGreatGtQ
namespace Go.Vc
/-! ### names and numbers -/
def nmByte (c : UInt8) : Bool := (decide ((c.toNat : Int) ≥ 97) && decide ((c.toNat : Int) ≤ 122)) || (decide ((c.toNat : Int) ≥ 48) && decide ((c.toNat : Int) ≤ 57)) || ((c.toNat : Int) == 45)
def nameOk (s : Bs) : Bool := decide (1 ≤ s.length) && (decide (s.length ≤ 16) && s.all nmByte)
def inR (n a b : Int) : Bool := decide (n ≥ a) && decide (n ≤ b)
theorem nameOk_no {s : Bs} (h : (!inR (s.length : Int) 1 16) = true) : false = nameOk s := by
  simp only [inR, Bool.not_eq_true', Bool.and_eq_false_iff, decide_eq_false_iff_not] at h
  unfold nameOk
  rcases h with h | h
  · rw [decide_eq_false (by omega)]; rfl
  · rw [decide_eq_false (p := s.length ≤ 16) (by omega)]; simp
theorem nameOk_yes {s : Bs} (h : (!inR (s.length : Int) 1 16) = false) : nameOk s = (s.drop 0).all nmByte := by
  simp only [inR, Bool.not_eq_false', Bool.and_eq_true, decide_eq_true_eq] at h
  unfold nameOk
  rw [decide_eq_true (by omega), decide_eq_true (p := s.length ≤ 16) (by omega)]
  rfl

/-! ### ascending lists -/
def lessO : Option Bs → Bs → Bool
  | none, _ => true
  | some q, x => Op.bytesLess q x
def ascK {α : Type} (key : α → Bs) : Option Bs → List α → Bool
  | _, [] => true
  | p, x :: xs => (nameOk (key x) && lessO p (key x)) && ascK key (some (key x)) xs
def prevK {α : Type} (key : α → Bs) (xs : List α) : Nat → Option Bs
  | 0 => none
  | j + 1 => (xs[j]?).map key
section
variable {α : Type} {key : α → Bs} {xs : List α} {i : Nat}
theorem asc_step (h : i < xs.length) : ascK key (prevK key xs i) (xs.drop i) = ((nameOk (key xs[i]) && lessO (prevK key xs i) (key xs[i])) && ascK key (prevK key xs (i + 1)) (xs.drop (i + 1))) := by
  rw [List.drop_eq_getElem_cons h]
  simp only [ascK, prevK, List.getElem?_eq_getElem h, Option.map_some]
theorem asc_end {p : Option Bs} (h : xs.length ≤ i) : ascK key p (xs.drop i) = true := by
  rw [List.drop_of_length_le h]; rfl
theorem asc_name (h : i < xs.length) (hn : (!nameOk (key xs[i])) = true) : false = ascK key (prevK key xs i) (xs.drop i) := by
  rw [asc_step h, show nameOk (key xs[i]) = false from by simpa using hn]; rfl
theorem asc_less (h : i < xs.length) (h0 : 0 < i) (hn : (!Op.bytesLess (key (xs[i - 1]'(by omega))) (key xs[i])) = true) : false = ascK key (prevK key xs i) (xs.drop i) := by
  obtain ⟨j, rfl⟩ : ∃ j, i = j + 1 := ⟨i - 1, by omega⟩
  rw [asc_step h]
  have : lessO (prevK key xs (j + 1)) (key xs[j + 1]) = false := by
    simp only [prevK, List.getElem?_eq_getElem (show j < xs.length by omega), Option.map_some, lessO]
    simpa using hn
  rw [this]; simp
theorem asc_ok (h : i < xs.length) (hn : (!nameOk (key xs[i])) = false) (hl : i = 0 ∨ ∃ h0 : 0 < i, (!Op.bytesLess (key (xs[i - 1]'(by omega))) (key xs[i])) = false) :
    ascK key (prevK key xs i) (xs.drop i) = ascK key (prevK key xs (i + 1)) (xs.drop (i + 1)) := by
  rw [asc_step h, show nameOk (key xs[i]) = true from by simpa using hn]
  rcases hl with rfl | ⟨h0, hl⟩
  · rfl
  · obtain ⟨j, rfl⟩ : ∃ j, i = j + 1 := ⟨i - 1, by omega⟩
    have : lessO (prevK key xs (j + 1)) (key xs[j + 1]) = true := by
      simp only [prevK, List.getElem?_eq_getElem (show j < xs.length by omega), Option.map_some, lessO]
      simpa using hl
    rw [this]; rfl
end
def asc (xs : List Bs) : Bool := ascK id none xs
theorem gt0 {i : Nat} (h : decide ((i : Int) > 0) = true) : 0 < i := by have := of_decide_eq_true h; omega
theorem le0 {i : Nat} (h : decide ((i : Int) > 0) = false) : i = 0 := by have := of_decide_eq_false h; omega

/-! ### decimals -/
def numAcc (n : Int) : Bs → Option Int
  | [] => some n
  | c :: s => bif (decide ((c.toNat : Int) < 48) || decide ((c.toNat : Int) > 57)) then none else numAcc (n * 10 + (c.toNat : Int) - 48) s
def numOf (s : Bs) : Option Int := bif (!inR (s.length : Int) 1 7 || (decide ((s.length : Int) > 1) && ((s.headD 0).toNat : Int) == 48)) then none else numAcc 0 s
theorem numAcc_step {s : Bs} {i : Nat} {n : Int} (h : i < s.length) : numAcc n (s.drop i) = bif (decide ((s[i].toNat : Int) < 48) || decide ((s[i].toNat : Int) > 57)) then none else numAcc (n * 10 + (s[i].toNat : Int) - 48) (s.drop (i + 1)) := by
  rw [List.drop_eq_getElem_cons h]; rfl
theorem numAcc_end {s : Bs} {i : Nat} {n : Int} (h : s.length ≤ i) : numAcc n (s.drop i) = some n := by
  rw [List.drop_of_length_le h]; rfl
/-- the accumulator stays small -/
theorem num_room {n : Int} {i : Nat} {c : UInt8} (hn : 0 ≤ n ∧ n < 10 ^ i) (hi : i < 7) (h1 : decide ((c.toNat : Int) < 48) = false) (h2 : decide ((c.toNat : Int) > 57) = false) :
    IntKind.i64.wrap (IntKind.i64.wrap (IntKind.i64.wrap (n * 10) + IntKind.i64.wrap (c.toNat : Int)) - 48) = n * 10 + (c.toNat : Int) - 48 ∧ 0 ≤ n * 10 + (c.toNat : Int) - 48 ∧ n * 10 + (c.toNat : Int) - 48 < 10 ^ (i + 1) := by
  have h1 := of_decide_eq_false h1
  have h2 := of_decide_eq_false h2
  have hp : (10 : Int) ^ (i + 1) = 10 ^ i * 10 := by rw [Int.pow_succ]
  have hle : (10 : Int) ^ i ≤ 10 ^ 6 := by
    have : (10 : Nat) ^ i ≤ 10 ^ 6 := Nat.pow_le_pow_right (by decide) (by omega)
    have h3 : ((10 ^ i : Nat) : Int) ≤ ((10 ^ 6 : Nat) : Int) := Int.ofNat_le.2 this
    simpa using h3
  simp only [IntKind.wrap_i64]
  generalize (10 : Int) ^ i = p at *
  refine ⟨by omega, by omega, by omega⟩
theorem num_small {s : Bs} (h : (!inR (s.length : Int) 1 7) = false) : 0 < s.length ∧ s.length ≤ 7 := by
  simp only [inR, Bool.not_eq_false', Bool.and_eq_true, decide_eq_true_eq] at h
  omega
theorem headD_eq {s : Bs} (h : 0 < s.length) : s.headD 0 = s[0] := by
  cases s with
  | nil => simp at h
  | cons a s => rfl
theorem numAcc_nonneg : ∀ {s : Bs} {n m : Int}, 0 ≤ n → numAcc n s = some m → 0 ≤ m
  | [], n, m, hn, h => by simp only [numAcc, Option.some.injEq] at h; omega
  | c :: s, n, m, hn, h => by
    simp only [numAcc] at h
    cases hc : (decide ((c.toNat : Int) < 48) || decide ((c.toNat : Int) > 57))
    · rw [hc] at h
      simp only [Bool.or_eq_false_iff, decide_eq_false_iff_not] at hc
      exact numAcc_nonneg (by omega) h
    · rw [hc] at h; cases h
theorem numOf_nonneg {s : Bs} {m : Int} (h : numOf s = some m) : 0 ≤ m := by
  unfold numOf at h
  generalize (!inR (s.length : Int) 1 7 || (decide ((s.length : Int) > 1) && ((s.headD 0).toNat : Int) == 48)) = b at h
  cases b
  · exact numAcc_nonneg (Int.le_refl 0) h
  · cases h
def numF (s : Bs) : Int := match numOf s with | some n => n | none => -1
def numD (s : Bs) : Int := match numOf s with | some n => n | none => 0
theorem numOf_no {s : Bs} (h : (!inR (s.length : Int) 1 7) = true) : numOf s = none := by unfold numOf; rw [h]; rfl
theorem numOf_zero {s : Bs} (h : (!inR (s.length : Int) 1 7) = false) (h1 : decide ((s.length : Int) > 1) = true) (h2 : (((s[0]'((num_small h).1)).toNat : Int) == 48) = true) : numOf s = none := by
  unfold numOf; rw [h, h1, headD_eq (num_small h).1, h2]; rfl
theorem numOf_go {s : Bs} (h : (!inR (s.length : Int) 1 7) = false) (h1 : decide ((s.length : Int) > 1) = false ∨ (((s[0]'((num_small h).1)).toNat : Int) == 48) = false) : numOf s = numAcc 0 (s.drop 0) := by
  unfold numOf; rw [h, headD_eq (num_small h).1]
  rcases h1 with h1 | h1
  · rw [h1]; rfl
  · rw [h1, Bool.and_false]; rfl
/-! ### fields -/
def txByte (c : UInt8) : Bool := inR (c.toNat : Int) 33 126
def fitsF (f : GateField) (v : Bs) : Bool :=
  bif f.kind == 1 then (match numOf v with | some n => inR n f.least f.most | none => false)
  else bif f.kind == 2 then !(v == []) && f.words.any (· == v)
  else bif f.kind == 3 then v.all txByte && (!(v == []) && inR (v.length : Int) f.least f.most)
  else bif f.kind == 4 then nameOk v else false
def bareF (f : GateField) : Bool :=
  !((!(f.kind == 1 || f.kind == 3) && (f.least != 0 || f.most != 0)) || (f.kind != 1 && !(f.weighs == []))) && (!(f.kind != 2 && decide ((f.words.length : Int) > 0)) && (f.kind == 4 || (f.to_ == [] && f.role == 0)))
theorem wrap_byte (c : UInt8) : IntKind.i64.wrap (c.toNat : Int) = (c.toNat : Int) := by
  have := c.toNat_lt
  rw [IntKind.wrap_i64]; omega
def sound1 (f : GateField) : Bool := decide (f.least ≥ 0) && (decide (f.least ≤ f.most) && (decide (f.most ≤ 1000000) && (f.weighs == [] || nameOk f.weighs)))
def sound2 (f : GateField) : Bool := inR (f.words.length : Int) 1 6 && asc f.words
def sound3 (f : GateField) : Bool := decide (f.least ≥ 1) && (decide (f.least ≤ f.most) && decide (f.most ≤ 40))
def sound4 (kinds : List Bs) (f : GateField) : Bool := kinds.any (· == f.to_) && (inR f.role 1 3 && (f.default_ == [] && (f.role != 2 || !f.must)))
def soundF (kinds : List Bs) (f : GateField) : Bool :=
  bif f.kind == 1 then sound1 f else bif f.kind == 2 then sound2 f else bif f.kind == 3 then sound3 f else bif f.kind == 4 then sound4 kinds f else false
def clean1 (f : GateField) : Bool := (f.words.length : Int) == 0 && (f.to_ == [] && f.role == 0)
def clean2 (f : GateField) : Bool := f.least == 0 && (f.most == 0 && (f.to_ == [] && (f.role == 0 && f.weighs == [])))
def clean3 (f : GateField) : Bool := (f.words.length : Int) == 0 && (f.to_ == [] && (f.role == 0 && f.weighs == []))
def clean4 (f : GateField) : Bool := f.least == 0 && (f.most == 0 && ((f.words.length : Int) == 0 && f.weighs == []))
theorem len_zero (n : Nat) : (!decide ((n : Int) > 0)) = ((n : Int) == 0) := by
  cases n with
  | zero => rfl
  | succ n => simp; omega
theorem bare1 {f : GateField} (h : f.kind = 1) : bareF f = clean1 f := by
  simp only [bareF, clean1, h, ← len_zero]
  generalize decide ((f.words.length : Int) > 0) = a
  generalize (f.to_ == []) = b
  generalize (f.role == 0) = c
  cases a <;> cases b <;> cases c <;> simp
theorem bare2 {f : GateField} (h : f.kind = 2) : bareF f = clean2 f := by
  simp only [bareF, clean2, h, bne]
  generalize (f.least == 0) = a
  generalize (f.most == 0) = a'
  generalize (f.to_ == []) = b
  generalize (f.role == 0) = c
  generalize (f.weighs == []) = d
  cases a <;> cases a' <;> cases b <;> cases c <;> cases d <;> simp
theorem bare3 {f : GateField} (h : f.kind = 3) : bareF f = clean3 f := by
  simp only [bareF, clean3, h, ← len_zero]
  generalize decide ((f.words.length : Int) > 0) = a
  generalize (f.to_ == []) = b
  generalize (f.role == 0) = c
  generalize (f.weighs == []) = d
  cases a <;> cases b <;> cases c <;> cases d <;> simp
theorem bare4 {f : GateField} (h : f.kind = 4) : bareF f = clean4 f := by
  simp only [bareF, clean4, h, bne, ← len_zero]
  generalize decide ((f.words.length : Int) > 0) = b
  generalize (f.least == 0) = a
  generalize (f.most == 0) = a'
  generalize (f.weighs == []) = d
  cases a <;> cases a' <;> cases b <;> cases d <;> simp
def fieldOkF (kinds : List Bs) (f : GateField) : Bool := nameOk f.name && (bareF f && ((f.default_ == [] || fitsF f f.default_) && soundF kinds f))
def flds (kinds : List Bs) : List Bs → List GateField → Bool
  | _, [] => true
  | pre, f :: fs => !(pre.any (· == f.name)) && (fieldOkF kinds f && flds kinds (pre ++ [f.name]) fs)
def shapeOkF (kinds : List Bs) (s : GateShape) : Bool := !decide ((s.fields.length : Int) > 6) && flds kinds [] s.fields
def shapesOk (l : List GateShape) : Bool := !decide ((l.length : Int) > 6) && (ascK (·.kind) none l && l.all (shapeOkF (l.map (·.kind))))
theorem flds_step {kinds : List Bs} {fs : List GateField} {k : Nat} (h : k < fs.length) : flds kinds ((fs.take k).map (·.name)) (fs.drop k) =
    (!(((fs.take k).map (·.name)).any (· == fs[k].name)) && (fieldOkF kinds fs[k] && flds kinds ((fs.take (k + 1)).map (·.name)) (fs.drop (k + 1)))) := by
  rw [List.drop_eq_getElem_cons h, List.take_succ_eq_append_getElem h, List.map_append]
  rfl
theorem flds_end {kinds pre : List Bs} {fs : List GateField} {k : Nat} (h : fs.length ≤ k) : flds kinds pre (fs.drop k) = true := by
  rw [List.drop_of_length_le h]; rfl
/-- the first place where something holds -/
def idxBy {α : Type} (p : α → Bool) : List α → Nat → Int
  | [], _ => -1
  | x :: xs, k => bif p x then (k : Int) else idxBy p xs (k + 1)
def idx {α : Type} (p : α → Bool) (xs : List α) : Int := idxBy p xs 0
section
variable {α : Type} {p : α → Bool} {xs : List α} {i : Nat}
theorem idxBy_step (h : i < xs.length) : idxBy p (xs.drop i) i = bif p xs[i] then (i : Int) else idxBy p (xs.drop (i + 1)) (i + 1) := by
  rw [List.drop_eq_getElem_cons h]; rfl
theorem idxBy_end (h : xs.length ≤ i) : idxBy p (xs.drop i) i = -1 := by
  rw [List.drop_of_length_le h]; rfl
theorem idxBy_spec : ∀ (xs : List α) (k : Nat), (idxBy p xs k = -1 ∧ xs.any p = false) ∨ (∃ j : Nat, ∃ h : j < xs.length, idxBy p xs k = ((k + j : Nat) : Int) ∧ p xs[j] = true ∧ xs.any p = true)
  | [], k => .inl ⟨rfl, rfl⟩
  | x :: xs, k => by
    cases hx : p x with
    | true => exact .inr ⟨0, by simp, by simp [idxBy, hx], by simpa using hx, by simp [hx]⟩
    | false =>
      rcases idxBy_spec xs (k + 1) with ⟨h1, h2⟩ | ⟨j, hj, h1, h2, h3⟩
      · exact .inl ⟨by simp [idxBy, hx, h1], by simp [hx, h2]⟩
      · exact .inr ⟨j + 1, by simp; omega, by simp only [idxBy, hx, cond_false, h1]; omega, by simpa using h2, by simp [hx, h3]⟩
theorem idx_neg (h : decide (idx p xs ≥ 0) = false) : idx p xs = -1 ∧ xs.any p = false := by
  have := of_decide_eq_false h
  rcases idxBy_spec (p := p) xs 0 with h1 | ⟨j, hj, h1, _⟩
  · exact h1
  · unfold idx at this; omega
theorem idx_pos (h : decide (idx p xs ≥ 0) = true) : ∃ j : Nat, ∃ h : j < xs.length, idx p xs = (j : Int) ∧ p xs[j] = true ∧ xs.any p = true := by
  have := of_decide_eq_true h
  rcases idxBy_spec (p := p) xs 0 with h1 | ⟨j, hj, h1, h2⟩
  · unfold idx at this; omega
  · exact ⟨j, hj, by unfold idx; omega, h2⟩
theorem idx_any : decide (idx p xs ≥ 0) = xs.any p := by
  cases h : decide (idx p xs ≥ 0) with
  | true => obtain ⟨j, _, _, _, h3⟩ := idx_pos h; exact h3.symm
  | false => exact (idx_neg h).2.symm
end
/-! ### mends -/
def plainF (fs : List GateField) (n : Bs) : Bool := decide (idx (·.name == n) fs ≥ 0) && (match fs[(idx (·.name == n) fs).toNat]? with | some f => f.kind != 4 | none => false)
def mendF (fs : List GateField) (m : GateMend) : Bool :=
  (plainF fs m.field && ((m.when_ == [] || plainF fs m.when_) && (m.from_ == [] || plainF fs m.from_))) &&
  (!((m.when_ == m.field) || ((m.from_ == m.field) || ((m.when_ == [] && !(m.is_ == [])) || ((m.put == []) == (m.from_ == []))))) &&
   (m.put == [] || (match fs[(idx (·.name == m.field) fs).toNat]? with | some f => fitsF f m.put | none => false)))
def mendOkF (shapes : List GateShape) (m : GateMend) : Bool := match shapes[(idx (·.kind == m.kind) shapes).toNat]? with
  | some s => decide (idx (·.kind == m.kind) shapes ≥ 0) && mendF s.fields m
  | none => false
theorem plain_pos {fs : List GateField} {n : Bs} {j : Nat} (hj : j < fs.length) (h : decide (idx (·.name == n) fs ≥ 0) = true) (e : idx (·.name == n) fs = (j : Int)) : plainF fs n = (fs[j].kind != 4) := by
  unfold plainF
  rw [h, e, Int.toNat_natCast, List.getElem?_eq_getElem hj]; rfl
theorem plain_neg {fs : List GateField} {n : Bs} (h : decide (idx (·.name == n) fs ≥ 0) = false) : plainF fs n = false := by
  unfold plainF
  rw [h]; rfl
end Go.Vc
