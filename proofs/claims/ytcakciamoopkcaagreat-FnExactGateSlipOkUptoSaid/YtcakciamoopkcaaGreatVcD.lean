/- The table of types, held against the program; what single operations do. -/
import Derived.Test.YtcakciamoopkcaaGreatVcC
set_option linter.unusedVariables false
set_option linter.unusedSimpArgs false
namespace Go.Vc

def zeroB : AV → Value → Bool
  | .d (.int k n), .int k' n' => kindEq k k' && decide (n = n')
  | .d (.bool b), .bool b' => b == b'
  | .d (.str []), .string s => s.data.toList.isEmpty
  | .nils, .slice none 0 0 => true
  | .val .nilFunc, .nilFunc => true
  | .val .nilIface, .nilIface => true
  | .val (.pointer none), .pointer none => true
  | .val (.map none), .map none => true
  | _, _ => false
def zerosB : List AV → List Value → Bool
  | [], [] => true
  | a :: as, v :: vs => zeroB a v && zerosB as vs
  | _, _ => false
def kindB : TK → TypeDesc → Bool
  | .int k, .int k' => kindEq k k'
  | .bool, .bool => true
  | .str, .string => true
  | .slice e, .slice e' => Nat.beq e e'
  | .struct fs, .struct fields => decide (fields.toList.map (fun f => (f.offset, f.type)) = fs)
  | .map k e, .map k' e' => Nat.beq k k' && Nat.beq e e'
  | .array n e, .array n' e' => Nat.beq n n' && Nat.beq e e'
  | .iface, .interface _ => true
  | .ptr, .pointer _ => true
  | .func, .func _ _ _ => true
  | _, _ => false
def methB (i : TypeInfo) : String × FuncId → Bool
  | (name, f) => match i.methods.find? (·.name == name) with
    | some m => m.path.isEmpty && (match m.func with | some (f', p) => Nat.beq f f' && !p | none => false)
    | none => false
def tiB (P : Program) (t : TypeId) (ti : TI) : Bool :=
  match P.info? t, P.underlying t with
  | some i, some d => Nat.beq i.size ti.size && Nat.beq i.bytes ti.bytes && (match i.zero with | some z => zerosB ti.zero z.cells.toList && Nat.beq z.cells.size ti.size && (match z with | .agg _ => ti.isAgg | _ => !ti.isAgg) | none => false) &&
      kindB ti.kind d && (ti.meths.all (methB i)) && (Nat.beq ti.size 1 || ti.isAgg)
  | _, _ => false
def tabB (P : Program) : List (Nat × TI) → Bool
  | [] => true
  | (t, ti) :: r => tiB P t ti && tabB P r

theorem kindEq_iff {a b : IntKind} : kindEq a b = true ↔ a = b := by cases a <;> cases b <;> simp [kindEq]

/-- what the table says of a type -/
structure TiOk (P : Program) (t : TypeId) (ti : TI) : Prop where
  info : ∃ i z, P.info? t = some i ∧ i.size = ti.size ∧ i.bytes = ti.bytes ∧ i.zero = some z ∧ zerosB ti.zero z.cells.toList = true ∧ z.cells.size = ti.size ∧ ti.meths.all (methB i) = true ∧ (match z with | .agg _ => ti.isAgg | _ => !ti.isAgg) = true
  kind : ∃ d, P.underlying t = some d ∧ kindB ti.kind d = true
  one : ti.isAgg = false → ti.size = 1

theorem tabB_ok {P : Program} : ∀ {T : List (Nat × TI)}, tabB P T = true → ∀ {t ti}, look T t = some ti → TiOk P t ti
  | [], _, _, _, h => by simp [look] at h
  | (k, x) :: r, hb, t, ti, h => by
    simp only [tabB, Bool.and_eq_true] at hb
    simp only [look] at h
    by_cases e : t = k
    · subst e
      rw [nbT] at h
      simp only [cond_true, Option.some.injEq] at h
      subst h
      have := hb.1
      unfold tiB at this
      split at this
      · rename_i i d hi hd
        simp only [Bool.and_eq_true] at this
        obtain ⟨⟨⟨⟨⟨h1, h2⟩, h3⟩, h4⟩, h5⟩, h6⟩ := this
        split at h3
        · rename_i z hz
          simp only [Bool.and_eq_true] at h3
          exact ⟨⟨i, z, hi, Nat.eq_of_beq_eq_true h1, Nat.eq_of_beq_eq_true h2, hz, h3.1.1, Nat.eq_of_beq_eq_true h3.1.2, h5, h3.2⟩, ⟨d, hd, h4⟩, fun hf => by
            rw [hf, Bool.or_false] at h6; exact Nat.eq_of_beq_eq_true h6⟩
        · cases h3
      · cases this
    · rw [nbF e] at h
      exact tabB_ok hb.2 h

theorem zerosB_ok {w : World} {N : Nat → Prop} {ν : Nat → Value} : ∀ {as : List AV} {vs : List Value}, zerosB as vs = true → Rv w N ν as vs
  | [], [], _ => .nil
  | [], _ :: _, h => by simp [zerosB] at h
  | _ :: _, [], h => by simp [zerosB] at h
  | a :: as, v :: vs, h => by
    simp only [zerosB, Bool.and_eq_true] at h
    have ih := zerosB_ok (w := w) (N := N) (ν := ν) h.2
    have h1 := h.1
    unfold zeroB at h1
    split at h1
    · simp only [Bool.and_eq_true, kindEq_iff, decide_eq_true_eq] at h1
      obtain ⟨rfl, rfl⟩ := h1
      exact .d (.int _ _ .nil) ih
    · simp at h1; subst h1; exact .d (.bool _ .nil) ih
    · rename_i s
      have : s = mkS [] := by
        obtain ⟨⟨l⟩⟩ := s
        simp at h1
        subst h1; rfl
      subst this
      exact .d (.str [] (Nat.zero_le _) .nil) ih
    · exact .nils ih
    · exact .val _ ih
    · exact .val _ ih
    · exact .val _ ih
    · exact .val _ ih
    · cases h1

section
variable {P : Program} {t : TypeId} {ti : TI} {w : World}
theorem run_und (k : TiOk P t ti) : ∃ d, (underlying t).run P w = .ok d w ∧ kindB ti.kind d = true := by
  obtain ⟨d, h1, h2⟩ := k.kind
  exact ⟨d, run_underlying h1 w, h2⟩
theorem run_isAgg (k : TiOk P t ti) : (isAgg t).run P w = .ok ti.isAgg w := by
  obtain ⟨d, h1, h2⟩ := k.kind
  simp only [isAgg, Sem.run_bind, run_underlying h1, Result.andThen_ok]
  unfold kindB at h2
  split at h2 <;> simp_all [TI.isAgg]
theorem run_sizeOf' (k : TiOk P t ti) : (sizeOf t).run P w = .ok ti.size w := by
  obtain ⟨i, z, h1, h2, _⟩ := k.info
  simp [sizeOf, typeInfo, h1, h2]
theorem run_zero (k : TiOk P t ti) : ∃ z, (zeroValue t).run P w = .ok z w ∧ zerosB ti.zero z.cells.toList = true ∧ z.cells.size = ti.size := by
  obtain ⟨i, z, h1, h2, _, h3, h4, h5, _⟩ := k.info
  exact ⟨z, by simp [zeroValue, typeInfo, h1, h3], h4, h5⟩

/-- A VARIABLE READ: its cells stand from A on. -/
theorem run_loadVar' (k : TiOk P t ti) (b o : Nat) (cs : List Value) (hlen : cs.length = ti.size) (hc : ∀ (j : Nat) v, cs[j]? = some v → w.cell? ⟨b, o + j, none⟩ = some v) :
    (loadVar t ⟨b, o, none⟩).run P w = .ok (if ti.isAgg then .agg cs.toArray else cs.getD 0 undef) w := by
  have hl := run_loadCells_list (P := P) w ⟨b, o, none⟩ cs (fun j v hv => by rw [Addr.add_lit]; exact hc j v hv)
  rw [hlen] at hl
  simp only [loadVar, Sem.run_bind, run_isAgg k, Result.andThen_ok]
  cases hag : ti.isAgg with
  | true => simp [run_sizeOf' k, hl]
  | false =>
    have h1 := k.one hag
    cases cs with
    | nil => simp at hlen; omega
    | cons c cs =>
      have h2 := hc 0 c rfl
      rw [Nat.add_zero] at h2
      simp [h2]
end
end Go.Vc
