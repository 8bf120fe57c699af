/- Operations whose result is computed: they look, or make one new block. -/
import Derived.Test.YtcakciamoopkcaaGreatVcG
import Derived.Laws.Strings
set_option linter.unusedVariables false
set_option linter.unusedSimpArgs false
namespace Go.Vc
section
variable {P : Program} {T : List (Nat × TI)} {N0 Nf : Nat → Prop} {w0 w w' : World} {n : Nat} {σ : Env} {h : Heap} {a : Act} {ν ν' ν0 : Nat → Value} {Q : Exit → Act → World → Prop} {next : Act → World → Prop}

/-- what an operation that only looks owes -/
def Looks (P : Program) (a : Act) (w : World) (N : Nat → Prop) (ν : Nat → Value) (o : Oper) (r : AV) : Prop :=
  ∃ v, (execOp a.eval o).run P w = .ok (.value v) w ∧ Rv w N ν [r] [v]
theorem Looks.wp {o : Oper} {r : AV} (s : St N0 w0 Nf n ν0 σ h a w ν) (hl : Looks P a w (nN N0 ν) ν o r) (hn : ∀ a' w', St N0 w0 Nf n ν0 (σ.putO n o.dst r) h a' w' ν → next a' w') : o.wp P a w next Q := by
  obtain ⟨v, h1, h2⟩ := hl
  exact wp_value h1 (hn _ _ (s.seen (Kp.refl _ _) o.dst h2))

theorem binInt_ok {op : BinOp} {k : IntKind} {x y : Int} {d : D} (hb : binInt op k x y = some d) (xt : TypeId) : ∃ v, (binOp op xt (.int k x) (.int k y)).run P w = .ok v w ∧ ∀ N ν, Rv w N ν [.d d] [v] := by
  unfold binInt at hb
  split at hb <;> simp only [Option.some.injEq, reduceCtorEq] at hb <;> subst hb
  all_goals simp only [binOp, ne_eq, not_true_eq_false, if_false, Op.intArith, Op.intCmp, Sem.run_pure]
  all_goals refine ⟨_, rfl, fun N ν => ?_⟩
  all_goals first | exact .d (.int _ _ .nil) .nil | exact .d (.bool _ .nil) .nil

theorem binStr_ok {op : BinOp} {x y : Bs} {d : D} (hb : binStr op x y = some d) (xt : TypeId) : ∃ v, (binOp op xt (.string (mkS x)) (.string (mkS y))).run P w = .ok v w ∧ ∀ N ν, Rv w N ν [.d d] [v] := by
  unfold binStr at hb
  split at hb <;> simp only [Option.some.injEq, reduceCtorEq] at hb <;> subst hb
  all_goals simp only [binOp, Op.stringOp, mkS, ByteArray.toList_mk, Sem.run_pure]
  all_goals refine ⟨_, rfl, fun N ν => ?_⟩
  all_goals exact .d (.bool _ .nil) .nil

theorem eqGuard_plain (op : BinOp) (t : TypeId) (x y : Operand) (u v : Value) (hu : ∀ cs, u ≠ .agg cs) (hu' : u ≠ .nilIface) : (eqGuard op t x y u v).run P w = .ok () w := by
  unfold eqGuard
  cases hm : (!(op matches .eql | .neq)) with
  | true => simp
  | false =>
    simp only [Bool.false_eq_true, if_false, Sem.run_bind, Sem.run_pure, Result.andThen_ok]
    cases u <;> first | (exact absurd rfl (hu _)) | (exact absurd rfl hu') | (cases v <;> rfl)

theorem binBool_ok {op : BinOp} {x y : Bool} {xt : TypeId} {d : D} (ht : P.underlying xt = some .bool)
    (hb : (match op with | .eql => some (D.bool (x == y)) | .neq => some (.bool (!(x == y))) | _ => none) = some d) :
    ∃ v, (binOp op xt (.bool x) (.bool y)).run P w = .ok v w ∧ ∀ N ν, Rv w N ν [.d d] [v] := by
  have he : (Op.equal xt (.bool x) (.bool y)).run P w = .ok (x == y) w := by
    unfold Op.equal Op.maxDepth Op.equalIn
    simp [run_underlying ht]
  cases op <;> simp only [Option.some.injEq, reduceCtorEq] at hb <;> subst hb
  all_goals simp only [binOp, Sem.run_bind, he, Result.andThen_ok, Sem.run_pure]
  all_goals exact ⟨_, rfl, fun N ν => .d (.bool _ .nil) .nil⟩

theorem fill_ok (place : Nat → Option (Nat × Nat)) : True := trivial

/-- addresses of fields -/
theorem run_fieldPlace {t : TypeId} {ti : TI} (k : TiOk P t ti) (hz : ti.size ≠ 0) (f : Field) (hf : f.type = t) (b o : Nat) : (fieldPlace ⟨b, o, none⟩ f).run P w = .ok ⟨b, o + f.offset, none⟩ w := by
  unfold fieldPlace
  rw [hf]
  simp only [Sem.run_bind, run_sizeOf' k, Result.andThen_ok]
  rw [if_neg hz, Sem.run_pure, Addr.add_lit]

theorem struct_of {t : TypeId} {ti : TI} (k : TiOk P t ti) {fs : List (Nat × TypeId)} (hk : ti.kind = .struct fs) : ∃ fields, P.underlying t = some (.struct fields) ∧ fields.toList.map (fun f => (f.offset, f.type)) = fs := by
  obtain ⟨d, h1, h2⟩ := k.kind
  rw [hk] at h2
  cases d <;> simp [kindB] at h2
  exact ⟨_, h1, h2⟩
theorem slice_of {t : TypeId} {ti : TI} (k : TiOk P t ti) {e : TypeId} (hk : ti.kind = .slice e) : P.underlying t = some (.slice e) := by
  obtain ⟨d, h1, h2⟩ := k.kind
  rw [hk] at h2
  cases d <;> simp [kindB] at h2
  subst h2; exact h1
theorem array_of {t : TypeId} {ti : TI} (k : TiOk P t ti) {n e : Nat} (hk : ti.kind = .array n e) : P.underlying t = some (.array n e) := by
  obtain ⟨d, h1, h2⟩ := k.kind
  rw [hk] at h2
  unfold kindB at h2
  split at h2 <;> simp_all
theorem str_of {t : TypeId} {ti : TI} (k : TiOk P t ti) (hk : ti.kind = .str) : P.underlying t = some .string := by
  obtain ⟨d, h1, h2⟩ := k.kind
  rw [hk] at h2
  cases d <;> simp [kindB] at h2
  exact h1
theorem bool_of {t : TypeId} {ti : TI} (k : TiOk P t ti) (hk : ti.kind = .bool) : P.underlying t = some .bool := by
  obtain ⟨d, h1, h2⟩ := k.kind
  rw [hk] at h2
  cases d <;> simp [kindB] at h2
  exact h1
theorem int_of {t : TypeId} {ti : TI} (k : TiOk P t ti) {kd : IntKind} (hk : ti.kind = .int kd) : P.underlying t = some (.int kd) := by
  obtain ⟨d, h1, h2⟩ := k.kind
  rw [hk] at h2
  cases d <;> simp [kindB, kindEq_iff] at h2
  subst h2; exact h1
theorem field_at {fields : Array Field} {fs : List (Nat × TypeId)} (hf : fields.toList.map (fun f => (f.offset, f.type)) = fs) {i off : Nat} {t : TypeId} (h : fs[i]? = some (off, t)) :
    ∃ f, fields[i]? = some f ∧ f.offset = off ∧ f.type = t := by
  rw [← hf, List.getElem?_map] at h
  cases hq : fields.toList[i]? with
  | none => rw [hq] at h; cases h
  | some f =>
    rw [hq] at h
    simp only [Option.map_some, Option.some.injEq, Prod.mk.injEq] at h
    exact ⟨f, by simpa using hq, h.1, h.2⟩

theorem run_fieldAt {s t : TypeId} {ti tf : TI} (k : TiOk P s ti) (k' : TiOk P t tf) {fs : List (Nat × TypeId)} (hk : ti.kind = .struct fs) {i off : Nat} (hi : fs[i]? = some (off, t)) (hz : tf.size ≠ 0) (b o : Nat) :
    (Instr.fieldAt s (.pointer (some ⟨b, o, none⟩)) i).run P w = .ok (.pointer (some ⟨b, o + off, none⟩)) w := by
  obtain ⟨fields, h1, h2⟩ := struct_of k hk
  obtain ⟨f, h3, rfl, h4⟩ := field_at h2 hi
  unfold Instr.fieldAt
  simp only [Sem.run_bind, run_underlying h1, Result.andThen_ok, h3, Instr.sureAddr, Sem.run_pure, run_fieldPlace k' hz f h4]

theorem run_part {t : TypeId} {ti : TI} (k : TiOk P t ti) {xs : List Value} {off : Nat} (hlen : ((xs.drop off).take ti.size).length = ti.size) :
    (part t xs.toArray off).run P w = .ok (if ti.isAgg then .agg ((xs.drop off).take ti.size).toArray else ((xs.drop off).take ti.size).getD 0 undef) w := by
  unfold part
  simp only [Sem.run_bind, run_isAgg k, Result.andThen_ok]
  cases hag : ti.isAgg with
  | true =>
    simp only [if_true, Sem.run_bind, run_sizeOf' k, Result.andThen_ok, Sem.run_pure]
    congr 2
    apply Array.ext'
    simp only [Array.toList_extract, List.extract_eq_take_drop]
    congr 1
    omega
  | false =>
    have h1 := k.one hag
    simp only [Bool.false_eq_true, if_false]
    rw [h1] at hlen ⊢
    cases hd : xs.drop off with
    | nil => rw [hd] at hlen; simp at hlen
    | cons c cs =>
      have : xs[off]? = some c := by
        have := congrArg (fun l => l[0]?) hd
        simpa using this
      simp [this]
end
end Go.Vc
