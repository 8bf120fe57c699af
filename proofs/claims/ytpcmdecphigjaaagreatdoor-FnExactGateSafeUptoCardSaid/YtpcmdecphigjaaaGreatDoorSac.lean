/- Part 3 of a proof: Maps that the call made. make, and the condition of an operation as a whole. Regions: in the order of the text, and in whatever order. A region that draws its order: one walk in the order of the text serves every order. Marks among the deferred calls; what a range over a function leaves as it is. A range over a function: the rule is sound. -/
import Derived.Test.YtpcmdecphigjaaaGreatDoorSaa
import Derived.Test.YtpcmdecphigjaaaGreatDoorSab
import Derived.Laws.StructEq
import Derived.Laws.MakeOwn
import Derived.Tactics
import Derived.Orders
import Derived.Still
import Derived.Deep.Quiet
import Derived.RangeFuncLeaves
import Derived.RangeFuncNested
section
set_option linter.unusedVariables false
set_option linter.unusedSimpArgs false
namespace Go.Vc
section
variable {P : Program} {ro : Option Nat} {q : Bool} {T : List (Nat × TI)} {N0 Nf : Nat → Prop} {w0 w w' : World} {n : Nat} {σ : Env} {h : Heap} {a : Act} {ν ν' ν0 : Nat → Value} {Q : Exit → Act → World → Prop} {next : Act → World → Prop}
  {K : AV → Heap → Rn → Prop} {N : Nat → Prop}

theorem map_of {t : TypeId} {ti : TI} (k : TiOk P t ti) {kt vt : TypeId} (hk : ti.kind = .map kt vt) : P.underlying t = some (.map kt vt) := by
  obtain ⟨d, h1, h2⟩ := k.kind
  rw [hk] at h2
  cases d <;> simp [kindB] at h2
  obtain ⟨rfl, rfl⟩ := h2
  exact h1

theorem mkS_beq (x y : Bs) : (mkS x == mkS y) = (x == y) := by
  rw [beq_toListBytes]
  simp [mkS, ByteArray.toList_mk]

/-- two keys of one kind, as the model compares them -/
theorem sameNow_ok {d : TypeDesc} {tk tk' : TK} (hd : kindB tk d = true) {k k' : List D} {v v' : Value} (h1 : keyOk tk k = true) (h1' : keyOk tk' k = true) (h2 : keyOk tk' k' = true) (hv : keyVal k = some v) (hv' : keyVal k' = some v') :
    Instr.sameNow d v v' = some (keyEq k k') := by
  unfold keyOk at h1 h1' h2
  split at h1
  · rename_i kd kd' m
    rw [kindEq_iff] at h1; subst h1
    cases d <;> simp [kindB, kindEq_iff] at hd
    subst hd
    simp only [keyVal, Option.some.injEq] at hv
    subst hv
    split at h1' <;> simp_all
    split at h2 <;> simp_all
    rename_i q
    simp only [keyVal, Option.some.injEq] at hv'
    subst hv'
    rw [kindEq_iff] at h1' h2
    subst h1' h2
    simp [Instr.sameNow, keyEq, kindEq_iff]
  · rename_i x
    cases d <;> simp [kindB] at hd
    simp only [keyVal, Option.some.injEq] at hv
    subst hv
    split at h1' <;> simp_all
    split at h2 <;> simp_all
    simp only [keyVal, Option.some.injEq] at hv'
    subst hv'
    simp [Instr.sameNow, keyEq, mkS_beq]
  · rename_i x
    cases d <;> simp [kindB] at hd
    simp only [keyVal, Option.some.injEq] at hv
    subst hv
    split at h1' <;> simp_all
    split at h2 <;> simp_all
    simp only [keyVal, Option.some.injEq] at hv'
    subst hv'
    simp [Instr.sameNow, keyEq]
  · cases d <;> simp [kindB] at hd
  · cases h1

/-- where a key stands, in the list alone -/
theorem mapFacts {k : List D} : ∀ (es : List (List D × AV)) (i : Nat),
    (mapLook es k = none ∧ mapAt es k i = none ∧ (∀ x, mapPut es k x = es ++ [(k, x)]) ∧ ∀ p ∈ es, keyEq k p.1 = false) ∨
    ∃ j k' a, mapLook es k = some a ∧ mapAt es k i = some (i + j, a) ∧ es[j]? = some (k', a) ∧ keyEq k k' = true ∧ (∀ x, mapPut es k x = es.set j (k', x)) ∧ ∀ m p, m < j → es[m]? = some p → keyEq k p.1 = false
  | [], i => .inl ⟨rfl, rfl, fun _ => rfl, by simp⟩
  | (k', b) :: es, i => by
    cases hq : keyEq k k' with
    | true => exact .inr ⟨0, k', b, by simp [mapLook, hq], by simp [mapAt, hq], rfl, hq, fun x => by simp [mapPut, hq], fun m p hm => by omega⟩
    | false =>
      rcases mapFacts (k := k) es (i + 1) with ⟨h1, h2, h3, h4⟩ | ⟨j, k2, a, h1, h2, h3, h4, h5, h6⟩
      · refine .inl ⟨by simp [mapLook, hq, h1], by simp [mapAt, hq, h2], fun x => by simp [mapPut, hq, h3], fun p hp => ?_⟩
        rcases List.mem_cons.1 hp with rfl | hp
        · exact hq
        · exact h4 p hp
      · refine .inr ⟨j + 1, k2, a, by simp [mapLook, hq, h1], ?_, by simpa using h3, h4, fun x => by simp [mapPut, hq, h5], fun m p hm hp => ?_⟩
        · simp only [mapAt, hq, h2]
          congr 2; omega
        · cases m with
          | zero => simp only [List.getElem?_cons_zero, Option.some.injEq] at hp; subst hp; exact hq
          | succ m => exact h6 m p (by omega) (by simpa using hp)

/-- the model's search, where two keys are compared at once -/
theorem findNow_ok {d : TypeDesc} {tk tk' : TK} (hd : kindB tk d = true) {k : List D} {v : Value} (h1 : keyOk tk k = true) (h1' : keyOk tk' k = true) (hv : keyVal k = some v) : ∀ {es : List (List D × AV)} {l : List MapEntry} (i : Nat), Km w N ν tk' es l →
    (mapLook es k = none ∧ Instr.findNow d v l i = some none) ∨
    ∃ j e a, mapLook es k = some a ∧ mapAt es k i = some (i + j, a) ∧ l[j]? = some e ∧ Instr.findNow d v l i = some (some (i + j, e.val))
  | [], [], i, .nil => .inl ⟨rfl, rfl⟩
  | (k', b) :: es, e :: l, i, .cons g1 g2 g3 g4 => by
    have hs := sameNow_ok hd h1 h1' g1 hv g2
    simp only [mapLook, mapAt, Instr.findNow, hs]
    cases hq : keyEq k k' with
    | true => exact .inr ⟨0, e, b, rfl, rfl, rfl, rfl⟩
    | false =>
      rcases findNow_ok hd h1 h1' hv (i + 1) g4 with ⟨q1, q2⟩ | ⟨j, e', a', q1, q0, q2, q3⟩
      · exact .inl ⟨q1, q2⟩
      · refine .inr ⟨j + 1, e', a', q1, ?_, by simpa using q2, ?_⟩
        · simp only [q0]; congr 2; omega
        · simp only [q3]; congr 3; omega
theorem Km.at {tk : TK} {es : List (List D × AV)} {l : List MapEntry} (h : Km w N ν tk es l) {j : Nat} {k' : List D} {a : AV} (hj : es[j]? = some (k', a)) : ∃ e, l[j]? = some e ∧ keyOk tk k' = true ∧ keyVal k' = some e.key ∧ Rv w N ν [a] [e.val] := by
  induction h generalizing j with
  | nil => simp at hj
  | cons g1 g2 g3 _ ih =>
    cases j with
    | zero => simp only [List.getElem?_cons_zero, Option.some.injEq, Prod.mk.injEq] at hj; obtain ⟨rfl, rfl⟩ := hj; exact ⟨_, rfl, g1, g2, g3⟩
    | succ j => obtain ⟨e, q⟩ := ih (by simpa using hj); exact ⟨e, by simpa using q⟩
theorem Km.len {tk : TK} {es : List (List D × AV)} {l : List MapEntry} (h : Km w N ν tk es l) : l.length = es.length := by
  induction h <;> simp_all
/-! keys that are a pair of texts -/
theorem pairKey {key : List D} (h : keyOk .pair key = true) : ∃ a b, key = [.str a, .str b] := by
  unfold keyOk at h
  split at h
  · simp_all
  · simp_all
  · simp_all
  · exact ⟨_, _, rfl⟩
  · cases h
theorem pairKind {tk : TK} {a b : Bs} (h : keyOk tk [.str a, .str b] = true) : tk = .pair := by
  cases tk <;> first | rfl | simp [keyOk] at h
theorem pair_spec {t : TypeId} (h : pairB P t = true) : ∃ fs f g, P.underlying t = some (.struct fs) ∧ fs.toList = [f, g] ∧ f.name ≠ "_" ∧ g.name ≠ "_" ∧ f.offset = 0 ∧ g.offset = 1 ∧ TiOk P f.type strTI ∧ TiOk P g.type strTI ∧ P.stoodInHeld t = false := by
  unfold pairB at h
  split at h
  · rename_i fs hf
    split at h
    · rename_i f g hl
      simp only [Bool.and_eq_true, Bool.not_eq_true', beq_eq_false_iff_ne] at h
      obtain ⟨⟨⟨⟨⟨⟨h1, h2⟩, h3⟩, h4⟩, h5⟩, h6⟩, h7⟩ := h
      refine ⟨fs, f, g, hf, hl, h1, h2, Nat.eq_of_beq_eq_true h3, Nat.eq_of_beq_eq_true h4, ?_, ?_, h7⟩
      · exact tabB_ok (T := [(f.type, strTI)]) (by simp only [tabB, h5]; rfl) (by simp [look, nbT])
      · exact tabB_ok (T := [(g.type, strTI)]) (by simp only [tabB, h6]; rfl) (by simp [look, nbT])
    · cases h
  · cases h
theorem part_str {t : TypeId} (k : TiOk P t strTI) {cs : Array Value} {i : Nat} {v : Value} (h : cs[i]? = some v) : (part t cs i).run P w = .ok v w := by
  have h1 : strTI.isAgg = false := rfl
  unfold part
  simp [run_isAgg k, h1, h]
theorem pair_equal {t : TypeId} (h : pairB P t = true) (a b c d : Bs) (w : World) : (Op.equal t (.agg #[.string (mkS a), .string (mkS b)]) (.agg #[.string (mkS c), .string (mkS d)])).run P w = .ok (a == c && b == d) w := by
  obtain ⟨fs, f, g, h1, h2, h3, h4, h5, h6, h7, h8, h9⟩ := pair_spec h
  have hfs : P.fieldsOf t = fs := by simp [Program.fieldsOf, h1]
  have hd : (Op.maxDepth : Nat) = 9998 + 1 + 1 := rfl
  unfold Op.equal
  rw [hd, run_equalIn_struct w _ t _ _ (by rw [h1, hfs]) h9, hfs, h2]
  have e1 : ∀ (x y : Bs) (u : TypeId), TiOk P u strTI → (Op.equalIn (9998 + 1) u (.string (mkS x)) (.string (mkS y))).run P w = .ok (x == y) w := by
    intro x y u k
    rw [run_equalIn_string w _ u _ _ (str_of k rfl)]
    simp [mkS, ByteArray.toList_mk]
  have p0 : ∀ (x y : Bs), (part f.type #[.string (mkS x), .string (mkS y)] f.offset).run P w = .ok (.string (mkS x)) w := fun x y => part_str h7 (by simp [h5])
  have p1 : ∀ (x y : Bs), (part g.type #[.string (mkS x), .string (mkS y)] g.offset).run P w = .ok (.string (mkS y)) w := fun x y => part_str h8 (by simp [h6])
  simp only [Op.eqFields, if_pos h3, if_pos h4, Sem.run_bind, p0, p1, Result.andThen_ok, e1 _ _ _ h7, e1 _ _ _ h8]
  cases hac : (a == c) <;> cases hbd : (b == d) <;> simp [e1 _ _ _ h8, p1, h4, Sem.run_bind, Result.andThen_ok] <;> simpa using hbd
theorem findAsking_ok {t : TypeId} (h : pairB P t = true) {k : List D} {v : Value} (hk : keyOk .pair k = true) (hv : keyVal k = some v) : ∀ {es : List (List D × AV)} {l : List MapEntry} (i : Nat), Km w N ν .pair es l →
    (mapLook es k = none ∧ (Instr.findAsking t v l i).run P w = .ok none w) ∨
    ∃ j e a, mapLook es k = some a ∧ mapAt es k i = some (i + j, a) ∧ l[j]? = some e ∧ (Instr.findAsking t v l i).run P w = .ok (some (i + j, e.val)) w
  | [], [], i, .nil => .inl ⟨rfl, rfl⟩
  | (k', b) :: es, e :: l, i, .cons g1 g2 g3 g4 => by
    have hs : (Op.equal t v e.key).run P w = .ok (keyEq k k') w := by
      obtain ⟨x, y, rfl⟩ := pairKey hk
      obtain ⟨x', y', rfl⟩ := pairKey g1
      simp only [keyVal, Option.some.injEq] at hv g2
      rw [← hv, ← g2]
      exact pair_equal h _ _ _ _ w
    simp only [mapLook, mapAt, Instr.findAsking, Sem.run_bind, hs, Result.andThen_ok]
    cases hq : keyEq k k' with
    | true => exact .inr ⟨0, e, b, rfl, rfl, rfl, rfl⟩
    | false =>
      simp only [Bool.false_eq_true, if_false]
      rcases findAsking_ok h hk hv (i + 1) g4 with ⟨q1, q2⟩ | ⟨j, e', a', q1, q0, q2, q3⟩
      · exact .inl ⟨q1, q2⟩
      · refine .inr ⟨j + 1, e', a', q1, ?_, by simpa using q2, ?_⟩
        · simp only [q0]; congr 2; omega
        · simp only [q3]; congr 3; omega
/-- THE MODEL's SEARCH -/
theorem findKey_ok {kt : TypeId} {tk : TI} {tk' : TK} (k0 : TiOk P kt tk) {k : List D} {v : Value} (h1 : keyOk tk.key k = true) (h1' : keyOk tk' k = true) (hv : keyVal k = some v) {es : List (List D × AV)} {l : List MapEntry} (hkm : Km w N ν tk' es l) :
    (mapLook es k = none ∧ mapAt es k 0 = none ∧ (Instr.findKey kt v l).run P w = .ok none w ∧ ∀ x, mapPut es k x = es ++ [(k, x)]) ∨
    ∃ j e a, mapLook es k = some a ∧ mapAt es k 0 = some (j, a) ∧ l[j]? = some e ∧ (Instr.findKey kt v l).run P w = .ok (some (j, e.val)) w ∧ Rv w N ν [a] [e.val] ∧ (∃ k', es[j]? = some (k', a) ∧ keyEq k k' = true ∧ keyVal k' = some e.key ∧ ∀ x, mapPut es k x = es.set j (k', x)) := by
  obtain ⟨d, d1, d2⟩ := k0.kind
  have low : ((mapLook es k = none ∧ (Instr.findKey kt v l).run P w = .ok none w) ∨ ∃ j e a, mapLook es k = some a ∧ mapAt es k 0 = some (0 + j, a) ∧ l[j]? = some e ∧ (Instr.findKey kt v l).run P w = .ok (some (0 + j, e.val)) w) := by
    unfold TI.key at h1
    cases hp : tk.pair with
    | true =>
      rw [hp] at h1
      simp only [cond_true] at h1
      have hpb := k0.pr hp
      have htk : tk' = .pair := by
        obtain ⟨x, y, rfl⟩ := pairKey h1
        exact pairKind h1'
      subst htk
      obtain ⟨fs, f, g, q1, _⟩ := pair_spec hpb
      have hd : d = .struct fs := by rw [d1] at q1; injection q1
      subst hd
      rcases findAsking_ok (w := w) hpb h1 hv 0 hkm with ⟨q1, q2⟩ | ⟨j, e, a, q1, q0, q2, q3⟩
      · refine .inl ⟨q1, ?_⟩
        unfold Instr.findKey
        simp only [Sem.run_bind, run_underlying d1, Result.andThen_ok]
        cases l with
        | nil => rfl
        | cons x l => simp only [Instr.findNow, Instr.sameNow]; exact q2
      · refine .inr ⟨j, e, a, q1, q0, q2, ?_⟩
        unfold Instr.findKey
        simp only [Sem.run_bind, run_underlying d1, Result.andThen_ok]
        cases l with
        | nil => simp at q2
        | cons x l => simp only [Instr.findNow, Instr.sameNow]; exact q3
    | false =>
      rw [hp] at h1
      simp only [cond_false] at h1
      rcases findNow_ok (w := w) (N := N) (ν := ν) d2 h1 h1' hv 0 hkm with ⟨q1, q2⟩ | ⟨j, e, a, q1, q0, q2, q3⟩
      · exact .inl ⟨q1, by simp [Instr.findKey, run_underlying d1, q2]⟩
      · exact .inr ⟨j, e, a, q1, q0, q2, by simp [Instr.findKey, run_underlying d1, q3]⟩
  rcases mapFacts (k := k) es 0 with ⟨f1, f2, f3, f4⟩ | ⟨j, k', a, f1, f2, f3, f4, f5, f6⟩
  · rcases low with ⟨q1, q2⟩ | ⟨j, e, a, q1, _⟩
    · exact .inl ⟨f1, f2, q2, f3⟩
    · rw [f1] at q1; cases q1
  · rcases low with ⟨q1, q2⟩ | ⟨j', e, a', q1, q0, q2, q3⟩
    · rw [f1] at q1; cases q1
    · rw [f2] at q0
      simp only [Option.some.injEq, Prod.mk.injEq, Nat.zero_add] at q0
      obtain ⟨rfl, rfl⟩ := q0
      rw [Nat.zero_add] at f2 q3
      obtain ⟨e', r1, _, r3, r4⟩ := hkm.at f3
      rw [q2] at r1
      injection r1 with r1
      subst r1
      exact .inr ⟨j, e, a, f1, f2, q2, q3, r4, k', f3, f4, r3, f5⟩

theorem keyOk_val {tk : TK} {key : List D} (h : keyOk tk key = true) : ∃ v, keyVal key = some v := by
  unfold keyOk at h
  split at h <;> first | exact ⟨_, rfl⟩ | cases h
theorem rv_key {x : AV} {key : List D} {v : Value} (h : Rv w N ν [x] [v]) (hx : keyDs x = some key) {u : Value} (hu : keyVal key = some u) : v = u := by
  unfold keyDs at hx
  split at hx
  · rename_i y
    simp only [Option.some.injEq] at hx
    subst hx
    cases y <;> simp [keyVal] at hu
    · rw [rv_int h, hu]
    · rw [rv_bool h, hu]
    · rw [(rv_str h).1, hu]
  · rename_i y z
    simp only [Option.some.injEq] at hx
    subst hx
    unfold keyVal at hu
    split at hu <;> rename_i e <;> try (cases hu; done)
    all_goals simp only [List.cons.injEq, and_true, reduceCtorEq, and_false, false_and] at e
    obtain ⟨rfl, rfl⟩ := e
    obtain ⟨xs, e1, e2⟩ := rv_agg h
    obtain ⟨v1, r1, rfl, g1, g2⟩ := e2.cons_inv
    obtain ⟨v2, r2, rfl, g3, g4⟩ := g2.cons_inv
    cases g4
    rw [e1, (rv_str g1).1, (rv_str g3).1]
    simpa using hu
  · simp only [Option.some.injEq] at hx
    subst hx
    simp only [keyVal, Option.some.injEq] at hu
    rw [rv_val h, hu]
  · cases hx
theorem checkKey_str {t : TypeId} (k : TiOk P t strTI) (n : Nat) (b : Bool) (v : Value) : (Instr.checkKey b (n + 1) t v).run P w = .ok () w := by
  unfold Instr.checkKey
  simp only [Sem.run_bind, run_underlying (str_of k rfl), Result.andThen_ok]
  cases v <;> rfl
theorem checkKey_ok {kt : TypeId} {tk : TI} (k : TiOk P kt tk) {key : List D} (hk : keyOk tk.key key = true) (b : Bool) {v : Value} (hv : keyVal key = some v) : (Instr.checkKey b 10000 kt v).run P w = .ok () w := by
  obtain ⟨d, h1, h2⟩ := k.kind
  unfold TI.key at hk
  cases hp : tk.pair with
  | true =>
    rw [hp] at hk
    simp only [cond_true] at hk
    obtain ⟨fs, f, g, q1, q2, q3, q4, q5, q6, q7, q8, _⟩ := pair_spec (k.pr hp)
    obtain ⟨x, y, rfl⟩ := pairKey hk
    simp only [keyVal, Option.some.injEq] at hv
    subst hv
    unfold Instr.checkKey
    simp only [Sem.run_bind, run_underlying q1, Result.andThen_ok]
    rw [← Array.forIn_toList, q2]
    have p0 : (part f.type #[.string (mkS x), .string (mkS y)] f.offset).run P w = .ok (.string (mkS x)) w := part_str q7 (by simp [q5])
    have p1 : (part g.type #[.string (mkS x), .string (mkS y)] g.offset).run P w = .ok (.string (mkS y)) w := part_str q8 (by simp [q6])
    have c0 : ∀ v, (Instr.checkKey b 9999 f.type v).run P w = .ok () w := fun v => checkKey_str q7 9998 b v
    have c1 : ∀ v, (Instr.checkKey b 9999 g.type v).run P w = .ok () w := fun v => checkKey_str q8 9998 b v
    simp [q3, q4, p0, p1, c0, c1]
  | false =>
    rw [hp] at hk
    simp only [cond_false] at hk
    unfold Instr.checkKey
    simp only [Sem.run_bind, run_underlying h1, Result.andThen_ok]
    generalize tk.kind = tkk at hk h2
    unfold keyOk at hk
    split at hk
    · cases d <;> simp [kindB] at h2; cases v <;> rfl
    · cases d <;> simp [kindB] at h2; cases v <;> rfl
    · cases d <;> simp [kindB] at h2; cases v <;> rfl
    · simp [kindB] at h2
    · cases hk

theorem rv_mapr {id : Nat} {v : Value} (h : Rv w N ν [.mapr id] [v]) : ∃ r, v = .map (some r) ∧ ν id = .map (some r) := by
  cases h with | mapr q _ => exact ⟨_, rfl, q⟩
theorem zeroOf_ok {t : TypeId} {ti : TI} (k : TiOk P t ti) : ∃ z, (zeroValue t).run P w = .ok z w ∧ Rv w N ν [zeroOf ti] [z] := by
  obtain ⟨i, z, h1, h2, _, h3, h4, h5, _, h6⟩ := k.info
  refine ⟨z, by simp [zeroValue, typeInfo, h1, h3], ?_⟩
  have hz := zerosB_ok (w := w) (N := N) (ν := ν) h4
  unfold zeroOf
  cases hag : ti.isAgg with
  | true =>
    rw [hag] at h6
    cases z <;> simp at h6
    rename_i cs
    simp only [cond_true]
    have : cs = cs.toList.toArray := by simp
    rw [this]
    exact .agg _ (by simpa [Value.cells] using hz) .nil
  | false =>
    rw [hag] at h6
    have hc : z.cells = #[z] := by cases z <;> simp at h6 <;> rfl
    rw [hc] at hz
    simp only [cond_false]
    split
    · rename_i b as e
      rw [e] at hz
      obtain ⟨v, r, e2, q1, _⟩ := hz.cons_inv
      simp only [List.cons.injEq] at e2
      rw [e2.1]; exact q1
    · exact .any _ .nil

theorem lookup_sound (hT : tabB P T = true) (s : St q N0 w0 Nf n ν0 σ h a w ν) {o : Oper} {t : TypeId} {x k : Operand} {ok : Bool} (hop : o.op = .lookup t x k ok) (hv : vcOp T (specs P) (ev σ) h (.lookup t x k ok) K)
    (hn : ∀ r h' m a' w' ν', K r h' m → St q N0 w0 Nf n ν0 ((σ.ren m).putO n o.dst r) h' a' w' ν' → next a' w') : o.wpIn (G ro) 0 P a w next Q := by
  have hxx := ev_ok s x
  have hkk := ev_ok s k
  have he : execOp a.eval o = (do pure (Next.value (← Instr.lookup t (a.eval x) (a.eval k) ok))) := by unfold execOp; rw [hop]
  simp only [vcOp] at hv
  split at hv
  · rename_i ti hti
    split at hv
    · rename_i kt vt hk
      split at hv
      · rename_i tk tv id key htk htv e1 e2
        rw [e1] at hxx
        split at hv
        · rename_i t' tk' es hid
          obtain ⟨hb, r, hr, hv⟩ := hv
          simp only [Bool.and_eq_true] at hb
          obtain ⟨⟨_, b2⟩, b3⟩ := hb
          obtain ⟨rr, arr, clock, g1, g2, g3, gB⟩ := s.hp.objs _ _ hid
          have hx : a.eval x = .map (some rr) := by obtain ⟨r', q1, q2⟩ := rv_mapr hxx; rw [q1, ← q2, g1]
          obtain ⟨u, hu⟩ := keyOk_val b2
          have hku := rv_key hkk e2 hu
          have hfn := findKey_ok (w := w) (N := nN N0 ν) (ν := ν) (tabB_ok hT htk) b2 b3 hu g3
          have hobj : (getObj rr).run P w = .ok (.map arr clock) w := by simp [getObj, Sem.run, g2]
          rw [hx, hku] at he
          rcases hfn with ⟨q1, _, q2, _⟩ | ⟨j, e, b, q1, _, q2, q3, q4, _⟩
          · obtain ⟨z, z1, z2⟩ := zeroOf_ok (w := w) (N := nN N0 ν) (ν := ν) (tabB_ok hT htv)
            rw [q1] at hr; subst hr
            have hrun : (Instr.lookup t (.map (some rr)) u ok).run P w = .ok (if ok then .tuple #[z, .bool false] else z) w := by
              unfold Instr.lookup
              simp only [Sem.run_bind, run_underlying (map_of (tabB_ok hT hti) hk), Result.andThen_ok, hobj, Sem.run_pure, checkKey_ok (tabB_ok hT htk) b2 _ hu, q2, z1]
            refine Looks.wp s ⟨_, exec_val he hrun, ?_⟩ (fun a' w' hs => hn _ _ (.sub []) a' w' ν hv hs)
            cases ok
            · simpa using z2
            · exact .tup [z, .bool false] (z2.cons (.val _ .nil)) .nil
          · rw [q1] at hr; subst hr
            have hrun : (Instr.lookup t (.map (some rr)) u ok).run P w = .ok (if ok then .tuple #[e.val, .bool true] else e.val) w := by
              unfold Instr.lookup
              simp only [Sem.run_bind, run_underlying (map_of (tabB_ok hT hti) hk), Result.andThen_ok, hobj, Sem.run_pure, checkKey_ok (tabB_ok hT htk) b2 _ hu, q3]
            refine Looks.wp s ⟨_, exec_val he hrun, ?_⟩ (fun a' w' hs => hn _ _ (.sub []) a' w' ν hv hs)
            cases ok
            · simpa using q4
            · exact .tup [e.val, .bool true] (q4.cons (.val _ .nil)) .nil
        · exact hv.elim
      · exact hv.elim
    · exact hv.elim
  · exact hv.elim

theorem sameBits_key {k : List D} {u : Value} (hu : keyVal k = some u) {k' : List D} {u' : Value} (hu' : keyVal k' = some u') (he : keyEq k k' = true) : u' = u ∧ Instr.sameBits 10000 u' u = true := by
  unfold keyEq at he
  split at he
  · rename_i kd p kd' q
    simp only [Bool.and_eq_true, kindEq_iff, beq_iff_eq] at he
    obtain ⟨rfl, rfl⟩ := he
    simp only [keyVal, Option.some.injEq] at hu hu'
    subst hu hu'
    exact ⟨rfl, by simp [Instr.sameBits]⟩
  · rename_i p q
    simp only [beq_iff_eq] at he
    subst he
    simp only [keyVal, Option.some.injEq] at hu hu'
    subst hu hu'
    exact ⟨rfl, by simp only [Instr.sameBits, mkS_beq]; simp⟩
  · rename_i p q
    simp only [beq_iff_eq] at he
    subst he
    simp only [keyVal, Option.some.injEq] at hu hu'
    subst hu hu'
    exact ⟨rfl, by simp [Instr.sameBits]⟩
  · rename_i p q p' q'
    simp only [Bool.and_eq_true, beq_iff_eq] at he
    obtain ⟨rfl, rfl⟩ := he
    simp only [keyVal, Option.some.injEq] at hu hu'
    subst hu hu'
    exact ⟨rfl, by simp [Instr.sameBits, mkS_beq]⟩
  · cases he

theorem Km.set {tk : TK} {es : List (List D × AV)} {l : List MapEntry} (h : Km w N ν tk es l) {j : Nat} {k' : List D} {b b' : AV} {e : MapEntry} (h1 : es[j]? = some (k', b)) (h2 : l[j]? = some e) {v : Value} {k2 : Value} (hk : k2 = e.key) (hv : Rv w N ν [b'] [v]) :
    keyVal k' = some e.key ∧ Km w N ν tk (es.set j (k', b')) (l.set j { e with key := k2, val := v }) := by
  induction h generalizing j with
  | nil => simp at h1
  | @cons ks a0 es e0 l g1 g2 g3 g4 ih =>
    cases j with
    | zero =>
      simp only [List.getElem?_cons_zero, Option.some.injEq, Prod.mk.injEq] at h1 h2
      obtain ⟨rfl, rfl⟩ := h1
      subst h2
      exact ⟨g2, .cons g1 (by rw [g2, hk]) hv g4⟩
    | succ j =>
      obtain ⟨q1, q2⟩ := ih (by simpa using h1) (by simpa using h2)
      exact ⟨q1, .cons g1 g2 g3 q2⟩
theorem Km.snoc {tk : TK} {es : List (List D × AV)} {l : List MapEntry} (h : Km w N ν tk es l) {k : List D} {b : AV} {e : MapEntry} (h1 : keyOk tk k = true) (h2 : keyVal k = some e.key) (h3 : Rv w N ν [b] [e.val]) : Km w N ν tk (es ++ [(k, b)]) (l ++ [e]) := by
  induction h with
  | nil => exact .cons h1 h2 h3 .nil
  | cons g1 g2 g3 _ ih => exact .cons g1 g2 g3 ih

theorem setObj_kp (w : World) (r : Nat) (o : Obj) : Kp (fun x => x = r) w { w with heap := w.heap.setIfInBounds r o } :=
  ⟨rfl, rfl, rfl, by simp, fun b hb hne => by rw [Array.getElem?_setIfInBounds]; rw [if_neg (fun e => hne e.symm)]⟩

theorem born_push {arr : Array MapEntry} {clock : Nat} (h : Born arr clock) (k v : Value) : Born (arr.push { key := k, val := v, born := clock }) (clock + 1) := by
  obtain ⟨h1, h2⟩ := h
  refine ⟨by simp [h1], fun j e he => ?_⟩
  rw [Array.getElem?_push] at he
  split at he
  · rename_i q; simp only [Option.some.injEq] at he; subst he; simp [h1, q]
  · exact h2 j e he
theorem born_modify {arr : Array MapEntry} {clock : Nat} (h : Born arr clock) (i : Nat) (f : MapEntry → MapEntry) (hf : ∀ e, (f e).born = e.born) : Born (arr.modify i f) clock := by
  obtain ⟨h1, h2⟩ := h
  refine ⟨by simp [h1], fun j e he => ?_⟩
  rw [Array.getElem?_modify] at he
  split at he
  · cases hq : arr[j]? with
    | none => rw [hq] at he; simp at he
    | some e0 => rw [hq] at he; simp only [Option.map_some, Option.some.injEq] at he; subst he; rw [hf]; exact h2 j e0 hq
  · exact h2 j e he
theorem modify_list {arr : Array MapEntry} {j : Nat} {e : MapEntry} (hj : arr.toList[j]? = some e) (f : MapEntry → MapEntry) : (arr.modify j f).toList = arr.toList.set j (f e) := by
  have hj' : arr[j]? = some e := by simpa using hj
  apply List.ext_getElem?
  intro i
  simp only [Array.getElem?_toList, Array.getElem?_modify, List.getElem?_set]
  by_cases hi : j = i
  · subst hi
    have : j < arr.size := (Array.getElem?_eq_some_iff.1 hj').1
    have h8 := (Array.getElem?_eq_some_iff.1 hj').2
    simp [this, h8]
  · simp [hi]
/-- a map is turned -/
theorem St.mapSet (s : St q N0 w0 Nf n ν0 σ h a w ν) {id rr : Nat} (g1 : ν id = .map (some rr)) {t' : TypeId} {tk' : TK} {es' : List (List D × AV)} {arr' : Array MapEntry} {clock' : Nat} (hB : Born arr' clock')
    (hkm : ∀ (w' : World), Mv w (nN N0 ν) w' (nN N0 ν) → Km w' (nN N0 ν) ν tk' es' arr'.toList) :
    St q N0 w0 Nf n ν0 σ (h.set id (.map t' tk' es')) a { w with heap := w.heap.setIfInBounds rr (.map arr' clock') } ν := by
  have hlt : rr < w.heap.size := s.hp.bnd id rr (by rw [g1]; rfl)
  refine s.set (by rw [g1]; rfl) (setObj_kp w rr _) ⟨rr, arr', clock', g1, by simp [hlt], hkm _ ⟨by simp, fun c hc hN => ⟨hN, ?_⟩⟩, hB⟩
  simp only [Array.getElem?_setIfInBounds]
  rw [if_neg (fun e => hN (.inr ⟨id, by rw [g1, ← e]; rfl⟩))]

theorem put_sound (hT : tabB P T = true) (s : St q N0 w0 Nf n ν0 σ h a w ν) {o : Oper} {t : TypeId} {x k v : Operand} (he : execOp a.eval o = (do (Instr.mapUpdate t (a.eval x) (a.eval k) (a.eval v)); pure Next.skip)) (hv : vcPut T (ev σ) h t x k v K)
    (hn : ∀ r h' m a' w' ν', K r h' m → St q N0 w0 Nf n ν0 ((σ.ren m).putO n o.dst r) h' a' w' ν' → next a' w') : o.wpIn (G ro) 0 P a w next Q := by
  have hxx := ev_ok s x
  have hkk := ev_ok s k
  have hvv := ev_ok s v
  unfold vcPut at hv
  split at hv
  · rename_i ti hti
    split at hv
    · rename_i kt vt hk
      split at hv
      · rename_i tk id key htk e1 e2
        rw [e1] at hxx
        split at hv
        · rename_i t' tk' es hid
          obtain ⟨hb, hv⟩ := hv
          simp only [Bool.and_eq_true] at hb
          obtain ⟨⟨⟨_, b2⟩, b3⟩, b4⟩ := hb
          obtain ⟨rr, arr, clock, g1, g2, g3, gB⟩ := s.hp.objs _ _ hid
          have hx : a.eval x = .map (some rr) := by obtain ⟨r', q1, q2⟩ := rv_mapr hxx; rw [q1, ← q2, g1]
          obtain ⟨u, hu⟩ := keyOk_val b2
          have hku := rv_key hkk e2 hu
          have hfn := findKey_ok (w := w) (N := nN N0 ν) (ν := ν) (tabB_ok hT htk) b2 b3 hu g3
          have hobj : (getObj rr).run P w = .ok (.map arr clock) w := by simp [getObj, Sem.run, g2]
          have hset : ∀ ob, (setObj rr ob).run P w = .ok () { w with heap := w.heap.setIfInBounds rr ob } := fun ob => by simp [setObj, Sem.run, g2]
          rw [hx, hku] at he
          have fin : ∀ arr' clock', Born arr' clock' → (∀ (w' : World), Mv w (nN N0 ν) w' (nN N0 ν) → Km w' (nN N0 ν) ν tk' (mapPut es key (ev σ v)) arr'.toList) →
              (Instr.mapUpdate t (.map (some rr)) u (a.eval v)).run P w = .ok () { w with heap := w.heap.setIfInBounds rr (.map arr' clock') } → o.wpIn (G ro) 0 P a w next Q := by
            intro arr' clock' hB hkm hrun
            refine wp_skip' ?_ (hn _ _ (.sub []) _ _ ν hv (putAgain (s.mapSet g1 hB hkm) o.dst (.val _ .nil)))
            rw [he]
            simp only [Sem.run_bind, hrun, Result.andThen_ok, Sem.run_pure]
          rcases hfn with ⟨q1, _, q2, q3⟩ | ⟨j, e, b, q1, _, q2, q3, q4, k', q5, q6, r1, q7⟩
          · refine fin (arr.push { key := u, val := a.eval v, born := clock }) (clock + 1) (born_push gB _ _) (fun w' m => ?_) ?_
            · rw [q3, Array.toList_push]
              exact (g3.mv m (fun _ _ => rfl)).snoc b3 hu (hvv.mv m (fun _ _ => rfl))
            · unfold Instr.mapUpdate
              simp only [Sem.run_bind, run_underlying (map_of (tabB_ok hT hti) hk), Result.andThen_ok, hobj, checkKey_ok (tabB_ok hT htk) b2 _ hu, q2, Sem.run_pure, hset]
          · have hj' : arr[j]? = some e := by simpa using q2
            obtain ⟨r3, r4⟩ := sameBits_key hu r1 q6
            refine fin (arr.modify j fun e => { e with key := u, val := a.eval v }) clock (born_modify gB _ _ (fun _ => rfl)) (fun w' m => ?_) ?_
            · obtain ⟨_, r5⟩ := (g3.mv m (fun _ _ => rfl)).set q5 q2 (v := a.eval v) (k2 := u) r3.symm (hvv.mv m (fun _ _ => rfl))
              rw [q7, modify_list q2]; exact r5
            · unfold Instr.mapUpdate
              simp only [Sem.run_bind, run_underlying (map_of (tabB_ok hT hti) hk), Result.andThen_ok, hobj, checkKey_ok (tabB_ok hT htk) b2 _ hu, q3, Sem.run_pure, hj', Option.map_some, Option.getD_some, Instr.keyThatStays, r4, if_true, hset]
        · exact hv.elim
      · exact hv.elim
    · exact hv.elim
  · exact hv.elim
theorem set_same {w : World} {r : Nat} {o : Obj} (h : w.heap[r]? = some o) : ({ w with heap := w.heap.setIfInBounds r o } : World) = w := by
  have : w.heap.setIfInBounds r o = w.heap := by
    apply Array.ext
    · simp
    · intro i h1 h2
      rw [Array.getElem_setIfInBounds (by simpa using h1)]
      split
      · rename_i e; subst e; exact ((Array.getElem?_eq_some_iff.1 h).2).symm
      · rfl
  rw [this]
theorem modify_same {arr : Array MapEntry} {j : Nat} {e : MapEntry} (hj : arr.toList[j]? = some e) (f : MapEntry → MapEntry) (hf : f e = e) : arr.modify j f = arr := by
  apply Array.ext'
  rw [modify_list hj, hf]
  apply List.ext_getElem?
  intro i
  rw [List.getElem?_set]
  split
  · rename_i q; subst q
    have := (List.getElem?_eq_some_iff.1 hj).1
    rw [hj]
    simpa using this
  · rfl
theorem entry_sound (hT : tabB P T = true) (s : St q N0 w0 Nf n ν0 σ h a w ν) {o : Oper} {t : TypeId} {x k : Operand} (hop : o.op = .mapEntry t x k) (hv : vcEntry T (ev σ) h t x k K)
    (hn : ∀ r h' m a' w' ν', K r h' m → St q N0 w0 Nf n ν0 ((σ.ren m).putO n o.dst r) h' a' w' ν' → next a' w') : o.wpIn (G ro) 0 P a w next Q := by
  have hxx := ev_ok s x
  have hkk := ev_ok s k
  have he : execOp a.eval o = (do pure (Next.value (← Instr.mapEntry t (a.eval x) (a.eval k)))) := by unfold execOp; rw [hop]
  unfold vcEntry at hv
  split at hv
  · rename_i ti hti
    split at hv
    · rename_i kt vt hk
      split at hv
      · rename_i tk tv id key htk htv e1 e2
        rw [e1] at hxx
        split at hv
        · rename_i t' tk' es hid
          obtain ⟨hb, r, hr, hv⟩ := hv
          simp only [Bool.and_eq_true] at hb
          obtain ⟨⟨⟨_, b2⟩, b3⟩, b4⟩ := hb
          obtain ⟨rr, arr, clock, g1, g2, g3, gB⟩ := s.hp.objs _ _ hid
          have hx : a.eval x = .map (some rr) := by obtain ⟨r', q1, q2⟩ := rv_mapr hxx; rw [q1, ← q2, g1]
          obtain ⟨u, hu⟩ := keyOk_val b2
          have hku := rv_key hkk e2 hu
          have hfn := findKey_ok (w := w) (N := nN N0 ν) (ν := ν) (tabB_ok hT htk) b2 b3 hu g3
          have hobj : (getObj rr).run P w = .ok (.map arr clock) w := by simp [getObj, Sem.run, g2]
          have hset : ∀ ob, (setObj rr ob).run P w = .ok () { w with heap := w.heap.setIfInBounds rr ob } := fun ob => by simp [setObj, Sem.run, g2]
          rw [hx, hku] at he
          rcases hfn with ⟨_, q1, q2, q3⟩ | ⟨j, e, b, _, q1, q2, q3, q4, k', q5, q6, r1, q7⟩
          · rw [q1] at hr; subst hr
            obtain ⟨z, z1, z2⟩ := zeroOf_ok (P := P) (w := w) (N := nN N0 ν) (ν := ν) (tabB_ok hT htv)
            have hrun : (Instr.mapEntry t (.map (some rr)) u).run P w = .ok (.tuple #[z, goInt clock]) { w with heap := w.heap.setIfInBounds rr (.map (arr.push { key := u, val := z, born := clock }) (clock + 1)) } := by
              unfold Instr.mapEntry
              simp only [Sem.run_bind, run_underlying (map_of (tabB_ok hT hti) hk), Result.andThen_ok, hobj, checkKey_ok (tabB_ok hT htk) b2 _ hu, q2, z1, Sem.run_pure, hset]
            have hs' := s.mapSet (t' := t') (es' := es ++ [(key, zeroOf tv)]) g1 (born_push gB u z) (fun w' m => by rw [Array.toList_push]; exact (g3.mv m (fun _ _ => rfl)).snoc b3 hu (z2.mv m (fun _ _ => rfl)))
            refine wp_value (exec_val he hrun) (hn _ _ (.sub []) _ _ ν hv (putAgain hs' o.dst ?_))
            have hl := g3.len
            have : clock = es.length := by rw [gB.1, ← hl]; simp
            rw [this]
            refine .tup [z, _] ((z2.mv ⟨by simp, fun c hc hN => ⟨hN, ?_⟩⟩ (fun _ _ => rfl)).cons (.d (.int _ _ .nil) .nil)) .nil
            simp only [Array.getElem?_setIfInBounds]
            rw [if_neg (fun e => hN (.inr ⟨id, by rw [g1, ← e]; rfl⟩))]
          · rw [q1] at hr; subst hr
            have hj' : arr[j]? = some e := by simpa using q2
            obtain ⟨r3, r4⟩ := sameBits_key hu r1 q6
            have hrun : (Instr.mapEntry t (.map (some rr)) u).run P w = .ok (.tuple #[e.val, goInt j]) w := by
              unfold Instr.mapEntry
              simp only [Sem.run_bind, run_underlying (map_of (tabB_ok hT hti) hk), Result.andThen_ok, hobj, checkKey_ok (tabB_ok hT htk) b2 _ hu, q3, Sem.run_pure, hj', Option.map_some, Option.getD_some, Instr.keyThatStays, r4, if_true, hset]
              rw [modify_same q2 _ (by rw [← r3]), gB.2 j e hj', set_same g2]
            refine wp_value (exec_val he hrun) (hn _ _ (.sub []) _ _ ν hv (putAgain s o.dst ?_))
            exact .tup [e.val, _] (q4.cons (.d (.int _ _ .nil) .nil)) .nil
        · exact hv.elim
      · exact hv.elim
    · exact hv.elim
  · exact hv.elim
theorem findIdx_at {arr : Array MapEntry} {clock : Nat} (h : Born arr clock) {j : Nat} {e : MapEntry} (hj : arr[j]? = some e) : arr.findIdx? (fun e => (e.born : Int) == (j : Int)) = some j := by
  rw [Array.findIdx?_eq_some_iff_getElem]
  have hlt := (Array.getElem?_eq_some_iff.1 hj).1
  refine ⟨hlt, ?_, fun i hi => ?_⟩
  · have := h.2 j _ (Array.getElem?_eq_getElem hlt)
    simp [this]
  · have := h.2 i _ (Array.getElem?_eq_getElem (by omega))
    simp [this]
    omega
theorem estore_sound (hT : tabB P T = true) (s : St q N0 w0 Nf n ν0 σ h a w ν) {o : Oper} {t : TypeId} {x k v : Operand} (hop : o.op = .entryStore t x k v) (hv : vcEStore (ev σ) h x k v K)
    (hn : ∀ r h' m a' w' ν', K r h' m → St q N0 w0 Nf n ν0 ((σ.ren m).putO n o.dst r) h' a' w' ν' → next a' w') : o.wpIn (G ro) 0 P a w next Q := by
  have hxx := ev_ok s x
  have hkk := ev_ok s k
  have hvv := ev_ok s v
  have he : execOp a.eval o = (do (Instr.entryStore t (a.eval x) (a.eval k) (a.eval v)); pure Next.skip) := by unfold execOp; rw [hop]
  unfold vcEStore at hv
  split at hv
  · rename_i id kd j e1 e2
    rw [e1] at hxx; rw [e2] at hkk
    split at hv
    · rename_i t' tk' es hid
      obtain ⟨hb, h0, p, hp, hv⟩ := hv
      obtain ⟨rr, arr, clock, g1, g2, g3, gB⟩ := s.hp.objs _ _ hid
      have hx : a.eval x = .map (some rr) := by obtain ⟨r', q1, q2⟩ := rv_mapr hxx; rw [q1, ← q2, g1]
      have hobj : (getObj rr).run P w = .ok (.map arr clock) w := by simp [getObj, Sem.run, g2]
      have hset : ∀ ob, (setObj rr ob).run P w = .ok () { w with heap := w.heap.setIfInBounds rr ob } := fun ob => by simp [setObj, Sem.run, g2]
      obtain ⟨e, q2, _, _, q4⟩ := g3.at (k' := p.1) (a := p.2) hp
      have hj' : arr[j.toNat]? = some e := by simpa using q2
      rw [hx, rv_int hkk] at he
      have hjj : ((j.toNat : Nat) : Int) = j := Int.toNat_of_nonneg h0
      have hfi := findIdx_at gB hj'
      rw [hjj] at hfi
      have hrun : (Instr.entryStore t (.map (some rr)) (.int kd j) (a.eval v)).run P w = .ok () { w with heap := w.heap.setIfInBounds rr (.map (arr.modify j.toNat fun e => { e with val := a.eval v }) clock) } := by
        unfold Instr.entryStore
        simp only [Sem.run_bind, hobj, Result.andThen_ok, asInt, asIntOf, Sem.run_pure, hfi, hset]
      have hs' := s.mapSet (t' := t') (es' := es.set j.toNat (p.1, ev σ v)) g1 (born_modify gB j.toNat (fun e => { e with val := a.eval v }) (fun _ => rfl)) (fun w' m => by
        obtain ⟨_, r5⟩ := (g3.mv m (fun _ _ => rfl)).set (k' := p.1) (b := p.2) hp q2 (v := a.eval v) (k2 := e.key) rfl (hvv.mv m (fun _ _ => rfl))
        rw [modify_list q2]; exact r5)
      refine wp_skip' ?_ (hn _ _ (.sub []) _ _ ν hv (putAgain hs' o.dst (.val _ .nil)))
      rw [he]
      simp only [Sem.run_bind, hrun, Result.andThen_ok, Sem.run_pure]
    · exact hv.elim
  · exact hv.elim
end
end Go.Vc
end

section
set_option linter.unusedVariables false
set_option linter.unusedSimpArgs false
namespace Go.Vc

theorem madeCells_flat (z : Array Value) : ∀ n, (madeCells z (n * z.size)).toList = (List.replicate n z.toList).flatten
  | 0 => by simp [madeCells]
  | n + 1 => by
    have ih := madeCells_flat z n
    simp only [madeCells, Array.toList_map, Array.toList_range] at ih ⊢
    rw [Nat.add_mul, Nat.one_mul, List.range_add, List.map_append, ih, List.map_map]
    have e : (List.range z.size).map ((fun x => z[x % z.size]!) ∘ (fun x => n * z.size + x)) = z.toList := by
      apply List.ext_getElem?
      intro j
      simp only [List.getElem?_map, List.getElem?_range, Function.comp_apply]
      by_cases hj : j < z.size
      · rw [List.getElem?_range hj]
        simp only [Option.map_some]
        have : (n * z.size + j) % z.size = j := by
          rw [Nat.mul_comm, Nat.mul_add_mod]
          exact Nat.mod_eq_of_lt hj
        simp only [Function.comp_apply, this]
        simp [hj]
      · rw [List.getElem?_eq_none (by simp; omega), List.getElem?_eq_none (by simp; omega)]
        rfl
    rw [e, List.replicate_succ', List.flatten_append]
    simp
theorem madeCells_take (z : Array Value) {l n : Nat} (h : l ≤ n) : (madeCells z (n * z.size)).toList.take (l * z.size) = (List.replicate l z.toList).flatten := by
  obtain ⟨k, rfl⟩ := Nat.exists_eq_add_of_le h
  rw [madeCells_flat, ← List.replicate_append_replicate, List.flatten_append]
  have : (List.replicate l z.toList).flatten.length = l * z.size := by simp
  rw [← this]
  exact List.take_left
theorem rd_replicate {w : World} {N : Nat → Prop} {z : List D} {cs : List Value} (h : Rd w N z cs) : ∀ n, Rd w N (List.replicate n z).flatten (List.replicate n cs).flatten
  | 0 => .nil
  | n + 1 => by simp only [List.replicate_succ, List.flatten_cons]; exact h.append (rd_replicate h n)

section
variable {P : Program} {ro : Option Nat} {q : Bool} {T : List (Nat × TI)} {N0 Nf : Nat → Prop} {w0 w w' : World} {n : Nat} {σ : Env} {h : Heap} {a : Act} {ν ν' ν0 : Nat → Value} {Q : Exit → Act → World → Prop} {next : Act → World → Prop}
  {K : AV → Heap → Rn → Prop}

theorem makeSlice_sound (hT : tabB P T = true) (s : St q N0 w0 Nf n ν0 σ h a w ν) {o : Oper} {t : TypeId} {x y : Operand} (hop : o.op = .makeSlice t x y) (hv : vcOp T (specs P) (ev σ) h (.makeSlice t x y) K)
    (hn : ∀ r h' m a' w' ν', K r h' m → St q N0 w0 Nf n ν0 ((σ.ren m).putO n o.dst r) h' a' w' ν' → next a' w') : o.wpIn (G ro) 0 P a w next Q := by
  have hxx := ev_ok s x
  have hyy := ev_ok s y
  have he : execOp a.eval o = (do pure (Next.value (← Instr.makeSlice t (a.eval x) (a.eval y)))) := by unfold execOp; rw [hop]
  simp only [vcOp] at hv
  split at hv
  · rename_i ti hti
    split at hv
    · rename_i e hk
      split at hv
      · rename_i te hte
        split at hv
        · rename_i z l c hz e1 e2
          rw [e1] at hxx; rw [e2] at hyy
          obtain ⟨hb, h0, hlc, hcb, hv⟩ := hv
          simp only [Bool.and_eq_true] at hb
          obtain ⟨⟨b1, b2⟩, b3⟩ := hb
          have b1 := Nat.le_of_ble_eq_true b1
          have b2 : 0 < te.size := Nat.le_of_ble_eq_true b2
          have b3 := Nat.eq_of_beq_eq_true b3
          have k := tabB_ok hT hte
          have ht := slice_of (tabB_ok hT hti) hk
          obtain ⟨i, zv, hi, hs, hby, hzv, hzz, hzs, _⟩ := k.info
          unfold big at hcb
          have hbytes : (i.bytes : Int) * c ≤ 281474976710656 := by
            have h1 : (i.bytes : Int) ≤ 131072 := by omega
            have h2 : (i.bytes : Int) * c ≤ 131072 * c := Int.mul_le_mul_of_nonneg_right h1 (by omega)
            omega
          have hr := run_make (P := P) w t e i zv ht hi hzv .i64 .i64 l c h0 hlc hbytes (by omega)
          rw [rv_int hxx, rv_int hyy] at he
          have hcap : l.toNat ≤ c.toNat := by omega
          have hrd : Rd w (nN N0 ν) z zv.cells.toList := (zerosB_ok (w := w) (N := nN N0 ν) (ν := ν) hzz).dsOf hz
          have hsz : i.size = zv.cells.size := by omega
          obtain ⟨ν', hs'⟩ := s.newRow (Kp.alloc w (.cells (madeCells zv.cells (c.toNat * i.size)) e)) (val := .slice (some ⟨w.heap.size, 0, none⟩) l.toNat c.toNat) (by simp [undef]) (fun b hb => by
              simp only [vblk, Option.some.injEq] at hb; subst hb; rw [size_alloc]; omega) (t := e) (sz := te.size) (rows := List.replicate l.toNat z) (A := some ⟨w.heap.size, 0, none⟩) (c := c.toNat)
              (by simp) (rd_replicate hrd l.toNat) (fun r hr => by rw [List.eq_of_mem_replicate hr]; exact b3) (by simp [big]; omega) b2
              ⟨by simp [hzs], .inr ⟨w.heap.size, c.toNat, _, by simp, Nat.zero_le _, heap_push_new w _, by simpa using hcap, by unfold maxLen; omega, by rw [size_madeCells]; rw [hsz, hzs], by
                rw [List.length_replicate, ← hzs, hsz]; exact madeCells_take zv.cells hcap⟩⟩ o.dst
          exact wp_value (exec_val he hr) (hn _ _ (.sub []) _ _ ν' hv hs')
        · exact hv.elim
      · exact hv.elim
    · exact hv.elim
  · exact hv.elim

theorem rv_dfn {w : World} {N : Nat → Prop} {ν : Nat → Value} {f : FuncId} {v : Value} (h : Rv w N ν [.d (.fn f)] [v]) : v = .func (.func f) #[] #[] := by
  cases h with | d h1 _ => cases h1; rfl
theorem call_sound (hT : tabB P T = true) (s : St q N0 w0 Nf n ν0 σ h a w ν) {o : Oper} {c : Call} (hop : o.op = .call c) (hv : vcOp T (specs P) (ev σ) h (.call c) K)
    (hn : ∀ r h' m a' w' ν', K r h' m → St q N0 w0 Nf n ν0 ((σ.ren m).putO n o.dst r) h' a' w' ν' → next a' w') : o.wpIn (G ro) 0 P a w next Q := by
  simp only [vcOp] at hv
  have harr : ∀ vs : List Value, (c.args.map a.eval ++ vs.toArray) = (c.args.toList.map a.eval ++ vs).toArray := fun vs => by apply Array.ext'; simp
  split at hv
  · rename_i f hc
    split at hv
    · rename_i g caps e
      have hf := ev_ok s f
      rw [e] at hf
      obtain ⟨xs, h1, h2⟩ := rv_fn hf
      refine vcCall_sound s ((evs_ok s c.args.toList).append h2) hv (fun he => ?_) hn
      rw [run_call_fn hop hc h1 he, harr]
    · rename_i g e
      have hf := ev_ok s f
      rw [e] at hf
      have h1 := rv_dfn hf
      refine vcCall_sound s ((evs_ok s c.args.toList).append .nil) hv (fun he => ?_) hn
      rw [run_call_fn hop hc h1 he, ← harr]
    · rename_i g first e
      have hf := ev_ok s f
      rw [e] at hf
      obtain ⟨xs, h1, h2⟩ := rv_bfn hf
      refine vcCall_sound s (h2.append (evs_ok s c.args.toList)) hv (fun he => ?_) hn
      rw [run_call_bfn hop hc h1 he, show xs.toArray ++ c.args.map a.eval = (xs ++ c.args.toList.map a.eval).toArray from by apply Array.ext'; simp]
    · exact hv.elim
  · rename_i x name hc
    split at hv
    · rename_i t v e
      have hf := ev_ok s x
      rw [e] at hf
      obtain ⟨u, h1, h2⟩ := rv_iface hf
      split at hv
      · rename_i ti hti
        have key : ti.kind ≠ .ptr → (match ti.meths.lookup name with | some f => vcCall (specs P) f (v :: c.args.toList.map (ev σ)) h K | none => False) → o.wpIn (G ro) 0 P a w next Q := by
          intro hp hv
          split at hv
          · rename_i f hm
            refine vcCall_sound s (h2.cons (evs_ok s c.args.toList)) hv (fun he => ?_) hn
            rw [run_call_invoke hop hc h1 (tabB_ok hT hti) hp hm he]
            congr 2
            apply Array.ext'; simp
          · exact hv.elim
        split at hv
        · exact hv.elim
        · rename_i hp; exact key hp hv
      · exact hv.elim
    · exact hv.elim
  · rename_i hc
    split at hv
    · rename_i x t e1 e2
      split at hv
      · rename_i ti hti
        exact vcLen_sound hT s hop hc e1 e2 hti hv hn
      · exact hv.elim
    · exact hv.elim
  · rename_i hc
    split at hv
    · rename_i x y t t2 e1 e2
      exact vcAppend_sound hT s hop hc e1 e2 hv hn
    · exact hv.elim
  · rename_i hc
    split at hv
    · rename_i x y t t2 e1 e2
      exact vcCopy_sound hT s hop hc e1 e2 hv hn
    · exact hv.elim
  · exact hv.elim

/-- ONE OPERATION. -/
theorem vcOp_sound (hT : tabB P T = true) (s : St q N0 w0 Nf n ν0 σ h a w ν) {o : Oper} (hv : vcOp T (specs P) (ev σ) h o.op K)
    (hn : ∀ r h' m a' w' ν', K r h' m → St q N0 w0 Nf n ν0 ((σ.ren m).putO n o.dst r) h' a' w' ν' → next a' w') : o.wpIn (G ro) 0 P a w next Q := by
  have rest : (match opFun T (ev σ) h o.op with | some (r, h', m) => K r h' m | none => False) → o.wpIn (G ro) 0 P a w next Q := by
    intro hv
    split at hv
    · rename_i r h' m hf
      exact opFun_sound hT s hf (fun a' w' ν' hs => hn r h' m a' w' ν' hv hs)
    · exact hv.elim
  have restE : vcElse T (ev σ) h o.op K → o.wpIn (G ro) 0 P a w next Q := by
    intro hv
    unfold vcElse at hv
    split at hv
    · rename_i r h' m hf
      exact opFun_sound hT s hf (fun a' w' ν' hs => hn r h' m a' w' ν' hv hs)
    · split at hv
      · rename_i c r h' m hf
        exact opFunC_sound hT s hf hv.1 (fun a' w' ν' hs => hn r h' m a' w' ν' hv.2 hs)
      · exact hv.elim
  cases hop : o.op <;> rw [hop] at hv rest restE
  case call c => exact call_sound hT s hop hv hn
  case index t x i => exact index_sound hT s hop hv hn
  case indexAddr t x i => exact indexAddr_sound hT s hop hv hn
  case store t x y => exact store_sound hT s hop hv hn
  case makeSlice t x y => exact makeSlice_sound hT s hop hv hn
  case lookup t x k ok => exact lookup_sound hT s hop hv hn
  case mapUpdate t x k v => exact put_sound hT s (by unfold execOp; rw [hop]) hv hn
  case insert t x k v => exact put_sound hT s (by unfold execOp; rw [hop]) hv hn
  case mapEntry t x k => exact entry_sound hT s hop hv hn
  case entryStore t x k v => exact estore_sound hT s hop hv hn
  case load t x => exact rest (load_iff.1 hv)
  all_goals (simp only [vcOp] at hv; exact restE hv)
end
end Go.Vc
end

section
set_option linter.unusedVariables false
set_option linter.unusedSimpArgs false
namespace Go.Vc
section
variable {P : Program} {ro : Option Nat} {q : Bool} {T : List (Nat × TI)} {S : Specs} {N0 Nf : Nat → Prop} {w0 w w' : World} {n : Nat} {σ σ' : Env} {h : Heap} {a : Act} {ν ν' ν0 : Nat → Value} {Q : Exit → Act → World → Prop} {ops : Array Oper}

theorem br_yes {want b : Bool} {A B : Prop} (h : br want b A B) (e : b = want) : A := by
  subst e; cases b <;> exact h.1 rfl
theorem br_no {want b : Bool} {A B : Prop} (h : br want b A B) (e : b = !want) : B := by
  subst e; cases want <;> exact h.2 rfl
theorem put_same (σ : Env) (k : Nat) (v : AV) (h : σ k = v) : σ.put k v = σ := by
  funext j
  unfold Env.put
  by_cases e : j = k
  · subst e; rw [nbT]; exact h.symm
  · rw [nbF e]; rfl

theorem guard_bool {N : Nat → Prop} {gd : Nat} {b : Bool} (h : Rv w N ν [.d (.bool b)] [a.tmps.getD gd undef]) : a.tmps[gd]? = some (.bool b) := by
  have e := rv_bool h
  rw [Array.getD_eq_getD_getElem?] at e
  cases hq : a.tmps[gd]? with
  | none => rw [hq] at e; simp [undef] at e
  | some v => rw [hq] at e; simp at e; rw [e]
theorem guard_val {N : Nat → Prop} {gd : Nat} {b : Bool} (h : Rv w N ν [.val (.bool b)] [a.tmps.getD gd undef]) : a.tmps[gd]? = some (.bool b) := by
  have e := rv_val h
  rw [Array.getD_eq_getD_getElem?] at e
  cases hq : a.tmps[gd]? with
  | none => rw [hq] at e; simp [undef] at e
  | some v => rw [hq] at e; simp at e; rw [e]
/-- more is known of a slot -/
theorem St.know (s : St q N0 w0 Nf n ν0 σ h a w ν) {k : Nat} {x : AV} (hx : Rv w (nN N0 ν) ν [x] [a.tmps.getD k undef]) : St q N0 w0 Nf n ν0 (σ.put k x) h a w ν := by
  refine ⟨fun j => ?_, s.hp, s.kp, s.fresh, s.size, s.defers, s.keep, s.low⟩
  unfold Env.put
  by_cases e : j = k
  · subst e; rw [nbT]; exact hx
  · rw [nbF e]; exact s.slots j
theorem wanted_of {o : Oper} {g : Nat} {want : Bool} {gd : Nat} (hg : o.guard = some (g, want)) (hd : (ops[g]?).bind (·.dst) = some gd) {b : Bool} (hb : a.tmps[gd]? = some (.bool b)) :
    Region.wanted o (yielded ops a.tmps) = (b == want) := by
  simp only [Region.wanted, hg, yielded, hd, Option.bind_some, hb]
  cases b <;> cases want <;> rfl
theorem wanted_undef {o : Oper} {g : Nat} {want : Bool} {gd : Nat} {xs : Array Value} {N : Nat → Prop} (hg : o.guard = some (g, want)) (hd : (ops[g]?).bind (·.dst) = some gd) (hv : Rv w N ν [.val (.tuple xs)] [a.tmps.getD gd undef]) :
    Region.wanted o (yielded ops a.tmps) = false := by
  have e' : ∀ v, Rv w N ν [.val (.tuple xs)] [v] → v = .tuple xs := by intro v h; cases h; rfl
  have e := e' _ hv
  simp only [Region.wanted, hg, yielded, hd, Option.bind_some]
  rw [Array.getD_eq_getD_getElem?] at e
  cases hq : a.tmps[gd]? with
  | none => rfl
  | some v => rw [hq] at e; simp at e; rw [e]; rfl

theorem St.skip (s : St q N0 w0 Nf n ν0 σ h a w ν) (d : Option Nat) : St q N0 w0 Nf n ν0 (σ.putO n d (.val undef)) h (a.put d undef) w ν := putAgain s d (.val _ .nil)
theorem St.world (s : St q N0 w0 Nf n ν0 σ h a w ν) (hk : Kp (fun _ => False) w w') : St q N0 w0 Nf n ν0 σ h a w' ν := s.seen (d := none) (r := .val undef) (v := undef) hk (.val _ .nil)

/-- IN THE ORDER OF THE TEXT -/
theorem vcOps_sound (hT : tabB P T = true) {K : Env → Heap → Prop} (hK : ∀ σ h a w ν, K σ h → St q N0 w0 Nf n ν0 σ h a w ν → Q .normal a w) : ∀ (rest : List Oper) {σ : Env} {h : Heap} {a : Act} {w : World} {ν : Nat → Value},
    St q N0 w0 Nf n ν0 σ h a w ν → vcOps T (specs P) n ops rest σ h K → wpListIn (G ro) 0 P ops Q rest a w
  | [], σ, h, a, w, ν, s, hv => hK _ _ _ _ _ hv s
  | o :: rest, σ, h, a, w, ν, s, hv => by
    rw [vcOps_cons] at hv
    unfold vcOpsStep at hv
    unfold wpListIn
    split at hv
    · rename_i hg
      rw [if_pos (by simp [Region.wanted, hg])]
      exact vcOp_sound hT s hv fun r h' m a' w' ν' hk hs => vcOps_sound hT hK rest hs (heapK_iff.1 (putK_iff.1 hk))
    · rename_i g want hg
      split at hv
      · exact hv.elim
      · rename_i gd hd
        split at hv
        · rename_i b hb
          have hsl := s.slots gd
          rw [hb] at hsl
          have hw := wanted_of (ops := ops) hg hd (guard_bool hsl)
          have hval : ∀ c, b = c → Rv w (nN N0 ν) ν [.val (.bool c)] [a.tmps.getD gd undef] := fun c e => by rw [rv_bool hsl, e]; exact .val _ .nil
          by_cases e : b = want
          · rw [if_pos (by rw [hw]; simp [e])]
            exact vcOp_sound hT (s.know (hval _ e)) (br_yes hv e) fun r h' m a' w' ν' hk hs => vcOps_sound hT hK rest hs (heapK_iff.1 (putK_iff.1 hk))
          · have e' : b = !want := by cases b <;> cases want <;> simp_all
            rw [if_neg (by rw [hw]; simp [e])]
            exact ⟨fun _ _ => trivial, vcOps_sound hT hK rest ((s.know (hval _ e')).skip o.dst) (br_no hv e')⟩
        · rename_i b hb
          have hsl := s.slots gd
          rw [hb] at hsl
          have hw := wanted_of (ops := ops) hg hd (guard_val hsl)
          cases hbw : (b == want) <;> rw [hbw] at hv hw
          · rw [if_neg (by rw [hw]; simp)]
            exact ⟨fun _ _ => trivial, vcOps_sound hT hK rest (s.skip o.dst) hv⟩
          · rw [if_pos hw]
            exact vcOp_sound hT s hv fun r h' m a' w' ν' hk hs => vcOps_sound hT hK rest hs (heapK_iff.1 (putK_iff.1 hk))
        · rename_i xs hb
          have hsl := s.slots gd
          rw [hb] at hsl
          rw [if_neg (by rw [wanted_undef hg hd hsl]; simp)]
          exact ⟨fun _ _ => trivial, vcOps_sound hT hK rest (s.skip o.dst) hv⟩
        · exact hv.elim

/-! ### whatever order -/
theorem vcCall_ang {f : FuncId} {args : List AV} {Φ : AV → Heap → Rn → Prop} (hv : vcCall S f args h Φ) : ∃ r h' m, Φ r h' m ∧ vcCall S f args h (fun r' h'' m' => r' = r ∧ h'' = h' ∧ m' = m) := by
  rcases hv with ⟨r, h1, h2⟩ | ⟨r, h', h1, h2⟩ | ⟨r, h', h1, h2⟩ | ⟨r, h1, h2, h3⟩ | ⟨r, h1, h2⟩ | ⟨r, h', h1, h2, h3⟩
  · cases hs : AV.scalar r with
    | true => rw [hs] at h2; exact ⟨r, h, .sub [], h2, .inl ⟨r, h1, by rw [hs]; exact ⟨rfl, rfl, rfl⟩⟩⟩
    | false => rw [hs] at h2; exact ⟨r, _, _, h2, .inl ⟨r, h1, by rw [hs]; exact ⟨rfl, rfl, rfl⟩⟩⟩
  · exact ⟨r, h', _, h2, .inr (.inl ⟨r, h', h1, rfl, rfl, rfl⟩)⟩
  · exact ⟨r, h', _, h2, .inr (.inr (.inl ⟨r, h', h1, rfl, rfl, rfl⟩))⟩
  · exact ⟨r, h, _, h3, .inr (.inr (.inr (.inl ⟨r, h1, h2, rfl, rfl, rfl⟩)))⟩
  · exact ⟨r, h, _, h2, .inr (.inr (.inr (.inr (.inl ⟨r, h1, rfl, rfl, rfl⟩))))⟩
  · exact ⟨_, _, _, forceH_iff.1 h3, .inr (.inr (.inr (.inr (.inr ⟨r, h', h1, h2, forceH_iff.2 ⟨rfl, rfl, rfl⟩⟩))))⟩

theorem vcPut_ang {ρ : Operand → AV} {t : TypeId} {x k v : Operand} {Φ : AV → Heap → Rn → Prop} (hv : vcPut T ρ h t x k v Φ) : ∃ r h' m, Φ r h' m ∧ vcPut T ρ h t x k v (fun r' h'' m' => r' = r ∧ h'' = h' ∧ m' = m) := by
  unfold vcPut at hv ⊢
  split at hv
  · rename_i ti hti
    try simp only [hti]
    split at hv
    · rename_i kt vt hk
      try simp only [hk]
      split at hv
      · rename_i e1 e2 e3
        try simp only [e1, e2, e3]
        split at hv
        · rename_i hid
          try simp only [hid]
          exact ⟨_, _, _, hv.2, hv.1, rfl, rfl, rfl⟩
        · exact hv.elim
      · exact hv.elim
    · exact hv.elim
  · exact hv.elim

theorem vcEntry_ang {ρ : Operand → AV} {t : TypeId} {x k : Operand} {Φ : AV → Heap → Rn → Prop} (hv : vcEntry T ρ h t x k Φ) : ∃ r h' m, Φ r h' m ∧ vcEntry T ρ h t x k (fun r' h'' m' => r' = r ∧ h'' = h' ∧ m' = m) := by
  unfold vcEntry at hv ⊢
  split at hv
  · rename_i ti hti
    try simp only [hti]
    split at hv
    · rename_i kt vt hk
      try simp only [hk]
      split at hv
      · rename_i e1 e2 e3 e4
        try simp only [e1, e2, e3, e4]
        split at hv
        · rename_i hid
          try simp only [hid]
          obtain ⟨g1, r, g2, hv⟩ := hv
          split at hv
          · exact ⟨_, _, _, hv, g1, _, g2, rfl, rfl, rfl⟩
          · exact ⟨_, _, _, hv, g1, _, g2, rfl, rfl, rfl⟩
        · exact hv.elim
      · exact hv.elim
    · exact hv.elim
  · exact hv.elim
theorem vcEStore_ang {ρ : Operand → AV} {x k v : Operand} {Φ : AV → Heap → Rn → Prop} (hv : vcEStore ρ h x k v Φ) : ∃ r h' m, Φ r h' m ∧ vcEStore ρ h x k v (fun r' h'' m' => r' = r ∧ h'' = h' ∧ m' = m) := by
  unfold vcEStore at hv ⊢
  split at hv
  · rename_i e1 e2
    try simp only [e1, e2]
    split at hv
    · rename_i hid
      try simp only [hid]
      obtain ⟨g1, g2, p, g3, hv⟩ := hv
      exact ⟨_, _, _, hv, g1, g2, p, g3, rfl, rfl, rfl⟩
    · exact hv.elim
  · exact hv.elim

theorem vcOp_ang {ρ : Operand → AV} {o : Op} {Φ : AV → Heap → Rn → Prop} (hv : vcOp T S ρ h o Φ) : ∃ r h' m, Φ r h' m ∧ vcOp T S ρ h o (fun r' h'' m' => r' = r ∧ h'' = h' ∧ m' = m) := by
  have restE : vcElse T ρ h o Φ → ∃ r h' m, Φ r h' m ∧ vcElse T ρ h o (fun r' h'' m' => r' = r ∧ h'' = h' ∧ m' = m) := by
    intro hv
    unfold vcElse at hv ⊢
    cases hq : opFun T ρ h o with
    | none =>
      rw [hq] at hv
      cases hq2 : opFunC T ρ h o with
      | none => rw [hq2] at hv; exact hv.elim
      | some x => obtain ⟨c, r, h', m⟩ := x; rw [hq2] at hv; exact ⟨r, h', m, hv.2, hv.1, rfl, rfl, rfl⟩
    | some x => obtain ⟨r, h', m⟩ := x; rw [hq] at hv; exact ⟨r, h', m, hv, rfl, rfl, rfl⟩
  have rest : (match opFun T ρ h o with | some (r, h', m) => Φ r h' m | none => False) → ∃ r h' m, Φ r h' m ∧ (match opFun T ρ h o with | some (r', h'', m') => r' = r ∧ h'' = h' ∧ m' = m | none => False) := by
    intro hv
    cases hq : opFun T ρ h o with
    | none => rw [hq] at hv; exact hv.elim
    | some x => obtain ⟨r, h', m⟩ := x; rw [hq] at hv; exact ⟨r, h', m, hv, rfl, rfl, rfl⟩
  cases o
  case call c =>
    simp only [vcOp] at hv ⊢
    split at hv
    · rename_i f hc
      try simp only [hc]
      split at hv
      · rename_i g caps e; (try simp only [e]); exact vcCall_ang hv
      · rename_i g e; (try simp only [e]); exact vcCall_ang hv
      · rename_i g first e; (try simp only [e]); exact vcCall_ang hv
      · exact hv.elim
    · rename_i x name hc
      try simp only [hc]
      split at hv
      · rename_i t v e
        try simp only [e]
        split at hv
        · rename_i ti hti
          try simp only [hti]
          split at hv
          · exact hv.elim
          · rename_i hk
            split at hv
            · rename_i f hm
              try simp only [hm]
              obtain ⟨r, h', m, h1, h2⟩ := vcCall_ang hv
              exact ⟨r, h', m, h1, h2⟩
            · exact hv.elim
        · exact hv.elim
      · exact hv.elim
    · rename_i hc
      try simp only [hc]
      split at hv
      · rename_i x t e1 e2
        try simp only [e1, e2]
        split at hv
        · rename_i ti hti
          try simp only [hti]
          unfold vcLen at hv ⊢
          split at hv
          · rename_i e3 e4; (try simp only [e3, e4]); exact ⟨_, _, _, hv, rfl, rfl, rfl⟩
          · rename_i e3 e4; (try simp only [e3, e4]); exact ⟨_, _, _, hv, rfl, rfl, rfl⟩
          · rename_i e3 e4; (try simp only [e3, e4]); exact ⟨_, _, _, hv, rfl, rfl, rfl⟩
          · rename_i e3 e4
            try simp only [e3, e4]
            split at hv
            · rename_i hid; (try simp only [hid]); exact ⟨_, _, _, hv, rfl, rfl, rfl⟩
            · exact hv.elim
          · rename_i e3 e4; (try simp only [e3, e4]); exact ⟨_, _, _, hv, rfl, rfl, rfl⟩
          · exact hv.elim
        · exact hv.elim
      · exact hv.elim
    · rename_i hc
      try simp only [hc]
      split at hv
      · rename_i x y t t2 e1 e2
        try simp only [e1, e2]
        unfold vcAppend at hv ⊢
        split at hv
        · rename_i ti new hti hnew
          try simp only [hti, hnew]
          split at hv
          · rename_i e hk
            try simp only [hk]
            split at hv
            · rename_i te hte
              try simp only [hte]
              obtain ⟨g1, g2, hv⟩ := hv
              split at hv
              · rename_i id e3
                try simp only [e3]
                split at hv
                · rename_i hid
                  try simp only [hid]
                  obtain ⟨g3, g4, hv⟩ := hv
                  exact ⟨_, _, _, hv, g1, g2, g3, g4, rfl, rfl, rfl⟩
                · exact hv.elim
              · rename_i e3
                try simp only [e3]
                obtain ⟨g3, hv⟩ := hv
                exact ⟨_, _, _, hv, g1, g2, g3, rfl, rfl, rfl⟩
              · exact hv.elim
            · exact hv.elim
          · exact hv.elim
        · exact hv.elim
      · exact hv.elim
    · rename_i hc
      try simp only [hc]
      split at hv
      · rename_i x y t t2 e1 e2
        try simp only [e1, e2]
        unfold vcCopy at hv ⊢
        split at hv
        · rename_i ti new id hti q1 q2
          try simp only [hti, q1, q2]
          split at hv
          · rename_i e e' sz rows hk hid
            try simp only [hk, hid]
            split at hv
            · rename_i te hte
              try simp only [hte]
              obtain ⟨g1, g2, g3, g4, hv⟩ := hv
              exact ⟨_, _, _, hv, g1, g2, g3, g4, rfl, rfl, rfl⟩
            · exact hv.elim
          · exact hv.elim
        · exact hv.elim
      · exact hv.elim
    · exact hv.elim
  case index t x i =>
    simp only [vcOp] at hv ⊢
    split at hv
    · rename_i ti hti
      try simp only [hti]
      split at hv
      · rename_i e1 e2 e3
        try simp only [e1, e2, e3]
        obtain ⟨h0, b, hb, hv⟩ := hv
        exact ⟨_, _, _, hv, h0, b, hb, rfl, rfl, rfl⟩
      · rename_i e1 e2 e3
        try simp only [e1, e2, e3]
        obtain ⟨h0, hv⟩ := hv
        split at hv
        · rename_i te hte
          try simp only [hte]
          obtain ⟨r, hr, hv⟩ := hv
          exact ⟨_, _, _, hv, h0, r, hr, rfl, rfl, rfl⟩
        · exact hv.elim
      · exact hv.elim
    · exact hv.elim
  case indexAddr t x i =>
    simp only [vcOp] at hv ⊢
    split at hv
    · rename_i ti hti
      try simp only [hti]
      split at hv
      · rename_i e hk
        try simp only [hk]
        split at hv
        · rename_i te hte
          try simp only [hte]
          obtain ⟨hsz, hv⟩ := hv
          split at hv
          · rename_i e1 e2
            try simp only [e1, e2]
            obtain ⟨h0, b, hb, hl, hv⟩ := hv
            exact ⟨_, _, _, hv, hsz, h0, b, hb, hl, rfl, rfl, rfl⟩
          · rename_i e1 e2
            try simp only [e1, e2]
            split at hv
            · rename_i hid
              try simp only [hid]
              obtain ⟨g1, g2, g3, hv⟩ := hv
              exact ⟨_, _, _, hv, hsz, g1, g2, g3, rfl, rfl, rfl⟩
            · exact hv.elim
          · exact hv.elim
        · exact hv.elim
      · exact hv.elim
    · exact hv.elim
  case store t x y =>
    simp only [vcOp] at hv ⊢
    split at hv
    · rename_i ti hti
      try simp only [hti]
      split at hv
      · rename_i new id off e1 e2
        try simp only [e1, e2]
        split at hv
        · rename_i hid
          try simp only [hid]
          obtain ⟨g1, hv⟩ := hv
          exact ⟨_, _, _, hv, g1, rfl, rfl, rfl⟩
        · exact hv.elim
      · rename_i new id i sz off e1 e2
        try simp only [e1, e2]
        split at hv
        · rename_i hid hds
          try simp only [hid, hds]
          obtain ⟨g1, row, g2, g3, hv⟩ := hv
          exact ⟨_, _, _, hv, g1, row, g2, g3, rfl, rfl, rfl⟩
        · exact hv.elim
      · exact hv.elim
    · exact hv.elim
  case makeSlice t x y =>
    simp only [vcOp] at hv ⊢
    split at hv
    · rename_i ti hti
      try simp only [hti]
      split at hv
      · rename_i e hk
        try simp only [hk]
        split at hv
        · rename_i te hte
          try simp only [hte]
          split at hv
          · rename_i e1 e2 e3
            try simp only [e1, e2, e3]
            obtain ⟨g1, g2, g3, g4, hv⟩ := hv
            exact ⟨_, _, _, hv, g1, g2, g3, g4, rfl, rfl, rfl⟩
          · exact hv.elim
        · exact hv.elim
      · exact hv.elim
    · exact hv.elim
  case lookup t x k ok =>
    simp only [vcOp] at hv ⊢
    split at hv
    · rename_i ti hti
      try simp only [hti]
      split at hv
      · rename_i kt vt hk
        try simp only [hk]
        split at hv
        · rename_i e1 e2 e3 e4
          try simp only [e1, e2, e3, e4]
          split at hv
          · rename_i hid
            try simp only [hid]
            obtain ⟨g1, r, g2, hv⟩ := hv
            split at hv
            · exact ⟨_, _, _, hv, g1, _, g2, rfl, rfl, rfl⟩
            · exact ⟨_, _, _, hv, g1, _, g2, rfl, rfl, rfl⟩
          · exact hv.elim
        · exact hv.elim
      · exact hv.elim
    · exact hv.elim
  case mapUpdate t x k v => simp only [vcOp] at hv ⊢; exact vcPut_ang hv
  case insert t x k v => simp only [vcOp] at hv ⊢; exact vcPut_ang hv
  case mapEntry t x k => simp only [vcOp] at hv ⊢; exact vcEntry_ang hv
  case entryStore t x k v => simp only [vcOp] at hv ⊢; exact vcEStore_ang hv
  case load t x =>
    obtain ⟨r, h', m, h1, h2⟩ := rest (load_iff.1 hv)
    exact ⟨r, h', m, h1, load_iff.2 h2⟩
  all_goals (simp only [vcOp] at hv ⊢; exact restE hv)

theorem bound_congr {ρ ρ' : Operand → AV} {x : Option Operand} (he : ∀ y, x = some y → ρ y = ρ' y) (z : Int) : bound ρ z x = bound ρ' z x := by
  cases x with
  | none => rfl
  | some y => simp only [bound]; rw [he y rfl]
theorem opFun_congr {ρ ρ' : Operand → AV} {o : Op} (he : ∀ x ∈ o.operands, ρ x = ρ' x) : opFun T ρ h o = opFun T ρ' h o := by
  cases o
  case load t x => simp only [opFun]; rw [he x (by simp [Op.operands])]
  case build t parts =>
    have : (parts.toList.map fun p => (p.1, ρ p.2)) = parts.toList.map fun p => (p.1, ρ' p.2) := List.map_congr_left fun p hp => by
      rw [he p.2 (by simp only [Op.operands, List.mem_toArray, List.mem_map]; exact ⟨p, hp, rfl⟩)]
    simp only [opFun]
    rw [this]
  case buildSlice t len parts =>
    have h1 : (parts.toList.map fun p => (p.1, ρ p.2)) = parts.toList.map fun p => (p.1, ρ' p.2) := List.map_congr_left fun p hp => by
      rw [he p.2 (by simp only [Op.operands, List.mem_toArray, List.mem_map]; exact ⟨p, hp, rfl⟩)]
    have h2 : (parts.toList.map fun p => ρ p.2) = parts.toList.map fun p => ρ' p.2 := List.map_congr_left fun p hp => by
      rw [he p.2 (by simp only [Op.operands, List.mem_toArray, List.mem_map]; exact ⟨p, hp, rfl⟩)]
    simp only [opFun]
    rw [h1, h2]
  case makeFunc fn first caps =>
    have h1 : caps.toList.map ρ = caps.toList.map ρ' := List.map_congr_left fun x hx => he x (by simp [Op.operands, Array.mem_toList_iff.1 hx])
    have h2 : first.toList.map ρ = first.toList.map ρ' := List.map_congr_left fun x hx => he x (by simp [Op.operands, Array.mem_toList_iff.1 hx])
    cases fn <;> simp only [opFun]
    rw [h1, h2]
  case unOp op t x =>
    have := he x (by simp [Op.operands])
    cases op <;> simp only [opFun]
    rw [this]
  all_goals first
    | rfl
    | (rename_i x y z; simp only [opFun]; rw [he x (by simp [Op.operands]), he y (by simp [Op.operands]), he z (by simp [Op.operands])]; done)
    | (rename_i t x y z; simp only [opFun]; rw [he x (by simp [Op.operands]), he y (by simp [Op.operands])]; done)
    | (rename_i x y; simp only [opFun]; rw [he x (by simp [Op.operands]), he y (by simp [Op.operands])]; done)
    | (rename_i op t x y z; simp only [opFun]; rw [he x (by simp [Op.operands]), he y (by simp [Op.operands])]; done)
    | (rename_i x; simp only [opFun]; rw [he x (by simp [Op.operands])]; done)
    | (rename_i x z; simp only [opFun]; rw [he x (by simp [Op.operands])]; done)
theorem opFunC_congr {ρ ρ' : Operand → AV} {o : Op} (he : ∀ x ∈ o.operands, ρ x = ρ' x) : opFunC T ρ h o = opFunC T ρ' h o := by
  cases o
  case binOp op t x y z => simp only [opFunC]; rw [he x (by simp [Op.operands]), he y (by simp [Op.operands])]
  case slice t x lo hi mx =>
    cases mx with
    | some m => rfl
    | none =>
      have h1 : ∀ z, bound ρ z lo = bound ρ' z lo := bound_congr fun y e => he y (by simp [Op.operands, e])
      have h2 : ∀ z, bound ρ z hi = bound ρ' z hi := bound_congr fun y e => he y (by simp [Op.operands, e])
      simp only [opFunC]; rw [he x (by simp [Op.operands])]; simp only [h1, h2]
  all_goals rfl
theorem vcElse_congr {ρ ρ' : Operand → AV} {o : Op} {Φ : AV → Heap → Rn → Prop} (he : ∀ x ∈ o.operands, ρ x = ρ' x) (hv : vcElse T ρ h o Φ) : vcElse T ρ' h o Φ := by
  unfold vcElse at hv ⊢
  rw [← opFun_congr he, ← opFunC_congr he]; exact hv
theorem vcOp_congr {ρ ρ' : Operand → AV} {o : Op} {Φ : AV → Heap → Rn → Prop} (hc : ∀ cs b, o ≠ .select cs b) (he : ∀ x ∈ o.operands, ρ x = ρ' x) (hv : vcOp T S ρ h o Φ) : vcOp T S ρ' h o Φ := by
  cases o
  case call c =>
    have hargs : c.args.toList.map ρ = c.args.toList.map ρ' := List.map_congr_left fun x hx => he x (by simp [Op.operands, Call.operands, Array.mem_toList_iff.1 hx])
    have h1 : ∀ f, c.callee = .value f → ρ f = ρ' f := fun f hf => he f (by simp [Op.operands, Call.operands, hf])
    have h2 : ∀ f nm, c.callee = .invoke f nm → ρ f = ρ' f := fun f nm hf => he f (by simp [Op.operands, Call.operands, hf])
    have h3 : ∀ x ∈ c.args.toList, ρ x = ρ' x := fun x hx => he x (by simp [Op.operands, Call.operands, Array.mem_toList_iff.1 hx])
    simp only [vcOp] at hv ⊢
    split at hv
    · rename_i f hcal
      try simp only [hcal]
      rw [h1 f hcal, hargs] at hv
      exact hv
    · rename_i x name hcal
      try simp only [hcal]
      rw [h2 x name hcal, hargs] at hv
      exact hv
    · rename_i hcal
      try simp only [hcal]
      split at hv
      · rename_i x t e1 e2
        try simp only [e1, e2]
        rw [h3 x (by rw [e1]; simp)] at hv
        exact hv
      · exact hv.elim
    · rename_i hcal
      try simp only [hcal]
      split at hv
      · rename_i x y t t2 e1 e2
        try simp only [e1, e2]
        rw [h3 x (by rw [e1]; simp), h3 y (by rw [e1]; simp)] at hv
        exact hv
      · exact hv.elim
    · rename_i hcal
      try simp only [hcal]
      split at hv
      · rename_i x y t t2 e1 e2
        try simp only [e1, e2]
        rw [h3 x (by rw [e1]; simp), h3 y (by rw [e1]; simp)] at hv
        exact hv
      · exact hv.elim
    · exact hv.elim
  case load t x =>
    rw [load_iff] at hv ⊢
    simp only [opFun] at hv ⊢
    rw [he x (by simp [Op.operands])] at hv; exact hv
  case lookup t x k ok =>
    simp only [vcOp] at hv ⊢; rw [he x (by simp [Op.operands]), he k (by simp [Op.operands])] at hv; exact hv
  case mapEntry t x k =>
    simp only [vcOp, vcEntry] at hv ⊢; rw [he x (by simp [Op.operands]), he k (by simp [Op.operands])] at hv; exact hv
  case entryStore t x k v =>
    simp only [vcOp, vcEStore] at hv ⊢; rw [he x (by simp [Op.operands]), he k (by simp [Op.operands]), he v (by simp [Op.operands])] at hv; exact hv
  case mapUpdate t x k v =>
    simp only [vcOp, vcPut] at hv ⊢; rw [he x (by simp [Op.operands]), he k (by simp [Op.operands]), he v (by simp [Op.operands])] at hv; exact hv
  case insert t x k v =>
    simp only [vcOp, vcPut] at hv ⊢; rw [he x (by simp [Op.operands]), he k (by simp [Op.operands]), he v (by simp [Op.operands])] at hv; exact hv
  case index t x i =>
    simp only [vcOp] at hv ⊢; rw [he x (by simp [Op.operands]), he i (by simp [Op.operands])] at hv; exact hv
  case indexAddr t x i =>
    simp only [vcOp] at hv ⊢; rw [he x (by simp [Op.operands]), he i (by simp [Op.operands])] at hv; exact hv
  case store t x y =>
    simp only [vcOp] at hv ⊢; rw [he x (by simp [Op.operands]), he y (by simp [Op.operands])] at hv; exact hv
  case makeSlice t x y =>
    simp only [vcOp] at hv ⊢; rw [he x (by simp [Op.operands]), he y (by simp [Op.operands])] at hv; exact hv
  all_goals (simp only [vcOp] at hv ⊢; exact vcElse_congr he hv)
end
end Go.Vc
end

section
set_option linter.unusedVariables false
set_option linter.unusedSimpArgs false
namespace Go.Vc
section
variable {P : Program} {ro : Option Nat} {q : Bool} {T : List (Nat × TI)} {N0 Nf : Nat → Prop} {w0 w w' : World} {n : Nat} {σ σ' : Env} {h : Heap} {a : Act} {ν ν' ν0 : Nat → Value} {ops : Array Oper}

/-- one operation, in knowledge σ, yields r -/
def PStep (P : Program) (T : List (Nat × TI)) (ops : Array Oper) (h : Heap) (σ : Env) (o : Oper) (r : AV) : Prop :=
  match o.guard with
  | none => vcOp T (specs P) (ev σ) h o.op fun r' h' m => r' = r ∧ h' = h ∧ m = .sub []
  | some (g, want) => ∃ gd, (ops[g]?).bind (·.dst) = some gd ∧
      ((σ gd = .d (.bool want) ∧ vcOp T (specs P) (ev σ) h o.op fun r' h' m => r' = r ∧ h' = h ∧ m = .sub []) ∨
       (σ gd = .d (.bool (!want)) ∧ r = .val undef) ∨ (∃ xs, σ gd = .val (.tuple xs) ∧ r = .val undef) ∨
       (σ gd = .val (.bool want) ∧ vcOp T (specs P) (ev σ) h o.op fun r' h' m => r' = r ∧ h' = h ∧ m = .sub []) ∨ (σ gd = .val (.bool (!want)) ∧ r = .val undef))

theorem pstep_of (Sx : Specs) (hSx : Sx = specs P) {ρ : Operand → AV} {o : Op} {d : Option Nat} {K : Env → Prop} (hv : vcOp T (specs P) ρ h o fun r h' m => h' = h ∧ m = .sub [] ∧ putK σ (.sub []) n d r K) : ∃ r, (vcOp T (specs P) ρ h o fun r' h' m => r' = r ∧ h' = h ∧ m = .sub []) ∧ K (σ.putO n d r) := by
  obtain ⟨r, h', m, ⟨rfl, rfl, hΦ⟩, h2⟩ := vcOp_ang hv
  exact ⟨r, h2, putK_iff.1 hΦ⟩

theorem putO_ne (σ : Env) (d : Option Nat) (r : AV) (t : Nat) (ht : ∀ x, d = some x → t ≠ x) : (σ.putO n d r) t = σ t := by
  cases d with
  | none => rfl
  | some x =>
    simp only [Env.putO]
    cases Nat.ble (x + 1) n
    · rfl
    · simp only [cond_true, Env.put, nbF (ht x rfl), cond_false]
def DecOk (dec : List (Nat × Bool)) (σ : Env) : Prop := ∀ g b, look dec g = some b → σ g = .d (.bool b)
theorem DecOk.put {dec : List (Nat × Bool)} (hd : DecOk dec σ) (d : Option Nat) (r : AV) : DecOk (remD d dec) (σ.putO n d r) := by
  intro g b hg
  cases d with
  | none => exact hd g b hg
  | some x =>
    simp only [remD, look_del] at hg
    split at hg
    · cases hg
    · rename_i hne
      rw [putO_ne σ (some x) r g (fun y hy e => by injection hy with hy; exact hne (by rw [e, hy]))]
      exact hd g b hg
theorem DecOk.know {dec : List (Nat × Bool)} (hd : DecOk dec σ) {gd : Nat} {b : Bool} (hb : σ gd = .d (.bool b)) : DecOk ((gd, b) :: dec) σ := by
  intro g c hg
  simp only [look] at hg
  by_cases e : g = gd
  · subst e
    rw [nbT] at hg
    simp only [cond_true, Option.some.injEq] at hg
    rw [← hg]; exact hb
  · rw [nbF e] at hg
    exact hd g c hg

theorem vcPure_cons {o : Oper} {rest : List Oper} {K : Env → Prop} {dec : List (Nat × Bool)} (hdec : DecOk dec σ) (hv : vcPure T (specs P) n ops (o :: rest) dec σ h K) :
    ∃ r dec', PStep P T ops h σ o r ∧ DecOk dec' (σ.putO n o.dst r) ∧ vcPure T (specs P) n ops rest dec' (σ.putO n o.dst r) h K := by
  rw [vcPure_cons'] at hv
  unfold vcPureStep at hv
  unfold PStep
  split at hv
  · rename_i hg
    simp only [hg]
    obtain ⟨r, h1, h2⟩ := pstep_of _ rfl hv
    exact ⟨r, _, h1, hdec.put _ _, h2⟩
  · rename_i g want hg
    simp only [hg]
    split at hv
    · exact hv.elim
    · rename_i gd hd
      split at hv
      · rename_i b hl
        have hb := hdec gd b hl
        cases hbw : (b == want) <;> rw [hbw] at hv
        · have e' : b = !want := by cases b <;> cases want <;> simp_all
          exact ⟨_, _, ⟨gd, hd, .inr (.inl ⟨by rw [hb, e'], rfl⟩)⟩, hdec.put _ _, hv⟩
        · have e' : b = want := by simpa using hbw
          obtain ⟨r, h2, h3⟩ := pstep_of _ rfl hv
          exact ⟨r, _, ⟨gd, hd, .inl ⟨by rw [hb, e'], h2⟩⟩, hdec.put _ _, h3⟩
      · split at hv
        · rename_i b hb
          by_cases e : b = want
          · subst e
            have h1 := br_yes hv rfl
            simp only [put_same σ gd _ hb] at h1
            obtain ⟨r, h2, h3⟩ := pstep_of _ rfl h1
            exact ⟨r, _, ⟨gd, hd, .inl ⟨hb, h2⟩⟩, (hdec.know hb).put _ _, h3⟩
          · have e' : b = !want := by cases b <;> cases want <;> simp_all
            have h2 := br_no hv e'
            rw [← e', put_same σ gd _ hb] at h2
            exact ⟨_, _, ⟨gd, hd, .inr (.inl ⟨by rw [hb, e'], rfl⟩)⟩, (hdec.know hb).put _ _, h2⟩
        · rename_i b hb
          cases hbw : (b == want) <;> rw [hbw] at hv
          · have e' : b = !want := by cases b <;> cases want <;> simp_all
            exact ⟨_, _, ⟨gd, hd, .inr (.inr (.inr (.inr ⟨by rw [hb, e'], rfl⟩)))⟩, hdec.put _ _, hv⟩
          · have e' : b = want := by simpa using hbw
            obtain ⟨r, h2, h3⟩ := pstep_of _ rfl hv
            exact ⟨r, _, ⟨gd, hd, .inr (.inr (.inr (.inl ⟨by rw [hb, e'], h2⟩)))⟩, hdec.put _ _, h3⟩
        · rename_i xs hb
          exact ⟨_, _, ⟨gd, hd, .inr (.inr (.inl ⟨xs, hb, rfl⟩))⟩, hdec.put _ _, hv⟩
        · exact hv.elim

theorem PStep.congr {o : Oper} {r : AV} (hsel : ∀ cs b, o.op ≠ .select cs b) (he : ∀ t ∈ o.looksAt ops, σ t = σ' t) (hp : PStep P T ops h σ o r) : PStep P T ops h σ' o r := by
  have hop : ∀ x ∈ o.op.operands, ev σ x = ev σ' x := by
    intro x hx
    cases x with
    | tmp t => exact he t (by simp only [Oper.looksAt, List.mem_append, List.mem_filterMap]; exact .inl ⟨.tmp t, Array.mem_toList_iff.2 hx, rfl⟩)
    | const v => rfl
    | global g => rfl
    | func f => rfl
  unfold PStep at hp ⊢
  split at hp
  · rename_i hg
    exact vcOp_congr hsel hop hp
  · rename_i g want hg
    obtain ⟨gd, hd, hp⟩ := hp
    have hgd : σ gd = σ' gd := he gd (by simp [Oper.looksAt, hg, hd])
    refine ⟨gd, hd, ?_⟩
    rw [← hgd]
    rcases hp with ⟨h1, h2⟩ | h1 | h1 | ⟨h1, h2⟩ | h1
    · exact .inl ⟨h1, vcOp_congr hsel hop h2⟩
    · exact .inr (.inl h1)
    · exact .inr (.inr (.inl h1))
    · exact .inr (.inr (.inr (.inl ⟨h1, vcOp_congr hsel hop h2⟩)))
    · exact .inr (.inr (.inr (.inr h1)))

theorem putO_comm (σ : Env) (d e : Option Nat) (r u : AV) (hde : ∀ x, d = some x → e ≠ some x) : (σ.putO n d r).putO n e u = (σ.putO n e u).putO n d r := by
  cases d with
  | none => rfl
  | some x =>
    cases e with
    | none => rfl
    | some y =>
      have hxy : y ≠ x := fun g => hde x rfl (by rw [g])
      simp only [Env.putO]
      cases Nat.ble (x + 1) n <;> cases Nat.ble (y + 1) n <;> try rfl
      funext t
      simp only [cond_true, Env.put]
      by_cases h1 : t = x
      · subst h1; simp [nbT, nbF (Ne.symm hxy)]
      · by_cases h2 : t = y
        · subst h2; simp [nbT, nbF hxy]
        · simp [nbF h1, nbF h2]

def qA (P : Program) (T : List (Nat × TI)) (n : Nat) (ops : Array Oper) (h : Heap) (i : Nat) (K : Env → Prop) (σ : Env) : Prop :=
  match ops[i]? with
  | none => K σ
  | some o => ∃ r, PStep P T ops h σ o r ∧ K (σ.putO n o.dst r)
def wpAnyA (P : Program) (T : List (Nat × TI)) (n : Nat) (ops : Array Oper) (h : Heap) (K : Env → Prop) : Nat → Array Bool → Env → Prop
  | 0, listed, σ => Region.ready .any ops listed = [] ∧ K σ
  | fuel + 1, listed, σ =>
    (Region.ready .any ops listed = [] → K σ) ∧
    ∀ i ∈ Region.ready .any ops listed, qA P T n ops h i (wpAnyA P T n ops h K fuel (listed.setIfInBounds i true)) σ

theorem qA_mono {i : Nat} {K K' : Env → Prop} (hk : ∀ σ, K σ → K' σ) (hq : qA P T n ops h i K σ) : qA P T n ops h i K' σ := by
  unfold qA at *
  split
  · exact hk _ (by simpa [*] using hq)
  · rename_i o ho
    simp only [ho] at hq
    obtain ⟨r, h1, h2⟩ := hq
    exact ⟨r, h1, hk _ h2⟩

/-- a single operation, as the model carries it out -/
theorem PStep.sound (hT : tabB P T = true) {o : Oper} {r : AV} (s : St q N0 w0 Nf n ν0 σ h a w ν) (hp : PStep P T ops h σ o r) {K' : Act → World → Prop} {Q' : Exit → Act → World → Prop}
    (hn : ∀ a' w' ν', St q N0 w0 Nf n ν0 (σ.putO n o.dst r) h a' w' ν' → K' a' w') : if Region.wanted o (yielded ops a.tmps) then o.wpIn (G ro) 0 P a w K' Q' else (∀ f, o.about P w a.eval = some f → (G ro).fn f) ∧ K' (a.put o.dst undef) w := by
  have go : (vcOp T (specs P) (ev σ) h o.op fun r' h' m => r' = r ∧ h' = h ∧ m = .sub []) → o.wpIn (G ro) 0 P a w K' Q' := fun hv =>
    vcOp_sound hT s hv fun r' h' m a' w' ν' hk hs => by obtain ⟨rfl, rfl, rfl⟩ := hk; exact hn a' w' ν' hs
  unfold PStep at hp
  split at hp
  · rename_i hg
    rw [if_pos (by simp [Region.wanted, hg])]
    exact go hp
  · rename_i g want hg
    obtain ⟨gd, hd, hp⟩ := hp
    have hsl := s.slots gd
    rcases hp with ⟨h1, h2⟩ | ⟨h1, h2⟩ | ⟨xs, h1, h2⟩ | ⟨h1, h2⟩ | ⟨h1, h2⟩
    · rw [h1] at hsl
      rw [if_pos (by rw [wanted_of hg hd (guard_bool hsl)]; simp)]
      exact go h2
    · rw [h1] at hsl
      rw [if_neg (by rw [wanted_of hg hd (guard_bool hsl)]; cases want <;> simp)]
      subst h2
      exact ⟨fun _ _ => trivial, hn _ _ ν (s.skip o.dst)⟩
    · rw [h1] at hsl
      rw [if_neg (by rw [wanted_undef hg hd hsl]; simp)]
      subst h2
      exact ⟨fun _ _ => trivial, hn _ _ ν (s.skip o.dst)⟩
    · rw [h1] at hsl
      rw [if_pos (by rw [wanted_of hg hd (guard_val hsl)]; simp)]
      exact go h2
    · rw [h1] at hsl
      rw [if_neg (by rw [wanted_of hg hd (guard_val hsl)]; cases want <;> simp)]
      subst h2
      exact ⟨fun _ _ => trivial, hn _ _ ν (s.skip o.dst)⟩

theorem wpAny_of_A (hT : tabB P T = true) {K : Env → Prop} {Q' : Exit → Act → World → Prop} (hQ : ∀ σ a w ν, K σ → St q N0 w0 Nf n ν0 σ h a w ν → Q' .normal a w) : ∀ (fuel : Nat) (listed : Array Bool) {σ : Env} {a : Act} {w : World} {ν : Nat → Value},
    St q N0 w0 Nf n ν0 σ h a w ν → wpAnyA P T n ops h K fuel listed σ → wpAnyIn (G ro) 0 P .any ops Q' fuel listed a w
  | 0, _, _, _, _, _, s, hv => ⟨hv.1, hQ _ _ _ _ hv.2 s⟩
  | fuel + 1, listed, σ, a, w, ν, s, hv => ⟨fun h0 => hQ _ _ _ _ (hv.1 h0) s, fun i hi => by
      have h1 := hv.2 i hi
      unfold qA at h1
      unfold wpOpIn
      split
      · rename_i ho; simp only [ho] at h1; exact wpAny_of_A hT hQ fuel _ s h1
      · rename_i o ho
        simp only [ho] at h1
        obtain ⟨r, h2, h3⟩ := h1
        exact PStep.sound hT s h2 fun a' w' ν' hs => wpAny_of_A hT hQ fuel _ hs h3⟩

theorem qA_put {j : Nat} {oi oj : Oper} {r : AV} (hj : ops[j]? = some oj) (hap : oi.apart ops oj = true) (hsi : ∀ cs b, oi.op ≠ .select cs b) (hsj : ∀ cs b, oj.op ≠ .select cs b) {K : Env → Prop} {σ : Env}
    (hy : PStep P T ops h σ oi r) (hq : qA P T n ops h j K (σ.putO n oi.dst r)) : qA P T n ops h j (fun σ' => PStep P T ops h σ' oi r ∧ K (σ'.putO n oi.dst r)) σ := by
  obtain ⟨h1, h2, h3⟩ := Oper.apart_spec hap
  unfold qA at *
  simp only [hj] at *
  obtain ⟨u, hu, hk⟩ := hq
  refine ⟨u, hu.congr hsj (fun t ht => putO_ne σ _ _ t (fun x hx g => h1 x hx (g ▸ ht))), hy.congr hsi (fun t ht => (putO_ne σ _ _ t (fun x hx g => h3 x hx (g ▸ ht))).symm), ?_⟩
  rw [← putO_comm σ oi.dst oj.dst r u (fun x hx => h2 x hx)]
  exact hk

theorem wpAnyA_first {K : Env → Prop} {i : Nat} {oi : Oper} {r : AV} (hi : ops[i]? = some oi) (hsel : ∀ (j : Nat) (o : Oper) cs b, ops[j]? = some o → o.op ≠ .select cs b) :
    ∀ (fuel : Nat) (listed : Array Bool) (σ : Env),
      (∀ j oj, ops[j]? = some oj → j ≠ i → listed.getD j true = false → (∀ e ∈ oj.after, Region.binds .any e = true → e.on ≠ i) → oi.apart ops oj = true) →
      i ∈ Region.ready .any ops listed → PStep P T ops h σ oi r →
      wpAnyA P T n ops h K fuel (listed.setIfInBounds i true) (σ.putO n oi.dst r) → wpAnyA P T n ops h K (fuel + 1) listed σ := by
  have self : ∀ (K' : Env → Prop) (σ : Env), PStep P T ops h σ oi r → K' (σ.putO n oi.dst r) → qA P T n ops h i K' σ := fun K' σ hy hk => by
    unfold qA; simp only [hi]; exact ⟨r, hy, hk⟩
  intro fuel
  induction fuel with
  | zero =>
    intro listed σ _ hr hy H
    refine ⟨fun h => (by rw [h] at hr; cases hr), fun j hj => ?_⟩
    by_cases hji : j = i
    · subst hji; exact self _ _ hy H
    · have := ready_mono hj hji
      rw [H.1] at this
      cases this
  | succ fuel ih =>
    intro listed σ hfree hr hy H
    refine ⟨fun h => (by rw [h] at hr; cases hr), fun j hj => ?_⟩
    by_cases hji : j = i
    · subst hji; exact self _ _ hy H
    · have h1 := H.2 j (ready_mono hj hji)
      obtain ⟨hjun, oj, hoj, hall⟩ := mem_ready.1 hj
      have hnot : ∀ e ∈ oj.after, Region.binds .any e = true → e.on ≠ i := fun e he hb heq => by
        have h1 := hall e he hb
        have h0 := (mem_ready.1 hr).1
        rw [heq] at h1
        rcases Nat.lt_or_ge i listed.size with h' | h'
        · simp [h'] at h0 h1; rw [h0] at h1; cases h1
        · simp [Array.getElem?_eq_none h'] at h1
      have h2 := qA_put hoj (hfree j oj hoj hji hjun hnot) (fun cs b => hsel i oi cs b hi) (fun cs b => hsel j oj cs b hoj) hy h1
      have hfree' : ∀ k ok, ops[k]? = some ok → k ≠ i → (listed.setIfInBounds j true).getD k true = false →
          (∀ e ∈ ok.after, Region.binds .any e = true → e.on ≠ i) → oi.apart ops ok = true := fun k ok hk hki hun hno => by
        refine hfree k ok hk hki ?_ hno
        by_cases hjk : j = k
        · subst hjk; exact hjun
        · rw [getD_set_ne true hjk] at hun; exact hun
      refine qA_mono (fun σ' h3 => ih (listed.setIfInBounds j true) σ' hfree' (ready_mono hr (Ne.symm hji)) h3.1 ?_) h2
      rw [Array.setIfInBounds_comm _ _ hji]
      exact h3.2

theorem wpAnyA_lex {K : Env → Prop} (hs : Region.noSelect ops = true) : ∀ (l : List Oper) (k : Nat) (listed : Array Bool) (dec : List (Nat × Bool)) (σ : Env), DecOk dec σ → (∀ j, l[j]? = ops[k + j]?) →
    Region.lexFrom .any ops l.length k listed = true → vcPure T (specs P) n ops l dec σ h K → wpAnyA P T n ops h K l.length listed σ
  | [], _, _, _, _, _, _, hB, hv => ⟨by simpa [Region.lexFrom] using hB, hv⟩
  | o :: l, k, listed, dec, σ, hdec, hl, hB, hv => by
    have h0 : ops[k]? = some o := by simpa using (hl 0).symm
    simp only [List.length_cons, Region.lexFrom, Bool.and_eq_true] at hB
    obtain ⟨⟨hr, hf⟩, hB'⟩ := hB
    obtain ⟨r, dec', hy, hdec', hK⟩ := vcPure_cons hdec hv
    exact wpAnyA_first h0 (Region.noSelect_spec hs) l.length listed σ (Region.free_spec h0 hf) (by simpa using hr) hy
      (wpAnyA_lex hs l (k + 1) _ _ _ hdec' (fun j => by have := hl (j + 1); simpa [Nat.add_assoc, Nat.add_comm 1 j] using this) hB' hK)

theorem drew_kp (w : World) : Kp (fun _ => False) w { w with drawn := w.drawn + 1 } := ⟨rfl, rfl, rfl, Nat.le_refl _, fun _ _ _ => rfl⟩

/-- WHATEVER ORDER -/
theorem vcPure_sound (hT : tabB P T = true) (hm : P.follows .mixedOrders = true) {id : Nat} {K : Env → Prop} {Q : Exit → Act → World → Prop} (hQ : ∀ σ a w ν, K σ → St q N0 w0 Nf n ν0 σ h a w ν → Q .normal a w)
    (s : St q N0 w0 Nf n ν0 σ h a w ν) (hB : Region.lexB .any ops = true) (hv : vcPure T (specs P) n ops ops.toList [] σ h K) : (Code.region id ops true).wpIn (G ro) 0 P Q a w := by
  simp only [Region.lexB, Bool.and_eq_true] at hB
  refine wpIn_region_any hm (wpAny_of_A hT hQ _ _ (s.world (drew_kp w)) ?_)
  have := wpAnyA_lex (P := P) (T := T) (n := n) (h := h) (K := K) hB.1 ops.toList 0 (Array.replicate ops.size false) [] σ (fun g b hg => by simp [look] at hg) (by simp) (by simpa using hB.2) hv
  simpa using this

/-! ### a last operation, behind all others, that turns the heap -/
theorem splitLast_eq : ∀ {l i : List Oper} {z : Oper}, splitLast l = some (i, z) → l = i ++ [z]
  | [], _, _, h => by cases h
  | o :: l, i, z, h => by
    have e : splitLast (o :: l) = (match splitLast l with | none => some ([], o) | some (i, z) => some (o :: i, z)) := rfl
    rw [e] at h
    split at h
    · rename_i e
      simp only [Option.some.injEq, Prod.mk.injEq] at h
      obtain ⟨rfl, rfl⟩ := h
      cases l with
      | nil => rfl
      | cons p l =>
        have e' : splitLast (p :: l) = (match splitLast l with | none => some ([], p) | some (i, z) => some (p :: i, z)) := rfl
        rw [e'] at e
        split at e <;> cases e
    · rename_i i' z' e
      simp only [Option.some.injEq, Prod.mk.injEq] at h
      obtain ⟨rfl, rfl⟩ := h
      rw [splitLast_eq e]
      rfl
theorem covers_ok {l : List Edge} : ∀ {k : Nat}, coversB l k = true → ∀ j, j < k → ∃ e ∈ l, Region.binds .any e = true ∧ e.on = j
  | 0, _, j, hj => by omega
  | k + 1, h, j, hj => by
    simp only [coversB, Bool.and_eq_true, List.any_eq_true] at h
    by_cases e : j = k
    · obtain ⟨e', he, hb, ho⟩ := h.1
      exact ⟨e', he, hb, by rw [e]; exact Nat.eq_of_beq_eq_true ho⟩
    · exact covers_ok h.2 j (by omega)
def wpAnyB (P : Program) (T : List (Nat × TI)) (n : Nat) (ops : Array Oper) (h : Heap) (z : Nat) (K : Env → Prop) : Nat → Array Bool → Env → Prop
  | 0, listed, σ => (z ∈ Region.ready .any ops listed ∧ (∀ j ∈ Region.ready .any ops listed, j = z) ∧ Region.ready .any ops (listed.setIfInBounds z true) = []) ∧ K σ
  | fuel + 1, listed, σ =>
    Region.ready .any ops listed ≠ [] ∧
    ∀ i ∈ Region.ready .any ops listed, i ≠ z ∧ qA P T n ops h i (wpAnyB P T n ops h z K fuel (listed.setIfInBounds i true)) σ
theorem wpAny_of_B (hT : tabB P T = true) {z : Nat} {oz : Oper} (hz : ops[z]? = some oz) {K : Env → Prop} {Q' : Exit → Act → World → Prop}
    (hQ : ∀ σ a w ν, K σ → St q N0 w0 Nf n ν0 σ h a w ν → ∀ K' : Act → World → Prop, (∀ a' w', Q' .normal a' w' → K' a' w') → if Region.wanted oz (yielded ops a.tmps) then oz.wpIn (G ro) 0 P a w K' Q' else (∀ f, oz.about P w a.eval = some f → (G ro).fn f) ∧ K' (a.put oz.dst undef) w) : ∀ (fuel : Nat) (listed : Array Bool) {σ : Env} {a : Act} {w : World} {ν : Nat → Value},
    St q N0 w0 Nf n ν0 σ h a w ν → wpAnyB P T n ops h z K fuel listed σ → wpAnyIn (G ro) 0 P .any ops Q' (fuel + 1) listed a w
  | 0, listed, σ, a, w, ν, s, hv => ⟨fun h0 => (by have := hv.1.1; rw [h0] at this; cases this), fun i hi => by
      have := hv.1.2.1 i hi
      subst this
      unfold wpOpIn
      simp only [hz]
      exact hQ σ a w ν hv.2 s _ (fun a' w' hq => ⟨hv.1.2.2, hq⟩)⟩
  | fuel + 1, listed, σ, a, w, ν, s, hv => ⟨fun h0 => absurd h0 hv.1, fun i hi => by
      have h1 := (hv.2 i hi).2
      unfold qA at h1
      unfold wpOpIn
      split
      · rename_i ho; simp only [ho] at h1; exact wpAny_of_B hT hz hQ fuel _ s h1
      · rename_i o ho
        simp only [ho] at h1
        obtain ⟨r, h2, h3⟩ := h1
        exact PStep.sound hT s h2 fun a' w' ν' hs => wpAny_of_B hT hz hQ fuel _ hs h3⟩
theorem unlisted {i : Nat} {listed : Array Bool} (h : listed.getD i true = false) : listed.getD i false = false := by
  rcases Nat.lt_or_ge i listed.size with h' | h'
  · simpa [h'] using h
  · simp [Array.getElem?_eq_none h']
theorem wpAnyB_first {z : Nat} {oz : Oper} (hz : ops[z]? = some oz) (hcov : ∀ j, j < z → ∃ e ∈ oz.after, Region.binds .any e = true ∧ e.on = j) {K : Env → Prop} {i : Nat} {oi : Oper} {r : AV} (hi : ops[i]? = some oi) (hiz : i < z) (hsel : ∀ (j : Nat) (o : Oper) cs b, ops[j]? = some o → o.op ≠ .select cs b) :
    ∀ (fuel : Nat) (listed : Array Bool) (σ : Env),
      (∀ j oj, ops[j]? = some oj → j ≠ i → listed.getD j true = false → (∀ e ∈ oj.after, Region.binds .any e = true → e.on ≠ i) → oi.apart ops oj = true) →
      i ∈ Region.ready .any ops listed → PStep P T ops h σ oi r →
      wpAnyB P T n ops h z K fuel (listed.setIfInBounds i true) (σ.putO n oi.dst r) → wpAnyB P T n ops h z K (fuel + 1) listed σ := by
  have self : ∀ (K' : Env → Prop) (σ : Env), PStep P T ops h σ oi r → K' (σ.putO n oi.dst r) → qA P T n ops h i K' σ := fun K' σ hy hk => by
    unfold qA; simp only [hi]; exact ⟨r, hy, hk⟩
  have hnz : ∀ (listed : Array Bool), i ∈ Region.ready .any ops listed → ∀ j ∈ Region.ready .any ops listed, j ≠ z := fun listed hr j hj e => by
    subst e
    obtain ⟨_, o, ho, hall⟩ := mem_ready.1 hj
    rw [hz] at ho
    injection ho with ho
    subst ho
    obtain ⟨e, he, hb, hon⟩ := hcov i hiz
    have h1 := hall e he hb
    rw [hon, unlisted (mem_ready.1 hr).1] at h1
    cases h1
  intro fuel
  induction fuel with
  | zero =>
    intro listed σ _ hr hy H
    refine ⟨fun h => (by rw [h] at hr; cases hr), fun j hj => ⟨hnz listed hr j hj, ?_⟩⟩
    by_cases hji : j = i
    · subst hji; exact self _ _ hy H
    · exact absurd (H.1.2.1 j (ready_mono hj hji)) (hnz listed hr j hj)
  | succ fuel ih =>
    intro listed σ hfree hr hy H
    refine ⟨fun h => (by rw [h] at hr; cases hr), fun j hj => ⟨hnz listed hr j hj, ?_⟩⟩
    by_cases hji : j = i
    · subst hji; exact self _ _ hy H
    · have h1 := (H.2 j (ready_mono hj hji)).2
      obtain ⟨hjun, oj, hoj, hall⟩ := mem_ready.1 hj
      have hnot : ∀ e ∈ oj.after, Region.binds .any e = true → e.on ≠ i := fun e he hb heq => by
        have h1 := hall e he hb
        rw [heq, unlisted (mem_ready.1 hr).1] at h1
        cases h1
      have h2 := qA_put hoj (hfree j oj hoj hji hjun hnot) (fun cs b => hsel i oi cs b hi) (fun cs b => hsel j oj cs b hoj) hy h1
      have hfree' : ∀ k ok, ops[k]? = some ok → k ≠ i → (listed.setIfInBounds j true).getD k true = false →
          (∀ e ∈ ok.after, Region.binds .any e = true → e.on ≠ i) → oi.apart ops ok = true := fun k ok hk hki hun hno => by
        refine hfree k ok hk hki ?_ hno
        by_cases hjk : j = k
        · subst hjk; exact hjun
        · rw [getD_set_ne true hjk] at hun; exact hun
      refine qA_mono (fun σ' h3 => ih (listed.setIfInBounds j true) σ' hfree' (ready_mono hr (Ne.symm hji)) h3.1 ?_) h2
      rw [Array.setIfInBounds_comm _ _ hji]
      exact h3.2
theorem wpAnyB_lex {z : Nat} {oz : Oper} (hz : ops[z]? = some oz) (hcov : ∀ j, j < z → ∃ e ∈ oz.after, Region.binds .any e = true ∧ e.on = j) {K : Env → Prop} (hs : Region.noSelect ops = true) : ∀ (l : List Oper) (k : Nat) (listed : Array Bool) (dec : List (Nat × Bool)) (σ : Env), DecOk dec σ → k + l.length = z → (∀ j, j < l.length → l[j]? = ops[k + j]?) →
    Region.lexFrom .any ops (l.length + 1) k listed = true → vcPure T (specs P) n ops l dec σ h K → wpAnyB P T n ops h z K l.length listed σ
  | [], k, listed, dec, σ, hdec, hk, hl, hB, hv => by
    simp only [List.length_nil, Nat.add_zero] at hk
    subst hk
    simp only [List.length_nil, Region.lexFrom, Bool.and_eq_true, List.isEmpty_iff] at hB
    obtain ⟨⟨hr, _⟩, hB'⟩ := hB
    refine ⟨⟨by simpa using hr, fun j hj => ?_, hB'⟩, hv⟩
    by_cases e : j = k
    · exact e
    · have := ready_mono hj e
      rw [hB'] at this
      cases this
  | o :: l, k, listed, dec, σ, hdec, hk, hl, hB, hv => by
    have h0 : ops[k]? = some o := by simpa using (hl 0 (by simp)).symm
    rw [List.length_cons] at hB hk ⊢
    replace hB : ((Region.ready .any ops listed).contains k && Region.free .any ops listed k && Region.lexFrom .any ops (l.length + 1) (k + 1) (listed.setIfInBounds k true)) = true := hB
    simp only [Bool.and_eq_true] at hB
    obtain ⟨⟨hr, hf⟩, hB'⟩ := hB
    obtain ⟨r, dec', hy, hdec', hK⟩ := vcPure_cons hdec hv
    exact wpAnyB_first hz hcov h0 (by omega) (Region.noSelect_spec hs) l.length listed σ (Region.free_spec h0 hf) (by simpa using hr) hy
      (wpAnyB_lex hz hcov hs l (k + 1) _ _ _ hdec' (by omega) (fun j hj => by have := hl (j + 1) (by simpa using hj); simpa [Nat.add_assoc, Nat.add_comm 1 j] using this) hB' hK)
/-- WHATEVER ORDER, with a last operation that turns the heap -/
theorem vcPureZ_sound (hT : tabB P T = true) (hm : P.follows .mixedOrders = true) {id : Nat} {K : Env → Heap → Prop} {Q : Exit → Act → World → Prop} (hQ : ∀ σ h a w ν, K σ h → St q N0 w0 Nf n ν0 σ h a w ν → Q .normal a w)
    {i : List Oper} {z : Oper} (hl : ops.toList = i ++ [z]) (hg : z.guard = none) (hcov : coversB z.after.toList i.length = true)
    (s : St q N0 w0 Nf n ν0 σ h a w ν) (hB : Region.lexB .any ops = true) (hv : vcPure T (specs P) n ops i [] σ h (fun σ' => vcOps T (specs P) n ops [z] σ' h K)) : (Code.region id ops true).wpIn (G ro) 0 P Q a w := by
  simp only [Region.lexB, Bool.and_eq_true] at hB
  have hsz : ops.size = i.length + 1 := by rw [← Array.length_toList, hl]; simp
  have hzz : ops[i.length]? = some z := by rw [← Array.getElem?_toList, hl]; simp
  have hcov' : ∀ j, j < i.length → ∃ e ∈ z.after, Region.binds .any e = true ∧ e.on = j := fun j hj => by
    obtain ⟨e, he, hb⟩ := covers_ok hcov j hj
    exact ⟨e, Array.mem_toList_iff.1 he, hb⟩
  refine wpIn_region_any hm ?_
  rw [hsz]
  refine wpAny_of_B hT hzz ?_ _ _ (s.world (drew_kp w)) (wpAnyB_lex hzz hcov' hB.1 i 0 _ [] σ (fun g b hg => by simp [look] at hg) (by simp) (fun j hj => ?_) (by rw [hsz] at hB; simpa using hB.2) hv)
  · intro σ a w ν hk s K' hK'
    rw [if_pos (by simp [Region.wanted, hg])]
    rw [vcOps_cons] at hk
    unfold vcOpsStep at hk
    simp only [hg] at hk
    exact vcOp_sound hT s hk fun r h' m a' w' ν' hk hs => hK' _ _ (hQ _ _ _ _ _ (heapK_iff.1 (putK_iff.1 hk)) hs)
  · rw [Nat.zero_add, ← Array.getElem?_toList, hl, List.getElem?_append_left hj]
theorem vcDraw_sound (hT : tabB P T = true) (hm : P.follows .mixedOrders = true) {id : Nat} {Qa : Exit → Env → Heap → Prop} {Q : Exit → Act → World → Prop} (hQ : ∀ σ h a w ν, Qa .normal σ h → St q N0 w0 Nf n ν0 σ h a w ν → Q .normal a w)
    (s : St q N0 w0 Nf n ν0 σ h a w ν) (hv : vcRegion T (specs P) n ops true σ h Qa) : (Code.region id ops true).wpIn (G ro) 0 P Q a w := by
  obtain ⟨hB, hv⟩ := hv
  split at hv
  · rename_i i z e
    split at hv
    · obtain ⟨h1, hv⟩ := hv
      simp only [Bool.and_eq_true, Option.isNone_iff_eq_none] at h1
      exact vcPureZ_sound hT hm hQ (splitLast_eq e) h1.2 h1.1 s hB hv
    · exact vcPure_sound hT hm (fun σ a w ν hk hs => hQ σ h a w ν hk hs) s hB hv
  · exact vcPure_sound hT hm (fun σ a w ν hk hs => hQ σ h a w ν hk hs) s hB hv
end
end Go.Vc
end

section
set_option linter.unusedVariables false
set_option linter.unusedSimpArgs false
namespace Go.Vc
section
variable {P : Program} {ro : Option Nat} {q : Bool} {T : List (Nat × TI)} {N0 Nf : Nat → Prop} {w0 w w' : World} {n : Nat} {σ σ' : Env} {h h' : Heap} {a : Act} {ν ν' ν0 : Nat → Value}
theorem leE_ok {l : List (Nat × AV)} {m : Nat} (h1 : leE l σ) (h2 : ltE m l = true) : ∀ {k v}, look l k = some v → (σ k = v ∨ norm (σ k) = v) ∧ v.lt m = true := by
  induction l with
  | nil => intro k v h; simp [look] at h
  | cons p l ih =>
    obtain ⟨j, u⟩ := p
    simp only [leE] at h1
    simp only [ltE, Bool.and_eq_true] at h2
    intro k v hk
    simp only [look] at hk
    by_cases e : k = j
    · subst e
      rw [nbT] at hk
      simp only [cond_true, Option.some.injEq] at hk
      subst hk
      refine ⟨?_, h2.1⟩
      have := h1.1
      split at this
      · exact .inr this
      · exact .inl this
    · rw [nbF e] at hk
      exact ih h1.2 h2.2 hk
theorem leO_ok {l l' : List (Nat × AO)} {m : Nat} (h1 : leO l l') (h2 : ltO m l) : ∀ {k o}, look l k = some o → look l' k = some o ∧ k < m ∧ (∀ t cs, o = .cells t cs → AV.ltL m cs = true) ∧ (∀ t tk es, o = .map t tk es → ltM m es) := by
  induction l with
  | nil => intro k o h; simp [look] at h
  | cons p l ih =>
    obtain ⟨j, u⟩ := p
    simp only [leO] at h1
    intro k o hk
    simp only [look] at hk
    by_cases e : k = j
    · subst e
      rw [nbT] at hk
      simp only [cond_true, Option.some.injEq] at hk
      subst hk
      refine ⟨h1.1, ?_⟩
      cases u with
      | cells t cs =>
        simp only [ltO, Bool.and_eq_true] at h2
        exact ⟨Nat.le_of_ble_eq_true h2.1.1, (fun t' cs' e => by injection e with _ e; rw [← e]; exact h2.1.2), (fun _ _ _ e => by cases e)⟩
      | row t sz rows => simp only [ltO] at h2; exact ⟨Nat.le_of_ble_eq_true h2.1, (fun _ _ e => by cases e), (fun _ _ _ e => by cases e)⟩
      | map t tk es => simp only [ltO] at h2; exact ⟨Nat.le_of_ble_eq_true h2.1.1, (fun _ _ e => by cases e), fun t' tk' es' e => by injection e with _ _ e; rw [← e]; exact h2.1.2⟩
    · rw [nbF e] at hk
      refine ih h1.2 ?_ hk
      cases u <;> simp only [ltO] at h2 <;> exact h2.2

theorem Km.lt {N N' : Nat → Prop} (m : Mv w N w N') (hν : ∀ id, id < n → ν' id = ν id) {tk : TK} {es : List (List D × AV)} {l : List MapEntry} (h : Km w N ν tk es l) : ltM n es → Km w N' ν' tk es l := by
  induction h with
  | nil => intro _; exact .nil
  | cons g1 g2 g3 _ ih =>
    intro hl
    simp only [ltM] at hl
    exact .cons g1 g2 (g3.lt m hν (by simp [AV.ltL, hl.1])) (ih hl.2)

theorem St.weak {l : List (Nat × AV)} (hw : Weak σ h l h') (s : St q N0 w0 Nf n ν0 σ h a w ν) : ∃ ν', St q N0 w0 Nf n ν0 (Env.of l) h' a w ν' ∧ (∀ id, id < h'.nx → ν' id = ν id) ∧ Mv w (nN N0 ν) w (nN N0 ν') := by
  obtain ⟨h1, h2, h3, h4, h5⟩ := hw
  simp only [Bool.and_eq_true] at h1
  obtain ⟨⟨h1, h6⟩, h7⟩ := h1
  have h6 := Nat.eq_of_beq_eq_true h6
  have h7 := Nat.le_of_ble_eq_true h7
  refine ⟨fun id => if id < h'.nx then ν id else undef, ?_⟩
  have hν : ∀ id, id < h'.nx → (fun id => if id < h'.nx then ν id else undef) id = ν id := fun id hid => by simp [hid]
  have hup : ∀ i b, vblk ((fun id => if id < h'.nx then ν id else undef) i) = some b → i < h'.nx ∧ vblk (ν i) = some b := by
    intro i b g
    by_cases e : i < h'.nx
    · exact ⟨e, by simpa [e] using g⟩
    · simp [e, undef, vblk] at g
  have hN : ∀ b, nN N0 (fun id => if id < h'.nx then ν id else undef) b → nN N0 ν b := by
    rintro b (g | ⟨i, g⟩)
    · exact .inl g
    · exact .inr ⟨i, (hup i b g).2⟩
  have m : Mv w (nN N0 ν) w (nN N0 (fun id => if id < h'.nx then ν id else undef)) := ⟨Nat.le_refl _, fun b _ hb => ⟨fun g => hb (hN b g), rfl⟩⟩
  refine ⟨⟨fun k => ?_, ⟨?_, ?_, ?_, ?_, s.hp.n0, ?_, s.hp.lw⟩, s.kp, ?_, s.size, s.defers.mv (fun _ _ _ => rfl) (fun i b g => .inl ⟨i, (hup i b g).2⟩), ?_, h7, by rw [h6]; exact s.low.2⟩, hν, m⟩
  · simp only [Env.of]
    cases hq : Vc.look l k with
    | none => exact .any _ .nil
    | some v =>
      obtain ⟨g1, g2⟩ := leE_ok h3 h2 hq
      have := s.slots k
      rcases g1 with g1 | g1
      · rw [g1] at this
        exact this.lt m hν (by simp [AV.ltL, g2])
      · have := norm_rv this
        rw [g1] at this
        exact this.lt m hν (by simp [AV.ltL, g2])
  · intro id o ho
    obtain ⟨g1, g2, g3, g4⟩ := leO_ok h5 h4 ho
    have hr := s.hp.objs id o g1
    cases o with
    | cells t cs =>
      obtain ⟨b, arr, e, q1, q2, q3⟩ := hr
      exact ⟨b, arr, e, by rw [hν id g2]; exact q1, q2, q3.lt m hν (g3 t cs rfl)⟩
    | row t sz rows =>
      obtain ⟨A, c, cells, q1, q2, q3, q4, q5, q6⟩ := hr
      exact ⟨A, c, cells, by rw [hν id g2]; exact q1, q2.mv m, q3, q4, q5, by rw [hν id g2]; exact q6⟩
    | map t tk es =>
      obtain ⟨r, arr, clock, q1, q2, q3⟩ := hr
      exact ⟨r, arr, clock, by rw [hν id g2]; exact q1, q2, q3.1.lt m hν (g4 t tk es rfl), q3.2⟩
  · exact fun i j b g1 g2 => s.hp.inj i j b (hup i b g1).2 (hup j b g2).2
  · exact fun i b g => s.hp.bnd i b (hup i b g).2
  · intro i hi
    have : ¬ i < h'.nx := by omega
    simp [this]
  · exact fun i b g => s.hp.dis i b (hup i b g).2
  · exact fun i b g => s.fresh i b (hup i b g).2
  · intro i g1 g2
    have : i < h'.nx := by
      rcases Nat.lt_or_ge i h'.nx with g | g
      · exact g
      · exact absurd (s.low.2 i (by omega)) g1
    simp only [this, if_true]
    exact s.keep i g1 g2

end
/-! ### marks among the deferred calls -/
section
variable {P : Program} {q : Bool} {N0 Nf : Nat → Prop} {w0 w w' : World} {n : Nat} {σ : Env} {h : Heap} {a : Act} {ν ν0 : Nat → Value} {N : Nat → Prop} {B : Nat}
theorem Placed.avoid (hB : ∀ a v, w.cell? a = some v → a.block ≠ B) {A : Option Addr} {cells : List Value} (h : Placed w N A cells) : Placed w (fun b => N b ∨ b = B) A cells := by
  rcases h with h | ⟨b, o, rfl, hb, hc⟩
  · exact .inl h
  · cases cells with
    | nil => exact .inl rfl
    | cons c cs =>
      have h0 := hB _ _ (hc 0 c rfl)
      exact .inr ⟨b, o, rfl, fun g => by rcases g with g | g; exact hb g; exact h0 g, hc⟩
theorem Rd.avoid (hB : ∀ a v, w.cell? a = some v → a.block ≠ B) {ds : List D} {cs : List Value} (h : Rd w N ds cs) : Rd w (fun b => N b ∨ b = B) ds cs := by
  induction h with
  | nil => exact .nil
  | int a b _ ih => exact .int a b ih
  | bool b _ ih => exact .bool b ih
  | str s hs _ ih => exact .str s hs ih
  | fn f _ ih => exact .fn f ih
  | raw v hv _ ih => exact .raw v hv ih
  | list rows A cap sz cells _ h2 h3 h4 h5 _ ih1 ih2 => exact .list rows A cap sz cells ih1 h2 (h3.avoid hB) h4 h5 ih2
theorem Rv.avoid (hB : ∀ a v, w.cell? a = some v → a.block ≠ B) {as : List AV} {vs : List Value} (h : Rv w N ν as vs) : Rv w (fun b => N b ∨ b = B) ν as vs := by
  induction h with
  | nil => exact .nil
  | any v _ ih => exact .any v ih
  | d h _ ih => exact .d (h.avoid hB) ih
  | nils _ ih => exact .nils ih
  | val v _ ih => exact .val v ih
  | agg xs _ _ ih1 ih2 => exact .agg xs ih1 ih2
  | tup xs _ _ ih1 ih2 => exact .tup xs ih1 ih2
  | ptr off h _ ih => exact .ptr off h ih
  | at_ A cells h1 h2 h3 _ ih => exact .at_ A cells h1 (h2.avoid hB) (h3.avoid hB) ih
  | rptr i off sz h1 h2 _ ih => exact .rptr i off sz h1 h2 ih
  | own h _ ih => exact .own h ih
  | mapr h _ ih => exact .mapr h ih
  | fn f xs _ _ ih1 ih2 => exact .fn f xs ih1 ih2
  | bfn f xs _ _ ih1 ih2 => exact .bfn f xs ih1 ih2
  | iface t _ _ ih1 ih2 => exact .iface t ih1 ih2
theorem Km.avoid (hB : ∀ a v, w.cell? a = some v → a.block ≠ B) {tk : TK} {es : List (List D × AV)} {l : List MapEntry} (h : Km w N ν tk es l) : Km w (fun b => N b ∨ b = B) ν tk es l := by
  induction h with
  | nil => exact .nil
  | cons h1 h2 h3 _ ih => exact .cons h1 h2 (h3.avoid hB) ih
theorem Ro.avoid (hB : ∀ a v, w.cell? a = some v → a.block ≠ B) {id : Nat} {o : AO} (h : Ro w N ν id o) : Ro w (fun b => N b ∨ b = B) ν id o := by
  cases o with
  | cells t cs => obtain ⟨b, arr, e, h1, h2, h3⟩ := h; exact ⟨b, arr, e, h1, h2, h3.avoid hB⟩
  | row t sz rows => obtain ⟨A, c, cells, h1, h2, h3⟩ := h; exact ⟨A, c, cells, h1, h2.avoid hB, h3⟩
  | map t tk es => obtain ⟨r, arr, clock, h1, h2, h3⟩ := h; exact ⟨r, arr, clock, h1, h2, h3.1.avoid hB, h3.2⟩
theorem no_cells {o : Obj} (h : w.heap[B]? = some o) (ho : o.isCells = false) : ∀ a v, w.cell? a = some v → a.block ≠ B := by
  intro a v hc e
  subst e
  unfold World.cell? at hc
  rw [h] at hc
  cases o <;> simp [Obj.isCells] at ho hc
theorem LwOk.mv' {N0 : Nat → Prop} {w w' : World} {B : Nat} (h : LwOk N0 w) (hb : ∀ a v, w.cell? a = some v → a.block ≠ B) (same : ∀ b, b ≠ B → w'.heap[b]? = w.heap[b]?) : LwOk N0 w' := fun p hp => by
  obtain ⟨h1, h2⟩ := h p hp
  refine ⟨h1, ?_⟩
  rw [World.cell?_of_block (w := w) (a := ⟨p.1, 0, none⟩) (same p.1 (hb _ _ h2))]
  exact h2
theorem LwOk.mv'' {N0 : Nat → Prop} {w w' : World} {B : Nat} (h : LwOk N0 w) (hb : ∀ a v, w.cell? a = some v → a.block ≠ B) (same : ∀ b, b < w.heap.size → b ≠ B → w'.heap[b]? = w.heap[b]?) : LwOk N0 w' := fun p hp => by
  obtain ⟨h1, h2⟩ := h p hp
  refine ⟨h1, ?_⟩
  rw [World.cell?_of_block (w := w) (a := ⟨p.1, 0, none⟩) (same p.1 (cell?_lt h2) (hb _ _ h2))]
  exact h2
/-- a block that is no cells and nobody's turns -/
theorem St.turn (s : St q N0 w0 Nf n ν0 σ h a w ν) {o : Obj} (ho : w.heap[B]? = some o) (hc : o.isCells = false) (hB : w0.heap.size ≤ B) (hn : ∀ i, vblk (ν i) ≠ some B) (o' : Obj) {ds : List Deferred} (hd : Dfr q w0 (w.putObj B o') ν ds) :
    St q N0 w0 Nf n ν0 σ h { a with defers := ds } (w.putObj B o') ν := by
  have hb := no_cells ho hc
  have same : ∀ b, b ≠ B → (w.putObj B o').heap[b]? = w.heap[b]? := fun b e => World.putObj_heap_other e
  have m : Mv w (fun b => nN N0 ν b ∨ b = B) (w.putObj B o') (nN N0 ν) := ⟨by simp, fun b _ hN => ⟨fun g => hN (.inl g), same b (fun e => hN (.inr e))⟩⟩
  refine ⟨fun k => ((s.slots k).avoid hb).mv m (fun _ _ => rfl), ⟨fun id o hl => Ro.keep m (fun _ _ => rfl) (fun b g => same b (fun e => hn id (e ▸ g))) ((s.hp.objs id o hl).avoid hb), s.hp.inj, fun i b g => by simpa using s.hp.bnd i b g, s.hp.dom, fun b g => by simpa using s.hp.n0 b g, s.hp.dis, s.hp.lw.mv' hb same⟩,
    ⟨s.kp.os, s.kp.tape, s.kp.output, by simpa using s.kp.size, fun b hb hNf => (same b (by omega)).trans (s.kp.blk b hb hNf)⟩, s.fresh, s.size, hd, s.keep, s.low⟩
theorem leave_marks {fn : Func} {R : Ending → World → Prop} : ∀ (Ds : List Nat) {a : Act} {w : World}, St q N0 w0 Nf n ν0 σ h a w ν → a.defers = Ds.map mkD →
    (∀ w', St q N0 w0 Nf n ν0 σ h { a with defers := [] } w' ν → ∃ v, (results fn a.tmps).run P w' = .ok v w' ∧ R (.returned v) w') → LeavesInM (G none) 0 P fn a.tmps R (Ds.map mkD) .returning w
  | [], a, w, s, hd, k => by
    have e : a = { a with defers := [] } := by
      cases a
      simp only [List.map_nil] at hd
      simp only [hd]
    exact k w (e ▸ s)
  | B :: Ds, a, w, s, hd, k => by
    obtain ⟨h0, Es, h1, h2, h3⟩ := s.defers
    have e : Es = B :: Ds := by
      have : Es.map mkD = (B :: Ds).map mkD := h1.symm.trans hd
      have inj : ∀ {xs ys : List Nat}, xs.map mkD = ys.map mkD → xs = ys := by
        intro xs
        induction xs with
        | nil => intro ys h; cases ys with
          | nil => rfl
          | cons y ys => simp at h
        | cons x xs ih => intro ys h; cases ys with
          | nil => simp at h
          | cons y ys =>
            simp only [List.map_cons, List.cons.injEq, mkD, Deferred.mk.injEq, Target.collected.injEq, and_true] at h
            rw [h.1, ih h.2]
      exact inj this
    subst e
    obtain ⟨g1, g2, g3⟩ := h3 B List.mem_cons_self
    have hnd := List.nodup_cons.1 h2
    refine ⟨by simp, .inl ⟨B, w.putObj B (.deferred none), rfl, run_takeDeferred g2, ?_⟩⟩
    have s' := s.turn g2 rfl g1 g3 (.deferred none) (ds := Ds.map mkD) ⟨fun e => (by have := h0 e; rw [hd] at this; cases this), Ds, rfl, hnd.2, fun E hE => by
      obtain ⟨q1, q2, q3⟩ := h3 E (List.mem_cons_of_mem _ hE)
      exact ⟨q1, by rw [World.putObj_heap_other (fun e => hnd.1 (by rw [← e]; exact hE))]; exact q2, q3⟩⟩
    exact leave_marks (a := { a with defers := Ds.map mkD }) Ds s' rfl k
end

/-! ### a range over a function -/
section
variable {P : Program} {T : List (Nat × TI)} {N0 Nf : Nat → Prop} {w0 w w' W W' : World} {n : Nat} {σ : Env} {h h' : Heap} {a : Act} {ν ν' ν0 : Nat → Value} {N : Nat → Prop}
theorem CellsKeep.refl (N : Nat → Prop) (w : World) : CellsKeep N w w := ⟨Nat.le_refl _, fun _ _ _ h => h⟩
theorem CellsKeep.trans {A B C : World} (h : CellsKeep N A B) (k : CellsKeep N B C) : CellsKeep N A C := ⟨Nat.le_trans h.1 k.1, fun a v hn hc => k.2 a v hn (h.2 a v hn hc)⟩
theorem KpI.trans {A B C : World} (x : KpI N0 ν h A B) (y : KpI N0 ν h B C) : KpI N0 ν h A C := ⟨fun g => y.1 (x.1 g), x.2.trans y.2⟩
theorem wpIn_any {F : Fence} {m k : Nat} {c : Code} {Q : Exit → Act → World → Prop} {a : Act} {w : World} (hF : F.depth = none) (h : c.wpIn F m P Q a w) : c.wpIn F k P Q a w :=
  fun b kk cs hro hb _ => h b kk cs hro hb (fun _ g => by rw [hF] at g; cases g)
/-- own blocks of cells -/
theorem cells_own (hc : cellsB h.objs h.nx = true) (hp : Hp N0 w ν h) : ∀ i b, vblk (ν i) = some b → ∃ o, w.heap[b]? = some o ∧ o.isCells = true := by
  intro i b g
  have hi : i < h.nx := by
    rcases Nat.lt_or_ge i h.nx with e | e
    · exact e
    · rw [hp.dom i e] at g; cases g
  have key : ∀ {l : List (Nat × AO)} {k : Nat}, cellsB l k = true → ∀ i, i < k → ∃ t cs, look l i = some (.cells t cs) := by
    intro l k
    induction k with
    | zero => intro _ i hi; omega
    | succ k ih =>
      intro h i hi
      simp only [cellsB, Bool.and_eq_true] at h
      by_cases e : i = k
      · subst e
        have h1 := h.1
        split at h1
        · rename_i t cs e; exact ⟨t, cs, e⟩
        · cases h1
      · exact ih h.2 i (by omega)
  obtain ⟨t, cs, hl⟩ := key hc i hi
  obtain ⟨b', arr, e, h1, h2, _⟩ := hp.objs i _ hl
  rw [h1] at g
  simp only [vblk, Option.some.injEq] at g
  subst g
  exact ⟨_, h2, rfl⟩
theorem cells_ptr (hc : cellsB h.objs h.nx = true) (hp : Hp N0 w ν h) (i : Nat) : ∀ A m c, ν i ≠ .slice A m c := by
  intro A m c g
  rcases Nat.lt_or_ge i h.nx with e | e
  · have key : ∀ {l : List (Nat × AO)} {k : Nat}, cellsB l k = true → ∀ i, i < k → ∃ t cs, look l i = some (.cells t cs) := by
      intro l k
      induction k with
      | zero => intro _ i hi; omega
      | succ k ih =>
        intro h i hi
        simp only [cellsB, Bool.and_eq_true] at h
        by_cases e : i = k
        · subst e
          have h1 := h.1
          split at h1
          · rename_i t cs e; exact ⟨t, cs, e⟩
          · cases h1
        · exact ih h.2 i (by omega)
    obtain ⟨t, cs, hl⟩ := key hc i e
    obtain ⟨b', arr, e, h1, _⟩ := hp.objs i _ hl
    rw [h1] at g; cases g
  · rw [hp.dom i e] at g; simp [undef] at g
/-- a world that grew, or in which a block that is no cells turned -/
theorem Hp.grown (hc : cellsB h.objs h.nx = true) (hp : Hp N0 W ν h) {row : Option Nat} (hg : W.grownBy W' row) (hr : ∀ r, row = some r → ∃ o : Obj, W.heap[r]? = some o ∧ o.isCells = false) : Hp N0 W' ν h := by
  have own := cells_own hc hp
  have same : ∀ b, b < W.heap.size → row ≠ some b → W'.heap[b]? = W.heap[b]? := fun b hb e => hg.block b hb (fun x => e x.symm)
  have ne : ∀ i b, vblk (ν i) = some b → row ≠ some b := fun i b g e => by
    obtain ⟨o, h1, h2⟩ := own i b g
    obtain ⟨o', h3, h4⟩ := hr b e
    rw [h1] at h3
    cases h3
    rw [h2] at h4; cases h4
  cases row with
  | none =>
    have m : Mv W (nN N0 ν) W' (nN N0 ν) := ⟨hg.size, fun b hb hN => ⟨hN, same b hb (by simp)⟩⟩
    exact ⟨fun id o hl => Ro.keep m (fun _ _ => rfl) (fun b g => same b (hp.bnd id b g) (by simp)) (hp.objs id o hl), hp.inj, fun i b g => Nat.lt_of_lt_of_le (hp.bnd i b g) hg.size, hp.dom, fun b g => Nat.lt_of_lt_of_le (hp.n0 b g) hg.size, hp.dis, hp.lw.mv (fun b _ hlt => same b hlt (by simp))⟩
  | some r =>
    obtain ⟨o, ho, hoc⟩ := hr r rfl
    have hb := no_cells ho hoc
    have m : Mv W (fun b => nN N0 ν b ∨ b = r) W' (nN N0 ν) := ⟨hg.size, fun b hlt hN => ⟨fun g => hN (.inl g), same b hlt (fun e => by cases e; exact hN (.inr rfl))⟩⟩
    exact ⟨fun id o hl => Ro.keep m (fun _ _ => rfl) (fun b g => same b (hp.bnd id b g) (ne id b g)) ((hp.objs id o hl).avoid hb), hp.inj, fun i b g => Nat.lt_of_lt_of_le (hp.bnd i b g) hg.size, hp.dom, fun b g => Nat.lt_of_lt_of_le (hp.n0 b g) hg.size, hp.dis, hp.lw.mv'' hb (fun b hlt e => same b hlt (fun x => by cases x; exact e rfl))⟩
theorem CellsKeep.grown {row : Option Nat} (hg : W.grownBy W' row) (hr : ∀ r, row = some r → ∃ o : Obj, W.heap[r]? = some o ∧ o.isCells = false) : CellsKeep N W W' := by
  refine ⟨hg.size, fun a v _ hc => ?_⟩
  have hlt := cell?_lt hc
  have e : W'.heap[a.block]? = W.heap[a.block]? := hg.block _ hlt (fun e => by
    obtain ⟨o, h1, h2⟩ := hr _ e.symm
    exact no_cells h1 h2 a v hc rfl)
  rw [World.cell?_of_block e]; exact hc
theorem Rd.cells (k : CellsKeep N w w') {ds : List D} {cs : List Value} (h : Rd w N ds cs) : Rd w' N ds cs := by
  induction h with
  | nil => exact .nil
  | int a b _ ih => exact .int a b ih
  | bool b _ ih => exact .bool b ih
  | str s hs _ ih => exact .str s hs ih
  | fn f _ ih => exact .fn f ih
  | raw v hv _ ih => exact .raw v hv ih
  | list rows A cap sz cells _ h2 h3 h4 h5 _ ih1 ih2 =>
    refine .list rows A cap sz cells ih1 h2 ?_ h4 h5 ih2
    rcases h3 with h | ⟨b, o, rfl, hb, hc⟩
    · exact .inl h
    · exact .inr ⟨b, o, rfl, hb, fun j v hv => k.2 _ _ hb (hc j v hv)⟩
/-- slots behind the loop variables' setting -/
theorem puts_slots {N : Nat → Prop} : ∀ {ps : List Nat} {x : List AV} {vs : List Value} {σ : Env} {tm : Array Value}, (∀ k, Rv w N ν [σ k] [tm.getD k undef]) → tm.size = n → Rv w N ν x vs → x.length = ps.length →
    (∀ k, Rv w N ν [(Env.puts n ps x σ) k] [((ps.zip vs).foldl (fun t (p : Nat × Value) => t.setIfInBounds p.1 p.2) tm).getD k undef]) ∧ ((ps.zip vs).foldl (fun t (p : Nat × Value) => t.setIfInBounds p.1 p.2) tm).size = n
  | [], x, vs, σ, tm, hs, hn, hx, hl => by
    cases x with
    | nil => simp only [Env.puts, List.zip_nil_left, List.foldl_nil]; exact ⟨hs, hn⟩
    | cons _ _ => simp at hl
  | p :: ps, [], _, _, _, _, _, _, hl => by simp at hl
  | p :: ps, v :: x, vs, σ, tm, hs, hn, hx, hl => by
    obtain ⟨u, us, rfl, h1, h2⟩ := hx.cons_inv
    simp only [Env.puts, List.zip_cons_cons, List.foldl_cons]
    refine puts_slots (σ := σ.putO n (some p) v) (tm := tm.setIfInBounds p u) ?_ (by simpa using hn) h2 (by simpa using hl)
    have := slots_put (a := { tmps := tm, defers := [] }) hs hn (some p) h1
    exact this
theorem cells_any (hc : cellsB h.objs h.nx = true) : ∀ {l : List (Nat × AO)} {k : Nat}, cellsB l k = true → ∀ i, i < k → ∃ t cs, look l i = some (.cells t cs) := by
  intro l k
  induction k with
  | zero => intro _ i hi; omega
  | succ k ih =>
    intro h i hi
    simp only [cellsB, Bool.and_eq_true] at h
    by_cases e : i = k
    · subst e
      have h1 := h.1
      split at h1
      · rename_i t cs e; exact ⟨t, cs, e⟩
      · cases h1
    · exact ih h.2 i (by omega)
/-- what stands between two rounds -/
structure InvR (N0 : Nat → Prop) (w0 : World) (Nf : Nat → Prop) (ν : Nat → Value) (h : Heap) (Ds : List Nat) (w W : World) : Prop where
  hp : Hp N0 W ν h
  kp : Kp Nf w0 W
  mv : Mv w (nN N0 ν) W (nN N0 ν)
  mark : ∀ D ∈ Ds, W.heap[D]? = some (.deferred (some []))
theorem InvR.grown {Ds : List Nat} (hc : cellsB h.objs h.nx = true) (hD : ∀ D ∈ Ds, D < w.heap.size) (h0 : w0.heap.size ≤ w.heap.size) (I : InvR N0 w0 Nf ν h Ds w W) {row : Option Nat} (hg : W.grownBy W' row)
    (hr : ∀ r, row = some r → w.heap.size ≤ r ∧ ∃ o : Obj, W.heap[r]? = some o ∧ o.isCells = false) : InvR N0 w0 Nf ν h Ds w W' := by
  have same : ∀ b, b < w.heap.size → W'.heap[b]? = W.heap[b]? := fun b hb => hg.block b (Nat.lt_of_lt_of_le hb I.mv.size) (fun e => by have := (hr b e.symm).1; omega)
  refine ⟨I.hp.grown hc hg (fun r e => (hr r e).2), ⟨hg.os.trans I.kp.os, hg.tape.trans I.kp.tape, hg.output.trans I.kp.output, Nat.le_trans I.kp.size hg.size, fun b hb hn => (same b (by omega)).trans (I.kp.blk b hb hn)⟩,
    ⟨Nat.le_trans I.mv.size hg.size, fun b hb hN => ⟨hN, (same b hb).trans (I.mv.blk b hb hN).2⟩⟩, fun D hD' => (same D (hD D hD')).trans (I.mark D hD')⟩
/-- own blocks at a round's begin; what a round turned -/
def ownB (ν : Nat → Value) : Nat → Prop := fun b => ∃ id, vblk (ν id) = some b
theorem InvR.round {Ds : List Nat} (hc : cellsB h.objs h.nx = true) (hD : ∀ D ∈ Ds, D < w.heap.size ∧ ∀ i, vblk (ν i) ≠ some D) (hf : ∀ i b, vblk (ν i) = some b → w0.heap.size ≤ b ∨ Nf b) (h0 : w0.heap.size ≤ w.heap.size)
    (I : InvR N0 w0 Nf ν h Ds w W) {B : Nat → Prop} (hB : ∀ b, B b → b < W.heap.size → (∃ i, vblk (ν i) = some b) ∨ w.heap.size ≤ b) (k : Kp B W W') (hp : Hp N0 W' ν h) : InvR N0 w0 Nf ν h Ds w W' := by
  have hlt : ∀ b, b < w.heap.size → b < W.heap.size := fun b hb => Nat.lt_of_lt_of_le hb I.mv.size
  refine ⟨hp, ⟨k.os.trans I.kp.os, k.tape.trans I.kp.tape, k.output.trans I.kp.output, Nat.le_trans I.kp.size k.size, fun b hb hn => ?_⟩, ⟨Nat.le_trans I.mv.size k.size, fun b hb hN => ⟨hN, ?_⟩⟩, fun D hD' => ?_⟩
  · refine (k.blk b (Nat.lt_of_lt_of_le hb I.kp.size) (fun g => ?_)).trans (I.kp.blk b hb hn)
    rcases hB b g (Nat.lt_of_lt_of_le hb I.kp.size) with ⟨i, gi⟩ | g
    · rcases hf i b gi with q | q
      · omega
      · exact hn q
    · omega
  · refine (k.blk b (hlt b hb) (fun g => ?_)).trans (I.mv.blk b hb hN).2
    rcases hB b g (hlt b hb) with g | g
    · exact hN (.inr g)
    · omega
  · obtain ⟨q1, q2⟩ := hD D hD'
    refine (k.blk D (hlt D q1) (fun g => ?_)).trans (I.mark D hD')
    rcases hB D g (hlt D q1) with ⟨i, gi⟩ | g
    · exact q2 i gi
    · omega
theorem KpI.round {B : Nat → Prop} (hB : ∀ b, B b → b < W.heap.size → ∃ i, vblk (ν i) = some b) (k : Kp B W W') (hp : Hp N0 W' ν h) : KpI N0 ν h W W' := by
  refine ⟨fun _ => hp, k.size, fun a v hn hc => ?_⟩
  have hlt := cell?_lt hc
  rw [World.cell?_of_block (k.blk a.block hlt (fun g => hn (.inr (hB _ g hlt))))]
  exact hc
theorem Rv.grown {as : List AV} {vs : List Value} (h : Rv W N ν as vs) {row : Option Nat} (hg : W.grownBy W' row) (hr : ∀ r, row = some r → ∃ o : Obj, W.heap[r]? = some o ∧ o.isCells = false) : Rv W' N ν as vs := by
  cases row with
  | none =>
    have m : Mv W N W' N := ⟨hg.size, fun b hb hN => ⟨hN, hg.block b hb (by simp)⟩⟩
    exact h.mv m (fun _ _ => rfl)
  | some r =>
    obtain ⟨o, ho, hoc⟩ := hr r rfl
    have m : Mv W (fun b => N b ∨ b = r) W' N := ⟨hg.size, fun b hlt hN => ⟨fun g => hN (.inl g), hg.block b hlt (fun e => by cases e; exact hN (.inr rfl))⟩⟩
    exact (h.avoid (no_cells ho hoc)).mv m (fun _ _ => rfl)
/-- pointers at objects that are let go read as data -/
theorem St.weakA {q : Bool} {l : List (Nat × AV)} (hw : WeakA σ h l h') (s : St q N0 w0 Nf n ν0 σ h a w ν) : ∃ ν', St q N0 w0 Nf n ν0 (Env.of l) h' a w ν' ∧ (∀ id, id < h'.nx → ν' id = ν id) := by
  obtain ⟨h1, h2, h3, h4, h5⟩ := hw
  obtain ⟨ν', s', hν, m⟩ := s.weak (l := []) (h' := h') ⟨h1, rfl, trivial, h4, h5⟩
  refine ⟨ν', ⟨fun k => ?_, s'.hp, s'.kp, s'.fresh, s'.size, s'.defers, s'.keep, s'.low⟩, hν⟩
  simp only [Env.of]
  cases hq : look l k with
  | none => exact .any _ .nil
  | some v =>
    have key : ∀ {l : List (Nat × AV)}, ltE h'.nx l = true → leA h h'.nx l σ → look l k = some v → v.lt h'.nx = true ∧ leV h h'.nx (σ k) v := by
      intro l
      induction l with
      | nil => intro _ _ h; cases h
      | cons p l ih =>
        intro g1 g2 g3
        obtain ⟨k', v'⟩ := p
        simp only [ltE, Bool.and_eq_true] at g1
        simp only [leA] at g2
        simp only [look] at g3
        cases hb : Nat.beq k k' with
        | true =>
          have e := Nat.eq_of_beq_eq_true hb
          subst e
          rw [hb] at g3
          cases g3
          exact ⟨g1.1, g2.1⟩
        | false => rw [hb] at g3; exact ih g1.2 g2.2 g3
    obtain ⟨g1, g2⟩ := key h2 h3 hq
    have sl := s.slots k
    have plain : σ k = v → Rv w (nN N0 ν') ν' [v] [a.tmps.getD k undef] := fun e => by
      rw [e] at sl
      exact sl.lt m hν (by simp [AV.ltL, g1])
    cases v with
    | d x => cases x with
      | bool b =>
        have := norm_rv sl
        rw [g2] at this
        exact this.lt m hν (by simp [AV.ltL, g1])
      | _ => exact plain g2
    | at_ ds =>
      rcases g2 with g2 | ⟨id, off, t, cs, e1, e2, e3, e4, e5⟩
      · exact plain g2
      · rw [e1] at sl
        obtain ⟨b, arr, ty, q1, q2, q3⟩ := s.hp.objs id _ e3
        generalize a.tmps.getD k undef = u at sl ⊢
        cases sl with
        | @ptr _ _ _ b2 _ hp2 _ =>
          rw [q1] at hp2
          simp only [Value.pointer.injEq, Option.some.injEq, Addr.mk.injEq, and_true] at hp2
          subst hp2
          have hcell := (q3.drop off).dsOf e4
          have hnot : ¬ nN N0 ν' b := by
            rintro (g | ⟨i, g⟩)
            · exact s.hp.dis id b (by rw [q1]; rfl) g
            · have hi : i < h'.nx := by
                rcases Nat.lt_or_ge i h'.nx with x | x
                · exact x
                · rw [s'.hp.dom i x] at g; cases g
              rw [hν i hi] at g
              have := s.hp.inj i id b g (by rw [q1]; rfl)
              omega
          have hne : arr.toList.drop off ≠ [] := by
            intro e
            rw [e] at hcell
            cases hcell
            simp at e5
          refine .at_ _ (arr.toList.drop off) hne (hcell.mv m) (.inr ⟨b, off, rfl, hnot, fun j v hv => ?_⟩) .nil
          simp only [World.cell?, q2]
          rw [List.getElem?_drop] at hv
          simpa using hv
    | _ => exact plain g2
end

end Go.Vc
end

section
set_option linter.unusedVariables false
set_option linter.unusedSimpArgs false
namespace Go.Vc
section
variable {P : Program} {T : List (Nat × TI)} {N0 Nf : Nat → Prop} {w0 w w' W W' : World} {n : Nat} {σ : Env} {h h' : Heap} {a : Act} {ν ν' ν0 : Nat → Value} {N : Nat → Prop}
/-- what stands where a round has left the loop -/
structure InvX (N0 : Nat → Prop) (w0 : World) (Nf : Nat → Prop) (ν0 : Nat → Value) (σ : Env) (a : Act) (Ds : List Nat) (w : World) (h' : Heap) (ν' : Nat → Value) (W : World) : Prop where
  slots : ∀ k, Rv W (nN N0 ν') ν' [σ k] [a.tmps.getD k undef]
  hp : Hp N0 W ν' h'
  kp : Kp Nf w0 W
  fresh : ∀ i b, vblk (ν' i) = some b → w0.heap.size ≤ b ∨ Nf b
  keep : ∀ i, ν0 i ≠ undef → (∀ A m c, ν0 i ≠ .slice A m c) → ν' i = ν0 i
  mark : ∀ D ∈ Ds, W.heap[D]? = some (.deferred (some [])) ∧ ∀ i, vblk (ν' i) ≠ some D
theorem InvX.grown {Ds : List Nat} (hc : cellsB h'.objs h'.nx = true) (hD : ∀ D ∈ Ds, D < w.heap.size) (h0 : w0.heap.size ≤ w.heap.size) (I : InvX N0 w0 Nf ν0 σ a Ds w h' ν' W) {row : Option Nat} (hg : W.grownBy W' row)
    (hr : ∀ r, row = some r → w.heap.size ≤ r ∧ ∃ o : Obj, W.heap[r]? = some o ∧ o.isCells = false) : InvX N0 w0 Nf ν0 σ a Ds w h' ν' W' := by
  refine ⟨fun k => (I.slots k).grown hg (fun r e => (hr r e).2), I.hp.grown hc hg (fun r e => (hr r e).2), ⟨hg.os.trans I.kp.os, hg.tape.trans I.kp.tape, hg.output.trans I.kp.output, Nat.le_trans I.kp.size hg.size, fun b hb hn => ?_⟩, I.fresh, I.keep, fun D hD' => ?_⟩
  · exact (hg.block b (Nat.lt_of_lt_of_le hb I.kp.size) (fun e => by have := (hr b e.symm).1; omega)).trans (I.kp.blk b hb hn)
  · obtain ⟨q1, q2⟩ := I.mark D hD'
    exact ⟨(hg.block D (Array.getElem?_eq_some_iff.1 q1).1 (fun e => by have := (hr D e.symm).1; have := hD D hD'; omega)).trans q1, q2⟩
/-- names of cells alone: what stands behind names them alike -/
theorem names_same (hc : cellsB h.objs h.nx = true) (hp : Hp N0 w ν h) (hp' : Hp N0 W ν' h) (hk : ∀ i, ν i ≠ undef → (∀ A m c, ν i ≠ .slice A m c) → ν' i = ν i) : ν' = ν := by
  funext i
  rcases Nat.lt_or_ge i h.nx with e | e
  · obtain ⟨t, cs, hl⟩ := cells_any hc hc i e
    obtain ⟨b', arr, ty, h1, _⟩ := hp.objs i _ hl
    exact hk i (by rw [h1]; simp [undef]) (cells_ptr hc hp i)
  · rw [hp.dom i e, hp'.dom i e]
theorem Hp.lo (hp : Hp N0 w ν h) (x : Nat) : Hp N0 w ν ⟨h.objs, h.nx, x⟩ := ⟨hp.objs, hp.inj, hp.bnd, hp.dom, hp.n0, hp.dis, hp.lw⟩
theorem Hp.unlo {x : Nat} (hp : Hp N0 w ν ⟨h.objs, h.nx, x⟩) : Hp N0 w ν h := ⟨hp.objs, hp.inj, hp.bnd, hp.dom, hp.n0, hp.dis, hp.lw⟩
theorem Elem.lt {xs : List (List AV → Prop)} (p : Elem w N ν xs) : p.1.1 < xs.length := by
  obtain ⟨p, h, _⟩ := p
  exact h
def StopOk (Qa : Exit → Env → Heap → Prop) (σ : Env) (h : Heap) : Code → Prop
  | .ret => Qa .ret σ h
  | .exit id => Qa (.exit id) σ h
  | _ => False
theorem range_sound {Qa : Exit → Env → Heap → Prop} {Q : Exit → Act → World → Prop} {g : Operand} {ps : Array Nat} {x y : Code}
    (hv : vcRange (specs P) n g ps (vcB T (specs P) n x true) (vcB T (specs P) n y true) σ h Qa) (hQ : ∀ e σ h a w ν, Qa e σ h → St false N0 w0 Nf n ν0 σ h a w ν → Q e a w) (s : St false N0 w0 Nf n ν0 σ h a w ν)
    (ihx : ∀ {w0 : World} {Nf : Nat → Prop} {ν0 : Nat → Value} {ro : Option Nat} {σ : Env} {h : Heap} {a : Act} {w : World} {ν : Nat → Value} {Qa : Exit → Env → Heap → Prop} {Q : Exit → Act → World → Prop},
      vcB T (specs P) n x true σ h Qa → (∀ e σ h a w ν, Qa e σ h → St true N0 w0 Nf n ν0 σ h a w ν → Q e a w) → St true N0 w0 Nf n ν0 σ h a w ν → x.wpIn (G ro) 0 P Q a w)
    (ihy : ∀ {w0 : World} {Nf : Nat → Prop} {ν0 : Nat → Value} {ro : Option Nat} {σ : Env} {h : Heap} {a : Act} {w : World} {ν : Nat → Value} {Qa : Exit → Env → Heap → Prop} {Q : Exit → Act → World → Prop},
      vcB T (specs P) n y true σ h Qa → (∀ e σ h a w ν, Qa e σ h → St true N0 w0 Nf n ν0 σ h a w ν → Q e a w) → St true N0 w0 Nf n ν0 σ h a w ν → y.wpIn (G ro) 0 P Q a w) :
    (Code.rangeFunc g ps x y).wpIn (G none) 0 P Q a w := by
  unfold vcRange at hv
  split at hv
  case h_2 => exact hv.elim
  rename_i f caps e
  obtain ⟨hc, xs, Gd, ⟨hent, hit⟩, hlen, hround, hend⟩ := hv
  have hg := ev_ok s g
  rw [e] at hg
  obtain ⟨lb, hev, hlb⟩ : ∃ lb : List Value, a.eval g = .func (.func f) #[] lb.toArray ∧ Rv w (nN N0 ν) ν caps lb := by
    generalize a.eval g = u at hg
    cases hg with
    | fn f xs h1 h2 => exact ⟨xs, rfl, h1⟩
  obtain ⟨_, Ds, hds, hnd, hD⟩ := s.defers
  have hDlt : ∀ D ∈ Ds, D < w.heap.size ∧ ∀ i, vblk (ν i) ≠ some D := fun D hd => ⟨(Array.getElem?_eq_some_iff.1 (hD D hd).2.1).1, (hD D hd).2.2⟩
  have hDl : ∀ D ∈ Ds, D < w.heap.size := fun D hd => (hDlt D hd).1
  have hsz := s.kp.size
  have hptr := cells_ptr hc s.hp
  have hB0 : ∀ {W : World}, Hp N0 W ν h → ∀ b, ownB ν b → ∃ o, W.heap[b]? = some o ∧ o.isCells = true := fun hp b ⟨i, g⟩ => cells_own hc hp i b g
  -- the slots at a round's begin
  have hslots : ∀ {W : World}, Mv w (nN N0 ν) W (nN N0 ν) → ∀ k, Rv W (nN N0 ν) ν [(Env.ren .drop σ) k] [a.tmps.getD k undef] := fun m k => by
    have := (s.slots k).noOwn m (fun _ _ _ => rfl)
    simpa [AV.noOwnL, Env.ren] using this
  refine wpIn_any (m := 1) rfl (wpIn_rangeFunc_ownH (α := Elem w (nN N0 ν) ν xs) (F := G none) (n := 1) rfl (Nat.le_refl _) hev trivial (fun args w => run_callFunc hent args w) (hit N0 w ν lb s.hp hlb)
    (fun a b => a.trans b) ?hKb (RowKit.Below.refl _ _) ?hps
    (fun pre W => InvR N0 w0 Nf ν h Ds w W ∧ ∀ p ∈ pre, Gd p.1.1)
    (fun c _ W => ∃ h' ν', (cellsB h'.objs h'.nx && Nat.ble h.lo h'.nx) = true ∧ StopOk Qa (Env.ren .drop σ) ⟨h'.objs, h'.nx, h.lo⟩ c ∧ InvX N0 w0 Nf ν0 (Env.ren .drop σ) a Ds w h' ν' W)
    ?hI ?hIx ?h0
    (fun x a' W => ∃ l, vcB T (specs P) n y true (Env.of l) ⟨h.objs, h.nx, h.nx⟩ (rangeK (Gd x.1.1) h Qa (Env.ren .drop σ)) ∧ (∀ k, Rv W (nN N0 ν) ν [(Env.of l) k] [a'.tmps.getD k undef]) ∧ a'.tmps.size = n ∧ a'.defers = [])
    ?hAx ?hassign ?hbody ?hdone ?hstop)
  case hKb =>
    intro W l o o' hl hlo hoc _
    have hgr := grownBy_putObj' W l o'
    have hr : ∀ r, (some l : Option Nat) = some r → ∃ o : Obj, W.heap[r]? = some o ∧ o.isCells = false := fun r e => by cases e; exact ⟨o, hlo, hoc⟩
    exact ⟨fun hp => hp.grown hc hgr hr, CellsKeep.grown hgr hr⟩
  case hps =>
    rintro ⟨⟨i, v⟩, hi, x, hx, hr⟩
    have h1 : v.toList.length = x.length := hr.length
    have h2 := hlen _ (List.getElem_mem hi) x hx
    rw [Array.length_toList] at h1
    exact h1.trans h2
  case hI =>
    rintro pre W W' row ⟨I, hG⟩ hgr hr
    exact ⟨I.grown hc hDl hsz hgr hr, hG⟩
  case hIx =>
    rintro c pre W W' row ⟨h', ν', h1, h2, I⟩ hgr hr
    exact ⟨h', ν', h1, h2, I.grown (Bool.and_eq_true_iff.1 h1).1 hDl hsz hgr hr⟩
  case h0 => exact ⟨⟨s.hp, s.kp, Mv.refl _ _, fun D hd => (hD D hd).2.1⟩, fun p hp => by cases hp⟩
  case hAx =>
    rintro x a' u W W' row ⟨l, h1, h2, h3, h4⟩ hgr hr
    exact ⟨l, h1, fun k => (h2 k).grown hgr (fun r e => (hr r e).2), h3, h4⟩
  case hassign =>
    rintro l pre ⟨⟨i, v⟩, hi, x, hx, hr⟩ W K ⟨I, hG⟩ hK
    have hx1 := hlen _ (List.getElem_mem hi) x hx
    have hrv : Rv W (nN N0 ν) ν x v.toList := hr.mv I.mv (fun _ _ => rfl)
    obtain ⟨p1, p2⟩ := puts_slots (n := n) (ps := ps.toList) (hslots I.mv) s.size hrv (by rw [hx1, Array.length_toList])
    have hz : (ps.zip v).foldl (fun t (p : Nat × Value) => t.setIfInBounds p.1 p.2) a.tmps = (ps.toList.zip v.toList).foldl (fun t (p : Nat × Value) => t.setIfInBounds p.1 p.2) a.tmps := by
      rw [← Array.foldl_toList, Array.toList_zip]
    have s1 : St true N0 W (ownB ν) n ν (Env.puts n ps.toList x (Env.ren .drop σ)) ⟨h.objs, h.nx, h.nx⟩ { tmps := (ps.zip v).foldl (fun t (p : Nat × Value) => t.setIfInBounds p.1 p.2) a.tmps, defers := [] } W ν := by
      refine ⟨?_, I.hp.lo _, Kp.refl _ _, fun i b g => .inr ⟨i, g⟩, ?_, Dfr.nil _ _ _ _, fun _ _ _ => rfl, Nat.le_refl _, s.hp.dom⟩
      · simp only [hz]; exact p1
      · simp only [hz]; exact p2
    refine ihx (hround i _ (List.getElem?_eq_getElem hi) x hx) ?_ s1
    intro e σ' h' a' W' ν' hk s'
    cases e with
    | normal =>
      obtain ⟨l', hw, hb⟩ := hk
      obtain ⟨ν2, s2, _⟩ := s'.weakA hw
      have hp2 : Hp N0 W' ν2 h := s2.hp.unlo
      have hν : ν2 = ν := names_same hc I.hp hp2 s2.keep
      subst hν
      have hown := hB0 I.hp
      refine hK a' W' ⟨s'.kp.size, fun k o _ hko hoc => ?_⟩ (KpI.round (B := ownB ν2) (fun b ⟨i, g⟩ _ => ⟨i, g⟩) s'.kp hp2) ⟨InvR.round hc hDlt s.fresh hsz I (B := ownB ν2) (fun b ⟨i, g⟩ _ => .inl ⟨i, g⟩) s'.kp hp2, hG⟩ ⟨l', hb, s2.slots, s2.size, s2.defers.1 rfl⟩
      refine (s'.kp.blk k (Array.getElem?_eq_some_iff.1 hko).1 (fun hB => ?_)).trans hko
      obtain ⟨o2, q1, q2⟩ := hown k hB
      rw [hko] at q1
      cases q1
      rw [hoc] at q2; cases q2
    | exit id => exact hk.elim
    | goto l => exact hk.elim
    | ret => exact hk.elim
    | panic ch => exact hk.elim
    | outgrown => exact hk.elim
  case hbody =>
    rintro l pre ⟨⟨i, v⟩, hi, x, hx, hr⟩ a' W hl hL ⟨I, hG⟩ ⟨l', hb, hsl, hsize, hdf⟩ _
    have s1 : St true N0 W (ownB ν) n ν (Env.of l') ⟨h.objs, h.nx, h.nx⟩ a' W ν :=
      ⟨hsl, I.hp.lo _, Kp.refl _ _, fun i b g => .inr ⟨i, g⟩, hsize, by rw [hdf]; exact Dfr.nil _ _ _ _, fun _ _ _ => rfl, Nat.le_refl _, s.hp.dom⟩
    have hown := hB0 I.hp
    refine ihy hb ?_ s1
    intro e σ' h' a2 W' ν' hk s'
    have hKF : KeepsFrom w.heap.size W W' := by
      refine ⟨s'.kp.size, fun k o _ hko hoc => ?_⟩
      refine (s'.kp.blk k (Array.getElem?_eq_some_iff.1 hko).1 (fun hB => ?_)).trans hko
      obtain ⟨o2, q1, q2⟩ := hown k hB
      rw [hko] at q1
      cases q1
      rw [hoc] at q2; cases q2
    have hleave : ∀ {c : Code}, (cellsB h'.objs h'.nx && Nat.ble h.lo h'.nx) = true → StopOk Qa (Env.ren .drop σ) ⟨h'.objs, h'.nx, h.lo⟩ c →
        ∃ h' ν', (cellsB h'.objs h'.nx && Nat.ble h.lo h'.nx) = true ∧ StopOk Qa (Env.ren .drop σ) ⟨h'.objs, h'.nx, h.lo⟩ c ∧ InvX N0 w0 Nf ν0 (Env.ren .drop σ) a Ds w h' ν' W' := by
      intro c h1 h2
      have hold : ∀ i b, vblk (ν' i) = some b → (∃ j, vblk (ν j) = some b) ∨ W.heap.size ≤ b := fun i b g => (s'.fresh i b g).symm
      have hkeep : ∀ i, ν i ≠ undef → ν' i = ν i := fun i g => s'.keep i g (hptr i)
      have m : Mv w (nN N0 ν) W' (nN N0 ν') := by
        refine ⟨Nat.le_trans I.mv.size s'.kp.size, fun b hb hN => ⟨?_, ?_⟩⟩
        · rintro (g | ⟨i, g⟩)
          · exact hN (.inl g)
          · rcases hold i b g with g | g
            · exact hN (.inr g)
            · have := I.mv.size; omega
        · exact (s'.kp.blk b (Nat.lt_of_lt_of_le hb I.mv.size) (fun g => hN (.inr g))).trans (I.mv.blk b hb hN).2
      refine ⟨h', ν', h1, h2, ⟨fun k => ?_, s'.hp, ?_, fun i b g => ?_, fun i g1 g2 => ?_, fun D hd => ?_⟩⟩
      · have := (s.slots k).noOwn m (fun i g _ => hkeep i g)
        simpa [AV.noOwnL, Env.ren] using this
      · exact I.kp.trans s'.kp (fun b hb ⟨i, g⟩ => by
          rcases s.fresh i b g with q | q
          · omega
          · exact q)
      · rcases hold i b g with ⟨j, g⟩ | g
        · exact s.fresh j b g
        · left; have := I.kp.size; omega
      · have e1 := s.keep i g1 g2
        rw [hkeep i (by rw [e1]; exact g1), e1]
      · obtain ⟨q1, q2⟩ := hDlt D hd
        have hltW := Nat.lt_of_lt_of_le q1 I.mv.size
        refine ⟨(s'.kp.blk D hltW (fun ⟨i, g⟩ => q2 i g)).trans (I.mark D hd), fun i g => ?_⟩
        rcases hold i D g with ⟨j, g⟩ | g
        · exact q2 j g
        · omega
    cases e with
    | normal =>
      obtain ⟨hGd, hw⟩ := hk
      obtain ⟨ν2, s2, _⟩ := s'.weak hw
      have hp2 : Hp N0 W' ν2 h := s2.hp.unlo
      have hν : ν2 = ν := names_same hc I.hp hp2 s2.keep
      subst hν
      refine ⟨hKF, KpI.round (B := ownB ν2) (fun b ⟨i, g⟩ _ => ⟨i, g⟩) s'.kp hp2, InvR.round hc hDlt s.fresh hsz I (B := ownB ν2) (fun b ⟨i, g⟩ _ => .inl ⟨i, g⟩) s'.kp hp2, fun p hp => ?_⟩
      rcases List.mem_append.1 hp with hp | hp
      · exact hG p hp
      · rw [List.mem_singleton] at hp
        subst hp
        exact hGd
    | ret => exact ⟨hKF, hleave hk.1 hk.2⟩
    | exit id => exact ⟨hKF, hleave hk.1 hk.2⟩
    | goto l => exact hk.elim
    | panic ch => exact hk.elim
    | outgrown => exact hk.elim
  case hdone =>
    rintro B ys W hB hS ⟨I, hG⟩ hK
    refine hQ .normal _ _ _ W ν (hend fun i hi => ?_) ⟨hslots I.mv, I.hp, I.kp, s.fresh, s.size, ⟨(fun e => by cases e), B :: Ds, (by simp only [hds, List.map_cons, mkD]), List.nodup_cons.2 ⟨(fun hd => by have := hDl B hd; omega), hnd⟩, fun D hd => ?_⟩, s.keep, s.low⟩
    · have : i ∈ ys.map (fun y => y.1.1) := by rw [hS]; exact List.mem_range.2 hi
      obtain ⟨p, hp, hpi⟩ := List.mem_map.1 this
      have h1 := hG p hp
      subst hpi
      exact h1
    · rcases List.mem_cons.1 hd with e | hd
      · subst e
        exact ⟨by omega, hK, fun i g => by have := s.hp.bnd i D g; omega⟩
      · exact ⟨(hD D hd).1, I.mark D hd, (hD D hd).2.2⟩
  case hstop =>
    rintro B c pre W hB _ ⟨h', ν', h1, h2, I⟩ hK
    rw [Bool.and_eq_true] at h1
    have hlow := Nat.le_of_ble_eq_true h1.2
    have fin : ∀ e, Qa e (Env.ren .drop σ) ⟨h'.objs, h'.nx, h.lo⟩ → Q e { a with defers := { target := .collected B, args := #[] } :: a.defers } W := fun e hq =>
      hQ e _ _ _ W ν' hq ⟨I.slots, I.hp.lo _, I.kp, I.fresh, s.size, ⟨(fun e => by cases e), B :: Ds, (by simp only [hds, List.map_cons, mkD]), List.nodup_cons.2 ⟨(fun hd => by have := hDl B hd; omega), hnd⟩, fun D hd => by
        rcases List.mem_cons.1 hd with e | hd
        · subst e
          refine ⟨by omega, hK, fun i g => ?_⟩
          obtain ⟨o, q1, q2⟩ := cells_own h1.1 I.hp i D g
          rw [hK] at q1
          cases q1
          cases q2
        · exact ⟨(hD D hd).1, (I.mark D hd).1, (I.mark D hd).2⟩⟩, I.keep, hlow, s.low.2⟩
    cases c with
    | ret => exact wpIn_ret (fin _ h2)
    | exit id => exact wpIn_exit (fin _ h2)
    | _ => exact h2.elim
end
end Go.Vc
end
