/- Part 2 of a proof: Calls under a contract; what is computed: the soundness of 'opFun'. Operations whose result is computed: they look, or make one new block. Structs and slices that are put together. The soundness of what is computed. The soundness of what is computed: all operations together. What is computed under a condition: shifts, slice expressions: it is sound. Stores, and appends to a row of the call's own. The soundness of one operation's condition. The soundness of one operation's condition, all kinds together. -/
import Derived.Test.YtpcmdecphigjaaaGreatDoorSaa
import Derived.RangeFuncNested
import Derived.Laws.Strings
import Derived.Laws.Tables
import Derived.Stop.IfaceNil
section
set_option linter.unusedVariables false
set_option linter.unusedSimpArgs false
namespace Go.Vc

/-- a function with a Go body -/
def Ent (P : Program) (f : FuncId) : Prop := ∃ fn, P.funcs[f]? = some fn ∧ (fn.name == "runtime.NumGoroutine") = false ∧ fn.body.isNone = false
/-- what is read in cells that are none of N's stays -/
def CellsKeep (N : Nat → Prop) (A B : World) : Prop := A.heap.size ≤ B.heap.size ∧ ∀ a v, ¬ N a.block → A.cell? a = some v → B.cell? a = some v
/-- what a round must leave to the iterator -/
def KpI (N0 : Nat → Prop) (ν : Nat → Value) (h : Heap) (A B : World) : Prop := (Hp N0 A ν h → Hp N0 B ν h) ∧ CellsKeep (nN N0 ν) A B
/-- what is handed to a round: which of the rows, and its values -/
abbrev Elem (w : World) (N : Nat → Prop) (ν : Nat → Value) (xs : List (List AV → Prop)) : Type := { p : Nat × Array Value // ∃ h : p.1 < xs.length, ∃ x, xs[p.1] x ∧ Rv w N ν x p.2.toList }
/-- THE MEANING OF AN ITERATOR's CONTRACT: over such objects it hands these rows to its rounds, in this order, till it is stopped. -/
def IterOk (P : Program) (f : FuncId) (caps : List AV) (h : Heap) (xs : List (List AV → Prop)) : Prop :=
  ∀ (N0 : Nat → Prop) (w : World) (ν : Nat → Value) (lb : List Value), Hp N0 w ν h → Rv w (nN N0 ν) ν caps lb →
    SeqStopsK (α := Elem w (nN N0 ν) ν xs) (G none) 0 P f lb.toArray (fun x => x.1.2) (KpI N0 ν h) (fun ys => ys.map (fun y => y.1.1) = List.range xs.length) (fun _ => True) xs.length w
def specs (P : Program) : Specs := ⟨fun f args r => Ent P f ∧ PureOk P f args r, fun f args h r h' => Ent P f ∧ HeapOk P f args h r h', fun f caps h xs => Ent P f ∧ IterOk P f caps h xs⟩

section
variable {P : Program} {ro : Option Nat} {q : Bool} {T : List (Nat × TI)} {N0 Nf : Nat → Prop} {w0 w w' : World} {n : Nat} {σ : Env} {h : Heap} {a : Act} {ν ν' ν0 : Nat → Value} {Q : Exit → Act → World → Prop} {next : Act → World → Prop}

theorem run_callFunc {f : FuncId} (he : Ent P f) (args : Array Value) (w : World) : (callFunc f args).run P w = .ok (.enter f args) w := by
  obtain ⟨fn, h1, h2, h3⟩ := he
  simp only [callFunc, Sem.run_bind, run_program, Result.andThen_ok, h1, h2, h3]
  rfl

theorem run_call_fn {o : Oper} {c : Call} {x : Operand} {f : FuncId} {caps : Array Value} (hop : o.op = .call c) (hc : c.callee = .value x) (hx : a.eval x = .func (.func f) #[] caps) (he : Ent P f) :
    (execOp a.eval o).run P w = .ok (.enter f (c.args.map a.eval ++ caps)) w := by
  unfold execOp
  rw [hop]
  simp only [resolve, hc, hx, Deferred.ofValue, Sem.run_bind, Sem.run_pure, Result.andThen_ok, invoke, Array.empty_append]
  exact run_callFunc he _ w

theorem run_call_bfn {o : Oper} {c : Call} {x : Operand} {f : FuncId} {first : Array Value} (hop : o.op = .call c) (hc : c.callee = .value x) (hx : a.eval x = .func (.func f) first #[]) (he : Ent P f) :
    (execOp a.eval o).run P w = .ok (.enter f (first ++ c.args.map a.eval)) w := by
  unfold execOp
  rw [hop]
  simp only [resolve, hc, hx, Deferred.ofValue, Sem.run_bind, Sem.run_pure, Result.andThen_ok, invoke, Array.append_empty]
  exact run_callFunc he _ w
theorem run_method {t : TypeId} {ti : TI} (k : TiOk P t ti) (hp : ti.kind ≠ .ptr) {name : String} {f : FuncId} (hm : ti.meths.lookup name = some f) (v : Value) (fuel : Nat) (w : World) :
    (method (fuel + 1) t v name).run P w = .ok (f, v) w := by
  obtain ⟨i, z, h1, _, _, _, _, _, h7, _⟩ := k.info
  obtain ⟨d, h8, h9⟩ := k.kind
  have hmem : (name, f) ∈ ti.meths := by
    generalize ti.meths = l at hm
    induction l with
    | nil => cases hm
    | cons p l ih =>
      obtain ⟨nm, g⟩ := p
      simp only [List.lookup] at hm
      split at hm
      · rename_i hb
        have : name = nm := by simpa using hb
        simp only [Option.some.injEq] at hm
        subst this hm
        exact List.mem_cons_self
      · exact List.mem_cons_of_mem _ (ih hm)
  have h10 := List.all_eq_true.1 h7 _ hmem
  simp only [methB] at h10
  split at h10
  · rename_i m hfind
    simp only [Bool.and_eq_true] at h10
    obtain ⟨h11, h12⟩ := h10
    split at h12
    · rename_i f' p hf
      simp only [Bool.and_eq_true, Bool.not_eq_true'] at h12
      obtain ⟨h13, rfl⟩ := h12
      have e := Nat.eq_of_beq_eq_true h13
      subst e
      have hpath : m.path = #[] := by simpa using h11
      have hnp : ∀ e, d ≠ .pointer e := by
        intro e hd
        subst hd
        unfold kindB at h9
        split at h9 <;> simp_all
      simp only [method, Sem.run_bind, typeInfo, run_program, Result.andThen_ok, h1, Sem.run_pure, hfind, hpath, Array.toList_empty, follow, hf, receiverAt, run_underlying h8]
      cases d <;> first | (exact absurd rfl (hnp _)) | (simp [Place.get])
    · cases h12
  · cases h10

theorem run_call_invoke {o : Oper} {c : Call} {x : Operand} {name : String} {t : TypeId} {v : Value} {ti : TI} {f : FuncId} (hop : o.op = .call c) (hc : c.callee = .invoke x name) (hx : a.eval x = .iface t v)
    (k : TiOk P t ti) (hp : ti.kind ≠ .ptr) (hm : ti.meths.lookup name = some f) (he : Ent P f) :
    (execOp a.eval o).run P w = .ok (.enter f (#[v] ++ c.args.map a.eval)) w := by
  unfold execOp
  rw [hop]
  obtain ⟨i, z, h1, _⟩ := k.info
  have hsz : ∃ q, P.types.size + Made.depth = q + 1 := ⟨P.types.size + Made.depth - 1, Nat.eq_add_of_sub_eq (Nat.le_trans (by decide) (Nat.le_add_left _ _)) rfl⟩
  obtain ⟨q, hq⟩ := hsz
  simp only [resolve, hc, hx, Sem.run_bind, Sem.run_pure, Result.andThen_ok, invoke]
  rw [show ((#[Value.iface t v] ++ c.args.map a.eval)[0]?) = some (.iface t v) from by rw [Array.getElem?_append_left (by simp)]; rfl]
  simp only [callMethod, Sem.run_bind, run_program, Result.andThen_ok, hq, run_method k hp hm]
  rw [run_callFunc he]
  congr 2
  simp only [Array.extract_append, List.size_toArray, List.length_cons, List.length_nil]
  have e : (Array.map a.eval c.args).extract 0 c.args.size = Array.map a.eval c.args := by
    rw [show c.args.size = (Array.map a.eval c.args).size from by simp, Array.extract_size]
  simp [e]

/-- a call under a contract over objects of the caller's; ν1: after rows were made data -/
theorem heapCall_sound (s : St q N0 w0 Nf n ν0 σ h a w ν) {σ1 : Env} {h1 : Heap} {ν1 : Nat → Value} (s1 : St q N0 w0 Nf n ν0 σ1 h1 a w ν1) (hsub : ∀ b, nN N0 ν1 b → nN N0 ν b) (hown : ∀ j b, vblk (ν1 j) = some b → ∃ i, vblk (ν i) = some b) (hk1 : ∀ j, (∀ A k c, ν j ≠ .slice A k c) → ν1 j = ν j) (hlo1 : h1.lo = h.lo) (hnx1 : h1.nx = h.nx)
    {o : Oper} {f : FuncId} {args : List AV} {vs : List Value} (hargs : Rv w (nN N0 ν1) ν1 args vs) {K : AV → Heap → Rn → Prop} {r : AV} {h' : Heap}
    (hv : (specs P).heap f args h1 r h') (hk : K r h' .drop) (hrun : Ent P f → (execOp a.eval o).run P w = .ok (.enter f vs.toArray) w)
    (hn : ∀ r h' m a' w' ν', K r h' m → St q N0 w0 Nf n ν0 ((σ.ren m).putO n o.dst r) h' a' w' ν' → next a' w') : o.wpIn (G ro) 0 P a w next Q := by
  obtain ⟨he, hc⟩ := hv
  refine wp_enter (hrun he) ?_
  refine (hc N0 w ν1 vs s1.hp hargs).mono fun e w' ⟨v, ν', he', hhp, hr, hkp, hkeep, hnew, hlo, hlo2⟩ => ⟨v, he', hn r h' .drop _ w' ν' hk ?_⟩
  have m1 : Mv w (nN N0 ν1) w' (nN N0 ν') := by
    refine ⟨hkp.size, fun b hb hN => ⟨?_, hkp.blk b hb (fun g => hN (.inr g))⟩⟩
    rintro (g | ⟨j, g⟩)
    · exact hN (.inl g)
    · rcases hnew j b g with g | g
      · exact hN (.inr g)
      · omega
  have m : Mv w (nN N0 ν) w' (nN N0 ν') := ⟨m1.size, fun b hb hN => m1.blk b hb (fun g => hN (hsub b g))⟩
  have hkeep' : ∀ id, ν id ≠ undef → (∀ A m c, ν id ≠ .slice A m c) → ν' id = ν id := fun id g1 g2 => by
    rw [hkeep id (by rw [hk1 id g2]; exact g1) (by intro A m c; rw [hk1 id g2]; exact g2 A m c), hk1 id g2]
  refine ⟨slots_put (fun k => ?_) s.size o.dst hr, hhp, s.kp.trans hkp (fun x hx ⟨j, g⟩ => ?_), fun i b g => ?_, by rw [size_put, s.size], by rw [defers_put]; exact s.defers.mv (fun b hb hn => hkp.blk b hb (fun ⟨j, g⟩ => by obtain ⟨i, gi⟩ := hown j b g; exact hn i gi)) (fun i b g => by rcases hnew i b g with ⟨j, g⟩ | g; exact .inl (hown j b g); exact .inr g), fun i h1 h2 => ?_, by rw [hlo, hlo1]; exact Nat.le_trans s.low.1 (hnx1 ▸ hlo2), by rw [hlo, hlo1]; exact s.low.2⟩
  · have := (s.slots k).noOwn m hkeep'
    simpa [AV.noOwnL, Env.ren] using this
  · rcases s1.fresh j x g with g | g
    · omega
    · exact g
  · rcases hnew i b g with ⟨j, g⟩ | g
    · exact s1.fresh j b g
    · left; have := s.kp.size; omega
  · have e := s.keep i h1 h2
    rw [hkeep' i (by rw [e]; exact h1) (by intro A m c; rw [e]; exact h2 A m c), e]
theorem scalar_rv {r : AV} {v : Value} {N N' : Nat → Prop} {w' : World} {ν ν' : Nat → Value} (hs : AV.scalar r = true) (hr : Rv w N ν [r] [v]) : Rv w' N' ν' [r] [v] := by
  unfold AV.scalar at hs
  split at hs
  · rw [rv_int hr]; exact .d (.int _ _ .nil) .nil
  · rw [rv_bool hr]; exact .d (.bool _ .nil) .nil
  · obtain ⟨e1, e2⟩ := rv_str hr; rw [e1]; exact .d (.str _ e2 .nil) .nil
  · cases hs
theorem lookCall_sound (s : St q N0 w0 Nf n ν0 σ h a w ν) {o : Oper} {f : FuncId} {args : List AV} {vs : List Value} (hargs : Rv w (nN N0 ν) ν args vs) {K : AV → Heap → Rn → Prop} {r : AV}
    (hs : AV.scalar r = true) (hv : (specs P).pure f (AV.lookL h.objs args) r) (hk : K r h (.sub [])) (hrun : Ent P f → (execOp a.eval o).run P w = .ok (.enter f vs.toArray) w)
    (hn : ∀ r h' m a' w' ν', K r h' m → St q N0 w0 Nf n ν0 ((σ.ren m).putO n o.dst r) h' a' w' ν' → next a' w') : o.wpIn (G ro) 0 P a w next Q := by
  obtain ⟨he, hc⟩ := hv
  refine wp_enter (hrun he) ?_
  refine (hc N0 w vs s.hp.n0 s.hp.lw (look_ok s.hp hargs)).mono fun e w' ⟨v, he', hkp, hr⟩ => ⟨v, he', hn r h (.sub []) _ w' ν hk (s.seen hkp o.dst (scalar_rv hs hr))⟩
theorem LwOk.nN (h : LwOk N0 w) (ν : Nat → Value) : LwOk (nN N0 ν) w := fun p hp => ⟨.inl (h p hp).1, (h p hp).2⟩
theorem Hp.all (hp : Hp N0 w ν h) : ∀ b, nN N0 ν b → b < w.heap.size := fun b g => g.elim (hp.n0 b) (fun ⟨id, g⟩ => hp.bnd id b g)
theorem lensCall_sound (s : St q N0 w0 Nf n ν0 σ h a w ν) {o : Oper} {f : FuncId} {args : List AV} {vs : List Value} (hargs : Rv w (nN N0 ν) ν args vs) {K : AV → Heap → Rn → Prop} {r : AV}
    (hv : ∀ g, (specs P).pure f (AV.lensL h.objs g args) r) (hk : K r h (.sub [])) (hrun : Ent P f → (execOp a.eval o).run P w = .ok (.enter f vs.toArray) w)
    (hn : ∀ r h' m a' w' ν', K r h' m → St q N0 w0 Nf n ν0 ((σ.ren m).putO n o.dst r) h' a' w' ν' → next a' w') : o.wpIn (G ro) 0 P a w next Q := by
  obtain ⟨he, hc⟩ := hv (slOf ν)
  refine wp_enter (hrun he) ?_
  refine (hc (nN N0 ν) w vs s.hp.all (s.hp.lw.nN ν) (lens_ok s.hp hargs)).mono fun e w' ⟨v, he', hkp, hr⟩ => ⟨v, he', hn r h (.sub []) _ w' ν hk (s.seen hkp o.dst (hr.mv (Mv.refl _ _) (fun _ h => absurd rfl h)))⟩
/-- a call that looks at no object of the caller's and makes rows of its own -/
theorem freshCall_sound (s : St q N0 w0 Nf n ν0 σ h a w ν) {o : Oper} {f : FuncId} {args : List AV} {vs : List Value} (hargs : Rv w (nN N0 ν) ν args vs) {K : AV → Heap → Rn → Prop} {r : AV} {h' : Heap}
    (hlt : AV.ltL 0 args = true) (hv : (specs P).heap f args hp0 r h') (hk : K (AV.sh h.nx r) (h.join h') (.sub [])) (hrun : Ent P f → (execOp a.eval o).run P w = .ok (.enter f vs.toArray) w)
    (hn : ∀ r h' m a' w' ν', K r h' m → St q N0 w0 Nf n ν0 ((σ.ren m).putO n o.dst r) h' a' w' ν' → next a' w') : o.wpIn (G ro) 0 P a w next Q := by
  obtain ⟨he, hc⟩ := hv
  refine wp_enter (hrun he) ?_
  have hNe : nN (nN N0 ν) (fun _ => undef) = nN N0 ν := by funext b; simp [nN, vblk, undef]
  have hp1 : Hp (nN N0 ν) w (fun _ => undef) hp0 := ⟨fun id o ho => by simp [look, hp0] at ho, fun i j b g => by simp [vblk, undef] at g, fun i b g => by simp [vblk, undef] at g, fun _ _ => rfl, s.hp.all, fun i b g => by simp [vblk, undef] at g, s.hp.lw.nN ν⟩
  have ha : Rv w (nN (nN N0 ν) (fun _ => undef)) (fun _ => undef) args vs := by rw [hNe]; exact hargs.lt (Mv.refl _ _) (fun id hid => by omega) hlt
  refine (hc (nN N0 ν) w (fun _ => undef) vs hp1 ha).mono fun e w' ⟨v, ν', he', hhp, hr, hkp, hkeep, hnew, hlo, hlo2⟩ => ⟨v, he', ?_⟩
  have hkp : Kp (fun _ => False) w w' := ⟨hkp.os, hkp.tape, hkp.output, hkp.size, fun b hb _ => hkp.blk b hb (by simp [vblk, undef])⟩
  have hnew : ∀ id b, vblk (ν' id) = some b → w.heap.size ≤ b := fun id b g => by
    rcases hnew id b g with ⟨j, g⟩ | g
    · simp [vblk, undef] at g
    · exact g
  have hb : ∀ b, b < w.heap.size → w'.heap[b]? = w.heap[b]? := fun b hlt => hkp.blk b hlt (fun g => g)
  let ν2 : Nat → Value := fun i => if i < h.nx then ν i else ν' (i - h.nx)
  have hlow : ∀ i, ν i ≠ undef → ν2 i = ν i := fun i g => by
    have : i < h.nx := by rcases Nat.lt_or_ge i h.nx with q | q; exact q; exact absurd (s.hp.dom i q) g
    simp [ν2, this]
  have hhi : ∀ i, ν2 (i + h.nx) = ν' i := fun i => by
    have : ¬ i + h.nx < h.nx := by omega
    simp [ν2, this]
  have hblk : ∀ i b, vblk (ν2 i) = some b → vblk (ν i) = some b ∨ w.heap.size ≤ b := fun i b g => by
    by_cases q : i < h.nx
    · left; simpa [ν2, q] using g
    · right; simp only [ν2, if_neg q] at g; exact hnew _ b g
  have m : Mv w (nN N0 ν) w' (nN N0 ν2) := Hp.mvN s.hp hkp.size (fun _ => False) (fun b hlt _ => hb b hlt) (fun b g => g.elim) hblk
  have hN : ∀ b, nN N0 ν2 b → nN (nN N0 ν) ν' b := by
    rintro b (g | ⟨i, g⟩)
    · exact .inl (.inl g)
    · by_cases q : i < h.nx
      · exact .inl (.inr ⟨i, by simpa [ν2, q] using g⟩)
      · exact .inr ⟨i - h.nx, by simpa [ν2, q] using g⟩
  have m2 : Mv w' (nN (nN N0 ν) ν') w' (nN N0 ν2) := ⟨Nat.le_refl _, fun b _ g => ⟨fun g' => g (hN b g'), rfl⟩⟩
  refine hn _ _ (.sub []) _ w' ν2 hk ?_
  have hr2 : Rv w' (nN N0 ν2) ν2 [AV.sh h.nx r] [v] := by
    have := sh_ok (k := h.nx) m2 hhi hr
    simpa only [AV.shL] using this
  refine ⟨slots_put (fun k => (s.slots k).mv m hlow) s.size o.dst hr2, ⟨?_, ?_, ?_, ?_, ?_, ?_, ?_⟩, s.kp.trans hkp (fun _ _ g => g.elim), fun i b g => ?_, by rw [size_put, s.size], ?_, fun i g1 g2 => ?_, ?_, s.low.2⟩
  · intro id o' ho
    rcases look_shO ho with ⟨i, t, sz, rows, rfl, rfl, hl⟩ | hl
    · obtain ⟨A, c, cells, q1, q2, q3, q4, q5, q6⟩ := hhp.objs i _ hl
      refine ⟨A, c, cells, by rw [hhi, q1], q2.mv m2, q3, q4, q5, ?_⟩
      rw [hhi]; exact q6
    · exact Ro.keep m hlow (fun b g => hb b (s.hp.bnd id b g)) (s.hp.objs id o' hl)
  · intro i j b g1 g2
    by_cases q1 : i < h.nx <;> by_cases q2 : j < h.nx <;> simp only [ν2, q1, q2, if_true, if_false] at g1 g2
    · exact s.hp.inj i j b g1 g2
    · have := s.hp.bnd i b g1; have := hnew _ b g2; omega
    · have := s.hp.bnd j b g2; have := hnew _ b g1; omega
    · have := hhp.inj _ _ b g1 g2; omega
  · intro i b g
    by_cases q : i < h.nx <;> simp only [ν2, q, if_true, if_false] at g
    · exact Nat.lt_of_lt_of_le (s.hp.bnd i b g) hkp.size
    · exact hhp.bnd _ b g
  · intro i hi
    simp only [Heap.join] at hi
    have q : ¬ i < h.nx := by omega
    simp only [ν2, q, if_false]
    exact hhp.dom _ (by omega)
  · exact fun b g => Nat.lt_of_lt_of_le (s.hp.n0 b g) hkp.size
  · intro i b g g0
    rcases hblk i b g with g | g
    · exact s.hp.dis i b g g0
    · have := s.hp.n0 b g0; omega
  · exact s.hp.lw.mv (fun b g hlt => hb b hlt)
  · rcases hblk i b g with g | g
    · exact s.fresh i b g
    · left; have := s.kp.size; omega
  · rw [defers_put]
    exact s.defers.mv (fun b hlt _ => hb b hlt) (fun i b g => by rcases hblk i b g with g | g; exact .inl ⟨i, g⟩; exact .inr g)
  · have e := s.keep i g1 g2
    rw [hlow i (by rw [e]; exact g1), e]
  · exact Nat.le_trans s.low.1 (by simp only [Heap.join]; omega)
/-- A CALL UNDER A CONTRACT. -/
theorem vcCall_sound (s : St q N0 w0 Nf n ν0 σ h a w ν) {o : Oper} {f : FuncId} {args : List AV} {vs : List Value} (hargs : Rv w (nN N0 ν) ν args vs) {K : AV → Heap → Rn → Prop}
    (hv : vcCall (specs P) f args h K) (hrun : Ent P f → (execOp a.eval o).run P w = .ok (.enter f vs.toArray) w)
    (hn : ∀ r h' m a' w' ν', K r h' m → St q N0 w0 Nf n ν0 ((σ.ren m).putO n o.dst r) h' a' w' ν' → next a' w') : o.wpIn (G ro) 0 P a w next Q := by
  rcases hv with ⟨r, ⟨he, hc⟩, hk⟩ | ⟨r, h', hc, hk⟩ | ⟨r, h', hc, hk⟩ | ⟨r, hs, hc, hk⟩ | ⟨r, hc, hk⟩ | ⟨r, h', hlt, hc, hk⟩
  rotate_left
  · exact heapCall_sound s s (fun _ g => g) (fun j b g => ⟨j, g⟩) (fun _ _ => rfl) rfl rfl hargs hc hk hrun hn
  · generalize hq : pubs (AV.ownsL args) h.objs = q at hc
    obtain ⟨l, m⟩ := q
    obtain ⟨ν1, s1, h1, h2, h3⟩ := St.pubsR (ν := ν) (x := h.nx) (y := h.lo) _ s hq
    refine heapCall_sound s s1 ?_ (fun j b g => ⟨j, by rcases h1 j with e | e; exact e ▸ g; (rw [e] at g; simp [vblk, undef] at g)⟩) h2 rfl rfl (h3 _ _ hargs) hc hk hrun hn
    rintro b (g | ⟨j, g⟩)
    · exact .inl g
    · rcases h1 j with e | e
      · exact .inr ⟨j, by rw [← e]; exact g⟩
      · rw [e] at g; simp [vblk, undef] at g
  · exact lookCall_sound s hargs hs hc hk hrun hn
  · exact lensCall_sound s hargs hc hk hrun hn
  · exact freshCall_sound s hargs hlt hc (forceH_iff.1 hk) hrun hn
  refine wp_enter (hrun he) ?_
  cases hs : AV.scalar r with
  | true =>
    rw [hs] at hk
    let N' : Nat → Prop := fun b => nN N0 ν b ∧ ∀ id ∈ AV.ownsL args, vblk (ν id) ≠ some b
    have hview : Rv w N' (fun _ => undef) (AV.viewL h.objs args) vs := view_ok s.hp (fun b g => g.1) hargs (fun id hid b hb _ g => g.2 id hid hb)
    refine (hc N' w vs (fun b g => ?_) (fun p hp => ⟨⟨.inl (s.hp.lw p hp).1, fun id _ e => s.hp.dis id p.1 e (s.hp.lw p hp).1⟩, (s.hp.lw p hp).2⟩) hview).mono fun e w' ⟨v, he', hkp, hr⟩ => ⟨v, he', hn r h (.sub []) _ w' ν hk ?_⟩
    · rcases g.1 with g | ⟨id, g⟩
      · exact s.hp.n0 b g
      · exact s.hp.bnd id b g
    · refine s.seen hkp o.dst ?_
      unfold AV.scalar at hs
      split at hs
      · rw [rv_int hr]; exact .d (.int _ _ .nil) .nil
      · rw [rv_bool hr]; exact .d (.bool _ .nil) .nil
      · obtain ⟨e1, e2⟩ := rv_str hr; rw [e1]; exact .d (.str _ e2 .nil) .nil
      · cases hs
  | false =>
    rw [hs] at hk
    simp only at hk
    generalize hq : pubs (AV.ownsL args) h.objs = q at hk
    obtain ⟨l, m⟩ := q
    obtain ⟨ν', s', h1, h2⟩ := St.pubs (ν := ν) (x := h.nx) (y := h.lo) _ s hq
    have hsub : ∀ b, nN N0 ν' b → nN N0 ν b := by
      rintro b (g | ⟨j, g⟩)
      · exact .inl g
      · rcases h1 j with e | e
        · exact .inr ⟨j, by rw [← e]; exact g⟩
        · rw [e] at g; simp [vblk, undef] at g
    have hview : Rv w (nN N0 ν') (fun _ => undef) (AV.viewL h.objs args) vs := by
      refine view_ok s.hp hsub hargs (fun id hid b hb hrow g => ?_)
      have hu := h2 id hid hrow
      rcases g with g | ⟨j, g⟩
      · exact s.hp.dis id b hb g
      · rcases h1 j with e | e
        · have hj : j = id := s.hp.inj j id b (by rw [← e]; exact g) hb
          subst hj
          rw [hu] at g
          simp [vblk, undef] at g
        · rw [e] at g; simp [vblk, undef] at g
    refine (hc (nN N0 ν') w vs (fun b g => ?_) (fun p hp => ⟨.inl (s.hp.lw p hp).1, (s.hp.lw p hp).2⟩) hview).mono fun e w' ⟨v, he', hkp, hr⟩ => ⟨v, he', hn r ⟨l, h.nx, h.lo⟩ (.sub m) _ w' ν' hk (s'.seen hkp o.dst ?_)⟩
    · rcases g with g | ⟨id, g⟩
      · exact s'.hp.n0 b g
      · exact s'.hp.bnd id b g
    · exact hr.mv (Mv.refl _ _) (fun _ h => absurd rfl h)
end
end Go.Vc
end

section
set_option linter.unusedVariables false
set_option linter.unusedSimpArgs false
namespace Go.Vc
section
variable {P : Program} {ro : Option Nat} {q : Bool} {T : List (Nat × TI)} {N0 Nf : Nat → Prop} {w0 w w' : World} {n : Nat} {σ : Env} {h : Heap} {a : Act} {ν ν' ν0 : Nat → Value} {Q : Exit → Act → World → Prop} {next : Act → World → Prop}

/-- what an operation that only looks owes -/
def Looks (P : Program) (a : Act) (w : World) (N : Nat → Prop) (ν : Nat → Value) (o : Oper) (r : AV) : Prop :=
  ∃ v, (execOp a.eval o).run P w = .ok (.value v) w ∧ Rv w N ν [r] [v]
theorem Looks.wp {o : Oper} {r : AV} (s : St q N0 w0 Nf n ν0 σ h a w ν) (hl : Looks P a w (nN N0 ν) ν o r) (hn : ∀ a' w', St q N0 w0 Nf n ν0 (σ.putO n o.dst r) h a' w' ν → next a' w') : o.wpIn (G ro) 0 P a w next Q := by
  obtain ⟨v, h1, h2⟩ := hl
  exact wp_value h1 (hn _ _ (s.seen (Kp.refl _ _) o.dst h2))

theorem binInt_ok {op : BinOp} {k : IntKind} {x y : Int} {d : D} (hb : binInt op k x y = some d) (xt : TypeId) : ∃ v, (binOp op xt (.int k x) (.int k y)).run P w = .ok v w ∧ ∀ N ν, Rv w N ν [.d d] [v] := by
  unfold binInt at hb
  split at hb <;> simp only [Option.some.injEq, reduceCtorEq] at hb <;> subst hb
  all_goals simp only [binOp, ne_eq, not_true_eq_false, if_false, Op.intArith, Op.intCmp, Op.intBits, bitsF, Sem.run_pure]
  all_goals refine ⟨_, rfl, fun N ν => ?_⟩
  all_goals first | exact .d (.int _ _ .nil) .nil | exact .d (.bool _ .nil) .nil

theorem binStr_ok {op : BinOp} {x y : Bs} {d : D} (hb : binStr op x y = some d) (xt : TypeId) : ∃ v, (binOp op xt (.string (mkS x)) (.string (mkS y))).run P w = .ok v w ∧ ∀ N ν, Rv w N ν [.d d] [v] := by
  unfold binStr at hb
  split at hb <;> simp only [Option.some.injEq, reduceCtorEq] at hb <;> subst hb
  all_goals simp only [binOp, Op.stringOp, mkS, ByteArray.toList_mk, Sem.run_pure]
  all_goals refine ⟨_, rfl, fun N ν => ?_⟩
  all_goals exact .d (.bool _ .nil) .nil

theorem eqGuard_plain (op : BinOp) (t : TypeId) (x y : Operand) (u v : Value) (hu : ∀ cs, u ≠ .agg cs) (hu' : u ≠ .nilIface) : (eqGuard op t x y u v).run P w = .ok () w := by
  unfold eqGuard
  cases hm : (!(op matches .eql | .neq)) with
  | true => simp
  | false =>
    simp only [Bool.false_eq_true, if_false, Sem.run_bind, Sem.run_pure, Result.andThen_ok]
    cases u <;> first | (exact absurd rfl (hu _)) | (exact absurd rfl hu') | (cases v <;> rfl)

theorem binBool_ok {op : BinOp} {x y : Bool} {xt : TypeId} {d : D} (ht : P.underlying xt = some .bool)
    (hb : (match op with | .eql => some (D.bool (x == y)) | .neq => some (.bool (!(x == y))) | _ => none) = some d) :
    ∃ v, (binOp op xt (.bool x) (.bool y)).run P w = .ok v w ∧ ∀ N ν, Rv w N ν [.d d] [v] := by
  have he : (Op.equal xt (.bool x) (.bool y)).run P w = .ok (x == y) w := by
    unfold Op.equal Op.maxDepth Op.equalIn
    simp [run_underlying ht]
  cases op <;> simp only [Option.some.injEq, reduceCtorEq] at hb <;> subst hb
  all_goals simp only [binOp, Sem.run_bind, he, Result.andThen_ok, Sem.run_pure]
  all_goals exact ⟨_, rfl, fun N ν => .d (.bool _ .nil) .nil⟩

theorem fill_ok (place : Nat → Option (Nat × Nat)) : True := trivial

/-- addresses of fields -/
theorem run_fieldPlace {t : TypeId} {ti : TI} (k : TiOk P t ti) (hz : ti.size ≠ 0) (f : Field) (hf : f.type = t) (b o : Nat) : (fieldPlace ⟨b, o, none⟩ f).run P w = .ok ⟨b, o + f.offset, none⟩ w := by
  unfold fieldPlace
  rw [hf]
  simp only [Sem.run_bind, run_sizeOf' k, Result.andThen_ok]
  rw [if_neg hz, Sem.run_pure, Addr.add_lit]

theorem struct_of {t : TypeId} {ti : TI} (k : TiOk P t ti) {fs : List (Nat × TypeId)} (hk : ti.kind = .struct fs) : ∃ fields, P.underlying t = some (.struct fields) ∧ fields.toList.map (fun f => (f.offset, f.type)) = fs := by
  obtain ⟨d, h1, h2⟩ := k.kind
  rw [hk] at h2
  cases d <;> simp [kindB] at h2
  exact ⟨_, h1, h2⟩
theorem slice_of {t : TypeId} {ti : TI} (k : TiOk P t ti) {e : TypeId} (hk : ti.kind = .slice e) : P.underlying t = some (.slice e) := by
  obtain ⟨d, h1, h2⟩ := k.kind
  rw [hk] at h2
  cases d <;> simp [kindB] at h2
  subst h2; exact h1
theorem array_of {t : TypeId} {ti : TI} (k : TiOk P t ti) {n e : Nat} (hk : ti.kind = .array n e) : P.underlying t = some (.array n e) := by
  obtain ⟨d, h1, h2⟩ := k.kind
  rw [hk] at h2
  unfold kindB at h2
  split at h2 <;> simp_all
theorem str_of {t : TypeId} {ti : TI} (k : TiOk P t ti) (hk : ti.kind = .str) : P.underlying t = some .string := by
  obtain ⟨d, h1, h2⟩ := k.kind
  rw [hk] at h2
  cases d <;> simp [kindB] at h2
  exact h1
theorem bool_of {t : TypeId} {ti : TI} (k : TiOk P t ti) (hk : ti.kind = .bool) : P.underlying t = some .bool := by
  obtain ⟨d, h1, h2⟩ := k.kind
  rw [hk] at h2
  cases d <;> simp [kindB] at h2
  exact h1
theorem int_of {t : TypeId} {ti : TI} (k : TiOk P t ti) {kd : IntKind} (hk : ti.kind = .int kd) : P.underlying t = some (.int kd) := by
  obtain ⟨d, h1, h2⟩ := k.kind
  rw [hk] at h2
  cases d <;> simp [kindB, kindEq_iff] at h2
  subst h2; exact h1
theorem field_at {fields : Array Field} {fs : List (Nat × TypeId)} (hf : fields.toList.map (fun f => (f.offset, f.type)) = fs) {i off : Nat} {t : TypeId} (h : fs[i]? = some (off, t)) :
    ∃ f, fields[i]? = some f ∧ f.offset = off ∧ f.type = t := by
  rw [← hf, List.getElem?_map] at h
  cases hq : fields.toList[i]? with
  | none => rw [hq] at h; cases h
  | some f =>
    rw [hq] at h
    simp only [Option.map_some, Option.some.injEq, Prod.mk.injEq] at h
    exact ⟨f, by simpa using hq, h.1, h.2⟩

theorem run_fieldAt {s t : TypeId} {ti tf : TI} (k : TiOk P s ti) (k' : TiOk P t tf) {fs : List (Nat × TypeId)} (hk : ti.kind = .struct fs) {i off : Nat} (hi : fs[i]? = some (off, t)) (hz : tf.size ≠ 0) (b o : Nat) :
    (Instr.fieldAt s (.pointer (some ⟨b, o, none⟩)) i).run P w = .ok (.pointer (some ⟨b, o + off, none⟩)) w := by
  obtain ⟨fields, h1, h2⟩ := struct_of k hk
  obtain ⟨f, h3, rfl, h4⟩ := field_at h2 hi
  unfold Instr.fieldAt
  simp only [Sem.run_bind, run_underlying h1, Result.andThen_ok, h3, Instr.sureAddr, Sem.run_pure, run_fieldPlace k' hz f h4]

theorem run_part {t : TypeId} {ti : TI} (k : TiOk P t ti) {xs : List Value} {off : Nat} (hlen : ((xs.drop off).take ti.size).length = ti.size) :
    (part t xs.toArray off).run P w = .ok (if ti.isAgg then .agg ((xs.drop off).take ti.size).toArray else ((xs.drop off).take ti.size).getD 0 undef) w := by
  unfold part
  simp only [Sem.run_bind, run_isAgg k, Result.andThen_ok]
  cases hag : ti.isAgg with
  | true =>
    simp only [if_true, Sem.run_bind, run_sizeOf' k, Result.andThen_ok, Sem.run_pure]
    congr 2
    apply Array.ext'
    simp only [Array.toList_extract, List.extract_eq_take_drop]
    congr 1
    omega
  | false =>
    have h1 := k.one hag
    simp only [Bool.false_eq_true, if_false]
    rw [h1] at hlen ⊢
    cases hd : xs.drop off with
    | nil => rw [hd] at hlen; simp at hlen
    | cons c cs =>
      have : xs[off]? = some c := by
        have := congrArg (fun l => l[0]?) hd
        simpa using this
      simp [this]
end
end Go.Vc
end

section
set_option linter.unusedVariables false
set_option linter.unusedSimpArgs false
namespace Go.Vc
section
variable {P : Program} {T : List (Nat × TI)} {N : Nat → Prop} {w : World} {ν : Nat → Value}

theorem foldl_set (off : Nat) : ∀ (vs : List Value) (i : Nat) (cells : Array Value), off + i + vs.length ≤ cells.size →
    ((vs.zipIdx i).foldl (fun cs (p : Value × Nat) => cs.setIfInBounds (off + p.2) p.1) cells).toList = cells.toList.take (off + i) ++ vs ++ cells.toList.drop (off + i + vs.length)
  | [], i, cells, h => by simp
  | v :: vs, i, cells, h => by
    simp only [List.zipIdx_cons, List.foldl_cons]
    rw [foldl_set off vs (i + 1) _ (by simp at h ⊢; omega)]
    simp only [Array.toList_setIfInBounds, List.length_cons]
    simp only [List.length_cons] at h
    have hl : off + i < cells.toList.length := by simp; omega
    have h1 : (cells.toList.set (off + i) v).take (off + (i + 1)) = cells.toList.take (off + i) ++ [v] := by
      apply List.ext_getElem?
      intro j
      simp only [List.getElem?_take, List.getElem?_set, List.getElem?_append, List.length_take]
      have hm : min (off + i) cells.toList.length = off + i := by omega
      rw [hm]
      by_cases h1 : j < off + i
      · simp [h1, show j < off + (i + 1) from by omega, show ¬ off + i = j from by omega]
      · by_cases h2 : j = off + i
        · subst h2; simp [show off + i < off + (i + 1) from by omega]; simpa using hl
        · simp [h1, show ¬ j < off + (i + 1) from by omega, show j - (off + i) ≠ 0 from by omega]
    have h2 : (cells.toList.set (off + i) v).drop (off + (i + 1) + vs.length) = cells.toList.drop (off + i + (vs.length + 1)) := by
      apply List.ext_getElem?
      intro j
      simp only [List.getElem?_drop, List.getElem?_set]
      rw [if_neg (by omega)]
      congr 1
      omega
    rw [h1, h2]
    simp

/-- one part -/
theorem fill_step (v : Value) (off : Nat) (cells : Array Value) (h : off + v.cells.size ≤ cells.size) :
    (v.cells.zipIdx.foldl (fun cs (c, j) => cs.setIfInBounds (off + j) c) cells) = (cells.toList.take off ++ v.cells.toList ++ cells.toList.drop (off + v.cells.size)).toArray := by
  have e := foldl_set off v.cells.toList 0 cells (by simpa using h)
  apply Array.ext'
  rw [← Array.foldl_toList, Array.toList_zipIdx]
  simpa using e

theorem mapM_fields {fields : List Field} (h : ∀ f ∈ fields, ∃ ti, look T f.type = some ti) (hT : tabB P T = true) :
    ∃ places, fields.mapM (fun f => (P.info? f.type).map fun i => (f.offset, i.size)) = some places ∧
      ∀ (i : Nat) f ti, fields[i]? = some f → look T f.type = some ti → places[i]? = some (f.offset, ti.size) := by
  induction fields with
  | nil => exact ⟨[], rfl, by simp⟩
  | cons f fs ih =>
    obtain ⟨places, h1, h2⟩ := ih (fun g hg => h g (List.mem_cons_of_mem _ hg))
    obtain ⟨ti, ht⟩ := h f List.mem_cons_self
    obtain ⟨i, z, hi, hs, _⟩ := (tabB_ok hT ht).info
    refine ⟨(f.offset, i.size) :: places, by simp [List.mapM_cons, hi, h1], ?_⟩
    intro j g tj hj hg
    cases j with
    | zero =>
      simp only [List.getElem?_cons_zero, Option.some.injEq] at hj
      subst hj
      rw [ht] at hg
      simp only [Option.some.injEq] at hg
      subst hg
      simp [hs]
    | succ j => simpa using h2 j g tj (by simpa using hj) hg

theorem fillA_ok (hT : tabB P T = true) {fs : List (Nat × TypeId)} {place : Nat → Option (Nat × Nat)} (hp : ∀ (i off : Nat) t ti, fs[i]? = some (off, t) → look T t = some ti → place i = some (off, ti.size)) :
    ∀ {parts : List (Nat × AV)} {vparts : List (Nat × Value)} {cs out : List AV} {xs : Array Value}, fillA fs T cs parts = some out → parts.map (·.1) = vparts.map (·.1) → Rv w N ν (parts.map (·.2)) (vparts.map (·.2)) →
      Rv w N ν cs xs.toList → ∃ ys, Instr.fill place xs vparts = some ys ∧ Rv w N ν out ys.toList
  | [], [], cs, out, xs, h, _, _, hr => by
    simp only [fillA, Option.some.injEq] at h
    subst h
    exact ⟨xs, rfl, hr⟩
  | [], _ :: _, _, _, _, _, h, _, _ => by simp at h
  | _ :: _, [], _, _, _, _, h, _, _ => by simp at h
  | (i, x) :: parts, (i', v) :: vparts, cs, out, xs, h, he, hv, hr => by
    simp only [List.map_cons, List.cons.injEq] at he
    obtain ⟨rfl, he⟩ := he
    simp only [List.map_cons] at hv
    obtain ⟨v', r', e, hx, hv'⟩ := hv.cons_inv
    simp only [List.cons.injEq] at e
    obtain ⟨rfl, rfl⟩ := e
    unfold fillA at h
    split at h
    · rename_i off t hi
      split at h
      · rename_i ti ht
        split at h
        · rename_i new hc
          cases hb : Nat.ble (off + new.length) cs.length <;> rw [hb] at h
          · cases h
          · simp only [cond_true] at h
            rw [forceL_eq] at h
            obtain ⟨h1, h2, h3, h4⟩ := cellsOf_ok hx hc (tabB_ok hT ht).one
            have hb' := Nat.le_of_ble_eq_true hb
            have hlen := hr.length
            have hsz : off + v.cells.size ≤ xs.size := by
              have : xs.toList.length = xs.size := by simp
              omega
            simp only [Instr.fill, hp i off t ti hi ht]
            rw [if_neg (by simp [h2]; have : xs.toList.length = xs.size := by simp
                           omega), fill_step v off xs hsz]
            refine fillA_ok hT hp h he hv' ?_
            unfold over
            have e1 : v.cells.size = new.length := by omega
            rw [e1]
            exact ((hr.take off).append h1).append (hr.drop _)
        · cases h
      · cases h
    · cases h

theorem build_ok (hT : tabB P T = true) {t : TypeId} {ti : TI} (ht : look T t = some ti) {fs : List (Nat × TypeId)} (hk : ti.kind = .struct fs) (hall : fs.all (fun p => (look T p.2).isSome) = true)
    {parts : List (Nat × AV)} {vparts : Array (Nat × Value)} {out : List AV} (h : fillA fs T ti.zero parts = some out) (he : parts.map (·.1) = vparts.toList.map (·.1)) (hv : Rv w N ν (parts.map (·.2)) (vparts.toList.map (·.2))) :
    ∃ ys, (Instr.build t vparts).run P w = .ok (.agg ys) w ∧ Rv w N ν out ys.toList := by
  have k := tabB_ok hT ht
  obtain ⟨fields, hu, hf⟩ := struct_of k hk
  obtain ⟨i, z, hi, _, _, hz, hzz, _, _⟩ := k.info
  obtain ⟨places, hp1, hp2⟩ := mapM_fields (fields := fields.toList) (fun f hf' => by
    have hm : (f.offset, f.type) ∈ fs := by rw [← hf]; exact List.mem_map.2 ⟨f, hf', rfl⟩
    have := List.all_eq_true.1 hall _ hm
    exact Option.isSome_iff_exists.1 this) hT
  obtain ⟨ys, h1, h2⟩ := fillA_ok (w := w) (N := N) (ν := ν) hT (place := fun x => places.toArray[x]?) (fun j off t' tj hj hg => by
    obtain ⟨f, hf1, rfl, rfl⟩ := field_at hf hj
    have := hp2 j f tj (by simpa using hf1) hg
    simpa using this) h he hv (zerosB_ok hzz)
  refine ⟨ys, run_build w t vparts ys ?_, h2⟩
  unfold Program.built
  simp only [hi, hu, hz, hp1]
  exact h1

theorem build_arr (hT : tabB P T = true) {t : TypeId} {ti te : TI} (ht : look T t = some ti) {m e : Nat} (hk : ti.kind = .array m e) (hte : look T e = some te)
    {parts : List (Nat × AV)} {vparts : Array (Nat × Value)} {out : List AV} (h : fillA (arrF te.size e m) T ti.zero parts = some out) (he : parts.map (·.1) = vparts.toList.map (·.1)) (hv : Rv w N ν (parts.map (·.2)) (vparts.toList.map (·.2))) :
    ∃ ys, (Instr.build t vparts).run P w = .ok (.agg ys) w ∧ Rv w N ν out ys.toList := by
  have k := tabB_ok hT ht
  have hu := array_of k hk
  obtain ⟨i, z, hi, _, _, hz, hzz, _, _⟩ := k.info
  obtain ⟨ie, ze, hie, hsz, _⟩ := (tabB_ok hT hte).info
  obtain ⟨ys, h1, h2⟩ := fillA_ok (w := w) (N := N) (ν := ν) hT (place := fun j => some (j * ie.size, ie.size)) (fun j off t' tj hj hg => by
    unfold arrF at hj
    rw [List.getElem?_map] at hj
    obtain ⟨j', hj', e1⟩ := Option.map_eq_some_iff.1 hj
    have hj2 := List.getElem?_eq_some_iff.1 hj'
    obtain ⟨hlt, e2⟩ := hj2
    rw [List.getElem_range] at e2
    subst e2
    injection e1 with e1 e3
    subst e1; subst e3
    rw [hte] at hg
    injection hg with hg
    subst hg
    rw [hsz]) h he hv (zerosB_ok hzz)
  refine ⟨ys, run_build w t vparts ys ?_, h2⟩
  unfold Program.built
  simp only [hi, hu, hz, hie]
  exact h1

theorem rowsOf_ok {te : TI} (k1 : te.isAgg = false → te.size = 1) {l : List (Nat × AO)} {xs : List (Nat × AV)} : ∀ {parts : List (Nat × AV)} {vparts : List (Nat × Value)} {i : Nat} {rows : List (List D)} {cells : Array Value},
    rowsOf te l i parts = some rows → parts.map (·.1) = vparts.map (·.1) → Rv w N ν (parts.map (fun p => AV.view l p.2)) (vparts.map (·.2)) → (i + parts.length) * te.size ≤ cells.size →
      ∃ ys new, Instr.fill (fun j => some (j * te.size, te.size)) cells vparts = some ys ∧ Rd w N rows.flatten new ∧ (∀ r ∈ rows, r.length = te.size) ∧ rows.length = parts.length ∧
        ys.toList = cells.toList.take (i * te.size) ++ new ++ cells.toList.drop ((i + parts.length) * te.size)
  | [], [], i, rows, cells, h, _, _, hsz => by
    simp only [rowsOf, Option.some.injEq] at h
    subst h
    exact ⟨cells, [], rfl, .nil, by simp, rfl, by simp⟩
  | [], _ :: _, _, _, _, _, h, _, _ => by simp at h
  | _ :: _, [], _, _, _, _, h, _, _ => by simp at h
  | (j, x) :: parts, (j', v) :: vparts, i, rows, cells, h, he, hv, hsz => by
    simp only [List.map_cons, List.cons.injEq] at he
    obtain ⟨rfl, he⟩ := he
    simp only [List.map_cons] at hv
    obtain ⟨v', r', e, hx, hv'⟩ := hv.cons_inv
    simp only [List.cons.injEq] at e
    obtain ⟨rfl, rfl⟩ := e
    unfold rowsOf at h
    cases hb : Nat.beq j i <;> rw [hb] at h
    · cases h
    · simp only [cond_true] at h
      have := Nat.eq_of_beq_eq_true hb
      subst this
      split at h
      · rename_i cs hc
        split at h
        · rename_i ds hd
          obtain ⟨h1, h2, h3, h4⟩ := cellsOf_ok hx hc k1
          cases hr : rowsOf te l (j + 1) parts with
          | none => rw [hr] at h; cases h
          | some rows' =>
            rw [hr] at h
            simp only [Option.map_some, Option.some.injEq] at h
            subst h
            simp only [List.length_cons] at hsz
            have hmul : (j + (parts.length + 1)) * te.size = j * te.size + te.size + parts.length * te.size := by
              rw [Nat.add_mul, Nat.add_mul]; omega
            have hsz' : j * te.size + v.cells.size ≤ cells.size := by rw [h2]; omega
            have hf := fill_step v (j * te.size) cells hsz'
            have hvl : v.cells.toList.length = te.size := by simpa using h2
            have htl : (cells.toList.take (j * te.size)).length = j * te.size := by simp; omega
            have hsize : (cells.toList.take (j * te.size) ++ v.cells.toList ++ cells.toList.drop (j * te.size + v.cells.size)).length = cells.size := by
              simp only [List.length_append, htl, hvl, List.length_drop, Array.length_toList, h2]; omega
            have hm1 : (j + 1) * te.size = j * te.size + te.size := by rw [Nat.add_mul]; omega
            obtain ⟨ys, new, g1, g2, g3, g4, g5⟩ := rowsOf_ok k1 (xs := xs) (cells := (cells.toList.take (j * te.size) ++ v.cells.toList ++ cells.toList.drop (j * te.size + v.cells.size)).toArray) hr he hv' (by
              rw [List.size_toArray, hsize]
              have : (j + 1 + parts.length) * te.size = j * te.size + te.size + parts.length * te.size := by rw [Nat.add_mul, Nat.add_mul]; omega
              omega)
            refine ⟨ys, v.cells.toList ++ new, ?_, ?_, ?_, by simp [g4], ?_⟩
            · simp only [Instr.fill]
              rw [if_neg (by simp [h2]; omega), hf]
              exact g1
            · simp only [List.flatten_cons]
              exact (h1.dsOf hd).append g2
            · intro r hr'
              rcases List.mem_cons.1 hr' with rfl | hr'
              · have := (h1.dsOf hd).length; omega
              · exact g3 r hr'
            · rw [g5]
              simp only [List.length_cons]
              have e1 : (cells.toList.take (j * te.size) ++ v.cells.toList ++ cells.toList.drop (j * te.size + v.cells.size)).take ((j + 1) * te.size) = cells.toList.take (j * te.size) ++ v.cells.toList := by
                rw [hm1]
                have : (cells.toList.take (j * te.size) ++ v.cells.toList).length = j * te.size + te.size := by rw [List.length_append, htl, hvl]
                rw [← this]; exact List.take_left
              have e2 : (cells.toList.take (j * te.size) ++ v.cells.toList ++ cells.toList.drop (j * te.size + v.cells.size)).drop ((j + 1 + parts.length) * te.size) = cells.toList.drop ((j + (parts.length + 1)) * te.size) := by
                have hl : (cells.toList.take (j * te.size) ++ v.cells.toList).length = j * te.size + te.size := by rw [List.length_append, htl, hvl]
                have : (j + 1 + parts.length) * te.size = (cells.toList.take (j * te.size) ++ v.cells.toList).length + parts.length * te.size := by rw [hl, Nat.add_mul, Nat.add_mul]; omega
                rw [this, List.drop_append, List.drop_of_length_le (by omega), List.nil_append, h2, List.drop_drop]
                congr 1
                omega
              rw [e1, e2]
              simp
        · cases h
      · cases h
end
end Go.Vc
end

section
set_option linter.unusedVariables false
set_option linter.unusedSimpArgs false
namespace Go.Vc
section
variable {P : Program} {ro : Option Nat} {q : Bool} {T : List (Nat × TI)} {N0 Nf : Nat → Prop} {w0 w w' : World} {n : Nat} {σ : Env} {h : Heap} {a : Act} {ν ν' ν0 : Nat → Value} {Q : Exit → Act → World → Prop} {next : Act → World → Prop}

theorem heap_push_new (w : World) (o : Obj) : (w.alloc o).heap[w.heap.size]? = some o := by
  show (w.heap.push o)[w.heap.size]? = _
  simp
theorem heap_push_old (w : World) (o : Obj) (i : Nat) (h : i < w.heap.size) : (w.alloc o).heap[i]? = w.heap[i]? := by
  show (w.heap.push o)[i]? = w.heap[i]?
  rw [Array.getElem?_push, if_neg (Nat.ne_of_lt h)]
theorem size_alloc (w : World) (o : Obj) : (w.alloc o).heap.size = w.heap.size + 1 := by
  show (w.heap.push o).size = _
  simp
theorem Kp.alloc (w : World) (o : Obj) : Kp (fun _ => False) w (w.alloc o) :=
  ⟨rfl, rfl, rfl, by rw [size_alloc]; omega, fun b hb _ => heap_push_old w o b hb⟩

theorem viewL_map (l : List (Nat × AO)) : ∀ as : List AV, AV.viewL l as = as.map (AV.view l)
  | [] => by simp only [AV.viewL]; rfl
  | a :: as => by simp only [AV.viewL, viewL_map l as]; rfl

/-- a new block of cells -/
theorem St.box (s : St q N0 w0 Nf n ν0 σ h a w ν) {t t' : TypeId} {cs : List AV} {arr : Array Value} (hr : Rv w (nN N0 ν) ν cs arr.toList) (d : Option Nat) :
    ∃ ν', St q N0 w0 Nf n ν0 (σ.putO n d (.ptr h.nx 0)) (h.new (.cells t cs)) (a.put d (.pointer (some ⟨w.heap.size, 0, none⟩))) (w.alloc (.cells arr t')) ν' := by
  refine ⟨_, s.new (val := .pointer (some ⟨w.heap.size, 0, none⟩)) (Kp.alloc w _) (by simp [undef]) (fun b hb => ?_) (fun m hν => ?_) d ?_⟩
  · simp only [vblk, Option.some.injEq] at hb
    subst hb
    rw [size_alloc]; omega
  · exact ⟨w.heap.size, arr, t', by simp [upd], heap_push_new w _, hr.mv m hν⟩
  · exact .ptr 0 (by simp [upd]) .nil

theorem exec_val {ρ : Operand → Value} {o : Oper} {S : Sem Value} {v : Value} (he : execOp ρ o = (do pure (Next.value (← S)))) (hr : S.run P w = .ok v w') : (execOp ρ o).run P w = .ok (.value v) w' := by
  rw [he]
  simp only [Sem.run_bind, hr, Result.andThen_ok, Sem.run_pure]

theorem eqGuard_nil (op : BinOp) (t : TypeId) (x : Operand) (u : Value) : (eqGuard op t x (.const .nilIface) u .nilIface).run P w = .ok () w := by
  unfold eqGuard
  cases hm : (!(op matches .eql | .neq)) with
  | true => simp
  | false =>
    simp only [Bool.false_eq_true, if_false, Sem.run_bind, Sem.run_pure, Result.andThen_ok]
    cases u <;> simp
theorem ifaceNil_looks (hT : tabB P T = true) (s : St q N0 w0 Nf n ν0 σ h a w ν) {o : Oper} {op : BinOp} {xt yt : TypeId} {x : Operand} {d : D} (hop : o.op = .binOp op xt x (.const .nilIface) yt) (hb : ifaceNil T xt op (ev σ x) = some d) :
    Looks P a w (nN N0 ν) ν o (.d d) := by
  have hx := ev_ok s x
  have he : execOp a.eval o = (do pure (Next.value (← (do eqGuard op xt x (.const .nilIface) (a.eval x) .nilIface; binOp op xt (a.eval x) .nilIface)))) := by unfold execOp; rw [hop]; rfl
  unfold ifaceNil at hb
  split at hb
  · rename_i ti hti
    have hif : ti.kind = .iface → P.isIface xt = true := fun hk => by
      obtain ⟨d, h1, h2⟩ := (tabB_ok hT hti).kind
      rw [hk] at h2
      unfold Program.isIface
      cases d <;> simp [kindB] at h2
      rw [h1]
    have guard : ∀ (u : Value), (eqGuard op xt x (.const .nilIface) u .nilIface).run P w = .ok () w := fun u => eqGuard_nil op xt x u
    split at hb <;> try (cases hb; done)
    · rename_i hk hxe
      cases hb
      rw [hxe] at hx
      generalize a.eval x = u at hx he
      cases hx with
      | iface t h1 h2 =>
        refine ⟨.bool false, exec_val he ?_, .d (.bool _ .nil) .nil⟩
        simp only [Sem.run_bind, guard, Result.andThen_ok, run_eql_iface_nil w xt (hif hk)]
    · rename_i hk hxe
      cases hb
      rw [hxe] at hx
      generalize a.eval x = u at hx he
      cases hx with
      | iface t h1 h2 =>
        refine ⟨.bool true, exec_val he ?_, .d (.bool _ .nil) .nil⟩
        simp only [Sem.run_bind, guard, Result.andThen_ok, run_neq_iface_nil w xt (hif hk)]
    · rename_i hk hxe
      cases hb
      rw [hxe] at hx
      rw [rv_val hx] at he
      refine ⟨.bool true, exec_val he ?_, .d (.bool _ .nil) .nil⟩
      simp only [Sem.run_bind, guard, Result.andThen_ok, run_eql_nil_nil_at w xt (hif hk)]
    · rename_i hk hxe
      cases hb
      rw [hxe] at hx
      rw [rv_val hx] at he
      refine ⟨.bool false, exec_val he ?_, .d (.bool _ .nil) .nil⟩
      simp only [Sem.run_bind, guard, Result.andThen_ok, run_neq_nil_nil_at w xt (hif hk)]
  · cases hb
theorem bin_looks (hT : tabB P T = true) (s : St q N0 w0 Nf n ν0 σ h a w ν) {o : Oper} {op : BinOp} {xt yt : TypeId} {x y : Operand} {d : D} (hop : o.op = .binOp op xt x y yt) (hb : bin T xt op (norm (ev σ x)) (norm (ev σ y)) = some d) :
    Looks P a w (nN N0 ν) ν o (.d d) := by
  have hx := norm_rv (ev_ok s x)
  have hy := norm_rv (ev_ok s y)
  have he : execOp a.eval o = (do pure (Next.value (← (do eqGuard op xt x y (a.eval x) (a.eval y); binOp op xt (a.eval x) (a.eval y))))) := by unfold execOp; rw [hop]
  unfold bin at hb
  split at hb
  · rename_i k p k' q e1 e2
    rw [e1] at hx; rw [e2] at hy
    rw [rv_int hx, rv_int hy] at he
    cases hk : kindEq k k' <;> rw [hk] at hb
    · cases hb
    · rw [kindEq_iff] at hk
      subst hk
      obtain ⟨v, h1, h2⟩ := binInt_ok (P := P) (w := w) hb xt
      refine ⟨v, exec_val he ?_, h2 _ _⟩
      simp only [Sem.run_bind, eqGuard_plain op xt x y (.int k p) (.int k q) (by simp) (by simp), Result.andThen_ok, h1]
  · rename_i p q e1 e2
    rw [e1] at hx; rw [e2] at hy
    rw [(rv_str hx).1, (rv_str hy).1] at he
    obtain ⟨v, h1, h2⟩ := binStr_ok (P := P) (w := w) hb xt
    refine ⟨v, exec_val he ?_, h2 _ _⟩
    simp only [Sem.run_bind, eqGuard_plain op xt x y (.string (mkS p)) (.string (mkS q)) (by simp) (by simp), Result.andThen_ok, h1]
  · rename_i p q e1 e2
    rw [e1] at hx; rw [e2] at hy
    rw [rv_bool hx, rv_bool hy] at he
    split at hb
    · rename_i ti ht
      split at hb
      · rename_i hk
        obtain ⟨v, h1, h2⟩ := binBool_ok (P := P) (w := w) (bool_of (tabB_ok hT ht) hk) hb
        refine ⟨v, exec_val he ?_, h2 _ _⟩
        simp only [Sem.run_bind, eqGuard_plain op xt x y (.bool p) (.bool q) (by simp) (by simp), Result.andThen_ok, h1]
      · cases hb
    · cases hb
  · cases hb

theorem load_looks (hT : tabB P T = true) (s : St q N0 w0 Nf n ν0 σ h a w ν) {o : Oper} {t : TypeId} {x : Operand} {r : AV} {h' : Heap} {m : Rn} (hop : o.op = .load t x) (hf : opFun T (ev σ) h (.load t x) = some (r, h', m)) :
    h' = h ∧ m = .sub [] ∧ Looks P a w (nN N0 ν) ν o r := by
  have hx := ev_ok s x
  unfold opFun at hf
  simp only at hf
  split at hf
  · rename_i ti ht
    have k := tabB_ok hT ht
    have fin : ∀ (b off : Nat) (cells : List Value) (v : Value), a.eval x = .pointer (some ⟨b, off, none⟩) → (cells.take ti.size).length = ti.size → (∀ (j : Nat) u, cells[j]? = some u → w.cell? ⟨b, off + j, none⟩ = some u) →
        v = (if ti.isAgg then .agg (cells.take ti.size).toArray else (cells.take ti.size).getD 0 undef) → (execOp a.eval o).run P w = .ok (.value v) w := by
      intro b off cells v he hlen hc hv
      have hx : execOp a.eval o = (do pure (Next.value (← Instr.loadAt t (a.eval x)))) := by unfold execOp; rw [hop]
      refine exec_val hx ?_
      simp only [Instr.loadAt, he, Instr.sureAddr, Sem.run_bind, Sem.run_pure, Result.andThen_ok]
      rw [run_loadVar' k b off (cells.take ti.size) hlen (fun j u hu => hc j u (by rw [List.getElem?_take] at hu; split at hu; exact hu; cases hu)), ← hv]
    split at hf
    · rename_i id off e
      rw [e] at hx
      obtain ⟨b, he, hν⟩ := rv_ptr hx
      split at hf
      · rename_i t' cs hl
        obtain ⟨b', arr, e', h1, h2, h3⟩ := s.hp.objs _ _ hl
        rw [hν] at h1
        obtain rfl : b = b' := by injection h1 with h1; injection h1 with h1; injection h1
        cases hq : loadL ti (cs.drop off) with
        | none => rw [hq] at hf; cases hf
        | some r' =>
          rw [hq] at hf
          simp only [Option.map_some, Option.some.injEq, Prod.mk.injEq] at hf
          obtain ⟨rfl, rfl, rfl⟩ := hf
          obtain ⟨g1, g2⟩ := loadL_ok k.one (h3.drop off) hq
          refine ⟨rfl, rfl, _, fin b off (arr.toList.drop off) _ he g1 (fun j u hu => ?_) rfl, g2⟩
          rw [List.getElem?_drop] at hu
          simpa [World.cell?, h2] using hu
      · cases hf
    · rename_i ds e
      rw [e] at hx
      obtain ⟨b, off, cells, he, h0, h1, h2, h3⟩ := rv_at hx
      cases hq : loadD ti ds with
      | none => rw [hq] at hf; cases hf
      | some r' =>
        rw [hq] at hf
        simp only [Option.map_some, Option.some.injEq, Prod.mk.injEq] at hf
        obtain ⟨rfl, rfl, rfl⟩ := hf
        obtain ⟨g1, g2⟩ := loadD_ok k.one h2 hq
        exact ⟨rfl, rfl, _, fin b off cells _ he g1 h3 rfl, g2⟩
    · rename_i id i sz off e
      rw [e] at hx
      obtain ⟨b, mm, c, he, hν, hi⟩ := rv_rptr hx
      split at hf
      · rename_i t' sz' rows hl
        cases hs : Nat.beq sz sz' <;> rw [hs] at hf
        · cases hf
        · have := Nat.eq_of_beq_eq_true hs
          subst this
          simp only [cond_true] at hf
          split at hf
          · rename_i row hrow
            obtain ⟨A, c', cells, h1, h2, h3, h4, h5, h6⟩ := s.hp.objs _ _ hl
            rw [hν] at h1
            injection h1 with e1 e2 e3
            subst e1 e2 e3
            rcases h6.2 with ⟨g, _⟩ | ⟨g, cap, cur, g1, _, g2, g3, _, g4, g5⟩
            · rw [hν] at g; cases g
            · rw [hν] at g1
              injection g1 with e1 e2 e3
              injection e1 with e1
              injection e1 with e1
              subst e1
              cases hq : loadD ti (row.drop off) with
              | none => rw [hq] at hf; cases hf
              | some r' =>
                rw [hq] at hf
                simp only [Option.map_some, Option.some.injEq, Prod.mk.injEq] at hf
                obtain ⟨rfl, rfl, rfl⟩ := hf
                have hsplit : rows.flatten = (rows.take i).flatten ++ (row ++ (rows.drop (i + 1)).flatten) := by
                  have hd : rows.drop i = row :: rows.drop (i + 1) := by
                    have hlt : i < rows.length := (List.getElem?_eq_some_iff.1 hrow).1
                    rw [List.drop_eq_getElem_cons hlt, (List.getElem?_eq_some_iff.1 hrow).2]
                  conv => lhs; rw [← List.take_append_drop i rows, List.flatten_append, hd, List.flatten_cons]
                have h2' : Rd w (nN N0 ν) ((rows.take i).flatten ++ (row ++ (rows.drop (i + 1)).flatten)) cells := by rw [← hsplit]; exact h2
                obtain ⟨c1, c2, rfl, k1, k2⟩ := Rd.split h2'
                obtain ⟨c3, c4, rfl, k3, k4⟩ := Rd.split k2
                have hc1 : c1.length = i * sz := by
                  rw [k1.length]
                  have : ∀ (l : List (List D)), (∀ r ∈ l, r.length = sz) → l.flatten.length = l.length * sz := by
                    intro l hl
                    induction l with
                    | nil => simp
                    | cons r l ih => simp only [List.flatten_cons, List.length_append, List.length_cons]; rw [hl r List.mem_cons_self, ih (fun x hx => hl x (List.mem_cons_of_mem _ hx)), Nat.add_mul]; omega
                  rw [this _ (fun r hr => h3 r (List.mem_of_mem_take hr)), List.length_take]
                  rw [Nat.min_eq_left (by omega)]
                obtain ⟨g6, g7⟩ := loadD_ok (ν := ν) k.one (k3.drop off) hq
                refine ⟨rfl, rfl, _, fin b (i * sz + off) (c3.drop off) _ he g6 (fun j u hu => ?_) rfl, g7⟩
                rw [List.getElem?_drop] at hu
                have hcur : cur.toList[i * sz + (off + j)]? = some u := by
                  have hlt : off + j < c3.length := by
                    rcases Nat.lt_or_ge (off + j) c3.length with g | g
                    · exact g
                    · rw [List.getElem?_eq_none g] at hu; cases hu
                  have : (c1 ++ (c3 ++ c4))[i * sz + (off + j)]? = some u := by
                    rw [List.getElem?_append_right (by omega), hc1, Nat.add_sub_cancel_left, List.getElem?_append_left hlt]
                    exact hu
                  rw [← g5, List.getElem?_take] at this
                  split at this
                  · exact this
                  · cases this
                simp only [World.cell?, g2]
                rw [Nat.add_assoc]
                simpa using hcur
          · cases hf
      · cases hf
    · cases hf
  · cases hf
end
end Go.Vc
end

section
set_option linter.unusedVariables false
set_option linter.unusedSimpArgs false
namespace Go.Vc
section
variable {P : Program} {ro : Option Nat} {q : Bool} {T : List (Nat × TI)} {N0 Nf : Nat → Prop} {w0 w w' : World} {n : Nat} {σ : Env} {h : Heap} {a : Act} {ν ν' ν0 : Nat → Value} {Q : Exit → Act → World → Prop} {next : Act → World → Prop}

theorem pick_rv {N : Nat → Prop} {t : Bool} {x y : AV} {u v : Value} (hx : Rv w N ν [x] [u]) (hy : Rv w N ν [y] [v]) : Rv w N ν [pickAV t x y] [if t = true then u else v] := by
  have hx := norm_rv hx
  have hy := norm_rv hy
  unfold pickAV
  split
  · rename_i e1 e2
    rw [e1] at hx; rw [e2] at hy
    rw [rv_bool hx, rv_bool hy]
    cases t <;> exact .d (.bool _ .nil) .nil
  · cases t
    · exact hy
    · exact hx

theorem parts_rv (s : St q N0 w0 Nf n ν0 σ h a w ν) (parts : Array (Nat × Operand)) :
    ((parts.toList.map fun p => (p.1, ev σ p.2)).map (·.1) = ((parts.map fun (i, x) => (i, a.eval x)).toList).map (·.1)) ∧
    Rv w (nN N0 ν) ν ((parts.toList.map fun p => (p.1, ev σ p.2)).map (·.2)) (((parts.map fun (i, x) => (i, a.eval x)).toList).map (·.2)) := by
  rw [Array.toList_map]
  generalize parts.toList = l
  induction l with
  | nil => exact ⟨rfl, .nil⟩
  | cons p l ih =>
    obtain ⟨i, x⟩ := p
    exact ⟨by simp only [List.map_cons, ih.1], (ev_ok s x).cons ih.2⟩

theorem St.newRow (s : St q N0 w0 Nf n ν0 σ h a w ν) (hk : Kp (fun _ => False) w w') {val : Value} (hval : val ≠ undef) (hblk : ∀ b, vblk val = some b → w.heap.size ≤ b ∧ b < w'.heap.size)
    {t sz : Nat} {rows : List (List D)} {cells : List Value} {A : Option Addr} {c : Nat} (hv : val = .slice A rows.length c) (hr : Rd w (nN N0 ν) rows.flatten cells) (hl : ∀ r ∈ rows, r.length = sz) (hb : rows.length ≤ big) (hsz : 0 < sz)
    (ho : w'.ownsRow 0 t sz val rows.length cells) (d : Option Nat) :
    ∃ ν', St q N0 w0 Nf n ν0 (σ.putO n d (.own h.nx)) (h.new (.row t sz rows)) (a.put d val) w' ν' := by
  refine ⟨_, s.new hk hval hblk (fun m hν => ?_) d ?_⟩
  · exact ⟨A, c, cells, by simp [upd, hv], hr.mv m, hl, hb, hsz, by simpa [upd] using ho⟩
  · rw [hv]; exact .own (by simp [upd, hv]) .nil

theorem opFun_sound (hT : tabB P T = true) (s : St q N0 w0 Nf n ν0 σ h a w ν) {o : Oper} {r : AV} {h' : Heap} {m : Rn} (hf : opFun T (ev σ) h o.op = some (r, h', m))
    (hn : ∀ a' w' ν', St q N0 w0 Nf n ν0 ((σ.ren m).putO n o.dst r) h' a' w' ν' → next a' w') : o.wpIn (G ro) 0 P a w next Q := by
  cases hop : o.op <;> rw [hop] at hf
  case move x =>
    simp only [opFun, Option.some.injEq, Prod.mk.injEq] at hf
    obtain ⟨rfl, rfl, rfl⟩ := hf
    exact Looks.wp s ⟨a.eval x, by unfold execOp; rw [hop]; rfl, ev_ok s x⟩ (fun a' w' hs => hn a' w' ν hs)
  case assign x =>
    simp only [opFun, Option.some.injEq, Prod.mk.injEq] at hf
    obtain ⟨rfl, rfl, rfl⟩ := hf
    exact Looks.wp s ⟨a.eval x, by unfold execOp; rw [hop]; rfl, ev_ok s x⟩ (fun a' w' hs => hn a' w' ν hs)
  case pick c x y =>
    simp only [opFun] at hf
    split at hf
    · rename_i t e
      simp only [Option.some.injEq, Prod.mk.injEq] at hf
      obtain ⟨rfl, rfl, rfl⟩ := hf
      have hc := ev_ok s c
      rw [e] at hc
      refine Looks.wp s ⟨if t = true then a.eval x else a.eval y, ?_, pick_rv (ev_ok s x) (ev_ok s y)⟩ (fun a' w' hs => hn a' w' ν hs)
      have he : execOp a.eval o = (do pure (Next.value (if ← asBool (a.eval c) then a.eval x else a.eval y))) := by unfold execOp; rw [hop]
      rw [he, rv_bool hc]
      rfl
    · rename_i t e
      simp only [Option.some.injEq, Prod.mk.injEq] at hf
      obtain ⟨rfl, rfl, rfl⟩ := hf
      have hc := ev_ok s c
      rw [e] at hc
      refine Looks.wp s ⟨if t = true then a.eval x else a.eval y, ?_, ?_⟩ (fun a' w' hs => hn a' w' ν hs)
      · have he : execOp a.eval o = (do pure (Next.value (if ← asBool (a.eval c) then a.eval x else a.eval y))) := by unfold execOp; rw [hop]
        rw [he, rv_val hc]
        rfl
      · cases t
        · exact ev_ok s y
        · exact ev_ok s x
    · cases hf
  case load t x =>
    obtain ⟨rfl, rfl, hl⟩ := load_looks hT s hop hf
    exact Looks.wp s hl (fun a' w' hs => hn a' w' ν hs)
  case binOp op xt x y yt =>
    simp only [opFun] at hf
    split at hf
    · cases hb : ifaceNil T xt op (ev σ x) with
      | none => rw [hb] at hf; cases hf
      | some d =>
        rw [hb] at hf
        simp only [Option.map_some, Option.some.injEq, Prod.mk.injEq] at hf
        obtain ⟨rfl, rfl, rfl⟩ := hf
        exact Looks.wp s (ifaceNil_looks hT s hop hb) (fun a' w' hs => hn a' w' ν hs)
    · cases hb : bin T xt op (norm (ev σ x)) (norm (ev σ y)) with
      | none => rw [hb] at hf; cases hf
      | some d =>
        rw [hb] at hf
        simp only [Option.map_some, Option.some.injEq, Prod.mk.injEq] at hf
        obtain ⟨rfl, rfl, rfl⟩ := hf
        exact Looks.wp s (bin_looks hT s hop hb) (fun a' w' hs => hn a' w' ν hs)
  case unOp op xt x =>
    cases op <;> simp only [opFun] at hf <;> try (cases hf; done)
    split at hf
    · rename_i b e
      simp only [Option.some.injEq, Prod.mk.injEq] at hf
      obtain ⟨rfl, rfl, rfl⟩ := hf
      have hx := ev_ok s x
      rw [e] at hx
      have he : execOp a.eval o = (do pure (Next.value (← Op.unary .not (a.eval x)))) := by unfold execOp; rw [hop]
      rw [rv_bool hx] at he
      exact Looks.wp s ⟨.bool (!b), exec_val he rfl, .d (.bool _ .nil) .nil⟩ (fun a' w' hs => hn a' w' ν hs)
    · rename_i b e
      simp only [Option.some.injEq, Prod.mk.injEq] at hf
      obtain ⟨rfl, rfl, rfl⟩ := hf
      have hx := ev_ok s x
      rw [e] at hx
      have he : execOp a.eval o = (do pure (Next.value (← Op.unary .not (a.eval x)))) := by unfold execOp; rw [hop]
      rw [rv_val hx] at he
      exact Looks.wp s ⟨.bool (!b), exec_val he rfl, .val _ .nil⟩ (fun a' w' hs => hn a' w' ν hs)
    · cases hf
  case extract x i =>
    simp only [opFun] at hf
    split at hf
    · rename_i vs e
      cases hi : vs[i]? with
      | none => rw [hi] at hf; cases hf
      | some r' =>
        rw [hi] at hf
        simp only [Option.map_some, Option.some.injEq, Prod.mk.injEq] at hf
        obtain ⟨rfl, rfl, rfl⟩ := hf
        have hx := ev_ok s x
        rw [e] at hx
        obtain ⟨xs, h1, h2⟩ := rv_tup hx
        obtain ⟨v, h3, h4⟩ := h2.get hi
        have he : execOp a.eval o = (do pure (Next.value (← Instr.extract (a.eval x) i))) := by unfold execOp; rw [hop]
        rw [h1] at he
        refine Looks.wp s ⟨v, exec_val he ?_, h4⟩ (fun a' w' hs => hn a' w' ν hs)
        unfold Instr.extract
        simp [h3]
    · cases hf
  case nilCheck x =>
    simp only [opFun] at hf
    have hx := ev_ok s x
    have he : ∀ A, a.eval x = .pointer (some A) → execOp a.eval o = pure (Next.value (.pointer (some A))) := fun A hA => by unfold execOp; rw [hop]; simp only [hA]
    split at hf
    · rename_i ds e
      simp only [Option.some.injEq, Prod.mk.injEq] at hf
      obtain ⟨rfl, rfl, rfl⟩ := hf
      rw [e] at hx
      obtain ⟨b, o', cells, h1, _⟩ := rv_at hx
      rw [h1] at hx
      exact Looks.wp s ⟨_, by rw [he _ h1]; rfl, hx⟩ (fun a' w' hs => hn a' w' ν hs)
    · rename_i id off e
      simp only [Option.some.injEq, Prod.mk.injEq] at hf
      obtain ⟨rfl, rfl, rfl⟩ := hf
      rw [e] at hx
      obtain ⟨b, h1, _⟩ := rv_ptr hx
      rw [h1] at hx
      exact Looks.wp s ⟨_, by rw [he _ h1]; rfl, hx⟩ (fun a' w' hs => hn a' w' ν hs)
    · rename_i id i sz off e
      simp only [Option.some.injEq, Prod.mk.injEq] at hf
      obtain ⟨rfl, rfl, rfl⟩ := hf
      rw [e] at hx
      obtain ⟨b, mm, c, h1, _⟩ := rv_rptr hx
      rw [h1] at hx
      exact Looks.wp s ⟨_, by rw [he _ h1]; rfl, hx⟩ (fun a' w' hs => hn a' w' ν hs)
    · cases hf
  case makeFunc fn first caps =>
    cases fn <;> simp only [opFun] at hf <;> try (cases hf; done)
    rename_i f
    have he : execOp a.eval o = (do pure (Next.value (← Instr.makeFunc (.func f) (first.map a.eval) (caps.map a.eval)))) := by unfold execOp; rw [hop]
    cases hb : first.toList.isEmpty <;> rw [hb] at hf
    · cases hb2 : caps.toList.isEmpty <;> rw [hb2] at hf
      · cases hf
      · simp only [cond_true, cond_false, Option.some.injEq, Prod.mk.injEq] at hf
        obtain ⟨rfl, rfl, rfl⟩ := hf
        have hcaps : caps = #[] := by simpa using hb2
        refine Looks.wp s ⟨.func (.func f) (first.map a.eval) #[], exec_val he (by rw [hcaps]; simp [Instr.makeFunc]), ?_⟩ (fun a' w' hs => hn a' w' ν hs)
        have := evs_ok s first.toList
        have e : first.map a.eval = (first.toList.map a.eval).toArray := by apply Array.ext'; simp
        rw [e]
        exact .bfn f _ this .nil
    · simp only [cond_true, Option.some.injEq, Prod.mk.injEq] at hf
      obtain ⟨rfl, rfl, rfl⟩ := hf
      have hfirst : first = #[] := by simpa using hb
      refine Looks.wp s ⟨.func (.func f) #[] (caps.map a.eval), exec_val he (by rw [hfirst]; simp [Instr.makeFunc]), ?_⟩ (fun a' w' hs => hn a' w' ν hs)
      have := evs_ok s caps.toList
      have e : caps.map a.eval = (caps.toList.map a.eval).toArray := by apply Array.ext'; simp
      rw [e]
      exact .fn f _ this .nil
  case makeInterface t x =>
    simp only [opFun] at hf
    split at hf
    · rename_i ti ht
      split at hf
      · cases hf
      · rename_i hk
        simp only [Option.some.injEq, Prod.mk.injEq] at hf
        obtain ⟨rfl, rfl, rfl⟩ := hf
        have he : execOp a.eval o = (do pure (Next.value (← Instr.makeInterface t (a.eval x)))) := by unfold execOp; rw [hop]
        refine Looks.wp s ⟨.iface t (a.eval x), exec_val he ?_, .iface t (ev_ok s x) .nil⟩ (fun a' w' hs => hn a' w' ν hs)
        obtain ⟨d, h1, h2⟩ := (tabB_ok hT ht).kind
        unfold Instr.makeInterface
        simp only [Sem.run_bind, run_underlying h1, Result.andThen_ok]
        cases d <;> first | rfl | (exfalso; unfold kindB at h2; split at h2 <;> simp_all)
    · cases hf
  case convert src dst x =>
    simp only [opFun] at hf
    split at hf
    · rename_i ts ti hts ht
      split at hf
      · rename_i k k' q hk e
        simp only [Option.some.injEq, Prod.mk.injEq] at hf
        obtain ⟨rfl, rfl, rfl⟩ := hf
        have hx := ev_ok s x
        rw [e] at hx
        have he : execOp a.eval o = (do pure (Next.value (← convert src dst (a.eval x)))) := by unfold execOp; rw [hop]
        rw [rv_int hx] at he
        refine Looks.wp s ⟨_, exec_val he ?_, .d (.int k _ .nil) .nil⟩ (fun a' w' hs => hn a' w' ν hs)
        obtain ⟨d, h1, _⟩ := (tabB_ok hT hts).kind
        unfold convert
        simp only [Sem.run_bind, run_underlying h1, run_underlying (int_of (tabB_ok hT ht) hk), Result.andThen_ok]
        rfl
      · cases hf
    · cases hf
  case fieldAddr t x f =>
    simp only [opFun] at hf
    split at hf
    · rename_i ti ht
      split at hf
      · rename_i fs hk
        split at hf
        · rename_i off t' hi
          split at hf
          · rename_i tf htf
            cases hz : Nat.beq tf.size 0 <;> rw [hz] at hf
            · simp only [cond_false] at hf
              have hz' : tf.size ≠ 0 := fun e => by rw [e] at hz; cases hz
              have hx := ev_ok s x
              have he : execOp a.eval o = (do pure (Next.value (← Instr.fieldAt t (a.eval x) f))) := by unfold execOp; rw [hop]
              have hrun := fun b o' => run_fieldAt (P := P) (w := w) (tabB_ok hT ht) (tabB_ok hT htf) hk hi hz' b o'
              split at hf
              · rename_i id o' e
                simp only [Option.some.injEq, Prod.mk.injEq] at hf
                obtain ⟨rfl, rfl, rfl⟩ := hf
                rw [e] at hx
                obtain ⟨b, h1, h2⟩ := rv_ptr hx
                rw [h1] at he
                exact Looks.wp s ⟨_, exec_val he (hrun _ _), .ptr _ h2 .nil⟩ (fun a' w' hs => hn a' w' ν hs)
              · rename_i ds e
                rw [e] at hx
                obtain ⟨b, o', cells, h1, h2, h3, h4, h5⟩ := rv_at hx
                rw [h1] at he
                split at hf
                · cases hf
                · rename_i d ds' hd
                  simp only [Option.some.injEq, Prod.mk.injEq] at hf
                  obtain ⟨rfl, rfl, rfl⟩ := hf
                  have h6 := h4.drop off
                  rw [hd] at h6
                  refine Looks.wp s ⟨_, exec_val he (hrun _ _), .at_ _ (cells.drop off) (fun g => ?_) h6 (.inr ⟨b, o' + off, rfl, h3, fun j v hv => ?_⟩) .nil⟩ (fun a' w' hs => hn a' w' ν hs)
                  · have := h6.length
                    rw [g] at this
                    simp at this
                  · rw [List.getElem?_drop] at hv
                    rw [Nat.add_assoc]
                    exact h5 _ v hv
              · rename_i id i sz o' e
                simp only [Option.some.injEq, Prod.mk.injEq] at hf
                obtain ⟨rfl, rfl, rfl⟩ := hf
                rw [e] at hx
                obtain ⟨b, mm, c, h1, h2, h3⟩ := rv_rptr hx
                rw [h1] at he
                have := hrun b (i * sz + o')
                rw [Nat.add_assoc] at this
                exact Looks.wp s ⟨_, exec_val he this, .rptr i _ sz h2 h3 .nil⟩ (fun a' w' hs => hn a' w' ν hs)
              · cases hf
            · cases hf
          · cases hf
        · cases hf
      · cases hf
    · cases hf
  case field t x f =>
    simp only [opFun] at hf
    split at hf
    · rename_i ti ht
      split at hf
      · rename_i fs hk
        split at hf
        · rename_i off t' hi
          split at hf
          · rename_i tf cs htf e
            cases hl : loadL tf (cs.drop off) with
            | none => rw [hl] at hf; cases hf
            | some r' =>
              rw [hl] at hf
              simp only [Option.map_some, Option.some.injEq, Prod.mk.injEq] at hf
              obtain ⟨rfl, rfl, rfl⟩ := hf
              have hx := ev_ok s x
              rw [e] at hx
              obtain ⟨xs, h1, h2⟩ := rv_agg hx
              have k' := tabB_ok hT htf
              obtain ⟨g1, g2⟩ := loadL_ok k'.one (h2.drop off) hl
              obtain ⟨fields, h3, h4⟩ := struct_of (tabB_ok hT ht) hk
              obtain ⟨fd, h5, rfl, rfl⟩ := field_at h4 hi
              have he : execOp a.eval o = (do pure (Next.value (← Instr.field t (a.eval x) f))) := by unfold execOp; rw [hop]
              rw [h1] at he
              refine Looks.wp s ⟨_, exec_val he ?_, g2⟩ (fun a' w' hs => hn a' w' ν hs)
              unfold Instr.field
              simp only [Sem.run_bind, run_underlying h3, Result.andThen_ok, h5, asAgg, Sem.run_pure]
              exact run_part k' g1
          · cases hf
        · cases hf
      · cases hf
    · cases hf
  case box t x =>
    simp only [opFun] at hf
    split at hf
    · rename_i ti ht
      split at hf
      · rename_i cs hc
        simp only [Option.some.injEq, Prod.mk.injEq] at hf
        obtain ⟨rfl, rfl, rfl⟩ := hf
        obtain ⟨h1, _, _, _⟩ := cellsOf_ok (ev_ok s x) hc (tabB_ok hT ht).one
        obtain ⟨ν', hs⟩ := s.box (t := t) (t' := t) h1 o.dst
        have he : execOp a.eval o = (do pure (Next.value (← Instr.box t (a.eval x)))) := by unfold execOp; rw [hop]
        exact wp_value (exec_val he rfl) (hn _ _ ν' hs)
      · cases hf
    · cases hf
  case alloc t =>
    simp only [opFun] at hf
    split at hf
    · rename_i ti ht
      simp only [Option.some.injEq, Prod.mk.injEq] at hf
      obtain ⟨rfl, rfl, rfl⟩ := hf
      obtain ⟨z, h1, h2, _⟩ := run_zero (w := w) (tabB_ok hT ht)
      obtain ⟨ν', hs⟩ := s.box (t := t) (t' := t) (arr := z.cells) (zerosB_ok h2) o.dst
      have he : execOp a.eval o = (do pure (Next.value (← Instr.alloc t true (.tuple #[])))) := by unfold execOp; rw [hop]
      refine wp_value (exec_val he ?_) (hn _ _ ν' hs)
      unfold Instr.alloc
      simp only [Sem.run_bind, h1, Result.andThen_ok]
      rfl
    · cases hf
  case build t parts =>
    simp only [opFun] at hf
    split at hf
    · rename_i ti ht
      split at hf
      · rename_i fs hk
        cases hall : fs.all (fun p => (look T p.2).isSome) <;> rw [hall] at hf
        · cases hf
        · simp only [cond_true] at hf
          cases hfl : fillA fs T ti.zero (parts.toList.map fun p => (p.1, ev σ p.2)) with
          | none => rw [hfl] at hf; cases hf
          | some cs =>
            rw [hfl] at hf
            simp only [Option.map_some, Option.some.injEq, Prod.mk.injEq] at hf
            obtain ⟨rfl, rfl, rfl⟩ := hf
            obtain ⟨p1, p2⟩ := parts_rv s parts
            obtain ⟨ys, h1, h2⟩ := build_ok (w := w) hT ht hk hall hfl p1 p2
            have he : execOp a.eval o = (do pure (Next.value (← Instr.build t (parts.map fun (i, x) => (i, a.eval x))))) := by unfold execOp; rw [hop]
            refine Looks.wp s ⟨.agg ys, exec_val he h1, ?_⟩ (fun a' w' hs => hn a' w' ν hs)
            have : ys = ys.toList.toArray := by simp
            rw [this]
            exact .agg _ h2 .nil
      · rename_i m e hk
        split at hf
        · rename_i te hte
          cases hfl : fillA (arrF te.size e m) T ti.zero (parts.toList.map fun p => (p.1, ev σ p.2)) with
          | none => rw [hfl] at hf; cases hf
          | some cs =>
            rw [hfl] at hf
            simp only [Option.map_some, Option.some.injEq, Prod.mk.injEq] at hf
            obtain ⟨rfl, rfl, rfl⟩ := hf
            obtain ⟨p1, p2⟩ := parts_rv s parts
            obtain ⟨ys, h1, h2⟩ := build_arr (w := w) hT ht hk hte hfl p1 p2
            have he : execOp a.eval o = (do pure (Next.value (← Instr.build t (parts.map fun (i, x) => (i, a.eval x))))) := by unfold execOp; rw [hop]
            refine Looks.wp s ⟨.agg ys, exec_val he h1, ?_⟩ (fun a' w' hs => hn a' w' ν hs)
            have : ys = ys.toList.toArray := by simp
            rw [this]
            exact .agg _ h2 .nil
        · cases hf
      · cases hf
    · cases hf
  case makeMap t r =>
    simp only [opFun] at hf
    split at hf
    · rename_i ti ht
      split at hf
      · rename_i kt vt hk
        split at hf
        · rename_i tk htk
          simp only [Option.some.injEq, Prod.mk.injEq] at hf
          obtain ⟨rfl, rfl, rfl⟩ := hf
          have he : execOp a.eval o = (do pure (Next.value (← Instr.makeMap t (Option.map a.eval none)))) := by unfold execOp; rw [hop]
          have hs := s.new (val := .map (some w.heap.size)) (Kp.alloc w (.map #[] 0)) (by simp [undef]) (fun b hb => by
              simp only [vblk, Option.some.injEq] at hb; subst hb; rw [size_alloc]; omega) (o := .map t tk.key []) (fun m hν => ⟨w.heap.size, #[], 0, by simp [upd], heap_push_new w _, .nil, rfl, fun j e he => by simp at he⟩) o.dst (r := .mapr h.nx) (v := .map (some w.heap.size)) (.mapr (by simp [upd]) .nil)
          exact wp_value (exec_val he rfl) (hn _ _ _ hs)
        · cases hf
      · cases hf
    · cases hf
  case buildSlice t len parts =>
    simp only [opFun] at hf
    split at hf
    · rename_i ti ht
      split at hf
      · rename_i e hk
        split at hf
        · rename_i te hte
          have hu := slice_of (tabB_ok hT ht) hk
          have ke := tabB_ok hT hte
          have he : execOp a.eval o = (do pure (Next.value (← Instr.buildSlice t len (parts.map fun (i, x) => (i, a.eval x))))) := by unfold execOp; rw [hop]
          cases h0 : Nat.beq len 0 <;> rw [h0] at hf
          · simp only [cond_false] at hf
            cases hc : (Nat.beq parts.toList.length len && Nat.ble (len * te.size) 16777216 && Nat.ble 1 te.size) <;> rw [hc] at hf
            · cases hf
            · simp only [cond_true] at hf
              simp only [Bool.and_eq_true] at hc
              obtain ⟨⟨c1, c2⟩, c3⟩ := hc
              have c1 := Nat.eq_of_beq_eq_true c1
              have c2 := Nat.le_of_ble_eq_true c2
              have c3 := Nat.le_of_ble_eq_true c3
              have h0' : len ≠ 0 := fun e => by rw [e] at h0; cases h0
              split at hf
              · rename_i rows hrows
                generalize hq : pubs (AV.ownsL (parts.toList.map fun p => ev σ p.2)) h.objs = q at hf
                obtain ⟨l, m'⟩ := q
                simp only [Option.some.injEq, Prod.mk.injEq] at hf
                obtain ⟨rfl, rfl, rfl⟩ := hf
                obtain ⟨p1, p2⟩ := parts_rv s parts
                have p2' : Rv w (nN N0 ν) ν (parts.toList.map fun p => ev σ p.2) (((parts.map fun (i, x) => (i, a.eval x)).toList).map (·.2)) := by
                  have : (parts.toList.map fun p => (p.1, ev σ p.2)).map (·.2) = parts.toList.map fun p => ev σ p.2 := by simp
                  rw [← this]; exact p2
                obtain ⟨ν', s', g1, g2⟩ := St.pubs (ν := ν) (x := h.nx) (y := h.lo) _ s hq
                have hsub : ∀ b, nN N0 ν' b → nN N0 ν b := by
                  rintro b (g | ⟨j, g⟩)
                  · exact .inl g
                  · rcases g1 j with e | e
                    · exact .inr ⟨j, by rw [← e]; exact g⟩
                    · rw [e] at g; simp [vblk, undef] at g
                have hview : Rv w (nN N0 ν') ν' (AV.viewL h.objs (parts.toList.map fun p => ev σ p.2)) (((parts.map fun (i, x) => (i, a.eval x)).toList).map (·.2)) := by
                  refine view_ok s.hp hsub p2' (fun id hid b hb hrow g => ?_)
                  have hu := g2 id hid hrow
                  rcases g with g | ⟨j, g⟩
                  · exact s.hp.dis id b hb g
                  · rcases g1 j with e | e
                    · have hj : j = id := s.hp.inj j id b (by rw [← e]; exact g) hb
                      subst hj
                      rw [hu] at g
                      simp [vblk, undef] at g
                    · rw [e] at g; simp [vblk, undef] at g
                rw [viewL_map] at hview
                have hview' : Rv w (nN N0 ν') ν' ((parts.toList.map fun p => (p.1, ev σ p.2)).map (fun p => AV.view h.objs p.2)) (((parts.map fun (i, x) => (i, a.eval x)).toList).map (·.2)) := by
                  have : (parts.toList.map fun p => (p.1, ev σ p.2)).map (fun p => AV.view h.objs p.2) = (parts.toList.map fun p => ev σ p.2).map (AV.view h.objs) := by simp
                  rw [this]; exact hview
                obtain ⟨z, z1, z2, z3⟩ := run_zero (w := w) ke
                have hpl : (parts.toList.map fun p => (p.1, ev σ p.2)).length = len := by simpa using c1
                obtain ⟨ys, new, r1, r2, r3, r4, r5⟩ := rowsOf_ok (xs := []) ke.one (cells := (Array.range (len * te.size)).map (z.cells[· % z.cells.size]!)) hrows p1 hview' (by rw [hpl]; simp)
                rw [hpl] at r4 r5
                have hys : ys.toList = new := by
                  rw [r5]
                  simp
                have hnewlen : new.length = rows.flatten.length := r2.length
                have hk : Kp (fun _ => False) w (w.alloc (.cells ys e)) := Kp.alloc w _
                refine wp_value (w' := w.alloc (.cells ys e)) (v := .slice (some ⟨w.heap.size, 0, none⟩) len len) (exec_val he ?_) (hn _ _ ν' (s'.seen hk o.dst ?_))
                · unfold Instr.buildSlice
                  simp only [Sem.run_bind, run_underlying hu, Result.andThen_ok, run_sizeOf' ke]
                  rw [if_neg (show ¬ (len * te.size > 2 ^ 24) from by omega)]
                  have hne : ¬ (len * te.size = 0) := by
                    intro g
                    rcases Nat.mul_eq_zero.1 g with g | g
                    · exact h0' g
                    · omega
                  simp only [hne, if_false, Sem.run_bind, z1, Result.andThen_ok, Sem.run_pure, r1]
                  rfl
                · have hmv : Mv w (nN N0 ν') (w.alloc (.cells ys e)) (nN N0 ν') := ⟨hk.size, fun b hb hN => ⟨hN, heap_push_old w _ b hb⟩⟩
                  have e1 : len = rows.length := r4.symm
                  subst e1
                  refine .d (.list rows _ _ te.size new (r2.mv hmv) r3 (.inr ⟨w.heap.size, 0, rfl, ?_, fun j v hv => ?_⟩) (Nat.le_refl _) ?_ .nil) .nil
                  · rintro (g | ⟨j, g⟩)
                    · have := s'.hp.n0 _ g; omega
                    · have := s'.hp.bnd _ _ g; omega
                  · rw [← hys] at hv
                    simp only [World.cell?, heap_push_new, Nat.zero_add]
                    simpa using hv
                  · have : rows.length ≤ rows.length * te.size := Nat.le_mul_of_pos_right _ c3
                    unfold big; omega
              · cases hf
          · simp only [cond_true] at hf
            have h0' := Nat.eq_of_beq_eq_true h0
            subst h0'
            cases hc : (Nat.ble 1 te.size && parts.toList.isEmpty) <;> rw [hc] at hf
            · cases hf
            · simp only [cond_true, Option.some.injEq, Prod.mk.injEq] at hf
              obtain ⟨rfl, rfl, rfl⟩ := hf
              simp only [Bool.and_eq_true] at hc
              have c3 := Nat.le_of_ble_eq_true hc.1
              have hpe : parts = #[] := by simpa using hc.2
              subst hpe
              obtain ⟨ν', hs⟩ := s.newRow (Kp.alloc w (.cells #[] e)) (val := .slice (some ⟨w.heap.size, 0, none⟩) 0 0) (by simp [undef]) (fun b hb => by
                simp only [vblk, Option.some.injEq] at hb; subst hb; rw [size_alloc]; omega) (t := e) (sz := te.size) (rows := []) (cells := []) rfl .nil (by simp) (Nat.zero_le _) c3
                ⟨by simp, .inr ⟨w.heap.size, 0, #[], rfl, Nat.zero_le _, heap_push_new w _, Nat.le_refl _, Nat.zero_le _, by simp, by simp⟩⟩ o.dst
              refine wp_value (exec_val he ?_) (hn _ _ ν' hs)
              unfold Instr.buildSlice
              simp only [Sem.run_bind, run_underlying hu, Result.andThen_ok, run_sizeOf' ke, Nat.zero_mul]
              rw [if_neg (by decide)]
              have e0 : Array.range 0 = #[] := by apply Array.ext'; simp
              simp [Instr.fill, newRow, e0]
        · cases hf
      · cases hf
    · cases hf
  all_goals (simp only [opFun] at hf; cases hf)
end
end Go.Vc
end

section
set_option linter.unusedVariables false
set_option linter.unusedSimpArgs false
namespace Go.Vc
section
variable {P : Program} {ro : Option Nat} {q : Bool} {T : List (Nat × TI)} {N0 Nf : Nat → Prop} {w0 w w' : World} {n : Nat} {σ : Env} {h : Heap} {a : Act} {ν ν' ν0 : Nat → Value} {Q : Exit → Act → World → Prop} {next : Act → World → Prop}
theorem bound_ok (s : St q N0 w0 Nf n ν0 σ h a w ν) {z l : Int} {x : Option Operand} (hb : bound (ev σ) z x = some l) : (x = none ∧ l = z) ∨ ∃ k, x.map a.eval = some (.int k l) := by
  cases x with
  | none => exact .inl ⟨rfl, (Option.some.inj hb).symm⟩
  | some y =>
    right
    have hy := ev_ok s y
    simp only [bound] at hb
    split at hb
    · rename_i k m e
      rw [e] at hy
      cases hb
      exact ⟨k, by rw [Option.map_some, rv_int hy]⟩
    · cases hb
theorem run_bound1 (k : IntKind) {i : Int} {y : Nat} (code : BoundsCode) (h0 : 0 ≤ i) (h1 : i ≤ y) : (Instr.sliceBound (.int k i) y code).run P w = .ok i.toNat w := by
  unfold Instr.sliceBound
  simp only [asIntOf, Sem.run_bind, Sem.run_pure, Result.andThen_ok]
  rw [if_pos ⟨h0, h1⟩]; rfl
theorem run_bounds (s : St q N0 w0 Nf n ν0 σ h a w ν) {b : Bool} {len cap : Nat} {l u : Int} {lo hi : Option Operand} (hlo : bound (ev σ) 0 lo = some l) (hhi : bound (ev σ) len hi = some u) (h0 : 0 ≤ l) (h1 : l ≤ u) (h2 : u ≤ len) (hc : len ≤ cap) :
    (Instr.sliceBounds b len cap (lo.map a.eval) (hi.map a.eval) none).run P w = .ok (l.toNat, u.toNat, cap) w := by
  unfold Instr.sliceBounds
  rcases bound_ok s hhi with ⟨rfl, rfl⟩ | ⟨k, e⟩
  · rcases bound_ok s hlo with ⟨rfl, rfl⟩ | ⟨k', e'⟩
    · simp [Sem.run_bind, Sem.run_pure]
    · simp only [e', Option.map_none, Option.isSome_none, Sem.run_bind, Sem.run_pure, Result.andThen_ok]
      rw [run_bound1 k' _ h0 (by omega)]
      simp [Sem.run_pure]
  · rcases bound_ok s hlo with ⟨rfl, rfl⟩ | ⟨k', e'⟩
    · simp only [e, Option.map_none, Sem.run_bind, Sem.run_pure, Result.andThen_ok]
      rw [run_bound1 k _ (by omega) (by omega)]
      simp [Sem.run_pure]
    · simp only [e, e', Option.isSome_none, Sem.run_bind, Sem.run_pure, Result.andThen_ok]
      rw [run_bound1 k _ (by omega) (by omega)]
      simp only [Sem.run_bind, Sem.run_pure, Result.andThen_ok]
      rw [run_bound1 k' _ h0 (by omega)]
      simp [Sem.run_pure]
theorem mkS_extract (s : Bs) (l u : Nat) : (mkS s).extract l u = mkS ((s.take u).drop l) := by
  apply ByteArray.ext
  apply Array.ext'
  simp [mkS, List.drop_take]
theorem flatten_takeN {sz : Nat} : ∀ (rows : List (List D)) (k : Nat), (∀ r ∈ rows, r.length = sz) → (rows.take k).flatten = rows.flatten.take (k * sz)
  | [], k, _ => by simp
  | r :: rows, 0, _ => by simp
  | r :: rows, k + 1, h => by
    have hr := h r List.mem_cons_self
    rw [List.take_succ_cons, List.flatten_cons, List.flatten_cons, flatten_takeN rows k (fun x hx => h x (List.mem_cons_of_mem _ hx)), List.take_append]
    rw [List.take_of_length_le (l := r) (by rw [hr, Nat.succ_mul]; omega), show (k + 1) * sz - r.length = k * sz from by rw [hr, Nat.succ_mul]; omega]
theorem flatten_dropN {sz : Nat} : ∀ (rows : List (List D)) (k : Nat), (∀ r ∈ rows, r.length = sz) → (rows.drop k).flatten = rows.flatten.drop (k * sz)
  | [], k, _ => by simp
  | r :: rows, 0, _ => by simp
  | r :: rows, k + 1, h => by
    have hr := h r List.mem_cons_self
    rw [List.drop_succ_cons, List.flatten_cons, flatten_dropN rows k (fun x hx => h x (List.mem_cons_of_mem _ hx)), List.drop_append]
    rw [List.drop_of_length_le (l := r) (by rw [hr, Nat.succ_mul]; omega), show (k + 1) * sz - r.length = k * sz from by rw [hr, Nat.succ_mul]; omega, List.nil_append]
theorem flat_len {sz : Nat} : ∀ (rows : List (List D)), (∀ r ∈ rows, r.length = sz) → rows.flatten.length = rows.length * sz
  | [], _ => by simp
  | r :: rows, h => by
    rw [List.flatten_cons, List.length_append, flat_len rows (fun x hx => h x (List.mem_cons_of_mem _ hx)), h r List.mem_cons_self, List.length_cons, Nat.succ_mul]
    omega
theorem opFunC_sound (hT : tabB P T = true) (s : St q N0 w0 Nf n ν0 σ h a w ν) {o : Oper} {c : Prop} {r : AV} {h' : Heap} {m : Rn} (hf : opFunC T (ev σ) h o.op = some (c, r, h', m)) (hc : c)
    (hn : ∀ a' w' ν', St q N0 w0 Nf n ν0 ((σ.ren m).putO n o.dst r) h' a' w' ν' → next a' w') : o.wpIn (G ro) 0 P a w next Q := by
  unfold opFunC at hf
  split at hf
  · rename_i op xt x y yt hop
    cases hs : isShift op <;> rw [hs] at hf
    · cases hf
    · rw [cond_true] at hf
      split at hf
      · rename_i k p k' b e1 e2
        simp only [Option.some.injEq, Prod.mk.injEq] at hf
        obtain ⟨rfl, rfl, rfl, rfl⟩ := hf
        have hx := ev_ok s x
        have hy := ev_ok s y
        rw [e1] at hx; rw [e2] at hy
        have he : execOp a.eval o = (do pure (Next.value (← (do eqGuard op xt x y (a.eval x) (a.eval y); binOp op xt (a.eval x) (a.eval y))))) := by unfold execOp; rw [hop]
        rw [rv_int hx, rv_int hy] at he
        refine Looks.wp s ⟨.int k (shiftF op k p b), exec_val he ?_, .d (.int _ _ .nil) .nil⟩ (fun a' w' hs => hn a' w' ν hs)
        simp only [Sem.run_bind, eqGuard_plain op xt x y (.int k p) (.int k' b) (by simp) (by simp), Result.andThen_ok]
        cases op <;> simp only [isShift, reduceCtorEq] at hs
        all_goals (simp only [binOp, Op.shift]; rw [if_neg (by omega)]; rfl)
      · cases hf
  · rename_i t x lo hi hop
    split at hf
    · rename_i ti str hti e1
      split at hf
      · rename_i l u hk hlo hhi
        simp only [Option.some.injEq, Prod.mk.injEq] at hf
        obtain ⟨rfl, rfl, rfl, rfl⟩ := hf
        obtain ⟨h0, h1, h2⟩ := hc
        have hx := ev_ok s x
        rw [e1] at hx
        obtain ⟨hxe, hbig⟩ := rv_str hx
        have he : execOp a.eval o = (do pure (Next.value (← Instr.sliceAt t (a.eval x) (lo.map a.eval) (hi.map a.eval) none))) := by unfold execOp; rw [hop]; rfl
        have hu := str_of (tabB_ok hT hti) hk
        refine Looks.wp s ⟨.string (mkS ((str.take u.toNat).drop l.toNat)), exec_val he ?_, .d (.str _ ?_ .nil) .nil⟩ (fun a' w' hs => hn a' w' ν hs)
        · unfold Instr.sliceAt
          simp only [Sem.run_bind, run_underlying hu, Result.andThen_ok]
          unfold Instr.slice
          simp only [Sem.run_bind, run_underlying hu, Result.andThen_ok, hxe, Option.isSome_none]
          have hb := run_bounds (P := P) s (b := false) (len := str.length) (cap := str.length) hlo hhi h0 h1 (by omega) (Nat.le_refl _)
          rw [show (mkS str).size = str.length from rfl]
          simp [Sem.run_bind, hb, Sem.run_pure, mkS_extract]
        · simp only [List.length_drop, List.length_take]; omega
      · cases hf
    · rename_i ti rows hti e1
      split at hf
      · rename_i e l u hk hlo hhi
        split at hf
        · rename_i te hte
          simp only [Option.some.injEq, Prod.mk.injEq] at hf
          obtain ⟨rfl, rfl, rfl, rfl⟩ := hf
          obtain ⟨h0, h1, h2, h3⟩ := hc
          have hx := ev_ok s x
          rw [e1] at hx
          obtain ⟨A, cap, sz, cells, hxe, hr, hsz, hpl, hcap, hbig⟩ := rv_list hx
          have he : execOp a.eval o = (do pure (Next.value (← Instr.sliceAt t (a.eval x) (lo.map a.eval) (hi.map a.eval) none))) := by unfold execOp; rw [hop]; rfl
          have hu := slice_of (tabB_ok hT hti) hk
          have hb := run_bounds (P := P) s (b := true) (len := rows.length) (cap := cap) hlo hhi h0 h1 (by omega) hcap
          have hlu : l.toNat ≤ u.toNat := by omega
          have hun : u.toNat ≤ rows.length := by omega
          have hlen : ((rows.take u.toNat).drop l.toNat).length = u.toNat - l.toNat := by rw [List.length_drop, List.length_take]; omega
          have hread : Rd w (nN N0 ν) ((rows.take u.toNat).drop l.toNat).flatten ((cells.take (u.toNat * te.size)).drop (l.toNat * te.size)) := by
            rw [flatten_dropN _ _ (fun r hr => h3 r (List.mem_of_mem_take hr)), flatten_takeN _ _ h3]
            exact (hr.take _).drop _
          refine Looks.wp s ⟨.slice (if cap = l.toNat then A else A.map (·.add (l.toNat * te.size))) ((rows.take u.toNat).drop l.toNat).length (cap - l.toNat), exec_val he ?_, .d (.list _ _ _ te.size _ hread (fun r hr => h3 r (List.mem_of_mem_take (List.mem_of_mem_drop hr))) ?_ (by rw [hlen]; omega) (by rw [hlen]; omega) .nil) .nil⟩ (fun a' w' hs => hn a' w' ν hs)
          · unfold Instr.sliceAt
            simp only [Sem.run_bind, run_underlying hu, Result.andThen_ok]
            unfold Instr.slice
            simp only [Sem.run_bind, run_underlying hu, Result.andThen_ok, hxe]
            simp only [hb, Result.andThen_ok, run_sizeOf' (tabB_ok hT hte), Sem.run_pure, hlen]
          · by_cases hz : (cells.take (u.toNat * te.size)).drop (l.toNat * te.size) = []
            · exact .inl hz
            · have hcl : cells.length = rows.length * te.size := by
                have h4 := hr.length
                have h6 : rows.flatten.length = rows.length * te.size := flat_len rows h3
                omega
              have hpos : l.toNat * te.size < u.toNat * te.size := by
                refine Nat.lt_of_not_le fun hle => hz ?_
                rw [List.drop_of_length_le]
                rw [List.length_take]; omega
              have hlt : l.toNat < u.toNat := Nat.lt_of_mul_lt_mul_right hpos
              rw [if_neg (by omega)]
              rcases hpl with hpl | ⟨b, ofs, rfl, hN, hc2⟩
              · rw [hpl] at hz; simp at hz
              · refine .inr ⟨b, ofs + l.toNat * te.size, by simp [Addr.add_lit], hN, fun j v hv => ?_⟩
                rw [List.getElem?_drop, List.getElem?_take] at hv
                split at hv
                · have := hc2 _ _ hv
                  rw [show ofs + l.toNat * te.size + j = ofs + (l.toNat * te.size + j) from by omega]
                  exact this
                · cases hv
        · cases hf
      · cases hf
    · cases hf
  · cases hf
end
end Go.Vc
end

section
set_option linter.unusedVariables false
set_option linter.unusedSimpArgs false
namespace Go.Vc
section
variable {P : Program} {ro : Option Nat} {q : Bool} {T : List (Nat × TI)} {N0 Nf : Nat → Prop} {w0 w w' : World} {n : Nat} {σ : Env} {h : Heap} {a : Act} {ν ν' ν0 : Nat → Value} {Q : Exit → Act → World → Prop} {next : Act → World → Prop}

theorem ownsRow_vblk {t sz k : Nat} {v : Value} {cells : List Value} (h : w.ownsRow 0 t sz v k cells) : ∀ b, vblk v = some b → b < w.heap.size := by
  intro b hb
  rcases h.2 with ⟨rfl, _⟩ | ⟨g, cap, cur, rfl, _, h2, _⟩
  · cases hb
  · simp only [vblk, Option.some.injEq] at hb
    subst hb
    exact (Array.getElem?_eq_some_iff.1 h2).1

/-- an object is written in place -/
theorem St.set (s : St q N0 w0 Nf n ν0 σ h a w ν) {id b : Nat} (hb : vblk (ν id) = some b) (hk : Kp (fun x => x = b) w w') {o : AO} (hr : Ro w' (nN N0 ν) ν id o) :
    St q N0 w0 Nf n ν0 σ (h.set id o) a w' ν := by
  have hold : ∀ c, c < w.heap.size → c ≠ b → w'.heap[c]? = w.heap[c]? := fun c hc hne => hk.blk c hc hne
  have m : Mv w (nN N0 ν) w' (nN N0 ν) := ⟨hk.size, fun c hc hN => ⟨hN, hold c hc (fun e => hN (.inr ⟨id, by rw [e]; exact hb⟩))⟩⟩
  refine ⟨fun k => (s.slots k).mv m (fun _ _ => rfl), ⟨?_, s.hp.inj, fun i c g => Nat.lt_of_lt_of_le (s.hp.bnd i c g) hk.size, s.hp.dom, fun c g => Nat.lt_of_lt_of_le (s.hp.n0 c g) hk.size, s.hp.dis, s.hp.lw.mv (fun c g hlt => hold c hlt (fun e => s.hp.dis id b hb (e ▸ g)))⟩,
    s.kp.trans hk (fun x hx e => ?_), s.fresh, s.size, s.defers.mv (fun c hc hn => hold c hc (fun e => hn id (by rw [e]; exact hb))) (fun i c g => .inl ⟨i, g⟩), s.keep, s.low⟩
  · intro j o' hl
    simp only [Heap.set, look_setO] at hl
    by_cases e : j = id
    · subst e
      rw [if_pos rfl] at hl
      cases hq : Vc.look h.objs j with
      | none => rw [hq] at hl; cases hl
      | some o'' =>
        rw [hq] at hl
        simp only [Option.map_some, Option.some.injEq] at hl
        subst hl; exact hr
    · rw [if_neg e] at hl
      exact Ro.keep m (fun _ _ => rfl) (fun c g => hold c (s.hp.bnd j c g) (fun e' => e (s.hp.inj j id b (by rw [← e']; exact g) hb))) (s.hp.objs j o' hl)
  · subst e
    rcases s.fresh id x hb with g | g
    · omega
    · exact g

theorem putAgain (s : St q N0 w0 Nf n ν0 σ h a w ν) (d : Option Nat) {r : AV} {v : Value} (hr : Rv w (nN N0 ν) ν [r] [v]) : St q N0 w0 Nf n ν0 (σ.putO n d r) h (a.put d v) w ν :=
  s.seen (Kp.refl _ _) d hr

theorem setRow_kp (w : World) (b : Nat) (cs : Array Value) : Kp (fun x => x = b) w (w.setRow b cs) :=
  ⟨rfl, rfl, rfl, by simp [World.setRow], fun c _ hc => setRow_other w b c cs hc⟩

/-- a store of cells into a block -/
theorem run_storeVar' {t : TypeId} {ti : TI} (k : TiOk P t ti) {b o : Nat} {arr : Array Value} {e : TypeId} (hb : w.heap[b]? = some (.cells arr e (0, 0))) (v : Value) (hv : v.cells.size = ti.size) (h1 : ∀ u ∈ v.cells.toList, u.oneCell' = true)
    (hfit : o + ti.size ≤ arr.size) : (storeVar t ⟨b, o, none⟩ v).run P w = .ok () (w.setRow b (arr.toList.take o ++ v.cells.toList ++ arr.toList.drop (o + v.cells.toList.length)).toArray) := by
  have hst := run_storeCells_at P b o e v.cells.toList 0 arr w hb (by simpa [hv] using hfit) h1
  simp only [Nat.add_zero] at hst
  unfold storeVar
  simp only [Sem.run_bind, run_sizeOf' k, Result.andThen_ok]
  rw [if_neg (by simp [hv])]
  exact hst

theorem over_rv {N : Nat → Prop} {cs new : List AV} {xs ys : List Value} (h : Rv w N ν cs xs) (k : Rv w N ν new ys) (off : Nat) : Rv w N ν (over cs off new) (xs.take off ++ ys ++ xs.drop (off + ys.length)) := by
  unfold over
  rw [k.length]
  exact ((h.take off).append k).append (h.drop _)

/-- what an append leaves -/
structure Appended (w : World) (v : Value) (e sz k m : Nat) (cells new : List Value) (v' : Value) (w' : World) : Prop where
  own : w'.ownsRow 0 e sz v' (k + m) (cells ++ new)
  os : w'.os = w.os
  tape : w'.tape = w.tape
  output : w'.output = w.output
  size : w.heap.size ≤ w'.heap.size
  blk : ∀ b, b < w.heap.size → vblk v ≠ some b → w'.heap[b]? = w.heap[b]?
  val : vblk v' = vblk v ∨ ∃ b, vblk v' = some b ∧ w.heap.size ≤ b
  form : ∃ A c, v' = .slice A (k + m) c

theorem run_append_none {t ty e : TypeId} {te : TI} (k : TiOk P e te) (ht : P.underlying t = some (.slice e)) (A b : Option Addr) (len cap c : Nat) (hc : len ≤ cap) :
    (Builtin.append_ #[t, t] ty #[.slice b len cap, .slice A 0 c]).run P w = .ok (.slice b len cap) w := by
  obtain ⟨i, z, hi, _⟩ := k.info
  unfold Builtin.append_
  simp only [List.getElem?_toArray, List.getElem?_cons_zero, List.getElem?_cons_succ, Sem.run_bind, run_underlying ht, Result.andThen_ok, run_sizeOf' k, Sem.run_pure]
  cases A <;> cases b <;> simp [Builtin.lenOf, hc, Builtin.firstCells, loadCells, loadCellsFrom, storeCells]

theorem append_ok {t ty e : TypeId} {te : TI} (k : TiOk P e te) (ht : P.underlying t = some (.slice e)) (hsz : 0 < te.size) (hby : te.bytes ≤ 131072) {v : Value} {len : Nat} {cells : List Value} (hown : w.ownsRow 0 e te.size v len cells)
    {A : Option Addr} {m c : Nat} {new : List Value} (hl : new.length = m * te.size) (hA : m = 0 ∨ ∃ b o, A = some ⟨b, o, none⟩ ∧ ∀ (j : Nat) u, new[j]? = some u → w.cell? ⟨b, o + j, none⟩ = some u)
    (h1 : ∀ u ∈ new, u.oneCell' = true) (hbig : len + m ≤ big) :
    ∃ v' w', (Builtin.append_ #[t, t] ty #[v, .slice A m c]).run P w = .ok v' w' ∧ Appended w v e te.size len m cells new v' w' := by
  obtain ⟨i, z, hi, hs, hb, hz, hzz, hzs, _⟩ := k.info
  have hmul : (len + m) * te.bytes ≤ 140737488355328 := by
    have : (len + m) * te.bytes ≤ 1073741824 * 131072 := Nat.mul_le_mul (by unfold big at hbig; exact hbig) hby
    omega
  have hm63 : ((len + m : Nat) : Int) ≤ 9223372036854775807 := by unfold big at hbig; omega
  have hmax : len + m ≤ maxLen := by unfold big at hbig; unfold maxLen; omega
  have hkeep : m = 0 → new = [] := fun e => List.eq_nil_of_length_eq_zero (by rw [hl, e, Nat.zero_mul])
  have same : m = 0 → Appended w v e te.size len m cells new v w := by
    intro hm
    have hn := hkeep hm
    subst hm hn
    refine ⟨by simpa using hown, rfl, rfl, rfl, Nat.le_refl _, fun _ _ _ => rfl, .inl rfl, ?_⟩
    rcases hown.2 with ⟨rfl, rfl⟩ | ⟨g, cap, cur, rfl, _⟩
    · exact ⟨_, _, rfl⟩
    · exact ⟨_, _, rfl⟩
  have grown : ∀ (old : Nat), old < len + m → hown.1 = hown.1 →
      Appended w v e te.size len m cells new (.slice (some ⟨w.heap.size, 0, none⟩) (len + m) (grownCap w (len + m) old e))
        (w.drew.alloc (.cells (cells.toArray ++ new.toArray ++ Builtin.zeroCells z.cells (grownCap w (len + m) old e - (len + m))) e)) := by
    intro old ho _
    have hge := grownCap_ge w (len + m) old e
    have hcm : grownCap w (len + m) old e ≤ maxLen := grownCap_le_maxLen w (len + m) old e hmax
    have hlen : (cells ++ new).length = (len + m) * te.size := by rw [List.length_append, hown.1, hl, Nat.add_mul]
    refine ⟨⟨hlen, .inr ⟨w.heap.size, _, _, rfl, Nat.zero_le _, heap_push_new w.drew _, hge, hcm, ?_, ?_⟩⟩, rfl, rfl, rfl, by rw [size_alloc]; exact Nat.le_succ _, fun b hb _ => heap_push_old w.drew _ b hb,
      .inr ⟨w.heap.size, rfl, Nat.le_refl _⟩, _, _, rfl⟩
    · simp only [Array.size_append, List.size_toArray, size_zeroCells, hzs, hown.1, hl, ← Nat.add_mul]
      congr 1
      omega
    · simp only [Array.toList_append, List.append_assoc]
      rw [← List.append_assoc, ← hlen]
      exact List.take_left
  rcases hA with hm | ⟨b, o, rfl, hcells⟩
  · subst hm
    refine ⟨v, w, ?_, same rfl⟩
    rcases hown.2 with ⟨rfl, rfl⟩ | ⟨g, cap, cur, rfl, _, _, hcap, _⟩
    · exact run_append_none k ht _ _ _ _ _ (Nat.le_refl _)
    · exact run_append_none k ht _ _ _ _ _ hcap
  · have hnews : ∀ j u, new[j]? = some u → w.cell? ((⟨b, o, none⟩ : Addr).add j) = some u := fun j u hu => by rw [Addr.add_lit]; exact hcells j u hu
    rcases hown.2 with ⟨rfl, rfl⟩ | ⟨g, cap, cur, rfl, _, hg, hcap, hcm, hcs, htake⟩
    · by_cases hm : m = 0
      · subst hm
        refine ⟨_, w, ?_, same rfl⟩
        have hn := hkeep rfl
        subst hn
        simp [Builtin.append_, run_underlying ht, sizeOf, typeInfo, hi, Builtin.lenOf, Builtin.firstCells, loadCells, loadCellsFrom]
      · have hx : cells = [] := List.eq_nil_of_length_eq_zero (by simpa using hown.1)
        have hr := run_append_nil (P := P) w t ty e i z ht hi hz ⟨b, o, none⟩ m c new (by rw [hs]; exact hl) hnews (by omega) (by omega) (by rw [hb]; have hb := hmul; simp only [Nat.zero_add] at hb; omega)
        have hgr := grown 0 (by omega) rfl
        subst hx
        simp only [Nat.zero_add, List.nil_append, Array.empty_append] at hgr hr ⊢
        exact ⟨_, _, hr, by simpa using hgr⟩
    · by_cases hroom : len + m ≤ cap
      · have hfit : len * te.size + new.length ≤ cur.size := by rw [hl, hcs, ← Nat.add_mul]; exact Nat.mul_le_mul_right _ hroom
        have hr := run_append_room (P := P) w t ty e i ht hi g len cap cur hg ⟨b, o, none⟩ m c new (by rw [hs]; exact hl) hnews h1 hroom (by rw [hs]; exact hfit)
        rw [hs] at hr
        refine ⟨_, _, hr, ⟨?_, rfl, rfl, rfl, by simp [World.setRow], fun x hx hne => setRow_other w g x _ (fun e => hne (by simp [vblk, e])), .inl rfl, _, _, rfl⟩⟩
        have hlen : (cells ++ new).length = (len + m) * te.size := by rw [List.length_append, hown.1, hl, Nat.add_mul]
        refine ⟨hlen, .inr ⟨g, cap, _, rfl, Nat.zero_le _, setRow_heap w g cur _ e _ hg, hroom, hcm, ?_, ?_⟩⟩
        · simp only [List.size_toArray, List.length_append, List.length_take, List.length_drop, Array.length_toList]
          omega
        · rw [htake, ← hlen]
          exact List.take_left
      · have holds : ∀ j u, cells[j]? = some u → w.cell? ((⟨g, 0, none⟩ : Addr).add j) = some u := by
          intro j u hu
          rw [Addr.add_lit, ← htake, List.getElem?_take] at *
          split at hu
          · simpa [World.cell?, hg] using hu
          · cases hu
        have hr := run_append_grow (P := P) w t ty e i z ht hi hz ⟨g, 0, none⟩ len cap cells (by rw [hs]; exact hown.1) holds ⟨b, o, none⟩ m c new (by rw [hs]; exact hl) hnews (by omega) hm63 (growslice_fits (by omega) (by rw [hb]; exact hmul))
        exact ⟨_, _, hr, grown cap (by omega) rfl⟩

/-- a state behind an append -/
theorem St.grow (s : St q N0 w0 Nf n ν0 σ h a w ν) {id e sz : Nat} {rows new : List (List D)} {cells ncells : List Value} {v' : Value} (hid : Vc.look h.objs id = some (.row e sz rows))
    (ha : Appended w (ν id) e sz rows.length new.length cells ncells v' w') (hcells : Rd w (nN N0 ν) (rows ++ new).flatten (cells ++ ncells)) (hl : ∀ r ∈ rows ++ new, r.length = sz) (hb : rows.length + new.length ≤ big) (hsz : 0 < sz) (hs : ∃ A k c, ν id = .slice A k c) (d : Option Nat) :
    ∃ ν', St q N0 w0 Nf n ν0 ((Env.sub id .any σ).putO n d (.own id)) ⟨setO id (.row e sz (rows ++ new)) (subO id .any h.objs), h.nx, h.lo⟩ (a.put d v') w' ν' := by
  refine ⟨upd ν id v', ?_⟩
  obtain ⟨A', c', hform⟩ := ha.form
  have hne : ν id ≠ undef := by obtain ⟨A, k, c, e⟩ := hs; rw [e]; simp [undef]
  have hlt : id < h.nx := by
    rcases Nat.lt_or_ge id h.nx with g | g
    · exact g
    · exact absurd (s.hp.dom id g) hne
  have hup : ∀ j b, vblk (upd ν id v' j) = some b → (j = id ∧ vblk v' = some b) ∨ (j ≠ id ∧ vblk (ν j) = some b) := by
    intro j b g
    by_cases e : j = id
    · exact .inl ⟨e, by simpa [upd, e] using g⟩
    · exact .inr ⟨e, by simpa [upd, e] using g⟩
  have hν : ∀ j, j ≠ id → ν j ≠ undef → upd ν id v' j = ν j := fun j e _ => by simp [upd, e]
  have hk : Kp (fun b => vblk (ν id) = some b) w w' := ⟨ha.os, ha.tape, ha.output, ha.size, fun b hb hn => ha.blk b hb hn⟩
  have m : Mv w (nN N0 ν) w' (nN N0 (upd ν id v')) := by
    refine s.hp.mvN ha.size (fun b => vblk (ν id) = some b) (fun b hb hn => ha.blk b hb hn) (fun b g => .inr ⟨id, g⟩) ?_
    intro j b g
    rcases hup j b g with ⟨rfl, g2⟩ | ⟨_, g2⟩
    · rcases ha.val with e | ⟨b', e, hb'⟩
      · rw [e] at g2; exact .inl g2
      · rw [e] at g2; injection g2 with g2; right; omega
    · exact .inl g2
  have hby : ∀ A k c, ν id = .slice A k c → Rv w' (nN N0 (upd ν id v')) (upd ν id v') [.any] [.slice A k c] := fun _ _ _ _ => .any _ .nil
  have hvb : ∀ b, vblk v' = some b → vblk (ν id) = some b ∨ w.heap.size ≤ b := by
    intro b g
    rcases ha.val with e | ⟨b', e, hb'⟩
    · rw [e] at g; exact .inl g
    · rw [e] at g; injection g with g; right; omega
  refine ⟨?_, ⟨?_, ?_, ?_, ?_, fun b g => Nat.lt_of_lt_of_le (s.hp.n0 b g) ha.size, ?_, s.hp.lw.mv (fun b g hlt => ha.blk b hlt (fun e => s.hp.dis id b e g))⟩, s.kp.trans hk (fun x hx e => ?_), ?_, by rw [size_put, s.size], (by rw [defers_put]; exact s.defers.mv (fun b hlt hn => ha.blk b hlt (hn id)) (fun j b g => by rcases hup j b g with ⟨_, g⟩ | ⟨_, g⟩; (rcases hvb b g with g | g; exact .inl ⟨id, g⟩; exact .inr g); exact .inl ⟨j, g⟩)), ?_, s.low⟩
  · refine slots_put (fun k => Env.sub_slots m hν hby (s.slots k)) s.size d ?_
    rw [hform]
    exact .own (by simp [upd, hform]) .nil
  · intro j o' hlk
    simp only [look_setO, look_subO] at hlk
    by_cases e1 : j = id
    · subst e1
      rw [if_pos rfl, hid] at hlk
      simp only [Option.map_some, Option.some.injEq] at hlk
      subst hlk
      refine ⟨A', c', cells ++ ncells, by simp [upd, hform], hcells.mv m, hl, by simpa using hb, hsz, ?_⟩
      have := ha.own
      simpa [upd] using this
    · rw [if_neg e1] at hlk
      cases hq : Vc.look h.objs j with
      | none => rw [hq] at hlk; cases hlk
      | some o'' =>
        rw [hq] at hlk
        simp only [Option.map_some, Option.some.injEq] at hlk
        subst hlk
        exact Ro.keepSub m hν hby e1 (fun b g => ha.blk b (s.hp.bnd j b g) (fun g' => e1 (s.hp.inj j id b g g'))) (s.hp.objs j o'' hq)
  · intro i j b g1 g2
    rcases hup i b g1 with ⟨e1, g1⟩ | ⟨e1, g1⟩ <;> rcases hup j b g2 with ⟨e2, g2⟩ | ⟨e2, g2⟩
    · rw [e1, e2]
    · rcases hvb b g1 with g | g
      · rw [e1]; exact s.hp.inj id j b g g2
      · have := s.hp.bnd j b g2; omega
    · rcases hvb b g2 with g | g
      · rw [e2]; exact s.hp.inj i id b g1 g
      · have := s.hp.bnd i b g1; omega
    · exact s.hp.inj i j b g1 g2
  · intro j b g
    rcases hup j b g with ⟨_, g⟩ | ⟨_, g⟩
    · exact ownsRow_vblk ha.own b g
    · exact Nat.lt_of_lt_of_le (s.hp.bnd j b g) ha.size
  · intro j hj
    simp only at hj
    have : j ≠ id := by omega
    simpa [upd, this] using s.hp.dom j hj
  · intro j b g hN
    rcases hup j b g with ⟨_, g⟩ | ⟨_, g⟩
    · rcases hvb b g with g | g
      · exact s.hp.dis id b g hN
      · have := s.hp.n0 b hN; omega
    · exact s.hp.dis j b g hN
  · rcases s.fresh id x e with g | g
    · omega
    · exact g
  · intro j b g
    rcases hup j b g with ⟨_, g⟩ | ⟨_, g⟩
    · rcases hvb b g with g | g
      · exact s.fresh id b g
      · left; have := s.kp.size; omega
    · exact s.fresh j b g
  · intro j h1 h2
    by_cases e : j = id
    · subst e
      obtain ⟨A, k, c, e⟩ := hs
      exact absurd (by rw [← s.keep j h1 h2]; exact e) (h2 _ _ _)
    · simp only [upd, e, if_false]
      exact s.keep j h1 h2
end
end Go.Vc
end

section
set_option linter.unusedVariables false
set_option linter.unusedSimpArgs false
namespace Go.Vc
section
variable {P : Program} {ro : Option Nat} {q : Bool} {T : List (Nat × TI)} {N0 Nf : Nat → Prop} {w0 w w' : World} {n : Nat} {σ : Env} {h : Heap} {a : Act} {ν ν' ν0 : Nat → Value} {Q : Exit → Act → World → Prop} {next : Act → World → Prop}
  {K : AV → Heap → Rn → Prop}

theorem mkS_size (l : Bs) : (mkS l).size = l.length := rfl
theorem exec_builtin {o : Oper} {c : Call} {b : Builtin} (hop : o.op = .call c) (hc : c.callee = .builtin b) :
    execOp a.eval o = builtin b c.argTypes o.type (c.args.map fun | .const _ => true | _ => false) (c.args.map a.eval) := by
  unfold execOp
  rw [hop]
  simp only [resolve, hc]
  rfl

theorem row_slice (s : St q N0 w0 Nf n ν0 σ h a w ν) {id e sz : Nat} {rows : List (List D)} (hid : Vc.look h.objs id = some (.row e sz rows)) : ∃ A c, ν id = .slice A rows.length c := by
  obtain ⟨A, c, cells, h1, _⟩ := s.hp.objs _ _ hid
  exact ⟨A, c, h1⟩

theorem vcLen_sound (hT : tabB P T = true) (s : St q N0 w0 Nf n ν0 σ h a w ν) {o : Oper} {c : Call} {x : Operand} {t : TypeId} {ti : TI} (hop : o.op = .call c) (hc : c.callee = .builtin .len) (hx : c.args.toList = [x]) (ht : c.argTypes.toList = [t])
    (hti : Vc.look T t = some ti) (hv : vcLen ti.kind h (ev σ x) K) (hn : ∀ r h' m a' w' ν', K r h' m → St q N0 w0 Nf n ν0 ((σ.ren m).putO n o.dst r) h' a' w' ν' → next a' w') : o.wpIn (G ro) 0 P a w next Q := by
  have e1 : c.args = #[x] := by apply Array.ext'; simpa using hx
  have e2 : c.argTypes = #[t] := by apply Array.ext'; simpa using ht
  have he : ∀ v, (Builtin.len_ #[t] o.type #[a.eval x]).run P w = .ok v w → (execOp a.eval o).run P w = .ok (.value v) w := by
    intro v hv
    rw [exec_builtin hop hc, e1, e2]
    simp only [builtin, Sem.run_bind, List.map_toArray, List.map_cons, List.map_nil, hv, Result.andThen_ok, Sem.run_pure]
  have hxx := ev_ok s x
  have k := tabB_ok hT hti
  unfold vcLen at hv
  split at hv
  · rename_i l hk e
    rw [e] at hxx
    obtain ⟨e3, _⟩ := rv_str hxx
    refine Looks.wp s ⟨_, he (.int .i64 l.length) ?_, .d (.int _ _ .nil) .nil⟩ (fun a' w' hs => hn _ _ (.sub []) a' w' ν hv hs)
    rw [e3]
    unfold Builtin.len_
    simp [run_underlying (str_of k hk), goInt, mkS_size]
  · rename_i e' l hk e
    rw [e] at hxx
    obtain ⟨A, cap, sz, cells, e3, _⟩ := rv_list hxx
    refine Looks.wp s ⟨_, he (.int .i64 l.length) ?_, .d (.int _ _ .nil) .nil⟩ (fun a' w' hs => hn _ _ (.sub []) a' w' ν hv hs)
    rw [e3]
    unfold Builtin.len_
    simp [run_underlying (slice_of k hk), goInt]
  · rename_i e' hk e
    rw [e] at hxx
    have e3 := rv_nils hxx
    refine Looks.wp s ⟨_, he (.int .i64 0) ?_, .d (.int _ _ .nil) .nil⟩ (fun a' w' hs => hn _ _ (.sub []) a' w' ν hv hs)
    rw [e3]
    unfold Builtin.len_
    simp [run_underlying (slice_of k hk), goInt]
  · rename_i e' id hk e
    rw [e] at hxx
    split at hv
    · rename_i et sz rows hid
      obtain ⟨e3, _⟩ := rv_own hxx
      obtain ⟨A, cap, e4⟩ := row_slice s hid
      refine Looks.wp s ⟨_, he (.int .i64 rows.length) ?_, .d (.int _ _ .nil) .nil⟩ (fun a' w' hs => hn _ _ (.sub []) a' w' ν hv hs)
      rw [e3, e4]
      unfold Builtin.len_
      simp [run_underlying (slice_of k hk), goInt]
    · exact hv.elim
  · rename_i e' A m cap hk e
    rw [e] at hxx
    have e3 := rv_val hxx
    refine Looks.wp s ⟨_, he (.int .i64 m) ?_, .d (.int _ _ .nil) .nil⟩ (fun a' w' hs => hn _ _ (.sub []) a' w' ν hv hs)
    rw [e3]
    unfold Builtin.len_
    simp [run_underlying (slice_of k hk), goInt]
  · exact hv.elim

/-- what is appended, in memory -/
theorem addRows_ok (s : St q N0 w0 Nf n ν0 σ h a w ν) {x : AV} {v : Value} (hx : Rv w (nN N0 ν) ν [x] [v]) {new : List (List D)} (ha : addRows h.objs x = some new) {sz : Nat} (hsz : 0 < sz) (hl : ∀ r ∈ new, r.length = sz) :
    ∃ A c cells, v = .slice A new.length c ∧ Rd w (nN N0 ν) new.flatten cells ∧ cells.length = new.length * sz ∧ (new.length = 0 ∨ ∃ b o, A = some ⟨b, o, none⟩ ∧ ∀ (j : Nat) u, cells[j]? = some u → w.cell? ⟨b, o + j, none⟩ = some u) := by
  have hlen : ∀ (l : List (List D)), (∀ r ∈ l, r.length = sz) → l.flatten.length = l.length * sz := by
    intro l hl
    induction l with
    | nil => simp
    | cons r l ih => simp only [List.flatten_cons, List.length_append, List.length_cons]; rw [hl r List.mem_cons_self, ih (fun x hx => hl x (List.mem_cons_of_mem _ hx)), Nat.add_mul]; omega
  unfold addRows at ha
  split at ha
  · rename_i rows
    simp only [Option.some.injEq] at ha
    subst ha
    obtain ⟨A, cap, sz', cells, h1, h2, h3, h4, h5, h6⟩ := rv_list hx
    have hc : cells.length = rows.length * sz := by rw [h2.length, hlen _ hl]
    refine ⟨A, cap, cells, h1, h2, hc, ?_⟩
    rcases h4 with g | ⟨b, o, g, _, g2⟩
    · rw [g] at hc
      left
      rcases Nat.mul_eq_zero.1 hc.symm with e | e
      · exact e
      · omega
    · exact .inr ⟨b, o, g, g2⟩
  · simp only [Option.some.injEq] at ha
    subst ha
    have := rv_nils hx
    exact ⟨none, 0, [], this, .nil, by simp, .inl rfl⟩
  · rename_i id
    split at ha
    · rename_i e sz' rows hid
      simp only [Option.some.injEq] at ha
      subst ha
      obtain ⟨A, c, cells, h1, h2, h3, h4, h5, h6⟩ := s.hp.objs _ _ hid
      obtain ⟨e3, _⟩ := rv_own hx
      refine ⟨A, c, cells, by rw [e3, h1], h2, by rw [h2.length, hlen _ hl], ?_⟩
      rcases h6.2 with ⟨_, g⟩ | ⟨g, cap, cur, g1, _, g2, g3, _, g4, g5⟩
      · exact .inl g
      · rw [h1] at g1
        injection g1 with e1 e2 e3
        subst e1
        refine .inr ⟨g, 0, rfl, fun j u hu => ?_⟩
        rw [← g5, List.getElem?_take] at hu
        split at hu
        · simpa [World.cell?, g2] using hu
        · cases hu
    · cases ha
  · cases ha

theorem vcAppend_sound (hT : tabB P T = true) (s : St q N0 w0 Nf n ν0 σ h a w ν) {o : Oper} {c : Call} {x y : Operand} {t t2 : TypeId} (hop : o.op = .call c) (hc : c.callee = .builtin .append) (hx : c.args.toList = [x, y]) (ht : c.argTypes.toList = [t, t2])
    (hv : vcAppend T h t t2 (ev σ x) (ev σ y) K) (hn : ∀ r h' m a' w' ν', K r h' m → St q N0 w0 Nf n ν0 ((σ.ren m).putO n o.dst r) h' a' w' ν' → next a' w') : o.wpIn (G ro) 0 P a w next Q := by
  have e1 : c.args = #[x, y] := by apply Array.ext'; simpa using hx
  have e2 : c.argTypes = #[t, t2] := by apply Array.ext'; simpa using ht
  have he : ∀ v w', (Builtin.append_ #[t, t2] o.type #[a.eval x, a.eval y]).run P w = .ok v w' → (execOp a.eval o).run P w = .ok (.value v) w' := by
    intro v w' hv
    rw [exec_builtin hop hc, e1, e2]
    simp only [builtin, Sem.run_bind, List.map_toArray, List.map_cons, List.map_nil, hv, Result.andThen_ok, Sem.run_pure]
  have hxx := ev_ok s x
  have hyy := ev_ok s y
  unfold vcAppend at hv
  split at hv
  · rename_i ti new hti hnew
    split at hv
    · rename_i e hk
      split at hv
      · rename_i te hte
        obtain ⟨hc1, hl, hv⟩ := hv
        simp only [Bool.and_eq_true] at hc1
        obtain ⟨⟨hc1, hc2⟩, hc3⟩ := hc1
        have := Nat.eq_of_beq_eq_true hc1
        subst this
        have hc2 := Nat.le_of_ble_eq_true hc2
        have hc3 : 0 < te.size := Nat.le_of_ble_eq_true hc3
        have ht := slice_of (tabB_ok hT hti) hk
        have k := tabB_ok hT hte
        obtain ⟨A, cc, ncells, f1, f2, f3, f4⟩ := addRows_ok s hyy hnew hc3 hl
        split at hv
        · rename_i id e3
          rw [e3] at hxx
          obtain ⟨g1, A0, m0, c0, g2⟩ := rv_own hxx
          split at hv
          · rename_i e' sz rows hid
            obtain ⟨hb1, hb2, hv⟩ := hv
            simp only [Bool.and_eq_true] at hb1
            have q1 := Nat.eq_of_beq_eq_true hb1.1
            have q2 := Nat.eq_of_beq_eq_true hb1.2
            subst q1 q2
            obtain ⟨A', c', cells, h1, h2, h3, h4, h5, h6⟩ := s.hp.objs _ _ hid
            obtain ⟨v', w', r1, r2⟩ := append_ok (ty := o.type) k ht hc3 hc2 h6 f3 f4 f2.one hb2
            obtain ⟨ν', hs⟩ := s.grow hid r2 (by rw [List.flatten_append]; exact h2.append f2) (fun r hr => (List.mem_append.1 hr).elim (h3 r) (hl r)) hb2 hc3 ⟨_, _, _, g2⟩ o.dst
            refine wp_value (he v' w' ?_) (hn _ _ (.sub [(id, .any)]) _ w' ν' hv hs)
            rw [g1, f1]; exact r1
          · exact hv.elim
        · rename_i e3
          rw [e3] at hxx
          have g1 := rv_nils hxx
          obtain ⟨hb2, hv⟩ := hv
          have hown : w.ownsRow 0 e te.size (.slice none 0 0) 0 [] := ⟨by simp, .inl ⟨rfl, rfl⟩⟩
          obtain ⟨v', w', r1, r2⟩ := append_ok (ty := o.type) k ht hc3 hc2 hown f3 f4 f2.one (by omega)
          obtain ⟨A', c', hf⟩ := r2.form
          rw [Nat.zero_add] at hf
          have hk : Kp (fun _ => False) w w' := ⟨r2.os, r2.tape, r2.output, r2.size, fun b hb _ => r2.blk b hb (by simp [vblk])⟩
          have hown' := r2.own
          rw [Nat.zero_add, List.nil_append] at hown'
          obtain ⟨ν', hs⟩ := s.newRow hk (val := v') (by rw [hf]; simp [undef]) (fun b hb => by
            refine ⟨?_, ownsRow_vblk hown' b hb⟩
            rcases r2.val with g | ⟨b', g, hb'⟩
            · rw [g] at hb; cases hb
            · rw [g] at hb; injection hb with hb; omega) hf f2 hl hb2 hc3 hown' o.dst
          refine wp_value (he v' w' ?_) (hn _ _ (.sub []) _ w' ν' hv hs)
          rw [g1, f1]; exact r1
        · exact hv.elim
      · exact hv.elim
    · exact hv.elim
  · exact hv.elim
end
end Go.Vc
end

section
set_option linter.unusedVariables false
set_option linter.unusedSimpArgs false
namespace Go.Vc
section
variable {P : Program} {ro : Option Nat} {q : Bool} {T : List (Nat × TI)} {N0 Nf : Nat → Prop} {w0 w w' : World} {n : Nat} {σ : Env} {h : Heap} {a : Act} {ν ν' ν0 : Nat → Value} {Q : Exit → Act → World → Prop} {next : Act → World → Prop}
  {K : AV → Heap → Rn → Prop}

theorem flatten_len {sz : Nat} : ∀ (l : List (List D)), (∀ r ∈ l, r.length = sz) → l.flatten.length = l.length * sz
  | [], _ => by simp
  | r :: l, hl => by
    simp only [List.flatten_cons, List.length_append, List.length_cons]
    rw [hl r List.mem_cons_self, flatten_len l (fun x hx => hl x (List.mem_cons_of_mem _ hx)), Nat.add_mul]; omega
theorem flatten_split (rows : List (List D)) {i : Nat} {row : List D} (hrow : rows[i]? = some row) : rows.flatten = (rows.take i).flatten ++ (row ++ (rows.drop (i + 1)).flatten) := by
  have hlt : i < rows.length := (List.getElem?_eq_some_iff.1 hrow).1
  have hd : rows.drop i = row :: rows.drop (i + 1) := by rw [List.drop_eq_getElem_cons hlt, (List.getElem?_eq_some_iff.1 hrow).2]
  conv => lhs; rw [← List.take_append_drop i rows, List.flatten_append, hd, List.flatten_cons]
/-- the cells of one row -/
theorem row_cells {N : Nat → Prop} {rows : List (List D)} {cells : List Value} {sz : Nat} (h : Rd w N rows.flatten cells) (hl : ∀ r ∈ rows, r.length = sz) {i : Nat} {row : List D} (hrow : rows[i]? = some row) :
    ∃ c1 c3 c4, cells = c1 ++ (c3 ++ c4) ∧ c1.length = i * sz ∧ Rd w N (rows.take i).flatten c1 ∧ Rd w N row c3 ∧ Rd w N (rows.drop (i + 1)).flatten c4 ∧ c3.length = sz := by
  rw [flatten_split rows hrow] at h
  obtain ⟨c1, c2, rfl, k1, k2⟩ := Rd.split h
  obtain ⟨c3, c4, rfl, k3, k4⟩ := Rd.split k2
  have hlt : i < rows.length := (List.getElem?_eq_some_iff.1 hrow).1
  refine ⟨c1, c3, c4, rfl, ?_, k1, k3, k4, ?_⟩
  · rw [k1.length, flatten_len _ (fun r hr => hl r (List.mem_of_mem_take hr)), List.length_take, Nat.min_eq_left (by omega)]
  · rw [k3.length]; exact hl row (List.mem_of_getElem? hrow)

theorem index_sound (hT : tabB P T = true) (s : St q N0 w0 Nf n ν0 σ h a w ν) {o : Oper} {t : TypeId} {x i : Operand} (hop : o.op = .index t x i) (hv : vcOp T (specs P) (ev σ) h (.index t x i) K)
    (hn : ∀ r h' m a' w' ν', K r h' m → St q N0 w0 Nf n ν0 ((σ.ren m).putO n o.dst r) h' a' w' ν' → next a' w') : o.wpIn (G ro) 0 P a w next Q := by
  have hxx := ev_ok s x
  have hii := ev_ok s i
  simp only [vcOp] at hv
  split at hv
  · rename_i ti hti
    split at hv
    · rename_i l k j hk e1 e2
      rw [e1] at hxx; rw [e2] at hii
      obtain ⟨h0, b, hb, hv⟩ := hv
      have he : execOp a.eval o = (do pure (Next.value (← Instr.index t (a.eval x) (a.eval i)))) := by unfold execOp; rw [hop]
      rw [(rv_str hxx).1, rv_int hii] at he
      refine Looks.wp s ⟨_, exec_val he ?_, .d (.int .u8 b.toNat .nil) .nil⟩ (fun a' w' hs => hn _ _ (.sub []) a' w' ν hv hs)
      unfold Instr.index
      have hlt : j.toNat < l.length := (List.getElem?_eq_some_iff.1 hb).1
      have e3 : (mkS l)[j.toNat]? = some b := by
        have : j.toNat < (mkS l).size := hlt
        rw [getElem?_pos (mkS l) j.toNat this]
        congr 1
        have h2 := (List.getElem?_eq_some_iff.1 hb).2
        rw [← h2]; rfl
      simp only [Sem.run_bind, run_underlying (str_of (tabB_ok hT hti) hk), Result.andThen_ok, asIntOf, Sem.run_pure, if_pos h0, e3]
    · rename_i m e cs k j hk e1 e2
      rw [e1] at hxx; rw [e2] at hii
      obtain ⟨⟨h0, h1⟩, hv⟩ := hv
      split at hv
      · rename_i te hte
        obtain ⟨r, hl, hv⟩ := hv
        have he : execOp a.eval o = (do pure (Next.value (← Instr.index t (a.eval x) (a.eval i)))) := by unfold execOp; rw [hop]
        obtain ⟨xs, q1, q2⟩ := rv_agg hxx
        rw [q1, rv_int hii] at he
        have k' := tabB_ok hT hte
        obtain ⟨g1, g2⟩ := loadL_ok k'.one (q2.drop (j.toNat * te.size)) hl
        refine Looks.wp s ⟨_, exec_val he ?_, g2⟩ (fun a' w' hs => hn _ _ (.sub []) a' w' ν hv hs)
        unfold Instr.index
        simp only [Sem.run_bind, run_underlying (array_of (tabB_ok hT hti) hk), Result.andThen_ok, asIntOf, Sem.run_pure, run_sizeOf' k']
        rw [if_pos ⟨h0, h1⟩]
        simp only [Sem.run_bind, run_sizeOf' k', Result.andThen_ok]
        exact run_part k' g1
      · exact hv.elim
    · exact hv.elim
  · exact hv.elim

theorem run_indexAt' {t e : TypeId} {te : TI} (k : TiOk P e te) (ht : P.underlying t = some (.slice e)) {b o len cap : Nat} {kd : IntKind} {i : Int} (h0 : 0 ≤ i) (h1 : i < len) :
    (Instr.indexAt t (.slice (some ⟨b, o, none⟩) len cap) (.int kd i)).run P w = .ok (.pointer (some ⟨b, o + i.toNat * te.size, none⟩)) w := by
  unfold Instr.indexAt
  simp only [Sem.run_bind, asIntOf, Sem.run_pure, Result.andThen_ok, run_underlying ht]
  simp [h0, h1, run_sizeOf' k, Addr.add_lit]

theorem indexAddr_sound (hT : tabB P T = true) (s : St q N0 w0 Nf n ν0 σ h a w ν) {o : Oper} {t : TypeId} {x i : Operand} (hop : o.op = .indexAddr t x i) (hv : vcOp T (specs P) (ev σ) h (.indexAddr t x i) K)
    (hn : ∀ r h' m a' w' ν', K r h' m → St q N0 w0 Nf n ν0 ((σ.ren m).putO n o.dst r) h' a' w' ν' → next a' w') : o.wpIn (G ro) 0 P a w next Q := by
  have hxx := ev_ok s x
  have hii := ev_ok s i
  have he : execOp a.eval o = (do pure (Next.value (← Instr.indexAt t (a.eval x) (a.eval i)))) := by unfold execOp; rw [hop]
  simp only [vcOp] at hv
  split at hv
  · rename_i ti hti
    split at hv
    · rename_i e hk
      split at hv
      · rename_i te hte
        obtain ⟨hsz, hv⟩ := hv
        have hsz : 0 < te.size := Nat.le_of_ble_eq_true hsz
        have ht := slice_of (tabB_ok hT hti) hk
        have k := tabB_ok hT hte
        split at hv
        · rename_i l kd j e1 e2
          rw [e1] at hxx; rw [e2] at hii
          obtain ⟨h0, row, hrow, hlen, hv⟩ := hv
          obtain ⟨A, cap, sz, cells, g1, g2, g3, g4, g5, g6⟩ := rv_list hxx
          have hsz' : sz = te.size := by rw [← g3 row (List.mem_of_getElem? hrow), hlen]
          subst hsz'
          obtain ⟨c1, c3, c4, q1, q2, _, q3, _, q4⟩ := row_cells g2 g3 hrow
          have hlt : j.toNat < l.length := (List.getElem?_eq_some_iff.1 hrow).1
          rcases g4 with g4 | ⟨b, off, g4, hN, g7⟩
          · rw [g4] at q1
            have : (c1 ++ (c3 ++ c4)).length = 0 := by rw [← q1]; rfl
            simp only [List.length_append] at this
            omega
          · rw [g1, g4, rv_int hii] at he
            refine Looks.wp s ⟨_, exec_val he (run_indexAt' k ht h0 (by omega)), .at_ _ c3 (fun g => by rw [g] at q4; simp at q4; omega) q3 (.inr ⟨b, off + j.toNat * te.size, rfl, hN, fun q u hu => ?_⟩) .nil⟩ (fun a' w' hs => hn _ _ (.sub []) a' w' ν hv hs)
            rw [Nat.add_assoc]
            refine g7 _ u ?_
            have hq : q < c3.length := by
              rcases Nat.lt_or_ge q c3.length with g | g
              · exact g
              · rw [List.getElem?_eq_none g] at hu; cases hu
            rw [q1, List.getElem?_append_right (by omega), q2, Nat.add_sub_cancel_left, List.getElem?_append_left hq]
            exact hu
        · rename_i id kd j e1 e2
          rw [e1] at hxx; rw [e2] at hii
          split at hv
          · rename_i e' sz rows hid
            obtain ⟨hb, h0, h1, hv⟩ := hv
            have := Nat.eq_of_beq_eq_true hb
            subst this
            obtain ⟨A, c, cells, g1, g2, g3, g4, g5, g6⟩ := s.hp.objs _ _ hid
            obtain ⟨g7, _⟩ := rv_own hxx
            rcases g6.2 with ⟨q1, q2⟩ | ⟨b, cap, cur, q1, _⟩
            · rw [q2] at h1; omega
            · have g1' := g1
              rw [q1] at g1
              injection g1 with e1 e2 e3
              subst e1 e3
              rw [g7, g1', rv_int hii] at he
              have hr := run_indexAt' (w := w) (o := 0) (b := b) (len := rows.length) (cap := cap) (kd := kd) k ht h0 h1
              refine Looks.wp s ⟨_, exec_val he hr, ?_⟩ (fun a' w' hs => hn _ _ (.sub []) a' w' ν hv hs)
              have : (0 : Nat) + j.toNat * te.size = j.toNat * te.size + 0 := by omega
              rw [this]
              exact .rptr j.toNat 0 te.size g1' (by omega) .nil
          · exact hv.elim
        · exact hv.elim
      · exact hv.elim
    · exact hv.elim
  · exact hv.elim

theorem store_sound (hT : tabB P T = true) (s : St q N0 w0 Nf n ν0 σ h a w ν) {o : Oper} {t : TypeId} {x y : Operand} (hop : o.op = .store t x y) (hv : vcOp T (specs P) (ev σ) h (.store t x y) K)
    (hn : ∀ r h' m a' w' ν', K r h' m → St q N0 w0 Nf n ν0 ((σ.ren m).putO n o.dst r) h' a' w' ν' → next a' w') : o.wpIn (G ro) 0 P a w next Q := by
  have hxx := ev_ok s x
  have hyy := ev_ok s y
  have he : execOp a.eval o = (do (Instr.storeAt t (a.eval x) (a.eval y)); pure Next.skip) := by unfold execOp; rw [hop]
  simp only [vcOp] at hv
  split at hv
  · rename_i ti hti
    have k := tabB_ok hT hti
    split at hv
    · rename_i new id off hc e1
      rw [e1] at hxx
      obtain ⟨g1, g2, g3, g4⟩ := cellsOf_ok hyy hc k.one
      obtain ⟨b, q1, q2⟩ := rv_ptr hxx
      split at hv
      · rename_i t' cs hid
        obtain ⟨hb, hv⟩ := hv
        have hb := Nat.le_of_ble_eq_true hb
        obtain ⟨b', arr, e, p1, p2, p3⟩ := s.hp.objs _ _ hid
        rw [q2] at p1
        obtain rfl : b = b' := by injection p1 with h1; injection h1 with h1; injection h1
        have hlen := p3.length
        have hst := run_storeVar' (w := w) k p2 (a.eval y) g2 g4 (o := off) (by have : arr.toList.length = arr.size := by simp
                                                                                omega)
        have hro : Ro (w.setRow b (arr.toList.take off ++ (a.eval y).cells.toList ++ arr.toList.drop (off + (a.eval y).cells.toList.length)).toArray) (nN N0 ν) ν id (.cells t' (over cs off new)) := by
          refine ⟨b, _, e, q2, setRow_heap w b arr _ e _ p2, ?_⟩
          have m : Mv w (nN N0 ν) (w.setRow b (arr.toList.take off ++ (a.eval y).cells.toList ++ arr.toList.drop (off + (a.eval y).cells.toList.length)).toArray) (nN N0 ν) :=
            ⟨by simp [World.setRow], fun c hc hN => ⟨hN, setRow_other w b c _ (fun e => hN (.inr ⟨id, by rw [q2, e]; rfl⟩))⟩⟩
          simpa using (over_rv p3 g1 off).mv m (fun _ _ => rfl)
        have hs := s.set (by rw [q2]; rfl) (setRow_kp w b _) hro
        refine wp_skip' ?_ (hn _ _ (.sub []) _ _ ν hv (putAgain hs o.dst (.val _ .nil)))
        rw [he]
        simp only [Instr.storeAt, q1, Instr.sureAddr, Sem.run_bind, Sem.run_pure, Result.andThen_ok, hst]
      · exact hv.elim
    · rename_i new id i sz' off hc e1
      rw [e1] at hxx
      obtain ⟨g1, g2, g3, g4⟩ := cellsOf_ok hyy hc k.one
      obtain ⟨b, mm, c, q1, q2, q3⟩ := rv_rptr hxx
      split at hv
      · rename_i e sz rows ds hid hds
        obtain ⟨hb, row, hrow, hfit, hv⟩ := hv
        have := Nat.eq_of_beq_eq_true hb
        subst this
        obtain ⟨A, c', cells, p1, p2, p3, p4, p5, p6⟩ := s.hp.objs _ _ hid
        rw [q2] at p1
        injection p1 with f1 f2 f3
        subst f1 f2 f3
        rcases p6.2 with ⟨g, _⟩ | ⟨g, cap, cur, r1, _, r2, r3, r4, r5, r6⟩
        · rw [q2] at g; cases g
        · rw [q2] at r1
          injection r1 with f1 f2 f3
          injection f1 with f1
          injection f1 with f1
          subst f1 f3
          obtain ⟨c1, c3, c4, u1, u2, u3, u4, u5, u6⟩ := row_cells p2 p3 hrow
          have hlt : i < rows.length := (List.getElem?_eq_some_iff.1 hrow).1
          have hds' := (norm_rvs g1).dsOf hds
          have hdl := hds'.length
          have hrl := p3 row (List.mem_of_getElem? hrow)
          have hcells : cells.length = rows.length * sz' := p6.1
          have hmul : i * sz' + sz' ≤ rows.length * sz' := by
            have : (i + 1) * sz' ≤ rows.length * sz' := Nat.mul_le_mul_right _ hlt
            rw [Nat.add_mul] at this; omega
          have hvl : (a.eval y).cells.toList.length = (a.eval y).cells.size := by simp
          have hcap := Nat.mul_le_mul_right sz' r3
          have hst := run_storeVar' (w := w) k r2 (a.eval y) g2 g4 (o := i * sz' + off) (by omega)
          have hnewrows : (rows.set i (overD row off ds)).flatten = (rows.take i).flatten ++ (overD row off ds ++ (rows.drop (i + 1)).flatten) := by
            rw [flatten_split (rows.set i (overD row off ds)) (i := i) (row := overD row off ds) (by simp [hlt])]
            congr 1
            · rw [List.take_set_of_le (Nat.le_refl _)]
            · congr 1
              rw [List.drop_set_of_lt (by omega)]
          have hover : Rd w (nN N0 ν) (overD row off ds) (c3.take off ++ (a.eval y).cells.toList ++ c3.drop (off + (a.eval y).cells.toList.length)) := by
            unfold overD
            rw [← hdl]
            exact ((u4.take off).append hds').append (u4.drop _)
          have hnew : Rd w (nN N0 ν) (rows.set i (overD row off ds)).flatten (c1 ++ ((c3.take off ++ (a.eval y).cells.toList ++ c3.drop (off + (a.eval y).cells.toList.length)) ++ c4)) := by
            rw [hnewrows]
            exact u3.append (hover.append u5)
          have hod : (overD row off ds).length = sz' := by
            unfold overD
            simp only [List.length_append, List.length_take, List.length_drop]
            omega
          have m : Mv w (nN N0 ν) (w.setRow b (cur.toList.take (i * sz' + off) ++ (a.eval y).cells.toList ++ cur.toList.drop (i * sz' + off + (a.eval y).cells.toList.length)).toArray) (nN N0 ν) :=
            ⟨by simp [World.setRow], fun c hc hN => ⟨hN, setRow_other w b c _ (fun e => hN (.inr ⟨id, by rw [q2, e]; rfl⟩))⟩⟩
          have hcl : (c1 ++ ((c3.take off ++ (a.eval y).cells.toList ++ c3.drop (off + (a.eval y).cells.toList.length)) ++ c4)).length = rows.length * sz' := by
            rw [hnew.length, flatten_len (sz := sz')]
            · simp
            · intro r hr
              rcases List.mem_or_eq_of_mem_set hr with hr | rfl
              · exact p3 r hr
              · exact hod
          have htake : (cur.toList.take (i * sz' + off) ++ (a.eval y).cells.toList ++ cur.toList.drop (i * sz' + off + (a.eval y).cells.toList.length)).take (rows.length * sz') =
              c1 ++ ((c3.take off ++ (a.eval y).cells.toList ++ c3.drop (off + (a.eval y).cells.toList.length)) ++ c4) := by
            have hcur : cur.toList = c1 ++ (c3 ++ c4) ++ cur.toList.drop (rows.length * sz') := by
              rw [← u1, ← r6, List.take_append_drop]
            have e1 : cur.toList.take (i * sz' + off) = c1 ++ c3.take off := by
              rw [hcur, List.take_append_of_le_length (by rw [← u1, hcells]; omega), ← u2, List.take_length_add_append, List.take_append_of_le_length (by omega)]
            have e2 : cur.toList.drop (i * sz' + off + (a.eval y).cells.toList.length) = c3.drop (off + (a.eval y).cells.toList.length) ++ c4 ++ cur.toList.drop (rows.length * sz') := by
              conv => lhs; rw [hcur]
              rw [List.drop_append_of_le_length (by rw [← u1, hcells]; omega), Nat.add_assoc, ← u2, List.drop_length_add_append, List.drop_append_of_le_length (by omega)]
            rw [e1, e2]
            have e3 : c1 ++ c3.take off ++ (a.eval y).cells.toList ++ (c3.drop (off + (a.eval y).cells.toList.length) ++ c4 ++ cur.toList.drop (rows.length * sz')) =
                (c1 ++ ((c3.take off ++ (a.eval y).cells.toList ++ c3.drop (off + (a.eval y).cells.toList.length)) ++ c4)) ++ cur.toList.drop (rows.length * sz') := by simp
            rw [e3, ← hcl]
            exact List.take_left
          have hro : Ro (w.setRow b (cur.toList.take (i * sz' + off) ++ (a.eval y).cells.toList ++ cur.toList.drop (i * sz' + off + (a.eval y).cells.toList.length)).toArray) (nN N0 ν) ν id (.row e sz' (rows.set i (overD row off ds))) := by
            refine ⟨_, _, _, by rw [q2, List.length_set], hnew.mv m, ?_, by simpa using p4, p5, ?_⟩
            · intro r hr
              rcases List.mem_or_eq_of_mem_set hr with hr | rfl
              · exact p3 r hr
              · exact hod
            · rw [List.length_set]
              refine ⟨hcl, .inr ⟨b, _, _, q2, Nat.zero_le _, setRow_heap w b cur _ e _ r2, r3, r4, ?_, htake⟩⟩
              rw [List.size_toArray]
              simp only [List.length_append, List.length_take, List.length_drop, Array.length_toList]
              omega
          have hs := s.set (by rw [q2]; rfl) (setRow_kp w b _) hro
          refine wp_skip' ?_ (hn _ _ (.sub []) _ _ ν hv (putAgain hs o.dst (.val _ .nil)))
          rw [he]
          simp only [Instr.storeAt, q1, Instr.sureAddr, Sem.run_bind, Sem.run_pure, Result.andThen_ok, hst]
      · exact hv.elim
    · exact hv.elim
  · exact hv.elim

theorem vcCopy_sound (hT : tabB P T = true) (s : St q N0 w0 Nf n ν0 σ h a w ν) {o : Oper} {c : Call} {x y : Operand} {t t2 : TypeId} (hop : o.op = .call c) (hc : c.callee = .builtin .copy) (hx : c.args.toList = [x, y]) (ht : c.argTypes.toList = [t, t2])
    (hv : vcCopy T h t (ev σ x) (ev σ y) K) (hn : ∀ r h' m a' w' ν', K r h' m → St q N0 w0 Nf n ν0 ((σ.ren m).putO n o.dst r) h' a' w' ν' → next a' w') : o.wpIn (G ro) 0 P a w next Q := by
  have e1 : c.args = #[x, y] := by apply Array.ext'; simpa using hx
  have e2 : c.argTypes = #[t, t2] := by apply Array.ext'; simpa using ht
  have he : ∀ v w', (Builtin.copy_ #[t, t2] o.type #[a.eval x, a.eval y]).run P w = .ok v w' → (execOp a.eval o).run P w = .ok (.value v) w' := by
    intro v w' hv
    rw [exec_builtin hop hc, e1, e2]
    simp only [builtin, Sem.run_bind, List.map_toArray, List.map_cons, List.map_nil, hv, Result.andThen_ok, Sem.run_pure]
  have hxx := ev_ok s x
  have hyy := ev_ok s y
  unfold vcCopy at hv
  split at hv
  · rename_i ti new id hti q1 q2
    rw [q2] at hxx; rw [q1] at hyy
    split at hv
    · rename_i e e' sz rows hk hid
      split at hv
      · rename_i te hte
        obtain ⟨hb, hl, hpos, hlen, hv⟩ := hv
        simp only [Bool.and_eq_true] at hb
        obtain ⟨⟨b1, b2⟩, b3⟩ := hb
        have b1 := Nat.eq_of_beq_eq_true b1
        have b2 := Nat.eq_of_beq_eq_true b2
        have b3 := Nat.eq_of_beq_eq_true b3
        subst b1
        have b4 : sz = 1 := b2.trans b3
        subst b4
        have ht' := slice_of (tabB_ok hT hti) hk
        obtain ⟨iz, zv, hi, hs, _⟩ := (tabB_ok hT hte).info
        obtain ⟨A, c', cells, p1, p2, p3, p4, p5, p6⟩ := s.hp.objs _ _ hid
        obtain ⟨g1, _⟩ := rv_own hxx
        obtain ⟨A2, cap2, sz2, cells2, f1, f2, f3, f4, f5, f6⟩ := rv_list hyy
        have hf : cells2.length = new.length := by rw [f2.length, flatten_len new hlen, Nat.mul_one]
        rcases f4 with f4 | ⟨b2, o2, f4, hN2, f7⟩
        · rw [f4] at hf; simp at hf; omega
        · rcases p6.2 with ⟨g, g'⟩ | ⟨g, cap, cur, r1, _, r2, r3, r4, r5, r6⟩
          · omega
          · have hn0 : cells2.length = Nat.min new.length rows.length := by rw [hf, hl]; exact (Nat.min_self _).symm
            have hfit : 0 + cells2.length ≤ cur.size := by omega
            have hrun := run_copy_row P w t t2 o.type e g 0 rows.length cap ⟨b2, o2, none⟩ new.length cap2 cur e cells2 ht' (by rw [hi]; simp [hs, b3]) r2 hn0 (fun j v hj => by
              have : (⟨b2, o2, none⟩ : Addr).add j = ⟨b2, o2 + j, none⟩ := Addr.add_lit ..

              rw [this]; exact f7 j v hj) hfit f2.one
            have hgv : a.eval x = .slice (some ⟨g, 0, none⟩) rows.length cap := by rw [g1]; exact r1
            have hyv : a.eval y = .slice (some ⟨b2, o2, none⟩) new.length cap2 := by rw [f1, f4]
            have m : Mv w (nN N0 ν) (w.setRow g (cur.toList.take 0 ++ cells2 ++ cur.toList.drop (0 + cells2.length)).toArray) (nN N0 ν) :=
              ⟨by simp [World.setRow], fun c hc hN => ⟨hN, setRow_other w g c _ (fun e => hN (.inr ⟨id, by rw [r1, e]; rfl⟩))⟩⟩
            have hro : Ro (w.setRow g (cur.toList.take 0 ++ cells2 ++ cur.toList.drop (0 + cells2.length)).toArray) (nN N0 ν) ν id (.row e 1 new) := by
              refine ⟨_, _, cells2, by rw [r1, hl], f2.mv m, hlen, by rw [hl]; exact p4, by omega, by rw [Nat.mul_one]; exact hf, .inr ⟨g, cap, _, by rw [r1, hl], Nat.zero_le _, setRow_heap w g cur _ e _ r2, by omega, r4, ?_, ?_⟩⟩
              · rw [List.size_toArray]
                simp only [List.length_append, List.length_take, List.length_drop, Array.length_toList]
                omega
              · simp only [List.take_zero, List.nil_append, Nat.mul_one]
                rw [← hf]
                exact List.take_left
            have hs' := s.set (by rw [r1]; rfl) (setRow_kp w g _) hro
            refine wp_value (he _ _ (by rw [hgv, hyv]; exact hrun)) (hn _ _ (.sub []) _ _ ν hv (putAgain hs' o.dst ?_))
            rw [hf]
            exact .d (.int _ _ .nil) .nil
      · exact hv.elim
    · exact hv.elim
  · exact hv.elim
end
end Go.Vc
end
