/- Calls under a contract; what is computed: the soundness of 'opFun'. -/
import Derived.Test.YtcakciamoopkcaaGreatVcF
set_option linter.unusedVariables false
set_option linter.unusedSimpArgs false
namespace Go.Vc

/-- a function with a Go body -/
def Ent (P : Program) (f : FuncId) : Prop := ∃ fn, P.funcs[f]? = some fn ∧ (fn.name == "runtime.NumGoroutine") = false ∧ fn.body.isNone = false
def specs (P : Program) : Specs := ⟨fun f args r => Ent P f ∧ PureOk P f args r, fun f args h r h' => Ent P f ∧ HeapOk P f args h r h'⟩

section
variable {P : Program} {T : List (Nat × TI)} {N0 Nf : Nat → Prop} {w0 w w' : World} {n : Nat} {σ : Env} {h : Heap} {a : Act} {ν ν' ν0 : Nat → Value} {Q : Exit → Act → World → Prop} {next : Act → World → Prop}

theorem run_callFunc {f : FuncId} (he : Ent P f) (args : Array Value) (w : World) : (callFunc f args).run P w = .ok (.enter f args) w := by
  obtain ⟨fn, h1, h2, h3⟩ := he
  simp only [callFunc, Sem.run_bind, run_program, Result.andThen_ok, h1, h2, h3]
  rfl

theorem run_call_fn {o : Oper} {c : Call} {x : Operand} {f : FuncId} {caps : Array Value} (hop : o.op = .call c) (hc : c.callee = .value x) (hx : a.eval x = .func (.func f) #[] caps) (he : Ent P f) :
    (execOp a.eval o).run P w = .ok (.enter f (c.args.map a.eval ++ caps)) w := by
  unfold execOp
  rw [hop]
  simp only [resolve, hc, hx, Deferred.ofValue, Sem.run_bind, Sem.run_pure, Result.andThen_ok, invoke, Array.empty_append]
  exact run_callFunc he _ w

theorem run_method {t : TypeId} {ti : TI} (k : TiOk P t ti) (hp : ti.kind ≠ .ptr) {name : String} {f : FuncId} (hm : ti.meths.lookup name = some f) (v : Value) (fuel : Nat) (w : World) :
    (method (fuel + 1) t v name).run P w = .ok (f, v) w := by
  obtain ⟨i, z, h1, _, _, _, _, _, h7, _⟩ := k.info
  obtain ⟨d, h8, h9⟩ := k.kind
  have hmem : (name, f) ∈ ti.meths := by
    generalize ti.meths = l at hm
    induction l with
    | nil => cases hm
    | cons p l ih =>
      obtain ⟨nm, g⟩ := p
      simp only [List.lookup] at hm
      split at hm
      · rename_i hb
        have : name = nm := by simpa using hb
        simp only [Option.some.injEq] at hm
        subst this hm
        exact List.mem_cons_self
      · exact List.mem_cons_of_mem _ (ih hm)
  have h10 := List.all_eq_true.1 h7 _ hmem
  simp only [methB] at h10
  split at h10
  · rename_i m hfind
    simp only [Bool.and_eq_true] at h10
    obtain ⟨h11, h12⟩ := h10
    split at h12
    · rename_i f' p hf
      simp only [Bool.and_eq_true, Bool.not_eq_true'] at h12
      obtain ⟨h13, rfl⟩ := h12
      have e := Nat.eq_of_beq_eq_true h13
      subst e
      have hpath : m.path = #[] := by simpa using h11
      have hnp : ∀ e, d ≠ .pointer e := by
        intro e hd
        subst hd
        unfold kindB at h9
        split at h9 <;> simp_all
      simp only [method, Sem.run_bind, typeInfo, run_program, Result.andThen_ok, h1, Sem.run_pure, hfind, hpath, Array.toList_empty, follow, hf, receiverAt, run_underlying h8]
      cases d <;> first | (exact absurd rfl (hnp _)) | (simp [Place.get])
    · cases h12
  · cases h10

theorem run_call_invoke {o : Oper} {c : Call} {x : Operand} {name : String} {t : TypeId} {v : Value} {ti : TI} {f : FuncId} (hop : o.op = .call c) (hc : c.callee = .invoke x name) (hx : a.eval x = .iface t v)
    (k : TiOk P t ti) (hp : ti.kind ≠ .ptr) (hm : ti.meths.lookup name = some f) (he : Ent P f) :
    (execOp a.eval o).run P w = .ok (.enter f (#[v] ++ c.args.map a.eval)) w := by
  unfold execOp
  rw [hop]
  obtain ⟨i, z, h1, _⟩ := k.info
  have hsz : ∃ q, P.types.size + Made.depth = q + 1 := ⟨P.types.size + Made.depth - 1, Nat.eq_add_of_sub_eq (Nat.le_trans (by decide) (Nat.le_add_left _ _)) rfl⟩
  obtain ⟨q, hq⟩ := hsz
  simp only [resolve, hc, hx, Sem.run_bind, Sem.run_pure, Result.andThen_ok, invoke]
  rw [show ((#[Value.iface t v] ++ c.args.map a.eval)[0]?) = some (.iface t v) from by rw [Array.getElem?_append_left (by simp)]; rfl]
  simp only [callMethod, Sem.run_bind, run_program, Result.andThen_ok, hq, run_method k hp hm]
  rw [run_callFunc he]
  congr 2
  simp only [Array.extract_append, List.size_toArray, List.length_cons, List.length_nil]
  have e : (Array.map a.eval c.args).extract 0 c.args.size = Array.map a.eval c.args := by
    rw [show c.args.size = (Array.map a.eval c.args).size from by simp, Array.extract_size]
  simp [e]

/-- a call under a contract over objects of the caller's; ν1: after rows were made data -/
theorem heapCall_sound (s : St N0 w0 Nf n ν0 σ h a w ν) {σ1 : Env} {h1 : Heap} {ν1 : Nat → Value} (s1 : St N0 w0 Nf n ν0 σ1 h1 a w ν1) (hsub : ∀ b, nN N0 ν1 b → nN N0 ν b) (hk1 : ∀ j, (∀ A k c, ν j ≠ .slice A k c) → ν1 j = ν j) (hlo1 : h1.lo = h.lo) (hnx1 : h1.nx = h.nx)
    {o : Oper} {f : FuncId} {args : List AV} {vs : List Value} (hargs : Rv w (nN N0 ν1) ν1 args vs) {K : AV → Heap → Rn → Prop} {r : AV} {h' : Heap}
    (hv : (specs P).heap f args h1 r h') (hk : K r h' .drop) (hrun : Ent P f → (execOp a.eval o).run P w = .ok (.enter f vs.toArray) w)
    (hn : ∀ r h' m a' w' ν', K r h' m → St N0 w0 Nf n ν0 ((σ.ren m).putO n o.dst r) h' a' w' ν' → next a' w') : o.wp P a w next Q := by
  obtain ⟨he, hc⟩ := hv
  refine wp_enter (hrun he) ?_
  refine (hc N0 w ν1 vs s1.hp hargs).mono fun e w' ⟨v, ν', he', hhp, hr, hkp, hkeep, hnew, hlo, hlo2⟩ => ⟨v, he', hn r h' .drop _ w' ν' hk ?_⟩
  have m1 : Mv w (nN N0 ν1) w' (nN N0 ν') := by
    refine ⟨hkp.size, fun b hb hN => ⟨?_, hkp.blk b hb (fun g => hN (.inr g))⟩⟩
    rintro (g | ⟨j, g⟩)
    · exact hN (.inl g)
    · rcases hnew j b g with g | g
      · exact hN (.inr g)
      · omega
  have m : Mv w (nN N0 ν) w' (nN N0 ν') := ⟨m1.size, fun b hb hN => m1.blk b hb (fun g => hN (hsub b g))⟩
  have hkeep' : ∀ id, ν id ≠ undef → (∀ A m c, ν id ≠ .slice A m c) → ν' id = ν id := fun id g1 g2 => by
    rw [hkeep id (by rw [hk1 id g2]; exact g1) (by intro A m c; rw [hk1 id g2]; exact g2 A m c), hk1 id g2]
  refine ⟨slots_put (fun k => ?_) s.size o.dst hr, hhp, s.kp.trans hkp (fun x hx ⟨j, g⟩ => ?_), fun i b g => ?_, by rw [size_put, s.size], by rw [defers_put, s.defers], fun i h1 h2 => ?_, by rw [hlo, hlo1]; exact Nat.le_trans s.low.1 (hnx1 ▸ hlo2), by rw [hlo, hlo1]; exact s.low.2⟩
  · have := (s.slots k).noOwn m hkeep'
    simpa [AV.noOwnL, Env.ren] using this
  · rcases s1.fresh j x g with g | g
    · omega
    · exact g
  · rcases hnew i b g with ⟨j, g⟩ | g
    · exact s1.fresh j b g
    · left; have := s.kp.size; omega
  · have e := s.keep i h1 h2
    rw [hkeep' i (by rw [e]; exact h1) (by intro A m c; rw [e]; exact h2 A m c), e]
/-- A CALL UNDER A CONTRACT. -/
theorem vcCall_sound (s : St N0 w0 Nf n ν0 σ h a w ν) {o : Oper} {f : FuncId} {args : List AV} {vs : List Value} (hargs : Rv w (nN N0 ν) ν args vs) {K : AV → Heap → Rn → Prop}
    (hv : vcCall (specs P) f args h K) (hrun : Ent P f → (execOp a.eval o).run P w = .ok (.enter f vs.toArray) w)
    (hn : ∀ r h' m a' w' ν', K r h' m → St N0 w0 Nf n ν0 ((σ.ren m).putO n o.dst r) h' a' w' ν' → next a' w') : o.wp P a w next Q := by
  rcases hv with ⟨r, ⟨he, hc⟩, hk⟩ | ⟨r, h', hc, hk⟩ | ⟨r, h', hc, hk⟩
  rotate_left
  · exact heapCall_sound s s (fun _ g => g) (fun _ _ => rfl) rfl rfl hargs hc hk hrun hn
  · generalize hq : pubs (AV.ownsL args) h.objs = q at hc
    obtain ⟨l, m⟩ := q
    obtain ⟨ν1, s1, h1, h2, h3⟩ := St.pubsR (ν := ν) (x := h.nx) (y := h.lo) _ s hq
    refine heapCall_sound s s1 ?_ h2 rfl rfl (h3 _ _ hargs) hc hk hrun hn
    rintro b (g | ⟨j, g⟩)
    · exact .inl g
    · rcases h1 j with e | e
      · exact .inr ⟨j, by rw [← e]; exact g⟩
      · rw [e] at g; simp [vblk, undef] at g
  refine wp_enter (hrun he) ?_
  cases hs : AV.scalar r with
  | true =>
    rw [hs] at hk
    let N' : Nat → Prop := fun b => nN N0 ν b ∧ ∀ id ∈ AV.ownsL args, vblk (ν id) ≠ some b
    have hview : Rv w N' (fun _ => undef) (AV.viewL h.objs args) vs := view_ok s.hp (fun b g => g.1) hargs (fun id hid b hb _ g => g.2 id hid hb)
    refine (hc N' w vs (fun b g => ?_) hview).mono fun e w' ⟨v, he', hkp, hr⟩ => ⟨v, he', hn r h (.sub []) _ w' ν hk ?_⟩
    · rcases g.1 with g | ⟨id, g⟩
      · exact s.hp.n0 b g
      · exact s.hp.bnd id b g
    · refine s.seen hkp o.dst ?_
      unfold AV.scalar at hs
      split at hs
      · rw [rv_int hr]; exact .d (.int _ _ .nil) .nil
      · rw [rv_bool hr]; exact .d (.bool _ .nil) .nil
      · obtain ⟨e1, e2⟩ := rv_str hr; rw [e1]; exact .d (.str _ e2 .nil) .nil
      · cases hs
  | false =>
    rw [hs] at hk
    simp only at hk
    generalize hq : pubs (AV.ownsL args) h.objs = q at hk
    obtain ⟨l, m⟩ := q
    obtain ⟨ν', s', h1, h2⟩ := St.pubs (ν := ν) (x := h.nx) (y := h.lo) _ s hq
    have hsub : ∀ b, nN N0 ν' b → nN N0 ν b := by
      rintro b (g | ⟨j, g⟩)
      · exact .inl g
      · rcases h1 j with e | e
        · exact .inr ⟨j, by rw [← e]; exact g⟩
        · rw [e] at g; simp [vblk, undef] at g
    have hview : Rv w (nN N0 ν') (fun _ => undef) (AV.viewL h.objs args) vs := by
      refine view_ok s.hp hsub hargs (fun id hid b hb hrow g => ?_)
      have hu := h2 id hid hrow
      rcases g with g | ⟨j, g⟩
      · exact s.hp.dis id b hb g
      · rcases h1 j with e | e
        · have hj : j = id := s.hp.inj j id b (by rw [← e]; exact g) hb
          subst hj
          rw [hu] at g
          simp [vblk, undef] at g
        · rw [e] at g; simp [vblk, undef] at g
    refine (hc (nN N0 ν') w vs (fun b g => ?_) hview).mono fun e w' ⟨v, he', hkp, hr⟩ => ⟨v, he', hn r ⟨l, h.nx, h.lo⟩ (.sub m) _ w' ν' hk (s'.seen hkp o.dst ?_)⟩
    · rcases g with g | ⟨id, g⟩
      · exact s'.hp.n0 b g
      · exact s'.hp.bnd id b g
    · exact hr.mv (Mv.refl _ _) (fun _ h => absurd rfl h)
end
end Go.Vc
