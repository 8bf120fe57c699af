/- Code, and the contract of a function. -/
import Derived.Test.YtcakciamoopkcaaGreatVcQ
set_option linter.unusedVariables false
set_option linter.unusedSimpArgs false
namespace Go.Vc
section
variable {P : Program} {T : List (Nat × TI)} {N0 Nf : Nat → Prop} {w0 w w' : World} {n : Nat} {σ σ' : Env} {h h' : Heap} {a : Act} {ν ν' ν0 : Nat → Value}

theorem wp_loopN {c : Code} {Q : Exit → Act → World → Prop} (I : Nat → Act → World → Prop) (round : ∀ k a w, I k a w → c.wp P (Exit.then (fun a' w' => ∃ k', k' < k ∧ I k' a' w') Q) a w) (k : Nat) (a : Act) (w : World) (h0 : I k a w) :
    (Code.loop c).wp P Q a w := by
  intro b kk cs
  have key : ∀ k a w, I k a w → ∃ e a' w', Q e a' w' ∧ Arrives P (lone (b.at a (.code c :: .inLoop c :: kk)) cs w) b kk cs e a' w' := by
    intro k
    induction k using Nat.strongRecOn with
    | _ k ih =>
      intro a w hI
      obtain ⟨e, a₁, w₁, hq, harr⟩ := round k a w hI b (.inLoop c :: kk) cs
      cases e with
      | normal =>
        obtain ⟨k', hlt, hI₁⟩ := hq
        obtain ⟨e₂, a₂, w₂, hq₂, harr₂⟩ := ih k' hlt a₁ w₁ hI₁
        exact ⟨e₂, a₂, w₂, hq₂, .of_steps (Steps.trans harr (.one step_inLoop)) harr₂⟩
      | exit id => exact ⟨_, a₁, w₁, hq, .pass (x := .inLoop c) rfl (fun _ _ => .inl (by simp)) harr⟩
      | goto l => exact ⟨_, a₁, w₁, hq, .pass (x := .inLoop c) rfl (fun _ _ => .inl (by simp)) harr⟩
      | ret => exact ⟨_, a₁, w₁, hq, .pass (x := .inLoop c) rfl (fun _ _ => .inl (by simp)) harr⟩
      | panic ch => exact ⟨_, a₁, w₁, hq, .pass (x := .inLoop c) rfl (fun _ _ => .inl (by simp)) harr⟩
      | outgrown => exact ⟨_, a₁, w₁, hq, .pass (x := .inLoop c) rfl (fun _ _ => .inl (by simp)) harr⟩
  obtain ⟨e, a', w', hq, harr⟩ := key k a w h0
  exact ⟨e, a', w', hq, .of_steps (.one step_loop) harr⟩

theorem Rv.lt {N N' : Nat → Prop} (m : Mv w N w N') (hν : ∀ id, id < n → ν' id = ν id) {as : List AV} {vs : List Value} (h : Rv w N ν as vs) : AV.ltL n as = true → Rv w N' ν' as vs := by
  induction h with
  | nil => intro _; exact .nil
  | any v _ ih => intro hl; simp only [AV.ltL, AV.lt, Bool.and_eq_true] at hl; exact .any v (ih hl.2)
  | d h _ ih => intro hl; simp only [AV.ltL, AV.lt, Bool.and_eq_true] at hl; exact .d (h.mv m) (ih hl.2)
  | nils _ ih => intro hl; simp only [AV.ltL, AV.lt, Bool.and_eq_true] at hl; exact .nils (ih hl.2)
  | val v _ ih => intro hl; simp only [AV.ltL, AV.lt, Bool.and_eq_true] at hl; exact .val v (ih hl.2)
  | agg xs _ _ ih1 ih2 => intro hl; simp only [AV.ltL, AV.lt, Bool.and_eq_true] at hl; exact .agg xs (ih1 hl.1) (ih2 hl.2)
  | tup xs _ _ ih1 ih2 => intro hl; simp only [AV.ltL, AV.lt, Bool.and_eq_true] at hl; exact .tup xs (ih1 hl.1) (ih2 hl.2)
  | ptr off h _ ih => intro hl; simp only [AV.ltL, AV.lt, Bool.and_eq_true] at hl; exact .ptr off (by rw [hν _ (Nat.le_of_ble_eq_true hl.1), h]) (ih hl.2)
  | at_ A cells h0 h1 h2 _ ih => intro hl; simp only [AV.ltL, AV.lt, Bool.and_eq_true] at hl; exact .at_ A cells h0 (h1.mv m) (h2.mv m) (ih hl.2)
  | rptr i off sz h hi _ ih => intro hl; simp only [AV.ltL, AV.lt, Bool.and_eq_true] at hl; exact .rptr i off sz (by rw [hν _ (Nat.le_of_ble_eq_true hl.1), h]) hi (ih hl.2)
  | own h _ ih => intro hl; simp only [AV.ltL, AV.lt, Bool.and_eq_true] at hl; exact .own (by rw [hν _ (Nat.le_of_ble_eq_true hl.1), h]) (ih hl.2)
  | mapr h _ ih => intro hl; simp only [AV.ltL, AV.lt, Bool.and_eq_true] at hl; exact .mapr (by rw [hν _ (Nat.le_of_ble_eq_true hl.1), h]) (ih hl.2)
  | fn f xs _ _ ih1 ih2 => intro hl; simp only [AV.ltL, AV.lt, Bool.and_eq_true] at hl; exact .fn f xs (ih1 hl.1) (ih2 hl.2)
  | iface t _ _ ih1 ih2 =>
    intro hl
    simp only [AV.ltL, AV.lt, Bool.and_eq_true] at hl ih1
    exact .iface t (ih1 ⟨hl.1, trivial⟩) (ih2 hl.2)

theorem leE_ok {l : List (Nat × AV)} {m : Nat} (h1 : leE l σ) (h2 : ltE m l = true) : ∀ {k v}, look l k = some v → (σ k = v ∨ norm (σ k) = v) ∧ v.lt m = true := by
  induction l with
  | nil => intro k v h; simp [look] at h
  | cons p l ih =>
    obtain ⟨j, u⟩ := p
    simp only [leE] at h1
    simp only [ltE, Bool.and_eq_true] at h2
    intro k v hk
    simp only [look] at hk
    by_cases e : k = j
    · subst e
      rw [nbT] at hk
      simp only [cond_true, Option.some.injEq] at hk
      subst hk
      refine ⟨?_, h2.1⟩
      have := h1.1
      split at this
      · exact .inr this
      · exact .inl this
    · rw [nbF e] at hk
      exact ih h1.2 h2.2 hk
theorem leO_ok {l l' : List (Nat × AO)} {m : Nat} (h1 : leO l l') (h2 : ltO m l) : ∀ {k o}, look l k = some o → look l' k = some o ∧ k < m ∧ (∀ t cs, o = .cells t cs → AV.ltL m cs = true) ∧ (∀ t tk es, o = .map t tk es → ltM m es) := by
  induction l with
  | nil => intro k o h; simp [look] at h
  | cons p l ih =>
    obtain ⟨j, u⟩ := p
    simp only [leO] at h1
    intro k o hk
    simp only [look] at hk
    by_cases e : k = j
    · subst e
      rw [nbT] at hk
      simp only [cond_true, Option.some.injEq] at hk
      subst hk
      refine ⟨h1.1, ?_⟩
      cases u with
      | cells t cs =>
        simp only [ltO, Bool.and_eq_true] at h2
        exact ⟨Nat.le_of_ble_eq_true h2.1.1, (fun t' cs' e => by injection e with _ e; rw [← e]; exact h2.1.2), (fun _ _ _ e => by cases e)⟩
      | row t sz rows => simp only [ltO] at h2; exact ⟨Nat.le_of_ble_eq_true h2.1, (fun _ _ e => by cases e), (fun _ _ _ e => by cases e)⟩
      | map t tk es => simp only [ltO] at h2; exact ⟨Nat.le_of_ble_eq_true h2.1.1, (fun _ _ e => by cases e), fun t' tk' es' e => by injection e with _ _ e; rw [← e]; exact h2.1.2⟩
    · rw [nbF e] at hk
      refine ih h1.2 ?_ hk
      cases u <;> simp only [ltO] at h2 <;> exact h2.2

theorem Km.lt {N N' : Nat → Prop} (m : Mv w N w N') (hν : ∀ id, id < n → ν' id = ν id) {tk : TK} {es : List (List D × AV)} {l : List MapEntry} (h : Km w N ν tk es l) : ltM n es → Km w N' ν' tk es l := by
  induction h with
  | nil => intro _; exact .nil
  | cons g1 g2 g3 _ ih =>
    intro hl
    simp only [ltM] at hl
    exact .cons g1 g2 (g3.lt m hν (by simp [AV.ltL, hl.1])) (ih hl.2)

theorem St.weak {l : List (Nat × AV)} (hw : Weak σ h l h') (s : St N0 w0 Nf n ν0 σ h a w ν) : ∃ ν', St N0 w0 Nf n ν0 (Env.of l) h' a w ν' ∧ (∀ id, id < h'.nx → ν' id = ν id) ∧ Mv w (nN N0 ν) w (nN N0 ν') := by
  obtain ⟨h1, h2, h3, h4, h5⟩ := hw
  simp only [Bool.and_eq_true] at h1
  obtain ⟨⟨h1, h6⟩, h7⟩ := h1
  have h6 := Nat.eq_of_beq_eq_true h6
  have h7 := Nat.le_of_ble_eq_true h7
  refine ⟨fun id => if id < h'.nx then ν id else undef, ?_⟩
  have hν : ∀ id, id < h'.nx → (fun id => if id < h'.nx then ν id else undef) id = ν id := fun id hid => by simp [hid]
  have hup : ∀ i b, vblk ((fun id => if id < h'.nx then ν id else undef) i) = some b → i < h'.nx ∧ vblk (ν i) = some b := by
    intro i b g
    by_cases e : i < h'.nx
    · exact ⟨e, by simpa [e] using g⟩
    · simp [e, undef, vblk] at g
  have hN : ∀ b, nN N0 (fun id => if id < h'.nx then ν id else undef) b → nN N0 ν b := by
    rintro b (g | ⟨i, g⟩)
    · exact .inl g
    · exact .inr ⟨i, (hup i b g).2⟩
  have m : Mv w (nN N0 ν) w (nN N0 (fun id => if id < h'.nx then ν id else undef)) := ⟨Nat.le_refl _, fun b _ hb => ⟨fun g => hb (hN b g), rfl⟩⟩
  refine ⟨⟨fun k => ?_, ⟨?_, ?_, ?_, ?_, s.hp.n0, ?_⟩, s.kp, ?_, s.size, s.defers, ?_, h7, by rw [h6]; exact s.low.2⟩, hν, m⟩
  · simp only [Env.of]
    cases hq : Vc.look l k with
    | none => exact .any _ .nil
    | some v =>
      obtain ⟨g1, g2⟩ := leE_ok h3 h2 hq
      have := s.slots k
      rcases g1 with g1 | g1
      · rw [g1] at this
        exact this.lt m hν (by simp [AV.ltL, g2])
      · have := norm_rv this
        rw [g1] at this
        exact this.lt m hν (by simp [AV.ltL, g2])
  · intro id o ho
    obtain ⟨g1, g2, g3, g4⟩ := leO_ok h5 h4 ho
    have hr := s.hp.objs id o g1
    cases o with
    | cells t cs =>
      obtain ⟨b, arr, e, q1, q2, q3⟩ := hr
      exact ⟨b, arr, e, by rw [hν id g2]; exact q1, q2, q3.lt m hν (g3 t cs rfl)⟩
    | row t sz rows =>
      obtain ⟨A, c, cells, q1, q2, q3, q4, q5, q6⟩ := hr
      exact ⟨A, c, cells, by rw [hν id g2]; exact q1, q2.mv m, q3, q4, q5, by rw [hν id g2]; exact q6⟩
    | map t tk es =>
      obtain ⟨r, arr, clock, q1, q2, q3⟩ := hr
      exact ⟨r, arr, clock, by rw [hν id g2]; exact q1, q2, q3.lt m hν (g4 t tk es rfl)⟩
  · exact fun i j b g1 g2 => s.hp.inj i j b (hup i b g1).2 (hup j b g2).2
  · exact fun i b g => s.hp.bnd i b (hup i b g).2
  · intro i hi
    have : ¬ i < h'.nx := by omega
    simp [this]
  · exact fun i b g => s.hp.dis i b (hup i b g).2
  · exact fun i b g => s.fresh i b (hup i b g).2
  · intro i g1 g2
    have : i < h'.nx := by
      rcases Nat.lt_or_ge i h'.nx with g | g
      · exact g
      · exact absurd (s.low.2 i (by omega)) g1
    simp only [this, if_true]
    exact s.keep i g1 g2

/-- CODE -/
theorem vc_sound (hT : tabB P T = true) (hm : P.follows .mixedOrders = true) : ∀ (c : Code) {σ : Env} {h : Heap} {a : Act} {w : World} {ν : Nat → Value} {Qa : Exit → Env → Heap → Prop} {Q : Exit → Act → World → Prop},
    vc T (specs P) n c σ h Qa → (∀ e σ h a w ν, Qa e σ h → St N0 w0 Nf n ν0 σ h a w ν → Q e a w) → St N0 w0 Nf n ν0 σ h a w ν → c.wp P Q a w := by
  intro c
  induction c with
  | skip => intro σ h a w ν Qa Q hv hQ s; exact wp_skip (hQ _ _ _ _ _ _ hv s)
  | region id ops draw =>
    intro σ h a w ν Qa Q hv hQ s
    cases draw with
    | false =>
      exact wp_region_list (vcOps_sound (ops := ops) hT (fun σ h a w ν hk hs => hQ _ _ _ _ _ _ hk hs) ops.toList s hv)
    | true =>
      exact vcPure_sound hT hm (fun σ a w ν hk hs => hQ _ _ _ _ _ _ hk hs) s hv.1 hv.2
  | seq x y ihx ihy =>
    intro σ h a w ν Qa Q hv hQ s
    refine wp_seq (ihx hv ?_ s)
    intro e σ' h' a' w' ν' hk hs
    cases e with
    | normal => exact ihy hk hQ hs
    | exit id => exact hQ _ _ _ _ _ _ hk hs
    | goto l => exact hQ _ _ _ _ _ _ hk hs
    | ret => exact hQ _ _ _ _ _ _ hk hs
    | panic ch => exact hQ _ _ _ _ _ _ hk hs
    | outgrown => exact hQ _ _ _ _ _ _ hk hs
  | cond c x y ihx ihy =>
    intro σ h a w ν Qa Q hv hQ s
    replace hv : vcCond c (vc T (specs P) n x) (vc T (specs P) n y) σ h Qa := hv
    unfold vcCond at hv
    split at hv
    · rename_i b e
      have hc := ev_ok s c
      rw [e] at hc
      refine wp_cond (rv_bool hc) ?_
      cases b with
      | true => exact ihx (hv.1 rfl) hQ s
      | false => exact ihy (hv.2 rfl) hQ s
    · rename_i b e
      have hc := ev_ok s c
      rw [e] at hc
      refine wp_cond (rv_val hc) ?_
      cases b with
      | true => exact ihx hv hQ s
      | false => exact ihy hv hQ s
    · exact hv.elim
  | block id c ih =>
    intro σ h a w ν Qa Q hv hQ s
    refine wp_block (ih hv ?_ s)
    intro e σ' h' a' w' ν' hk hs
    cases e with
    | exit id' =>
      simp only [Exit.inBlock]
      by_cases e : id' = id
      · subst e
        rw [if_pos rfl]
        simp only [blockK, nbT, cond_true] at hk
        exact hQ _ _ _ _ _ _ hk hs
      · rw [if_neg e]
        simp only [blockK, nbF e, cond_false] at hk
        exact hQ _ _ _ _ _ _ hk hs
    | normal => exact hQ _ _ _ _ _ _ hk hs
    | goto l => exact hQ _ _ _ _ _ _ hk hs
    | ret => exact hQ _ _ _ _ _ _ hk hs
    | panic ch => exact hQ _ _ _ _ _ _ hk hs
    | outgrown => exact hQ _ _ _ _ _ _ hk hs
  | loop c ih =>
    intro σ h a w ν Qa Q hv hQ s
    obtain ⟨I, ⟨k, l, h1, hI, hw⟩, hr⟩ := hv
    obtain ⟨ν1, s1, _⟩ := s.weak hw
    refine wp_loopN (fun k a w => ∃ l h1 ν1, I k l h1 ∧ St N0 w0 Nf n ν0 (Env.of l) h1 a w ν1) ?_ k a w ⟨l, h1, ν1, hI, s1⟩
    intro k a w ⟨l, h1, ν1, hI, s1⟩
    refine ih (hr k l h1 hI) ?_ s1
    intro e σ' h' a' w' ν' hk hs
    cases e with
    | normal =>
      obtain ⟨k', l', h'', hI', hlt, hw'⟩ := hk
      obtain ⟨ν'', s'', _⟩ := hs.weak hw'
      exact ⟨k', hlt, l', h'', ν'', hI', s''⟩
    | exit id => exact hQ _ _ _ _ _ _ hk hs
    | goto l => exact hQ _ _ _ _ _ _ hk hs
    | ret => exact hQ _ _ _ _ _ _ hk hs
    | panic ch => exact hQ _ _ _ _ _ _ hk hs
    | outgrown => exact hQ _ _ _ _ _ _ hk hs
  | exit id => intro σ h a w ν Qa Q hv hQ s; exact wp_exit (hQ _ _ _ _ _ _ hv s)
  | ret => intro σ h a w ν Qa Q hv hQ s; exact wp_ret (hQ _ _ _ _ _ _ hv s)
  | rangeFunc f ps x y => intro σ h a w ν Qa Q hv; exact hv.elim
  | scope c => intro σ h a w ν Qa Q hv; exact hv.elim
  | label l => intro σ h a w ν Qa Q hv; exact hv.elim
  | goto l => intro σ h a w ν Qa Q hv; exact hv.elim
  | refuse why => intro σ h a w ν Qa Q hv; exact hv.elim
end

/-! ### sizes that are known of what is read -/
mutual
def D.ok : D → Prop
  | .int _ _ => True
  | .bool _ => True
  | .str s => s.length ≤ big
  | .list rows => rows.length ≤ big ∧ okRows rows
termination_by structural x => x
def okRows : List (List D) → Prop
  | [] => True
  | r :: rs => okRow r ∧ okRows rs
termination_by structural x => x
def okRow : List D → Prop
  | [] => True
  | d :: ds => d.ok ∧ okRow ds
termination_by structural x => x
end
mutual
def AV.ok : AV → Prop
  | .d x => x.ok
  | .agg cs => okAs cs
  | .tup cs => okAs cs
  | .at_ ds => okRow ds
  | .iface _ x => x.ok
  | .fn _ cs => okAs cs
  | .any => True | .nils => True | .val _ => True | .ptr _ _ => True | .rptr _ _ _ _ => True | .own _ => True | .mapr _ => True
termination_by structural x => x
def okAs : List AV → Prop
  | [] => True
  | c :: cs => c.ok ∧ okAs cs
termination_by structural x => x
end
theorem okRows_iff {rows : List (List D)} : okRows rows ↔ ∀ r ∈ rows, okRow r := by
  induction rows with
  | nil => simp [okRows]
  | cons r rs ih => simp [okRows, ih]
theorem okRow_append {xs ys : List D} : okRow (xs ++ ys) ↔ okRow xs ∧ okRow ys := by
  induction xs with
  | nil => simp [okRow]
  | cons x xs ih => simp [okRow, ih, and_assoc]
theorem okRow_flatten {rows : List (List D)} (h : okRow rows.flatten) : okRows rows := by
  induction rows with
  | nil => simp [okRows]
  | cons r rs ih => simp only [List.flatten_cons, okRow_append] at h; exact ⟨h.1, ih h.2⟩
theorem Rd.ok {w : World} {N : Nat → Prop} {ds : List D} {cs : List Value} (h : Rd w N ds cs) : okRow ds := by
  induction h with
  | nil => simp [okRow]
  | int k n _ ih => exact ⟨by simp [D.ok], ih⟩
  | bool b _ ih => exact ⟨by simp [D.ok], ih⟩
  | str s hs _ ih => exact ⟨by simpa [D.ok] using hs, ih⟩
  | list rows A cap sz cells _ _ _ _ h5 _ ih1 ih2 => exact ⟨by simp only [D.ok]; exact ⟨h5, okRow_flatten ih1⟩, ih2⟩
theorem Rv.ok {w : World} {N : Nat → Prop} {ν : Nat → Value} {as : List AV} {vs : List Value} (h : Rv w N ν as vs) : okAs as := by
  induction h with
  | nil => simp [okAs]
  | d h _ ih => exact ⟨by simp only [AV.ok]; exact h.ok.1, ih⟩
  | agg xs _ _ ih1 ih2 => exact ⟨by simp only [AV.ok]; exact ih1, ih2⟩
  | tup xs _ _ ih1 ih2 => exact ⟨by simp only [AV.ok]; exact ih1, ih2⟩
  | fn f xs _ _ ih1 ih2 => exact ⟨by simp only [AV.ok]; exact ih1, ih2⟩
  | at_ A cells _ h1 _ _ ih => exact ⟨by simp only [AV.ok]; exact h1.ok, ih⟩
  | iface t _ _ ih1 ih2 => simp only [okAs] at ih1; exact ⟨by simp only [AV.ok]; exact ih1.1, ih2⟩
  | _ => rename_i ih; exact ⟨by simp only [AV.ok], ih⟩

/-- what stands in a result's place -/
def rvOut (T : List (Nat × TI)) (σ : Env) (h : Heap) : ResultVar → Option AV
  | .tmp k => some (σ k)
  | .cell k t => match look T t, σ k with
    | some ti, .ptr id off => match look h.objs id with
      | some (.cells _ cs) => loadL ti (cs.drop off)
      | _ => none
    | _, _ => none
def rvOuts (T : List (Nat × TI)) (σ : Env) (h : Heap) : List ResultVar → Option (List AV)
  | [] => some []
  | r :: rs => match rvOut T σ h r, rvOuts T σ h rs with
    | some a, some as => some (a :: as)
    | _, _ => none
/-- how a function ends -/
def retP (T : List (Nat × TI)) (rs : List ResultVar) (r : AV) (σ : Env) (h : Heap) : Prop := match rvOuts T σ h rs with
  | some [a] => AV.view h.objs a = r
  | some as => .tup (AV.viewL h.objs as) = r
  | none => False
def Ret (T : List (Nat × TI)) (rs : List ResultVar) (r : AV) : Exit → Env → Heap → Prop
  | .normal, σ, h => retP T rs r σ h
  | .ret, σ, h => retP T rs r σ h
  | _, _, _ => False

def readVar (tmps : Array Value) : ResultVar → Sem Value
  | .tmp t => pure (tmps.getD t undef)
  | .cell a t => do loadVar t (← asAddr (tmps.getD a undef))
def outV (vs : List Value) : Value := match vs with | [v] => v | vs => .tuple vs.toArray
theorem run_results {P : Program} {fn : Func} {rs : List ResultVar} (h : fn.results.toList = rs) (tmps : Array Value) (w : World) {vs : List Value} (hv : (rs.mapM (readVar tmps)).run P w = .ok vs w) : (results fn tmps).run P w = .ok (outV vs) w := by
  have e : results fn tmps = (do let vs ← fn.results.mapM (readVar tmps); pure (if h : vs.size = 1 then vs[0] else .tuple vs)) := rfl
  rw [e, Array.mapM_eq_mapM_toList, h]
  simp only [Sem.run_bind, Sem.run_map, hv, Result.andThen_ok, Sem.run_pure]
  cases vs with
  | nil => rfl
  | cons k ks => cases ks with
    | nil => rfl
    | cons k' ks => simp [outV]
section
variable {P : Program} {T : List (Nat × TI)} {N0 Nf : Nat → Prop} {w0 w : World} {n : Nat} {σ : Env} {h : Heap} {a : Act} {ν ν0 : Nat → Value}
theorem rvOut_ok (hT : tabB P T = true) (s : St N0 w0 Nf n ν0 σ h a w ν) {rv : ResultVar} {r : AV} (hr : rvOut T σ h rv = some r) : ∃ v, (readVar a.tmps rv).run P w = .ok v w ∧ Rv w (nN N0 ν) ν [r] [v] := by
  cases rv with
  | tmp k =>
    simp only [rvOut, Option.some.injEq] at hr
    subst hr
    exact ⟨_, rfl, s.slots k⟩
  | cell k t =>
    simp only [rvOut] at hr
    split at hr
    · rename_i ti id off ht hk
      have kk := tabB_ok hT ht
      split at hr
      · rename_i t' cs hl
        have hx := s.slots k
        rw [hk] at hx
        obtain ⟨b, he, hν⟩ := rv_ptr hx
        obtain ⟨b', arr, e', h1, h2, h3⟩ := s.hp.objs _ _ hl
        rw [hν] at h1
        obtain rfl : b = b' := by injection h1 with h1; injection h1 with h1; injection h1
        obtain ⟨g1, g2⟩ := loadL_ok kk.one (h3.drop off) hr
        refine ⟨_, ?_, g2⟩
        simp only [readVar, he, asAddr, Sem.run_bind, Sem.run_pure, Result.andThen_ok]
        refine run_loadVar' kk b off _ g1 (fun j u hu => ?_)
        rw [List.getElem?_take] at hu
        split at hu
        · rw [List.getElem?_drop] at hu
          simpa [World.cell?, h2] using hu
        · cases hu
      · cases hr
    · cases hr
theorem rvOuts_ok (hT : tabB P T = true) (s : St N0 w0 Nf n ν0 σ h a w ν) : ∀ {rs : List ResultVar} {as : List AV}, rvOuts T σ h rs = some as → ∃ vs, (rs.mapM (readVar a.tmps)).run P w = .ok vs w ∧ Rv w (nN N0 ν) ν as vs
  | [], as, hr => by
    simp only [rvOuts, Option.some.injEq] at hr
    subst hr
    exact ⟨[], rfl, .nil⟩
  | rv :: rs, as, hr => by
    simp only [rvOuts] at hr
    split at hr
    · rename_i x xs h1 h2
      simp only [Option.some.injEq] at hr
      subst hr
      obtain ⟨v, g1, g2⟩ := rvOut_ok hT s h1
      obtain ⟨vs, g3, g4⟩ := rvOuts_ok hT s h2
      refine ⟨v :: vs, ?_, g2.cons g4⟩
      simp only [List.mapM_cons, Sem.run_bind, g1, Result.andThen_ok, g3, Sem.run_pure]
    · cases hr
end

abbrev Spec (P : Program) (f : FuncId) (args : List AV) (r : AV) : Prop := (specs P).pure f args r

/-- THE CONTRACT OF A FUNCTION, out of its condition -/
theorem Spec.of_vc {P : Program} {T : List (Nat × TI)} (hT : tabB P T = true) (hm : P.follows .mixedOrders = true) {f : FuncId} {fn : Func} {c : Code} {args : List AV} {r : AV} (rs : List ResultVar)
    (hf : P.funcs[f]? = some fn) (hn : (fn.name == "runtime.NumGoroutine") = false) (hb : fn.body = some c) (hres : fn.results.toList = rs) (hlen : Nat.ble args.length fn.ntmps = true)
    (hv : okAs args → vc T (specs P) fn.ntmps c (Env.args args) hp0 (Ret T rs r)) : Spec P f args r := by
  refine ⟨⟨fn, hf, hn, by rw [hb]; rfl⟩, fun N w vs hN hargs => calls_of_wp hf hb ?_⟩
  have hl := hargs.length
  have hle := Nat.le_of_ble_eq_true hlen
  have s : St N w (fun _ => False) fn.ntmps (fun _ => undef) (Env.args args) hp0 { tmps := vs.toArray ++ Array.replicate (fn.ntmps - vs.toArray.size) undef, defers := [] } w (fun _ => undef) := by
    have hNe : nN N (fun _ => undef) = N := by
      funext b
      simp [nN, vblk, undef]
    refine ⟨fun k => ?_, ⟨?_, ?_, ?_, fun _ _ => rfl, hN, ?_⟩, Kp.refl _ _, ?_, by simp; omega, rfl, fun _ _ _ => rfl, Nat.le_refl _, fun _ _ => rfl⟩
    · rw [hNe]
      simp only [Env.args]
      cases hq : args[k]? with
      | none => exact .any _ .nil
      | some v =>
        obtain ⟨u, h1, h2⟩ := hargs.get hq
        have : (vs.toArray ++ Array.replicate (fn.ntmps - vs.toArray.size) undef).getD k undef = u := by
          have hk : k < vs.length := (List.getElem?_eq_some_iff.1 h1).1
          rw [Array.getD_eq_getD_getElem?, Array.getElem?_append_left (by simpa using hk)]
          simp [h1]
        rw [this]; exact h2
    · intro id o ho; simp [look, hp0] at ho
    all_goals (intro i; simp [vblk, undef])
  refine vc_sound hT hm c (hv hargs.ok) ?_ s
  intro e σ h a w' ν hk s'
  have fin : retP T rs r σ h → a.defers = [] ∧ ∃ v, (results fn a.tmps).run P w' = .ok v w' ∧ ∃ v', Ending.returned v = Ending.returned v' ∧ Kp (fun _ => False) w w' ∧ Rv w' N (fun _ => undef) [r] [v'] := by
    intro hk
    have hview : ∀ {as : List AV} {us : List Value}, Rv w' (nN N ν) ν as us → Rv w' N (fun _ => undef) (AV.viewL h.objs as) us := fun hr =>
      view_ok s'.hp (fun b g => .inl g) hr (fun id _ b hb _ => s'.hp.dis id b hb)
    unfold retP at hk
    split at hk
    · rename_i x e
      obtain ⟨vs, g1, g2⟩ := rvOuts_ok hT s' e
      refine ⟨s'.defers, _, run_results hres a.tmps w' g1, _, rfl, s'.kp, ?_⟩
      obtain ⟨v, us, rfl, g3, g4⟩ := g2.cons_inv
      cases g4
      rw [← hk]
      have := hview g3
      simp only [AV.viewL] at this
      exact this
    · rename_i as hne e
      obtain ⟨vs, g1, g2⟩ := rvOuts_ok hT s' e
      refine ⟨s'.defers, _, run_results hres a.tmps w' g1, _, rfl, s'.kp, ?_⟩
      rw [← hk]
      have hlen := g2.length
      have : outV vs = .tuple vs.toArray := by
        cases vs with
        | nil => rfl
        | cons v vs => cases vs with
          | nil => cases as with
            | nil => simp at hlen
            | cons x xs => cases xs with
              | nil => exact absurd rfl (hne _)
              | cons y ys => simp at hlen
          | cons u vs => rfl
      rw [this]
      exact .tup _ (hview g2) .nil
    · exact hk.elim
  cases e with
  | normal => exact fin hk
  | ret => exact fin hk
  | exit id => exact hk.elim
  | goto l => exact hk.elim
  | panic ch => exact hk.elim
  | outgrown => exact hk.elim

/-! ### contracts over objects of the caller's -/
/-- what is handed out: a decided bool and an empty row stand as data -/
def normR : AV → AV
  | .val (.bool b) => .d (.bool b)
  | .nils => .d (.list [])
  | a => a
theorem normR_rv {w : World} {ν : Nat → Value} {N : Nat → Prop} {a : AV} {v : Value} (h : Rv w N ν [a] [v]) : Rv w N ν [normR a] [v] := by
  unfold normR
  split
  · cases h; exact .d (.bool _ .nil) .nil
  · cases h; exact .d (.list [] none 0 0 [] .nil (by simp) (.inl rfl) (Nat.le_refl _) (Nat.zero_le _) .nil) .nil
  · exact h
theorem normR_rvs {w : World} {ν : Nat → Value} {N : Nat → Prop} : ∀ {as : List AV} {vs : List Value}, Rv w N ν as vs → Rv w N ν (as.map normR) vs
  | [], _, h => by cases h; exact .nil
  | a :: as, vs, h => by
    obtain ⟨v, r, rfl, h1, h2⟩ := h.cons_inv
    exact (normR_rv h1).cons (normR_rvs h2)
def retH0 (T : List (Nat × TI)) (rs : List ResultVar) (r : AV) (h1 : Heap) (σ : Env) (h : Heap) : Prop := (match rvOuts T σ h rs with
  | some [a] => normR a = r
  | some as => .tup (as.map normR) = r
  | none => False) ∧ AV.lt h1.nx r = true ∧ Weak σ h [] h1
/-- rows of the call's own that are handed out become data -/
def retH (T : List (Nat × TI)) (rs : List ResultVar) (r : AV) (h1 : Heap) (σ : Env) (h : Heap) : Prop := match rvOuts T σ h rs with
  | some as => match pubs (AV.ownsL as) h.objs with
    | (l, m) => retH0 T rs r h1 (Env.subs m σ) ⟨l, h.nx, h.lo⟩
  | none => False
/-- how a function over objects of the caller's ends: its answer, and the heap that it leaves -/
def RetH (T : List (Nat × TI)) (rs : List ResultVar) (r : AV) (h1 : Heap) : Exit → Env → Heap → Prop
  | .normal, σ, h => retH T rs r h1 σ h
  | .ret, σ, h => retH T rs r h1 σ h
  | _, _, _ => False
abbrev HSpec (P : Program) (f : FuncId) (args : List AV) (h : Heap) (r : AV) (h' : Heap) : Prop := (specs P).heap f args h r h'

theorem HSpec.of_vc {P : Program} {T : List (Nat × TI)} (hT : tabB P T = true) (hm : P.follows .mixedOrders = true) {f : FuncId} {fn : Func} {c : Code} {args : List AV} {h h1 : Heap} {r : AV} (rs : List ResultVar)
    (hf : P.funcs[f]? = some fn) (hn : (fn.name == "runtime.NumGoroutine") = false) (hb : fn.body = some c) (hres : fn.results.toList = rs) (hlen : Nat.ble args.length fn.ntmps = true)
    (hlo : h.lo = h1.lo) (hv : okAs args → vc T (specs P) fn.ntmps c (Env.args args) ⟨h.objs, h.nx, h.nx⟩ (RetH T rs r ⟨h1.objs, h1.nx, h.nx⟩)) : HSpec P f args h r h1 := by
  refine ⟨⟨fn, hf, hn, by rw [hb]; rfl⟩, fun N0 w ν0 vs hhp hargs => calls_of_wp hf hb ?_⟩
  have hl := hargs.length
  have hle := Nat.le_of_ble_eq_true hlen
  have s : St N0 w (fun b => ∃ id, vblk (ν0 id) = some b) fn.ntmps ν0 (Env.args args) ⟨h.objs, h.nx, h.nx⟩ { tmps := vs.toArray ++ Array.replicate (fn.ntmps - vs.toArray.size) undef, defers := [] } w ν0 := by
    refine ⟨fun k => ?_, ⟨hhp.objs, hhp.inj, hhp.bnd, hhp.dom, hhp.n0, hhp.dis⟩, Kp.refl _ _, fun i b g => .inr ⟨i, g⟩, by simp; omega, rfl, fun _ _ _ => rfl, Nat.le_refl _, hhp.dom⟩
    simp only [Env.args]
    cases hq : args[k]? with
    | none => exact .any _ .nil
    | some v =>
      obtain ⟨u, h1, h2⟩ := hargs.get hq
      have : (vs.toArray ++ Array.replicate (fn.ntmps - vs.toArray.size) undef).getD k undef = u := by
        have hk : k < vs.length := (List.getElem?_eq_some_iff.1 h1).1
        rw [Array.getD_eq_getD_getElem?, Array.getElem?_append_left (by simpa using hk)]
        simp [h1]
      rw [this]; exact h2
  refine vc_sound hT hm c (hv hargs.ok) ?_ s
  intro e σ hh a w' ν hk s'
  have fin : retH T rs r ⟨h1.objs, h1.nx, h.nx⟩ σ hh → a.defers = [] ∧ ∃ v, (results fn a.tmps).run P w' = .ok v w' ∧ ∃ v' ν', Ending.returned v = Ending.returned v' ∧ Hp N0 w' ν' h1 ∧ Rv w' (nN N0 ν') ν' [r] [v'] ∧
      Kp (fun b => ∃ id, vblk (ν0 id) = some b) w w' ∧ (∀ id, ν0 id ≠ undef → (∀ A m c, ν0 id ≠ .slice A m c) → ν' id = ν0 id) ∧ (∀ id b, vblk (ν' id) = some b → (∃ j, vblk (ν0 j) = some b) ∨ w.heap.size ≤ b) ∧ h1.lo = h.lo ∧ h.nx ≤ h1.nx := by
    intro hq
    unfold retH at hq
    split at hq
    case h_2 => exact hq.elim
    rename_i as0 e0
    generalize ep : pubs (AV.ownsL as0) hh.objs = q at hq
    obtain ⟨l, m⟩ := q
    obtain ⟨ν, s', _, _⟩ := St.pubs (AV.ownsL as0) (l := hh.objs) (x := hh.nx) (y := hh.lo) s' ep
    obtain ⟨hk, hrlt, hw⟩ := hq
    have hout : ∃ v, (results fn a.tmps).run P w' = .ok v w' ∧ Rv w' (nN N0 ν) ν [r] [v] := by
      split at hk
      · rename_i x e
        obtain ⟨vs, g1, g2⟩ := rvOuts_ok hT s' e
        refine ⟨_, run_results hres a.tmps w' g1, ?_⟩
        obtain ⟨v, us, rfl, g3, g4⟩ := g2.cons_inv
        cases g4
        rw [← hk]
        exact normR_rv g3
      · rename_i as hne e
        obtain ⟨vs, g1, g2⟩ := rvOuts_ok hT s' e
        refine ⟨_, run_results hres a.tmps w' g1, ?_⟩
        rw [← hk]
        have hlen := g2.length
        have : outV vs = .tuple vs.toArray := by
          cases vs with
          | nil => rfl
          | cons v vs => cases vs with
            | nil => cases as with
              | nil => simp at hlen
              | cons x xs => cases xs with
                | nil => exact absurd rfl (hne _)
                | cons y ys => simp at hlen
            | cons u vs => rfl
        rw [this]
        exact .tup _ (normR_rvs g2) .nil
      · exact hk.elim
    obtain ⟨vr, hrun, hout⟩ := hout
    have hb := hw.1
    simp only [Bool.and_eq_true] at hb
    obtain ⟨ν'', s'', hν, m⟩ := s'.weak hw
    refine ⟨s'.defers, _, hrun, _, ν'', rfl, ⟨s''.hp.objs, s''.hp.inj, s''.hp.bnd, s''.hp.dom, s''.hp.n0, s''.hp.dis⟩, hout.lt m hν (by simp only [AV.ltL, hrlt, Bool.and_self]), s''.kp, s''.keep, fun i b g => (s''.fresh i b g).symm, hlo.symm, Nat.le_of_ble_eq_true hb.2⟩
  cases e with
  | normal => exact fin hk
  | ret => exact fin hk
  | exit id => exact hk.elim
  | goto l => exact hk.elim
  | panic ch => exact hk.elim
  | outgrown => exact hk.elim
end Go.Vc
