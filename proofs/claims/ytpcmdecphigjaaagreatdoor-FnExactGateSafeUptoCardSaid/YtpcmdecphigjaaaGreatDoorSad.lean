/- Part 4 of a proof: Code, and the contract of a function. Iterators: the contract of a function that hands values to the rounds of a range over it. -/
import Derived.Test.YtpcmdecphigjaaaGreatDoorSaa
import Derived.Test.YtpcmdecphigjaaaGreatDoorSab
import Derived.Test.YtpcmdecphigjaaaGreatDoorSac
import Derived.Scope
section
set_option linter.unusedVariables false
set_option linter.unusedSimpArgs false
namespace Go.Vc
section
variable {P : Program} {ro : Option Nat} {q : Bool} {T : List (Nat × TI)} {N0 Nf : Nat → Prop} {w0 w w' : World} {n : Nat} {σ σ' : Env} {h h' : Heap} {a : Act} {ν ν' ν0 : Nat → Value}

theorem wp_loopN {c : Code} {Q : Exit → Act → World → Prop} (I : Nat → Act → World → Prop) (round : ∀ k a w, I k a w → c.wpIn (G ro) 0 P (Exit.then (fun a' w' => ∃ k', k' < k ∧ I k' a' w') Q) a w) (k : Nat) (a : Act) (w : World) (h0 : I k a w) :
    (Code.loop c).wpIn (G ro) 0 P Q a w := by
  intro b kk cs hro hb hr
  have key : ∀ k a w, I k a w → ∃ e a' w', Q e a' w' ∧ ArrivesIn (Machine.fenced P (G ro)) P (lone (b.atR a (.code c :: .inLoop c :: kk)) cs w) b kk cs e a' w' := by
    intro k
    induction k using Nat.strongRecOn with
    | _ k ih =>
      intro a w hI
      obtain ⟨e, a₁, w₁, hq, harr⟩ := round k a w hI b (.inLoop c :: kk) cs hro hb hr
      cases e with
      | normal =>
        obtain ⟨k', hlt, hI₁⟩ := hq
        obtain ⟨e₂, a₂, w₂, hq₂, harr₂⟩ := ih k' hlt a₁ w₁ hI₁
        exact ⟨e₂, a₂, w₂, hq₂, .of_steps (StepsIn.trans harr (.one (fenced_calm hb hr rfl) stepR_inLoop)) harr₂⟩
      | exit id => exact ⟨_, a₁, w₁, hq, .pass (x := .inLoop c) rfl (fun _ _ => .inl (by simp)) harr⟩
      | goto l => exact ⟨_, a₁, w₁, hq, .pass (x := .inLoop c) rfl (fun _ _ => .inl (by simp)) harr⟩
      | ret => exact ⟨_, a₁, w₁, hq, .pass (x := .inLoop c) rfl (fun _ _ => .inl (by simp)) harr⟩
      | panic ch => exact ⟨_, a₁, w₁, hq, .pass (x := .inLoop c) rfl (fun _ _ => .inl (by simp)) harr⟩
      | outgrown => exact ⟨_, a₁, w₁, hq, .pass (x := .inLoop c) rfl (fun _ _ => .inl (by simp)) harr⟩
  obtain ⟨e, a', w', hq, harr⟩ := key k a w h0
  exact ⟨e, a', w', hq, .of_steps (.one (fenced_calm hb hr rfl) stepR_loop) harr⟩

theorem stepR_scope {b : Frame} {k : List Item} {cs : List Frame} {c : Code} : step P (lone (b.atR a (.code (.scope c) :: k)) cs w) = .next (lone (b.atR a (.code c :: .inScope c :: k)) cs w) :=
  step_lone_go (by simp [stepG, stepG.exec, Frame.atR])
theorem stepR_inScope {b : Frame} {k : List Item} {cs : List Frame} {c : Code} : step P (lone (b.atR a (.inScope c :: k)) cs w) = .next (lone (b.atR a k) cs w) :=
  step_lone_go (by simp [stepG, stepG.exec, Frame.atR])
/-- a scope into which nobody jumps -/
theorem wpIn_scope0 {c : Code} {Q : Exit → Act → World → Prop} (h : c.wpIn (G ro) 0 P (Exit.noGoto Q) a w) : (Code.scope c).wpIn (G ro) 0 P Q a w := by
  intro b k cs hro hb hr
  have h0 : (lone (b.atR a (.code (.scope c) :: k)) cs w).fenced P (G ro) := fenced_calm hb hr rfl
  obtain ⟨e, a₁, w₁, hq, harr⟩ := h b (.inScope c :: k) cs hro hb hr
  cases e with
  | normal => exact ⟨.normal, a₁, w₁, hq, .head h0 stepR_scope (StepsIn.trans harr (.one (fenced_calm hb hr rfl) stepR_inScope))⟩
  | exit id =>
    have hx : exitTo id (.inScope c :: k) = exitTo id k := by simp [exitTo]
    exact ⟨.exit id, a₁, w₁, hq, fun k' hk => .head h0 stepR_scope (harr.1 k' (by rw [hx]; exact hk)),
        fun hr' hk => let ⟨k₁, h1, h2⟩ := harr.2 hr' (by rw [hx]; exact hk); ⟨k₁, h1, .head h0 stepR_scope h2⟩⟩
  | goto l => exact hq.elim
  | ret => exact ⟨_, a₁, w₁, hq, .of_steps (.one h0 stepR_scope) harr⟩
  | panic ch => exact ⟨_, a₁, w₁, hq, .of_steps (.one h0 stepR_scope) harr⟩
  | outgrown => exact ⟨_, a₁, w₁, hq, .of_steps (.one h0 stepR_scope) harr⟩
/-- CODE -/
theorem vcB_sound (hT : tabB P T = true) (hm : P.follows .mixedOrders = true) : ∀ (c : Code) {w0 : World} {Nf : Nat → Prop} {ν0 : Nat → Value} {q : Bool} {ro : Option Nat} {rd : Bool} (hrd : rd = false → q = false ∧ ro = none) {σ : Env} {h : Heap} {a : Act} {w : World} {ν : Nat → Value} {Qa : Exit → Env → Heap → Prop} {Q : Exit → Act → World → Prop},
    vcB T (specs P) n c rd σ h Qa → (∀ e σ h a w ν, Qa e σ h → St q N0 w0 Nf n ν0 σ h a w ν → Q e a w) → St q N0 w0 Nf n ν0 σ h a w ν → c.wpIn (G ro) 0 P Q a w := by
  intro c
  induction c with
  | skip => intro w0 Nf ν0 q ro rd hrd σ h a w ν Qa Q hv hQ s; exact wpIn_skip (hQ _ _ _ _ _ _ hv s)
  | region id ops draw =>
    intro w0 Nf ν0 q ro rd hrd σ h a w ν Qa Q hv hQ s
    cases draw with
    | false =>
      exact wpIn_region_list (vcOps_sound (ops := ops) hT (fun σ h a w ν hk hs => hQ _ _ _ _ _ _ hk hs) ops.toList s hv)
    | true =>
      exact vcDraw_sound hT hm (fun σ h a w ν hk hs => hQ _ _ _ _ _ _ hk hs) s hv
  | seq x y ihx ihy =>
    intro w0 Nf ν0 q ro rd hrd σ h a w ν Qa Q hv hQ s
    refine wpIn_seq (ihx hrd hv ?_ s)
    intro e σ' h' a' w' ν' hk hs
    cases e with
    | normal => exact ihy hrd hk hQ hs
    | exit id => exact hQ _ _ _ _ _ _ hk hs
    | goto l => exact hQ _ _ _ _ _ _ hk hs
    | ret => exact hQ _ _ _ _ _ _ hk hs
    | panic ch => exact hQ _ _ _ _ _ _ hk hs
    | outgrown => exact hQ _ _ _ _ _ _ hk hs
  | cond c x y ihx ihy =>
    intro w0 Nf ν0 q ro rd hrd σ h a w ν Qa Q hv hQ s
    replace hv : vcCond c (vcB T (specs P) n x rd) (vcB T (specs P) n y rd) σ h Qa := hv
    unfold vcCond at hv
    split at hv
    · rename_i b e
      have hc := ev_ok s c
      rw [e] at hc
      refine wpIn_cond (rv_bool hc) ?_
      cases b with
      | true => exact ihx hrd (hv.1 rfl) hQ s
      | false => exact ihy hrd (hv.2 rfl) hQ s
    · rename_i b e
      have hc := ev_ok s c
      rw [e] at hc
      refine wpIn_cond (rv_val hc) ?_
      cases b with
      | true => exact ihx hrd hv hQ s
      | false => exact ihy hrd hv hQ s
    · exact hv.elim
  | block id c ih =>
    intro w0 Nf ν0 q ro rd hrd σ h a w ν Qa Q hv hQ s
    refine wpIn_block (ih hrd hv ?_ s)
    intro e σ' h' a' w' ν' hk hs
    cases e with
    | exit id' =>
      simp only [Exit.inBlock]
      by_cases e : id' = id
      · subst e
        rw [if_pos rfl]
        simp only [blockK, nbT, cond_true] at hk
        exact hQ _ _ _ _ _ _ hk hs
      · rw [if_neg e]
        simp only [blockK, nbF e, cond_false] at hk
        exact hQ _ _ _ _ _ _ hk hs
    | normal => exact hQ _ _ _ _ _ _ hk hs
    | goto l => exact hQ _ _ _ _ _ _ hk hs
    | ret => exact hQ _ _ _ _ _ _ hk hs
    | panic ch => exact hQ _ _ _ _ _ _ hk hs
    | outgrown => exact hQ _ _ _ _ _ _ hk hs
  | loop c ih =>
    intro w0 Nf ν0 q ro rd hrd σ h a w ν Qa Q hv hQ s
    obtain ⟨I, ⟨k, l, h1, hI, hw⟩, hr⟩ := hv
    obtain ⟨ν1, s1, _⟩ := s.weak hw
    refine wp_loopN (fun k a w => ∃ l h1 ν1, I k l h1 ∧ St q N0 w0 Nf n ν0 (Env.of l) h1 a w ν1) ?_ k a w ⟨l, h1, ν1, hI, s1⟩
    intro k a w ⟨l, h1, ν1, hI, s1⟩
    refine ih hrd (hr k l h1 hI) ?_ s1
    intro e σ' h' a' w' ν' hk hs
    cases e with
    | normal =>
      obtain ⟨k', l', h'', hI', hlt, hw'⟩ := hk
      obtain ⟨ν'', s'', _⟩ := hs.weak hw'
      exact ⟨k', hlt, l', h'', ν'', hI', s''⟩
    | exit id => exact hQ _ _ _ _ _ _ hk hs
    | goto l => exact hQ _ _ _ _ _ _ hk hs
    | ret => exact hQ _ _ _ _ _ _ hk hs
    | panic ch => exact hQ _ _ _ _ _ _ hk hs
    | outgrown => exact hQ _ _ _ _ _ _ hk hs
  | exit id => intro w0 Nf ν0 q ro rd hrd σ h a w ν Qa Q hv hQ s; exact wpIn_exit (hQ _ _ _ _ _ _ hv s)
  | ret => intro w0 Nf ν0 q ro rd hrd σ h a w ν Qa Q hv hQ s; exact wpIn_ret (hQ _ _ _ _ _ _ hv s)
  | rangeFunc g ps x y ihx ihy =>
    intro w0 Nf ν0 q ro rd hrd σ h a w ν Qa Q hv hQ s
    cases rd with
    | true => exact hv.elim
    | false =>
      obtain ⟨rfl, rfl⟩ := hrd rfl
      exact range_sound hv hQ s (fun hv hQ s => ihx (fun e => by cases e) hv hQ s) (fun hv hQ s => ihy (fun e => by cases e) hv hQ s)
  | scope c ih =>
    intro w0 Nf ν0 q ro rd hrd σ h a w ν Qa Q hv hQ s
    refine wpIn_scope0 (ih hrd hv ?_ s)
    intro e σ' h' a' w' ν' hk hs
    cases e with
    | goto l => exact hk.elim
    | normal => exact hQ _ _ _ _ _ _ hk hs
    | exit id => exact hQ _ _ _ _ _ _ hk hs
    | ret => exact hQ _ _ _ _ _ _ hk hs
    | panic ch => exact hQ _ _ _ _ _ _ hk hs
    | outgrown => exact hQ _ _ _ _ _ _ hk hs
  | label l => intro w0 Nf ν0 q ro rd hrd σ h a w ν Qa Q hv hQ s; exact wpIn_label (hQ _ _ _ _ _ _ hv s)
  | goto l => intro w0 Nf ν0 q ro rd hrd σ h a w ν Qa Q hv; exact hv.elim
  | refuse why => intro w0 Nf ν0 q ro rd hrd σ h a w ν Qa Q hv; exact hv.elim
theorem vc_sound (hT : tabB P T = true) (hm : P.follows .mixedOrders = true) (c : Code) {σ : Env} {h : Heap} {a : Act} {w : World} {ν : Nat → Value} {Qa : Exit → Env → Heap → Prop} {Q : Exit → Act → World → Prop}
    (hv : vc T (specs P) n c σ h Qa) (hQ : ∀ e σ h a w ν, Qa e σ h → St false N0 w0 Nf n ν0 σ h a w ν → Q e a w) (s : St false N0 w0 Nf n ν0 σ h a w ν) : c.wpIn (G none) 0 P Q a w :=
  vcB_sound hT hm c (fun _ => ⟨rfl, rfl⟩) hv hQ s
end

/-! ### sizes that are known of what is read -/
mutual
def D.ok : D → Prop
  | .int _ _ => True
  | .bool _ => True
  | .str s => s.length ≤ big
  | .list rows => rows.length ≤ big ∧ okRows rows
  | .fn _ => True
  | .raw _ => True
termination_by structural x => x
def okRows : List (List D) → Prop
  | [] => True
  | r :: rs => okRow r ∧ okRows rs
termination_by structural x => x
def okRow : List D → Prop
  | [] => True
  | d :: ds => d.ok ∧ okRow ds
termination_by structural x => x
end
mutual
def AV.ok : AV → Prop
  | .d x => x.ok
  | .agg cs => okAs cs
  | .tup cs => okAs cs
  | .at_ ds => okRow ds
  | .iface _ x => x.ok
  | .fn _ cs => okAs cs
  | .bfn _ cs => okAs cs
  | .any => True | .nils => True | .val _ => True | .ptr _ _ => True | .rptr _ _ _ _ => True | .own _ => True | .mapr _ => True
termination_by structural x => x
def okAs : List AV → Prop
  | [] => True
  | c :: cs => c.ok ∧ okAs cs
termination_by structural x => x
end
theorem okRows_iff {rows : List (List D)} : okRows rows ↔ ∀ r ∈ rows, okRow r := by
  induction rows with
  | nil => simp [okRows]
  | cons r rs ih => simp [okRows, ih]
theorem okRow_append {xs ys : List D} : okRow (xs ++ ys) ↔ okRow xs ∧ okRow ys := by
  induction xs with
  | nil => simp [okRow]
  | cons x xs ih => simp [okRow, ih, and_assoc]
theorem okRow_flatten {rows : List (List D)} (h : okRow rows.flatten) : okRows rows := by
  induction rows with
  | nil => simp [okRows]
  | cons r rs ih => simp only [List.flatten_cons, okRow_append] at h; exact ⟨h.1, ih h.2⟩
theorem Rd.ok {w : World} {N : Nat → Prop} {ds : List D} {cs : List Value} (h : Rd w N ds cs) : okRow ds := by
  induction h with
  | nil => simp [okRow]
  | int k n _ ih => exact ⟨by simp [D.ok], ih⟩
  | bool b _ ih => exact ⟨by simp [D.ok], ih⟩
  | str s hs _ ih => exact ⟨by simpa [D.ok] using hs, ih⟩
  | fn f _ ih => exact ⟨by simp [D.ok], ih⟩
  | raw v _ _ ih => exact ⟨by simp [D.ok], ih⟩
  | list rows A cap sz cells _ _ _ _ h5 _ ih1 ih2 => exact ⟨by simp only [D.ok]; exact ⟨h5, okRow_flatten ih1⟩, ih2⟩
theorem Rv.ok {w : World} {N : Nat → Prop} {ν : Nat → Value} {as : List AV} {vs : List Value} (h : Rv w N ν as vs) : okAs as := by
  induction h with
  | nil => simp [okAs]
  | d h _ ih => exact ⟨by simp only [AV.ok]; exact h.ok.1, ih⟩
  | agg xs _ _ ih1 ih2 => exact ⟨by simp only [AV.ok]; exact ih1, ih2⟩
  | tup xs _ _ ih1 ih2 => exact ⟨by simp only [AV.ok]; exact ih1, ih2⟩
  | fn f xs _ _ ih1 ih2 => exact ⟨by simp only [AV.ok]; exact ih1, ih2⟩
  | bfn f xs _ _ ih1 ih2 => exact ⟨by simp only [AV.ok]; exact ih1, ih2⟩
  | at_ A cells _ h1 _ _ ih => exact ⟨by simp only [AV.ok]; exact h1.ok, ih⟩
  | iface t _ _ ih1 ih2 => simp only [okAs] at ih1; exact ⟨by simp only [AV.ok]; exact ih1.1, ih2⟩
  | _ => rename_i ih; exact ⟨by simp only [AV.ok], ih⟩

/-- what stands in a result's place -/
def rvOut (T : List (Nat × TI)) (σ : Env) (h : Heap) : ResultVar → Option AV
  | .tmp k => some (σ k)
  | .cell k t => match look T t, σ k with
    | some ti, .ptr id off => match look h.objs id with
      | some (.cells _ cs) => loadL ti (cs.drop off)
      | _ => none
    | _, _ => none
def rvOuts (T : List (Nat × TI)) (σ : Env) (h : Heap) : List ResultVar → Option (List AV)
  | [] => some []
  | r :: rs => match rvOut T σ h r, rvOuts T σ h rs with
    | some a, some as => some (a :: as)
    | _, _ => none
/-- how a function ends -/
def retP (T : List (Nat × TI)) (rs : List ResultVar) (r : AV) (σ : Env) (h : Heap) : Prop := match rvOuts T σ h rs with
  | some [a] => AV.lookV h.objs a = r
  | some as => .tup (AV.lookL h.objs as) = r
  | none => False
def Ret (T : List (Nat × TI)) (rs : List ResultVar) (r : AV) : Exit → Env → Heap → Prop
  | .normal, σ, h => retP T rs r σ h
  | .ret, σ, h => retP T rs r σ h
  | _, _, _ => False

def readVar (tmps : Array Value) : ResultVar → Sem Value
  | .tmp t => pure (tmps.getD t undef)
  | .cell a t => do loadVar t (← asAddr (tmps.getD a undef))
def outV (vs : List Value) : Value := match vs with | [v] => v | vs => .tuple vs.toArray
theorem run_results {P : Program} {fn : Func} {rs : List ResultVar} (h : fn.results.toList = rs) (tmps : Array Value) (w : World) {vs : List Value} (hv : (rs.mapM (readVar tmps)).run P w = .ok vs w) : (results fn tmps).run P w = .ok (outV vs) w := by
  have e : results fn tmps = (do let vs ← fn.results.mapM (readVar tmps); pure (if h : vs.size = 1 then vs[0] else .tuple vs)) := rfl
  rw [e, Array.mapM_eq_mapM_toList, h]
  simp only [Sem.run_bind, Sem.run_map, hv, Result.andThen_ok, Sem.run_pure]
  cases vs with
  | nil => rfl
  | cons k ks => cases ks with
    | nil => rfl
    | cons k' ks => simp [outV]
section
variable {P : Program} {ro : Option Nat} {q : Bool} {T : List (Nat × TI)} {N0 Nf : Nat → Prop} {w0 w : World} {n : Nat} {σ : Env} {h : Heap} {a : Act} {ν ν0 : Nat → Value}
theorem rvOut_ok (hT : tabB P T = true) (s : St q N0 w0 Nf n ν0 σ h a w ν) {rv : ResultVar} {r : AV} (hr : rvOut T σ h rv = some r) : ∃ v, (readVar a.tmps rv).run P w = .ok v w ∧ Rv w (nN N0 ν) ν [r] [v] := by
  cases rv with
  | tmp k =>
    simp only [rvOut, Option.some.injEq] at hr
    subst hr
    exact ⟨_, rfl, s.slots k⟩
  | cell k t =>
    simp only [rvOut] at hr
    split at hr
    · rename_i ti id off ht hk
      have kk := tabB_ok hT ht
      split at hr
      · rename_i t' cs hl
        have hx := s.slots k
        rw [hk] at hx
        obtain ⟨b, he, hν⟩ := rv_ptr hx
        obtain ⟨b', arr, e', h1, h2, h3⟩ := s.hp.objs _ _ hl
        rw [hν] at h1
        obtain rfl : b = b' := by injection h1 with h1; injection h1 with h1; injection h1
        obtain ⟨g1, g2⟩ := loadL_ok kk.one (h3.drop off) hr
        refine ⟨_, ?_, g2⟩
        simp only [readVar, he, asAddr, Sem.run_bind, Sem.run_pure, Result.andThen_ok]
        refine run_loadVar' kk b off _ g1 (fun j u hu => ?_)
        rw [List.getElem?_take] at hu
        split at hu
        · rw [List.getElem?_drop] at hu
          simpa [World.cell?, h2] using hu
        · cases hu
      · cases hr
    · cases hr
theorem rvOuts_ok (hT : tabB P T = true) (s : St q N0 w0 Nf n ν0 σ h a w ν) : ∀ {rs : List ResultVar} {as : List AV}, rvOuts T σ h rs = some as → ∃ vs, (rs.mapM (readVar a.tmps)).run P w = .ok vs w ∧ Rv w (nN N0 ν) ν as vs
  | [], as, hr => by
    simp only [rvOuts, Option.some.injEq] at hr
    subst hr
    exact ⟨[], rfl, .nil⟩
  | rv :: rs, as, hr => by
    simp only [rvOuts] at hr
    split at hr
    · rename_i x xs h1 h2
      simp only [Option.some.injEq] at hr
      subst hr
      obtain ⟨v, g1, g2⟩ := rvOut_ok hT s h1
      obtain ⟨vs, g3, g4⟩ := rvOuts_ok hT s h2
      refine ⟨v :: vs, ?_, g2.cons g4⟩
      simp only [List.mapM_cons, Sem.run_bind, g1, Result.andThen_ok, g3, Sem.run_pure]
    · cases hr
end

abbrev Spec (P : Program) (f : FuncId) (args : List AV) (r : AV) : Prop := (specs P).pure f args r

/-- THE CONTRACT OF A FUNCTION, out of its condition -/
theorem Spec.of_vc {P : Program} {T : List (Nat × TI)} (hT : tabB P T = true) (hm : P.follows .mixedOrders = true) {f : FuncId} {fn : Func} {c : Code} {args : List AV} {r : AV} (rs : List ResultVar)
    (hf : P.funcs[f]? = some fn) (hn : (fn.name == "runtime.NumGoroutine") = false) (hb : fn.body = some c) (hres : fn.results.toList = rs) (hlen : Nat.ble args.length fn.ntmps = true)
    (hv : okAs args → vc T (specs P) fn.ntmps c (Env.args args) hp0 (Ret T rs r)) : Spec P f args r := by
  refine ⟨⟨fn, hf, hn, by rw [hb]; rfl⟩, fun N w vs hN hlw hargs => callsIn_wide.1 (callsIn_of_wp_marks (F := G none) (n := 0) hf hb trivial ?_)⟩
  have hl := hargs.length
  have hle := Nat.le_of_ble_eq_true hlen
  have s : St false N w (fun _ => False) fn.ntmps (fun _ => undef) (Env.args args) hp0 { tmps := vs.toArray ++ Array.replicate (fn.ntmps - vs.toArray.size) undef, defers := [] } w (fun _ => undef) := by
    have hNe : nN N (fun _ => undef) = N := by
      funext b
      simp [nN, vblk, undef]
    refine ⟨fun k => ?_, ⟨?_, ?_, ?_, fun _ _ => rfl, hN, ?_, hlw⟩, Kp.refl _ _, ?_, by simp; omega, Dfr.nil _ _ _ _, fun _ _ _ => rfl, Nat.le_refl _, fun _ _ => rfl⟩
    · rw [hNe]
      simp only [Env.args]
      cases hq : args[k]? with
      | none => exact .any _ .nil
      | some v =>
        obtain ⟨u, h1, h2⟩ := hargs.get hq
        have : (vs.toArray ++ Array.replicate (fn.ntmps - vs.toArray.size) undef).getD k undef = u := by
          have hk : k < vs.length := (List.getElem?_eq_some_iff.1 h1).1
          rw [Array.getD_eq_getD_getElem?, Array.getElem?_append_left (by simpa using hk)]
          simp [h1]
        rw [this]; exact h2
    · intro id o ho; simp [look, hp0] at ho
    all_goals (intro i; simp [vblk, undef])
  refine vc_sound hT hm c (hv hargs.ok) ?_ s
  intro e σ h a w' ν hk s'
  have fin : retP T rs r σ h → ∀ w', St false N w (fun _ => False) fn.ntmps (fun _ => undef) σ h { a with defers := [] } w' ν → ∃ v, (results fn a.tmps).run P w' = .ok v w' ∧ ∃ v', Ending.returned v = Ending.returned v' ∧ Kp (fun _ => False) w w' ∧ Rv w' N (fun _ => undef) [r] [v'] := by
    intro hk w' s'
    have hview : ∀ {as : List AV} {us : List Value}, Rv w' (nN N ν) ν as us → Rv w' N (fun _ => undef) (AV.lookL h.objs as) us := fun hr => look_ok s'.hp hr
    unfold retP at hk
    split at hk
    · rename_i x e
      obtain ⟨vs, g1, g2⟩ := rvOuts_ok hT s' e
      refine ⟨_, run_results hres a.tmps w' g1, _, rfl, s'.kp, ?_⟩
      obtain ⟨v, us, rfl, g3, g4⟩ := g2.cons_inv
      cases g4
      rw [← hk]
      have := hview g3
      simp only [AV.lookL] at this
      exact this
    · rename_i as hne e
      obtain ⟨vs, g1, g2⟩ := rvOuts_ok hT s' e
      refine ⟨_, run_results hres a.tmps w' g1, _, rfl, s'.kp, ?_⟩
      rw [← hk]
      have hlen := g2.length
      have : outV vs = .tuple vs.toArray := by
        cases vs with
        | nil => rfl
        | cons v vs => cases vs with
          | nil => cases as with
            | nil => simp at hlen
            | cons x xs => cases xs with
              | nil => exact absurd rfl (hne _)
              | cons y ys => simp at hlen
          | cons u vs => rfl
      rw [this]
      exact .tup _ (hview g2) .nil
    · exact hk.elim
  cases e with
  | normal =>
    obtain ⟨_, Ds, hd, _⟩ := s'.defers
    show LeavesInM (G none) 0 P fn a.tmps _ a.defers .returning w'
    rw [hd]
    exact leave_marks Ds s' hd (fin hk)
  | ret =>
    obtain ⟨_, Ds, hd, _⟩ := s'.defers
    show LeavesInM (G none) 0 P fn a.tmps _ a.defers .returning w'
    rw [hd]
    exact leave_marks Ds s' hd (fin hk)
  | exit id => exact hk.elim
  | goto l => exact hk.elim
  | panic ch => exact hk.elim
  | outgrown => exact hk.elim

/-! ### contracts over objects of the caller's -/
/-- what is handed out: a decided bool and an empty row stand as data -/
def normR : AV → AV
  | .val (.bool b) => .d (.bool b)
  | .nils => .d (.list [])
  | a => a
theorem normR_rv {w : World} {ν : Nat → Value} {N : Nat → Prop} {a : AV} {v : Value} (h : Rv w N ν [a] [v]) : Rv w N ν [normR a] [v] := by
  unfold normR
  split
  · cases h; exact .d (.bool _ .nil) .nil
  · cases h; exact .d (.list [] none 0 0 [] .nil (by simp) (.inl rfl) (Nat.le_refl _) (Nat.zero_le _) .nil) .nil
  · exact h
theorem normR_rvs {w : World} {ν : Nat → Value} {N : Nat → Prop} : ∀ {as : List AV} {vs : List Value}, Rv w N ν as vs → Rv w N ν (as.map normR) vs
  | [], _, h => by cases h; exact .nil
  | a :: as, vs, h => by
    obtain ⟨v, r, rfl, h1, h2⟩ := h.cons_inv
    exact (normR_rv h1).cons (normR_rvs h2)
def retH0 (T : List (Nat × TI)) (rs : List ResultVar) (r : AV) (h1 : Heap) (σ : Env) (h : Heap) : Prop := (match rvOuts T σ h rs with
  | some [a] => normR a = r
  | some as => .tup (as.map normR) = r
  | none => False) ∧ AV.lt h1.nx r = true ∧ Weak σ h [] h1
/-- rows of the call's own that are handed out become data -/
def retH (pb : Bool) (T : List (Nat × TI)) (rs : List ResultVar) (r : AV) (h1 : Heap) (σ : Env) (h : Heap) : Prop := match rvOuts T σ h rs with
  | some as => match pubs (bif pb then AV.ownsL as else []) h.objs with
    | (l, m) => retH0 T rs r h1 (Env.subs m σ) ⟨l, h.nx, h.lo⟩
  | none => False
/-- how a function over objects of the caller's ends: its answer, and the heap that it leaves -/
def RetH (T : List (Nat × TI)) (rs : List ResultVar) (r : AV) (h1 : Heap) : Exit → Env → Heap → Prop
  | .normal, σ, h => retH true T rs r h1 σ h
  | .ret, σ, h => retH true T rs r h1 σ h
  | _, _, _ => False
/-- .. and hands out rows of its own as such -/
def RetO (T : List (Nat × TI)) (rs : List ResultVar) (r : AV) (h1 : Heap) : Exit → Env → Heap → Prop
  | .normal, σ, h => retH false T rs r h1 σ h
  | .ret, σ, h => retH false T rs r h1 σ h
  | _, _, _ => False
abbrev HSpec (P : Program) (f : FuncId) (args : List AV) (h : Heap) (r : AV) (h' : Heap) : Prop := (specs P).heap f args h r h'

theorem HSpec.of_vcb {P : Program} (pb : Bool) {T : List (Nat × TI)} (hT : tabB P T = true) (hm : P.follows .mixedOrders = true) {f : FuncId} {fn : Func} {c : Code} {args : List AV} {h h1 : Heap} {r : AV} (rs : List ResultVar)
    (hf : P.funcs[f]? = some fn) (hn : (fn.name == "runtime.NumGoroutine") = false) (hb : fn.body = some c) (hres : fn.results.toList = rs) (hlen : Nat.ble args.length fn.ntmps = true)
    (hlo : h.lo = h1.lo) (hv : okAs args → vc T (specs P) fn.ntmps c (Env.args args) ⟨h.objs, h.nx, h.nx⟩ (match pb with | true => RetH T rs r ⟨h1.objs, h1.nx, h.nx⟩ | false => RetO T rs r ⟨h1.objs, h1.nx, h.nx⟩)) : HSpec P f args h r h1 := by
  refine ⟨⟨fn, hf, hn, by rw [hb]; rfl⟩, fun N0 w ν0 vs hhp hargs => callsIn_wide.1 (callsIn_of_wp_marks (F := G none) (n := 0) hf hb trivial ?_)⟩
  have hl := hargs.length
  have hle := Nat.le_of_ble_eq_true hlen
  have s : St false N0 w (fun b => ∃ id, vblk (ν0 id) = some b) fn.ntmps ν0 (Env.args args) ⟨h.objs, h.nx, h.nx⟩ { tmps := vs.toArray ++ Array.replicate (fn.ntmps - vs.toArray.size) undef, defers := [] } w ν0 := by
    refine ⟨fun k => ?_, ⟨hhp.objs, hhp.inj, hhp.bnd, hhp.dom, hhp.n0, hhp.dis, hhp.lw⟩, Kp.refl _ _, fun i b g => .inr ⟨i, g⟩, by simp; omega, Dfr.nil _ _ _ _, fun _ _ _ => rfl, Nat.le_refl _, hhp.dom⟩
    simp only [Env.args]
    cases hq : args[k]? with
    | none => exact .any _ .nil
    | some v =>
      obtain ⟨u, h1, h2⟩ := hargs.get hq
      have : (vs.toArray ++ Array.replicate (fn.ntmps - vs.toArray.size) undef).getD k undef = u := by
        have hk : k < vs.length := (List.getElem?_eq_some_iff.1 h1).1
        rw [Array.getD_eq_getD_getElem?, Array.getElem?_append_left (by simpa using hk)]
        simp [h1]
      rw [this]; exact h2
  refine vc_sound hT hm c (hv hargs.ok) ?_ s
  intro e σ hh a w' ν hk s'
  have fin : retH pb T rs r ⟨h1.objs, h1.nx, h.nx⟩ σ hh → ∀ w', St false N0 w (fun b => ∃ id, vblk (ν0 id) = some b) fn.ntmps ν0 σ hh { a with defers := [] } w' ν → ∃ v, (results fn a.tmps).run P w' = .ok v w' ∧ ∃ v' ν', Ending.returned v = Ending.returned v' ∧ Hp N0 w' ν' h1 ∧ Rv w' (nN N0 ν') ν' [r] [v'] ∧
      Kp (fun b => ∃ id, vblk (ν0 id) = some b) w w' ∧ (∀ id, ν0 id ≠ undef → (∀ A m c, ν0 id ≠ .slice A m c) → ν' id = ν0 id) ∧ (∀ id b, vblk (ν' id) = some b → (∃ j, vblk (ν0 j) = some b) ∨ w.heap.size ≤ b) ∧ h1.lo = h.lo ∧ h.nx ≤ h1.nx := by
    intro hq w' s'
    unfold retH at hq
    split at hq
    case h_2 => exact hq.elim
    rename_i as0 e0
    generalize ep : pubs (bif pb then AV.ownsL as0 else []) hh.objs = q at hq
    obtain ⟨l, m⟩ := q
    obtain ⟨ν, s', _, _⟩ := St.pubs (bif pb then AV.ownsL as0 else []) (l := hh.objs) (x := hh.nx) (y := hh.lo) s' ep
    obtain ⟨hk, hrlt, hw⟩ := hq
    have hout : ∃ v, (results fn a.tmps).run P w' = .ok v w' ∧ Rv w' (nN N0 ν) ν [r] [v] := by
      split at hk
      · rename_i x e
        obtain ⟨vs, g1, g2⟩ := rvOuts_ok hT s' e
        refine ⟨_, run_results hres a.tmps w' g1, ?_⟩
        obtain ⟨v, us, rfl, g3, g4⟩ := g2.cons_inv
        cases g4
        rw [← hk]
        exact normR_rv g3
      · rename_i as hne e
        obtain ⟨vs, g1, g2⟩ := rvOuts_ok hT s' e
        refine ⟨_, run_results hres a.tmps w' g1, ?_⟩
        rw [← hk]
        have hlen := g2.length
        have : outV vs = .tuple vs.toArray := by
          cases vs with
          | nil => rfl
          | cons v vs => cases vs with
            | nil => cases as with
              | nil => simp at hlen
              | cons x xs => cases xs with
                | nil => exact absurd rfl (hne _)
                | cons y ys => simp at hlen
            | cons u vs => rfl
        rw [this]
        exact .tup _ (normR_rvs g2) .nil
      · exact hk.elim
    obtain ⟨vr, hrun, hout⟩ := hout
    have hb := hw.1
    simp only [Bool.and_eq_true] at hb
    obtain ⟨ν'', s'', hν, m⟩ := s'.weak hw
    refine ⟨_, hrun, _, ν'', rfl, ⟨s''.hp.objs, s''.hp.inj, s''.hp.bnd, s''.hp.dom, s''.hp.n0, s''.hp.dis, s''.hp.lw⟩, hout.lt m hν (by simp only [AV.ltL, hrlt, Bool.and_self]), s''.kp, s''.keep, fun i b g => (s''.fresh i b g).symm, hlo.symm, Nat.le_of_ble_eq_true hb.2⟩
  cases e with
  | normal =>
    obtain ⟨_, Ds, hd, _⟩ := s'.defers
    show LeavesInM (G none) 0 P fn a.tmps _ a.defers .returning w'
    rw [hd]
    exact leave_marks Ds s' hd (fin (by cases pb <;> exact hk))
  | ret =>
    obtain ⟨_, Ds, hd, _⟩ := s'.defers
    show LeavesInM (G none) 0 P fn a.tmps _ a.defers .returning w'
    rw [hd]
    exact leave_marks Ds s' hd (fin (by cases pb <;> exact hk))
  | exit id => cases pb <;> exact hk.elim
  | goto l => cases pb <;> exact hk.elim
  | panic ch => cases pb <;> exact hk.elim
  | outgrown => cases pb <;> exact hk.elim
theorem HSpec.of_vc {P : Program} {T : List (Nat × TI)} (hT : tabB P T = true) (hm : P.follows .mixedOrders = true) {f : FuncId} {fn : Func} {c : Code} {args : List AV} {h h1 : Heap} {r : AV} (rs : List ResultVar)
    (hf : P.funcs[f]? = some fn) (hn : (fn.name == "runtime.NumGoroutine") = false) (hb : fn.body = some c) (hres : fn.results.toList = rs) (hlen : Nat.ble args.length fn.ntmps = true)
    (hlo : h.lo = h1.lo) (hv : okAs args → vc T (specs P) fn.ntmps c (Env.args args) ⟨h.objs, h.nx, h.nx⟩ (RetH T rs r ⟨h1.objs, h1.nx, h.nx⟩)) : HSpec P f args h r h1 :=
  HSpec.of_vcb true hT hm rs hf hn hb hres hlen hlo hv
/-- rows of its own are handed out as such -/
theorem HSpec.of_vcO {P : Program} {T : List (Nat × TI)} (hT : tabB P T = true) (hm : P.follows .mixedOrders = true) {f : FuncId} {fn : Func} {c : Code} {args : List AV} {h h1 : Heap} {r : AV} (rs : List ResultVar)
    (hf : P.funcs[f]? = some fn) (hn : (fn.name == "runtime.NumGoroutine") = false) (hb : fn.body = some c) (hres : fn.results.toList = rs) (hlen : Nat.ble args.length fn.ntmps = true)
    (hlo : h.lo = h1.lo) (hv : okAs args → vc T (specs P) fn.ntmps c (Env.args args) ⟨h.objs, h.nx, h.nx⟩ (RetO T rs r ⟨h1.objs, h1.nx, h.nx⟩)) : HSpec P f args h r h1 :=
  HSpec.of_vcb false hT hm rs hf hn hb hres hlen hlo hv
end Go.Vc
end

section
set_option linter.unusedVariables false
set_option linter.unusedSimpArgs false
namespace Go.Vc
mutual
/-- what is known behind a round: of the call's own objects nothing -/
def AV.past : AV → AV
  | .agg cs => .agg (AV.pastL cs)
  | .tup cs => .tup (AV.pastL cs)
  | .fn f cs => .fn f (AV.pastL cs)
  | .bfn f cs => .bfn f (AV.pastL cs)
  | .iface t x => .iface t (AV.past x)
  | .any => .any
  | .d x => .d x
  | .nils => .nils
  | .val v => .val v
  | .at_ ds => .at_ ds
  | .ptr _ _ => .any
  | .rptr _ _ _ _ => .any
  | .own _ => .any
  | .mapr _ => .any
termination_by structural x => x
def AV.pastL : List AV → List AV
  | [] => []
  | c :: cs => AV.past c :: AV.pastL cs
termination_by structural x => x
end
/-- yield, called -/
def yieldArgs (ρ : Operand → AV) : Op → Option (Nat × List AV)
  | .call c => match c.callee with
    | .value f => match ρ f with
      | .val (.func (.yield l) ⟨[]⟩ ⟨[]⟩) => some (l, c.args.toList.map ρ)
      | _ => none
    | _ => none
  | _ => none
/-- known without memory -/
def AV.flat1 : AV → AV
  | .d (.list _) => .any
  | .d x => .d x
  | .val v => .val v
  | _ => .any
/-- where a round has left the loop: no operation looks at memory -/
def stopOp (ρ : Operand → AV) : Op → Option AV
  | .move x => some (ρ x)
  | .assign x => some (ρ x)
  | .unOp .not _ x => match ρ x with
    | .d (.bool b) => some (.d (.bool (!b)))
    | .val (.bool b) => some (.val (.bool (!b)))
    | _ => none
  | .pick c a b => match ρ c with
    | .d (.bool t) => some (pickAV t (ρ a) (ρ b))
    | .val (.bool t) => some (bif t then ρ a else ρ b)
    | _ => none
  | _ => none
/-- 'k': how many rows were handed out; none: a round has left the loop -/
def vcYield (l : Nat) (xs : List (List AV → Prop)) (n : Nat) (d : Option Nat) (l' : Nat) (args : List AV) (j : Nat) (σ : Env) (K : Option Nat → Env → Heap → Prop) : Prop :=
  l' = l ∧ (∃ X, xs[j]? = some X ∧ ∀ x, thinL args x → X x) ∧
    K (some (j + 1)) (Env.putO (fun i => (σ i).past) n d (.val (.bool true))) hp0 ∧ K none (Env.putO (fun i => (σ i).flat1) n d (.val (.bool false))) hp0
noncomputable def vcYOp (T : List (Nat × TI)) (S : Specs) (l : Nat) (xs : List (List AV → Prop)) (n : Nat) (o : Oper) (k : Option Nat) (σ : Env) (h : Heap) (K : Option Nat → Env → Heap → Prop) : Prop := match k with
  | some j => match yieldArgs (ev σ) o.op with
    | some (l', args) => vcYield l xs n o.dst l' args j σ K
    | none => vcOp T S (ev σ) h o.op fun r h' m => putK σ m n o.dst r fun σ' => heapK o.op h' fun h'' => K (some j) σ' h''
  | none => match stopOp (ev σ) o.op with
    | some r => putK σ (.sub []) n o.dst r fun σ' => K none σ' h
    | none => False
noncomputable def vcYStep (T : List (Nat × TI)) (S : Specs) (l0 : Nat) (xs : List (List AV → Prop)) (n : Nat) (ops : Array Oper) (o : Oper) (ih : Option Nat → Env → Heap → (Option Nat → Env → Heap → Prop) → Prop) (k : Option Nat) (σ : Env) (h : Heap) (K : Option Nat → Env → Heap → Prop) : Prop :=
  match o.guard with
  | none => vcYOp T S l0 xs n o k σ h fun k σ h => ih k σ h K
  | some (g, want) => match (ops[g]?).bind (·.dst) with
    | none => False
    | some gd => match σ gd with
      | .d (.bool b) =>
        br want b (vcYOp T S l0 xs n o k (σ.put gd (.val (.bool want))) h fun k σ h => ih k σ h K)
          (ih k ((σ.put gd (.val (.bool (!want)))).putO n o.dst (.val undef)) h K)
      | .val (.bool b) => match b == want with
        | true => vcYOp T S l0 xs n o k σ h fun k σ h => ih k σ h K
        | false => ih k (σ.putO n o.dst (.val undef)) h K
      | .val (.tuple _) => ih k (σ.putO n o.dst (.val undef)) h K
      | _ => False
noncomputable def vcYOps (T : List (Nat × TI)) (S : Specs) (l0 : Nat) (xs : List (List AV → Prop)) (n : Nat) (ops : Array Oper) (l : List Oper) : Option Nat → Env → Heap → (Option Nat → Env → Heap → Prop) → Prop :=
  List.rec (motive := fun _ => Option Nat → Env → Heap → (Option Nat → Env → Heap → Prop) → Prop) (fun k σ h K => K k σ h) (fun o _ ih => vcYStep T S l0 xs n ops o ih) l
theorem vcYOps_cons {T : List (Nat × TI)} {S : Specs} {l0 : Nat} {xs : List (List AV → Prop)} {n : Nat} {ops : Array Oper} {o : Oper} {l : List Oper} {k : Option Nat} {σ : Env} {h : Heap} {K : Option Nat → Env → Heap → Prop} :
    vcYOps T S l0 xs n ops (o :: l) k σ h K = vcYStep T S l0 xs n ops o (vcYOps T S l0 xs n ops l) k σ h K := rfl
abbrev VcY := Option Nat → Env → Heap → (Exit → Option Nat → Env → Heap → Prop) → Prop
def thenY (b : VcY) (Q : Exit → Option Nat → Env → Heap → Prop) (e : Exit) (k : Option Nat) (σ : Env) (h : Heap) : Prop := match e with
  | .normal => b k σ h Q
  | e => Q e k σ h
def blockY (id : Nat) (Q : Exit → Option Nat → Env → Heap → Prop) (e : Exit) (k : Option Nat) (σ : Env) (h : Heap) : Prop := match e with
  | .exit id' => bif Nat.beq id' id then Q .normal k σ h else Q (.exit id') k σ h
  | e => Q e k σ h
def scopeY (Q : Exit → Option Nat → Env → Heap → Prop) : Exit → Option Nat → Env → Heap → Prop
  | .goto _, _, _, _ => False
  | e, k, σ, h => Q e k σ h
def roundY (I : Nat → Nat → List (Nat × AV) → Heap → Prop) (m : Nat) (Q : Exit → Option Nat → Env → Heap → Prop) (e : Exit) (k : Option Nat) (σ : Env) (h : Heap) : Prop := match e with
  | .normal => ∃ j m' l' h'', k = some j ∧ I m' j l' h'' ∧ m' < m ∧ Weak σ h l' h''
  | e => Q e k σ h
def vcCondY (c : Operand) (t e : VcY) (k : Option Nat) (σ : Env) (h : Heap) (Q : Exit → Option Nat → Env → Heap → Prop) : Prop := match ev σ c with
  | .d (.bool b) => (b = true → t k σ h Q) ∧ (b = false → e k σ h Q)
  | .val (.bool b) => match b with
    | true => t k σ h Q
    | false => e k σ h Q
  | _ => False
def vcLoopY (c : VcY) (k : Option Nat) (σ : Env) (h : Heap) (Q : Exit → Option Nat → Env → Heap → Prop) : Prop :=
  ∃ I : Nat → Nat → List (Nat × AV) → Heap → Prop, (∃ j m l h', k = some j ∧ I m j l h' ∧ Weak σ h l h') ∧ ∀ m j l h1, I m j l h1 → c (some j) (Env.of l) h1 (roundY I m Q)
noncomputable def vcRegionY (T : List (Nat × TI)) (S : Specs) (l0 : Nat) (xs : List (List AV → Prop)) (n : Nat) (ops : Array Oper) (draw : Bool) (k : Option Nat) (σ : Env) (h : Heap) (Q : Exit → Option Nat → Env → Heap → Prop) : Prop := match draw with
  | false => vcYOps T S l0 xs n ops ops.toList k σ h (Q .normal)
  | true => match k with
    | some j => vcRegion T S n ops true σ h fun e σ h => Q e (some j) σ h
    | none => False
noncomputable def vcY (T : List (Nat × TI)) (S : Specs) (l0 : Nat) (xs : List (List AV → Prop)) (n : Nat) (c : Code) : VcY :=
  Code.rec (motive := fun _ => VcY) (skip := fun k σ h Q => Q .normal k σ h) (region := fun _ ops draw => vcRegionY T S l0 xs n ops draw)
    (seq := fun _ _ iha ihb k σ h Q => iha k σ h (thenY ihb Q)) (cond := fun c _ _ t e => vcCondY c t e)
    (block := fun id _ ih k σ h Q => ih k σ h (blockY id Q)) (loop := fun _ ih => vcLoopY ih)
    (rangeFunc := fun _ _ _ _ _ _ _ _ _ _ => False)
    (exit := fun id k σ h Q => Q (.exit id) k σ h) (scope := fun _ ih k σ h Q => ih k σ h (scopeY Q)) (label := fun _ k σ h Q => Q .normal k σ h) (goto := fun _ _ _ _ _ => False)
    (ret := fun k σ h Q => Q .ret k σ h) (refuse := fun _ _ _ _ _ => False) c

section
variable {P : Program} {ro : Option Nat} {q : Bool} {T : List (Nat × TI)} {N N0 Nf : Nat → Prop} {w0 w w' : World} {n : Nat} {σ σ' : Env} {h h' : Heap} {a : Act} {ν ν' ν0 : Nat → Value} {xs : List (List AV → Prop)}
theorem Rv.past (k : CellsKeep N w w') : ∀ {as : List AV} {vs : List Value}, Rv w N ν as vs → Rv w' N ν' (AV.pastL as) vs := by
  intro as vs h
  induction h with
  | nil => exact .nil
  | any v _ ih => exact .any v ih
  | d h1 _ ih => exact .d (h1.cells k) ih
  | nils _ ih => exact .nils ih
  | val v _ ih => exact .val v ih
  | agg ys _ _ ih1 ih2 => exact .agg ys ih1 ih2
  | tup ys _ _ ih1 ih2 => exact .tup ys ih1 ih2
  | ptr off _ _ ih => exact .any _ ih
  | at_ A cells hne h1 h2 _ ih =>
    refine .at_ A cells hne (h1.cells k) ?_ ih
    rcases h2 with h | ⟨b, o, e, hb, hc⟩
    · exact .inl h
    · exact .inr ⟨b, o, e, hb, fun j v hv => k.2 _ _ hb (hc j v hv)⟩
  | rptr i off sz _ _ _ ih => exact .any _ ih
  | own _ _ ih => exact .any _ ih
  | mapr _ _ ih => exact .any _ ih
  | fn f ys _ _ ih1 ih2 => exact .fn f ys ih1 ih2
  | bfn f ys _ _ ih1 ih2 => exact .bfn f ys ih1 ih2
  | iface t _ _ ih1 ih2 =>
    simp only [AV.pastL] at ih1
    exact .iface t ih1 ih2
/-- values alone, read anywhere -/
theorem Rv.thinC : ∀ {as : List AV} {vs : List Value}, Rv w N ν as vs → ∃ x, Vc.thinC as x ∧ ∀ w' N' ν', Rv w' N' ν' x vs := by
  intro as vs h
  induction h with
  | nil => exact ⟨[], rfl, fun _ _ _ => .nil⟩
  | any v _ ih => obtain ⟨x, h1, h2⟩ := ih; exact ⟨.any :: x, ⟨x, rfl, h1⟩, fun _ _ _ => .any v (h2 _ _ _)⟩
  | @d as vs x v h1 _ ih =>
    obtain ⟨y, h3, h2⟩ := ih
    cases x with
    | list rows =>
      obtain ⟨A, cap, sz, cells, rfl, _⟩ := rv_list (ν := ν) (.d h1 .nil)
      exact ⟨.d (.raw (.slice A rows.length cap)) :: y, ⟨A, cap, y, rfl, h3⟩, fun _ _ _ => .d (.raw _ rfl .nil) (h2 _ _ _)⟩
    | int k m => cases h1 with | int _ _ _ => exact ⟨.d (.int k m) :: y, ⟨y, rfl, h3⟩, fun _ _ _ => .d (.int _ _ .nil) (h2 _ _ _)⟩
    | bool b => cases h1 with | bool _ _ => exact ⟨.d (.bool b) :: y, ⟨y, rfl, h3⟩, fun _ _ _ => .d (.bool _ .nil) (h2 _ _ _)⟩
    | str s => cases h1 with | str _ hs _ => exact ⟨.d (.str s) :: y, ⟨y, rfl, h3⟩, fun _ _ _ => .d (.str _ hs .nil) (h2 _ _ _)⟩
    | fn f => cases h1 with | fn _ _ => exact ⟨.d (.fn f) :: y, ⟨y, rfl, h3⟩, fun _ _ _ => .d (.fn _ .nil) (h2 _ _ _)⟩
    | raw v => cases h1 with | raw _ hv _ => exact ⟨.d (.raw v) :: y, ⟨y, rfl, h3⟩, fun _ _ _ => .d (.raw _ hv .nil) (h2 _ _ _)⟩
  | nils _ ih => obtain ⟨x, h1, h2⟩ := ih; exact ⟨.nils :: x, ⟨x, rfl, h1⟩, fun _ _ _ => .nils (h2 _ _ _)⟩
  | val v _ ih => obtain ⟨x, h1, h2⟩ := ih; exact ⟨.val v :: x, ⟨x, rfl, h1⟩, fun _ _ _ => .val v (h2 _ _ _)⟩
  | agg ys _ _ _ ih => obtain ⟨x, h1, h2⟩ := ih; exact ⟨.any :: x, ⟨x, rfl, h1⟩, fun _ _ _ => .any _ (h2 _ _ _)⟩
  | tup ys _ _ _ ih => obtain ⟨x, h1, h2⟩ := ih; exact ⟨.any :: x, ⟨x, rfl, h1⟩, fun _ _ _ => .any _ (h2 _ _ _)⟩
  | ptr off _ _ ih => obtain ⟨x, h1, h2⟩ := ih; exact ⟨.any :: x, ⟨x, rfl, h1⟩, fun _ _ _ => .any _ (h2 _ _ _)⟩
  | at_ A cells _ _ _ _ ih => obtain ⟨x, h1, h2⟩ := ih; exact ⟨.any :: x, ⟨x, rfl, h1⟩, fun _ _ _ => .any _ (h2 _ _ _)⟩
  | rptr i off sz _ _ _ ih => obtain ⟨x, h1, h2⟩ := ih; exact ⟨.any :: x, ⟨x, rfl, h1⟩, fun _ _ _ => .any _ (h2 _ _ _)⟩
  | own _ _ ih => obtain ⟨x, h1, h2⟩ := ih; exact ⟨.any :: x, ⟨x, rfl, h1⟩, fun _ _ _ => .any _ (h2 _ _ _)⟩
  | mapr _ _ ih => obtain ⟨x, h1, h2⟩ := ih; exact ⟨.any :: x, ⟨x, rfl, h1⟩, fun _ _ _ => .any _ (h2 _ _ _)⟩
  | fn f ys _ _ _ ih => obtain ⟨x, h1, h2⟩ := ih; exact ⟨.any :: x, ⟨x, rfl, h1⟩, fun _ _ _ => .any _ (h2 _ _ _)⟩
  | bfn f ys _ _ _ ih => obtain ⟨x, h1, h2⟩ := ih; exact ⟨.any :: x, ⟨x, rfl, h1⟩, fun _ _ _ => .any _ (h2 _ _ _)⟩
  | iface t _ _ _ ih => obtain ⟨x, h1, h2⟩ := ih; exact ⟨.any :: x, ⟨x, rfl, h1⟩, fun _ _ _ => .any _ (h2 _ _ _)⟩
theorem Rv.thinL : ∀ {as : List AV} {vs : List Value}, Rv w N ν as vs → ∃ x, Vc.thinL as x ∧ ∀ w' N' ν', Rv w' N' ν' x vs
  | [], vs, h => by cases h; exact ⟨[], rfl, fun _ _ _ => .nil⟩
  | a :: as, vs, h => by
    obtain ⟨v, r, rfl, h1, h2⟩ := h.cons_inv
    obtain ⟨y, g1, g2⟩ := Rv.thinL h2
    by_cases ha : ∃ cs, a = .agg cs
    · obtain ⟨cs, rfl⟩ := ha
      obtain ⟨ys, rfl, h3⟩ := rv_agg h1
      obtain ⟨x, g3, g4⟩ := h3.thinC
      exact ⟨.agg x :: y, ⟨x, y, rfl, g3, g1⟩, fun _ _ _ => .agg _ (g4 _ _ _) (g2 _ _ _)⟩
    · obtain ⟨x, g3, g4⟩ := h1.thinC
      refine ⟨x ++ y, ?_, fun _ _ _ => (g4 _ _ _).append (g2 _ _ _)⟩
      cases a with
      | agg cs => exact absurd ⟨cs, rfl⟩ ha
      | _ => exact ⟨x, y, rfl, g3, g1⟩
theorem wp_round {o : Oper} {l : Nat} {args : Array Value} {R : Ending → World → Prop} {next : Act → World → Prop} {Q : Exit → Act → World → Prop}
    (hr : (execOp a.eval o).run P w = (Instr.yield l args).run P w) (h : YieldAt (G none) 0 P l args w R) (hn : ∀ e w', R e w' → ∃ v, e = .returned v ∧ next (a.put o.dst v) w') : o.wpIn (G none) 0 P a w next Q := by
  obtain ⟨fn, tmps, assign, body, h1, h2⟩ := h
  refine ⟨fun _ _ => trivial, ?_⟩
  have e := semAt_run (ro := none) (fun d h => by cases h) (hr.trans h1)
  show o.uponIn (G none) 0 P a next Q ((o.semAt none a.eval).run P w)
  rw [e]
  refine ⟨fun h => by simp [G, Fence.wide] at h, h2.mono fun e w'' hR => ?_⟩
  obtain ⟨v, rfl, hv⟩ := hn e w'' hR
  exact hv
theorem yieldArgs_ok {o : Oper} {l : Nat} {args : List AV} (hy : yieldArgs (ev σ) o.op = some (l, args)) (s : St q N0 w0 Nf n ν0 σ h a w ν) :
    ∃ (vs : List Value), Rv w (nN N0 ν) ν args vs ∧ ((execOp a.eval o).run P w = (Instr.yield l vs.toArray).run P w) := by
  unfold yieldArgs at hy
  split at hy
  · rename_i c hop
    split at hy
    · rename_i f hc
      split at hy
      · rename_i l e
        simp only [Option.some.injEq, Prod.mk.injEq] at hy
        obtain ⟨rfl, hy⟩ := hy
        have hf := ev_ok s f
        rw [e] at hf
        have h1 := rv_val hf
        refine ⟨c.args.toList.map a.eval, by rw [← hy]; exact evs_ok s _, ?_⟩
        have harr : #[] ++ c.args.map a.eval = (c.args.toList.map a.eval).toArray := by apply Array.ext'; simp
        unfold execOp
        rw [hop]
        simp only [resolve, hc, h1, Deferred.ofValue, Sem.run_bind, Sem.run_pure, Result.andThen_ok, invoke]
        rw [show ({ toList := [] } : Array Value) ++ Array.map a.eval c.args = (c.args.toList.map a.eval).toArray from harr]
      · cases hy
    · cases hy
  · cases hy
theorem flat1_rv {x : AV} {v : Value} (hr : Rv w N ν [x] [v]) (w' : World) (N' : Nat → Prop) (ν' : Nat → Value) : Rv w' N' ν' [x.flat1] [v] := by
  cases x with
  | d x =>
    cases hr with
    | d h1 _ =>
      cases x with
      | list rows => exact .any _ .nil
      | int k m => cases h1; exact .d (.int _ _ .nil) .nil
      | bool b => cases h1; exact .d (.bool _ .nil) .nil
      | str s => cases h1 with | str _ hs _ => exact .d (.str _ hs .nil) .nil
      | fn f => cases h1; exact .d (.fn _ .nil) .nil
      | raw v => cases h1 with | raw _ hv _ => exact .d (.raw _ hv .nil) .nil
  | val u => rw [rv_val hr]; exact .val _ .nil
  | _ => exact .any _ .nil
/-! ### the state of an iterator -/
variable {wc : World} {νc : Nat → Value} {hc : Heap}
/-- a round has left the loop: what is known stands in no memory -/
def Zs (n : Nat) (σ : Env) (a : Act) : Prop := (∀ i w N ν, Rv w N ν [σ i] [a.tmps.getD i undef]) ∧ a.tmps.size = n ∧ a.defers = []
def Ys (N0 : Nat → Prop) (wc : World) (νc : Nat → Value) (hc : Heap) (n : Nat) (xs : List (List AV → Prop)) (J Jx : List (Elem wc (nN N0 νc) νc xs) → World → Prop) (k : Option Nat) (σ : Env) (h : Heap) (a : Act) (w : World) : Prop := match k with
  | some j => ∃ w1 ν, St true (nN N0 νc) w1 (fun _ => False) n (fun _ => undef) σ h a w ν ∧ Hp N0 w1 νc hc ∧ CellsKeep (nN N0 νc) wc w1 ∧ ∃ pre : List (Elem wc (nN N0 νc) νc xs), pre.map (·.1.1) = List.range j ∧ j ≤ xs.length ∧ J pre w1
  | none => Zs n σ a ∧ ∃ pre, Jx pre w
variable {J Jx : List (Elem wc (nN N0 νc) νc xs) → World → Prop} {k : Option Nat} {l0 : Nat}
theorem Zs.ev (s : Zs n σ a) (x : Operand) (w : World) (N : Nat → Prop) (ν : Nat → Value) : Rv w N ν [ev σ x] [a.eval x] := by
  cases x with
  | tmp t => exact s.1 t w N ν
  | const v => exact cst_ok v
  | func f => exact .fn f [] .nil .nil
  | global g => exact .any _ .nil
theorem Zs.put (s : Zs n σ a) (d : Option Nat) {r : AV} {v : Value} (hr : ∀ w N ν, Rv w N ν [r] [v]) : Zs n (σ.putO n d r) (a.put d v) :=
  ⟨fun i w N ν => slots_put (fun i => s.1 i w N ν) s.2.1 d (hr w N ν) i, by rw [size_put, s.2.1], by rw [defers_put, s.2.2]⟩
theorem Zs.know (s : Zs n σ a) {k : Nat} {x : AV} (hx : ∀ w N ν, Rv w N ν [x] [a.tmps.getD k undef]) : Zs n (σ.put k x) a := by
  refine ⟨fun j w N ν => ?_, s.2⟩
  unfold Env.put
  by_cases e : j = k
  · subst e; rw [nbT]; exact hx w N ν
  · rw [nbF e]; exact s.1 j w N ν
theorem stopOp_ok {o : Oper} {r : AV} (hs : stopOp (ev σ) o.op = some r) (s : Zs n σ a) (w : World) : ∃ v, (execOp a.eval o).run P w = .ok (.value v) w ∧ ∀ w N ν, Rv w N ν [r] [v] := by
  unfold stopOp at hs
  split at hs
  · rename_i x hop
    cases hs
    exact ⟨a.eval x, by unfold execOp; rw [hop]; rfl, s.ev x⟩
  · rename_i x hop
    cases hs
    exact ⟨a.eval x, by unfold execOp; rw [hop]; rfl, s.ev x⟩
  · rename_i xt x hop
    have he : execOp a.eval o = (do pure (Next.value (← Op.unary .not (a.eval x)))) := by unfold execOp; rw [hop]
    have hx := s.ev x w (fun _ => False) (fun _ => undef)
    split at hs
    · rename_i b e
      cases hs
      rw [e] at hx
      rw [rv_bool hx] at he
      exact ⟨.bool (!b), exec_val he rfl, fun _ _ _ => .d (.bool _ .nil) .nil⟩
    · rename_i b e
      cases hs
      rw [e] at hx
      rw [rv_val hx] at he
      exact ⟨.bool (!b), exec_val he rfl, fun _ _ _ => .val _ .nil⟩
    · cases hs
  · rename_i c x y hop
    have he : execOp a.eval o = (do pure (Next.value (if ← asBool (a.eval c) then a.eval x else a.eval y))) := by unfold execOp; rw [hop]
    have hc := s.ev c w (fun _ => False) (fun _ => undef)
    split at hs
    · rename_i t e
      cases hs
      rw [e] at hc
      refine ⟨if t = true then a.eval x else a.eval y, ?_, fun w N ν => pick_rv (s.ev x w N ν) (s.ev y w N ν)⟩
      rw [he, rv_bool hc]
      rfl
    · rename_i t e
      cases hs
      rw [e] at hc
      refine ⟨if t = true then a.eval x else a.eval y, ?_, fun w N ν => ?_⟩
      · rw [he, rv_val hc]
        rfl
      · cases t
        · exact s.ev y w N ν
        · exact s.ev x w N ν
    · cases hs
  · cases hs
theorem Ys.slot (s : Ys N0 wc νc hc n xs J Jx k σ h a w) (i : Nat) : ∃ w N ν, Rv w N ν [σ i] [a.tmps.getD i undef] := by
  cases k with
  | some j => obtain ⟨w1, ν, s, _⟩ := s; exact ⟨_, _, _, s.slots i⟩
  | none => exact ⟨w, fun _ => False, fun _ => undef, s.1.1 i _ _ _⟩
theorem Ys.ev (s : Ys N0 wc νc hc n xs J Jx k σ h a w) (x : Operand) : ∃ w N ν, Rv w N ν [ev σ x] [a.eval x] := by
  cases k with
  | some j => obtain ⟨w1, ν, s, _⟩ := s; exact ⟨_, _, _, ev_ok s x⟩
  | none => exact ⟨w, fun _ => False, fun _ => undef, s.1.ev x _ _ _⟩
theorem Ys.know (s : Ys N0 wc νc hc n xs J Jx k σ h a w) {i : Nat} {x : AV} (hx : ∀ w N ν, Rv w N ν [x] [a.tmps.getD i undef]) : Ys N0 wc νc hc n xs J Jx k (σ.put i x) h a w := by
  cases k with
  | some j => obtain ⟨w1, ν, s, r⟩ := s; exact ⟨w1, ν, s.know (hx _ _ _), r⟩
  | none => exact ⟨s.1.know hx, s.2⟩
theorem Ys.skip (s : Ys N0 wc νc hc n xs J Jx k σ h a w) (d : Option Nat) : Ys N0 wc νc hc n xs J Jx k (σ.putO n d (.val undef)) h (a.put d undef) w := by
  cases k with
  | some j => obtain ⟨w1, ν, s, r⟩ := s; exact ⟨w1, ν, s.skip d, r⟩
  | none => exact ⟨s.1.put d (fun _ _ _ => .val _ .nil), s.2⟩
theorem Kp.grownBy (k : Kp (fun _ => False) w w') : w.grownBy w' none := ⟨k.os, k.tape, k.output, k.size, fun b hb _ => k.blk b hb (fun g => g)⟩
theorem Hp.grew (hp : Hp N0 w ν h) (k : Kp (fun _ => False) w w') : Hp N0 w' ν h := by
  have hb : ∀ b, b < w.heap.size → w'.heap[b]? = w.heap[b]? := fun b hb => k.blk b hb (fun h => h)
  have m : Mv w (nN N0 ν) w' (nN N0 ν) := ⟨k.size, fun b hlt hN => ⟨hN, hb b hlt⟩⟩
  exact ⟨fun id o hl => Ro.keep m (fun _ _ => rfl) (fun b g => hb b (hp.bnd id b g)) (hp.objs id o hl), hp.inj, fun i b g => Nat.lt_of_lt_of_le (hp.bnd i b g) k.size, hp.dom,
    fun b hb' => Nat.lt_of_lt_of_le (hp.n0 b hb') k.size, hp.dis, hp.lw.mv (fun b _ hlt => hb b hlt)⟩
theorem CellsKeep.grew (k : Kp (fun _ => False) w w') : CellsKeep N w w' :=
  ⟨k.size, fun a v _ hc => by rw [World.cell?_of_block (k.blk a.block (cell?_lt hc) (fun g => g))]; exact hc⟩
/-- ONE OPERATION -/
theorem vcYOp_sound (hT : tabB P T = true) {l : Nat} {B : Nat} (hAJ : AbidesFrom B J)
    (hY : ∀ pre x W1, J pre W1 → pre.length < xs.length → YieldAt (G none) 0 P l x.1.2 W1 fun e W' =>
      (e = .returned (.bool true) ∧ J (pre ++ [x]) W' ∧ KpI N0 νc hc W1 W') ∨ (e = .returned (.bool false) ∧ Jx (pre ++ [x]) W'))
    {o : Oper} {K : Option Nat → Env → Heap → Prop} {next : Act → World → Prop} {Q : Exit → Act → World → Prop} (hn : ∀ k σ h a w, K k σ h → Ys N0 wc νc hc n xs J Jx k σ h a w → next a w)
    (s : Ys N0 wc νc hc n xs J Jx k σ h a w) (hv : vcYOp T (specs P) l xs n o k σ h K) : o.wpIn (G none) 0 P a w next Q := by
  unfold vcYOp at hv
  cases k with
  | some j =>
    obtain ⟨w1, ν, s, hp, hck, pre, hpre, hj, hJ⟩ := s
    simp only at hv
    split at hv
    · rename_i l' args hy
      obtain ⟨rfl, ⟨X, hX, hthin⟩, hk1, hk2⟩ := hv
      obtain ⟨vs, hvs, hr⟩ := yieldArgs_ok (P := P) hy s
      have hJw := hAJ pre w1 w none hJ s.kp.grownBy (fun r e => by cases e)
      have hjl : j < xs.length := (List.getElem?_eq_some_iff.1 hX).1
      have hlen : pre.length = j := by have := congrArg List.length hpre; simpa using this
      obtain ⟨y, hy1, hy2⟩ := hvs.thinL
      have hXj : xs[j] = X := (List.getElem?_eq_some_iff.1 hX).2
      let x : Elem wc (nN N0 νc) νc xs := ⟨(j, vs.toArray), hjl, y, by rw [hXj]; exact hthin y hy1, by simpa using hy2 wc (nN N0 νc) νc⟩
      have hpw := hp.grew s.kp
      refine wp_round hr (hY pre x w hJw (by rw [hlen]; exact hjl)) ?_
      rintro e w' (⟨rfl, hJ', hk⟩ | ⟨rfl, hJx⟩)
      · refine ⟨_, rfl, hn _ _ _ _ _ hk1 ⟨w', fun _ => undef, ?_, hk.1 hpw, (hck.trans (CellsKeep.grew s.kp)).trans hk.2, pre ++ [x], ?_, hjl, hJ'⟩⟩
        · have hNe : nN (nN N0 νc) (fun _ => undef) = nN N0 νc := by
            funext b
            simp only [nN, vblk, undef, reduceCtorEq, exists_false, or_false]
          have hkN : CellsKeep (nN N0 νc) w w' := hk.2
          have hsl : ∀ i, Rv w' (nN N0 νc) (fun _ => undef) [(σ i).past] [a.tmps.getD i undef] := fun i => by
            have h0 := s.slots i
            have hck : CellsKeep (nN (nN N0 νc) ν) w w' := ⟨hkN.1, fun a v g => hkN.2 a v (fun g' => g (.inl g'))⟩
            have := Rv.past (ν' := fun _ => undef) hck h0
            simp only [AV.pastL] at this
            have m : Mv w' (nN (nN N0 νc) ν) w' (nN N0 νc) := ⟨Nat.le_refl _, fun b _ hb => ⟨fun g => hb (.inl g), rfl⟩⟩
            exact this.mv m (fun id g => absurd rfl g)
          refine ⟨fun i => ?_, ⟨?_, ?_, ?_, fun _ _ => rfl, ?_, ?_, (hk.1 hpw).lw.nN νc⟩, Kp.refl _ _, ?_, by rw [size_put, s.size], ?_, fun _ g => absurd rfl g, ⟨Nat.le_refl _, fun _ _ => rfl⟩⟩
          · rw [hNe]
            exact slots_put hsl s.size o.dst (.val _ .nil) i
          · intro id o ho; simp [Vc.look, hp0] at ho
          · intro i j b g; simp [vblk, undef] at g
          · intro i b g; simp [vblk, undef] at g
          · exact (hk.1 hpw).all
          · intro i b g; simp [vblk, undef] at g
          · intro i b g; simp [vblk, undef] at g
          · rw [defers_put, s.defers.1 rfl]; exact Dfr.nil _ _ _ _
        · rw [List.map_append, hpre, List.range_succ]; rfl
      · refine ⟨_, rfl, hn _ _ _ _ _ hk2 ⟨⟨fun i w N ν' => slots_put (fun i => flat1_rv (s.slots i) w N ν') s.size o.dst (.val _ .nil) i, by rw [size_put, s.size], by rw [defers_put]; exact s.defers.1 rfl⟩, _, hJx⟩⟩
    · exact vcOp_sound hT s hv fun r h' m a' w' ν' hk hs => hn _ _ _ _ _ (heapK_iff.1 (putK_iff.1 hk)) ⟨w1, ν', hs, hp, hck, pre, hpre, hj, hJ⟩
  | none =>
    simp only at hv
    split at hv
    · rename_i r hs
      obtain ⟨v, h1, h2⟩ := stopOp_ok (P := P) hs s.1 w
      exact wp_value h1 (hn _ _ _ _ _ (putK_iff.1 hv) ⟨s.1.put o.dst h2, s.2⟩)
    · exact hv.elim
/-- IN THE ORDER OF THE TEXT -/
theorem vcYOps_sound (hT : tabB P T = true) {l : Nat} {B : Nat} (hAJ : AbidesFrom B J)
    (hY : ∀ pre x W1, J pre W1 → pre.length < xs.length → YieldAt (G none) 0 P l x.1.2 W1 fun e W' =>
      (e = .returned (.bool true) ∧ J (pre ++ [x]) W' ∧ KpI N0 νc hc W1 W') ∨ (e = .returned (.bool false) ∧ Jx (pre ++ [x]) W'))
    {ops : Array Oper} {K : Option Nat → Env → Heap → Prop} {Q : Exit → Act → World → Prop} (hK : ∀ k σ h a w, K k σ h → Ys N0 wc νc hc n xs J Jx k σ h a w → Q .normal a w) : ∀ (rest : List Oper) {k : Option Nat} {σ : Env} {h : Heap} {a : Act} {w : World},
    Ys N0 wc νc hc n xs J Jx k σ h a w → vcYOps T (specs P) l xs n ops rest k σ h K → wpListIn (G none) 0 P ops Q rest a w
  | [], k, σ, h, a, w, s, hv => hK _ _ _ _ _ hv s
  | o :: rest, k, σ, h, a, w, s, hv => by
    rw [vcYOps_cons] at hv
    unfold vcYStep at hv
    unfold wpListIn
    split at hv
    · rename_i hg
      rw [if_pos (by simp [Region.wanted, hg])]
      exact vcYOp_sound hT hAJ hY (fun k σ h a w hk hs => vcYOps_sound hT hAJ hY hK rest hs hk) s hv
    · rename_i g want hg
      split at hv
      · exact hv.elim
      · rename_i gd hd
        obtain ⟨wx, Nx, νx, hsl⟩ := s.slot gd
        split at hv
        · rename_i b hb
          rw [hb] at hsl
          have hw := wanted_of (ops := ops) hg hd (guard_bool hsl)
          have hval : ∀ c, b = c → ∀ w N ν, Rv w N ν [.val (.bool c)] [a.tmps.getD gd undef] := fun c e w N ν => by rw [rv_bool hsl, e]; exact .val _ .nil
          by_cases e : b = want
          · rw [if_pos (by rw [hw]; simp [e])]
            exact vcYOp_sound hT hAJ hY (fun k σ h a w hk hs => vcYOps_sound hT hAJ hY hK rest hs hk) (s.know (hval _ e)) (br_yes hv e)
          · have e' : b = !want := by cases b <;> cases want <;> simp_all
            rw [if_neg (by rw [hw]; simp [e])]
            exact ⟨fun _ _ => trivial, vcYOps_sound hT hAJ hY hK rest ((s.know (hval _ e')).skip o.dst) (br_no hv e')⟩
        · rename_i b hb
          rw [hb] at hsl
          have hw := wanted_of (ops := ops) hg hd (guard_val hsl)
          cases hbw : (b == want) <;> rw [hbw] at hv hw
          · rw [if_neg (by rw [hw]; simp)]
            exact ⟨fun _ _ => trivial, vcYOps_sound hT hAJ hY hK rest (s.skip o.dst) hv⟩
          · rw [if_pos hw]
            exact vcYOp_sound hT hAJ hY (fun k σ h a w hk hs => vcYOps_sound hT hAJ hY hK rest hs hk) s hv
        · rename_i ys hb
          rw [hb] at hsl
          rw [if_neg (by rw [wanted_undef hg hd hsl]; simp)]
          exact ⟨fun _ _ => trivial, vcYOps_sound hT hAJ hY hK rest (s.skip o.dst) hv⟩
        · exact hv.elim
theorem Ys.weak {j : Nat} {l : List (Nat × AV)} (hw : Weak σ h l h') (s : Ys N0 wc νc hc n xs J Jx (some j) σ h a w) : Ys N0 wc νc hc n xs J Jx (some j) (Env.of l) h' a w := by
  obtain ⟨w1, ν, s, r⟩ := s
  obtain ⟨ν1, s1, _⟩ := s.weak hw
  exact ⟨w1, ν1, s1, r⟩
/-- CODE -/
theorem vcY_sound (hT : tabB P T = true) (hm : P.follows .mixedOrders = true) {l : Nat} {B : Nat} (hAJ : AbidesFrom B J)
    (hY : ∀ pre x W1, J pre W1 → pre.length < xs.length → YieldAt (G none) 0 P l x.1.2 W1 fun e W' =>
      (e = .returned (.bool true) ∧ J (pre ++ [x]) W' ∧ KpI N0 νc hc W1 W') ∨ (e = .returned (.bool false) ∧ Jx (pre ++ [x]) W')) :
    ∀ (c : Code) {k : Option Nat} {σ : Env} {h : Heap} {a : Act} {w : World} {Qa : Exit → Option Nat → Env → Heap → Prop} {Q : Exit → Act → World → Prop},
    vcY T (specs P) l xs n c k σ h Qa → (∀ e k σ h a w, Qa e k σ h → Ys N0 wc νc hc n xs J Jx k σ h a w → Q e a w) → Ys N0 wc νc hc n xs J Jx k σ h a w → c.wpIn (G none) 0 P Q a w := by
  intro c
  induction c with
  | skip => intro k σ h a w Qa Q hv hQ s; exact wpIn_skip (hQ _ _ _ _ _ _ hv s)
  | region id ops draw =>
    intro k σ h a w Qa Q hv hQ s
    cases draw with
    | false => exact wpIn_region_list (vcYOps_sound hT hAJ hY (fun k σ h a w hk hs => hQ _ _ _ _ _ _ hk hs) ops.toList s hv)
    | true =>
      cases k with
      | none => exact hv.elim
      | some j =>
        obtain ⟨w1, ν, s, r⟩ := s
        replace hv : vcRegion T (specs P) n ops true σ h fun e σ h => Qa e (some j) σ h := hv
        exact vcDraw_sound hT hm (fun σ h a w ν hk hs => hQ _ (some j) _ _ _ _ hk (show ∃ w1 ν, _ from ⟨w1, ν, hs, r⟩)) s hv
  | seq x y ihx ihy =>
    intro k σ h a w Qa Q hv hQ s
    refine wpIn_seq (ihx hv ?_ s)
    intro e k' σ' h' a' w' hk hs
    cases e with
    | normal => exact ihy hk hQ hs
    | _ => exact hQ _ _ _ _ _ _ hk hs
  | cond c x y ihx ihy =>
    intro k σ h a w Qa Q hv hQ s
    replace hv : vcCondY c (vcY T (specs P) l xs n x) (vcY T (specs P) l xs n y) k σ h Qa := hv
    unfold vcCondY at hv
    obtain ⟨wx, Nx, νx, hc⟩ := s.ev c
    split at hv
    · rename_i b e
      rw [e] at hc
      refine wpIn_cond (rv_bool hc) ?_
      cases b with
      | true => exact ihx (hv.1 rfl) hQ s
      | false => exact ihy (hv.2 rfl) hQ s
    · rename_i b e
      rw [e] at hc
      refine wpIn_cond (rv_val hc) ?_
      cases b with
      | true => exact ihx hv hQ s
      | false => exact ihy hv hQ s
    · exact hv.elim
  | block id c ih =>
    intro k σ h a w Qa Q hv hQ s
    refine wpIn_block (ih hv ?_ s)
    intro e k' σ' h' a' w' hk hs
    cases e with
    | exit id' =>
      simp only [Exit.inBlock]
      by_cases e : id' = id
      · subst e
        rw [if_pos rfl]
        simp only [blockY, nbT, cond_true] at hk
        exact hQ _ _ _ _ _ _ hk hs
      · rw [if_neg e]
        simp only [blockY, nbF e, cond_false] at hk
        exact hQ _ _ _ _ _ _ hk hs
    | _ => exact hQ _ _ _ _ _ _ hk hs
  | loop c ih =>
    intro k σ h a w Qa Q hv hQ s
    obtain ⟨I, ⟨j, m, l1, h1, rfl, hI, hw⟩, hr⟩ := hv
    refine wp_loopN (fun m a w => ∃ j l1 h1, I m j l1 h1 ∧ Ys N0 wc νc hc n xs J Jx (some j) (Env.of l1) h1 a w) ?_ m a w ⟨j, l1, h1, hI, s.weak hw⟩
    intro m a w ⟨j, l1, h1, hI, s1⟩
    refine ih (hr m j l1 h1 hI) ?_ s1
    intro e k' σ' h' a' w' hk hs
    cases e with
    | normal =>
      obtain ⟨j', m', l', h'', rfl, hI', hlt, hw'⟩ := hk
      exact ⟨m', hlt, j', l', h'', hI', hs.weak hw'⟩
    | _ => exact hQ _ _ _ _ _ _ hk hs
  | exit id => intro k σ h a w Qa Q hv hQ s; exact wpIn_exit (hQ _ _ _ _ _ _ hv s)
  | ret => intro k σ h a w Qa Q hv hQ s; exact wpIn_ret (hQ _ _ _ _ _ _ hv s)
  | rangeFunc g ps x y ihx ihy => intro k σ h a w Qa Q hv; exact hv.elim
  | scope c ih =>
    intro k σ h a w Qa Q hv hQ s
    refine wpIn_scope0 (ih hv ?_ s)
    intro e k' σ' h' a' w' hk hs
    cases e with
    | goto l => exact hk.elim
    | _ => exact hQ _ _ _ _ _ _ hk hs
  | label l => intro k σ h a w Qa Q hv hQ s; exact wpIn_label (hQ _ _ _ _ _ _ hv s)
  | goto l => intro k σ h a w Qa Q hv; exact hv.elim
  | refuse why => intro k σ h a w Qa Q hv; exact hv.elim
end
/-- all rows were handed out, or a round has left the loop -/
def RetY (m : Nat) : Exit → Option Nat → Env → Heap → Prop
  | .normal, k, _, _ => k = none ∨ k = some m
  | .ret, k, _, _ => k = none ∨ k = some m
  | _, _, _, _ => False
/-- THE CONTRACT OF AN ITERATOR, out of its condition -/
theorem iter_of_vc {P : Program} {T : List (Nat × TI)} (hT : tabB P T = true) (hm : P.follows .mixedOrders = true) {f : FuncId} {fn : Func} {c : Code} {caps : List AV} {hc : Heap} {xs : List (List AV → Prop)}
    (hf : P.funcs[f]? = some fn) (hn : (fn.name == "runtime.NumGoroutine") = false) (hb : fn.body = some c) (hres : fn.results = #[]) (hlen : Nat.ble (caps.length + 1) fn.ntmps = true) (hp : AV.pastL caps = caps)
    (hv : ∀ l, okAs caps → vcY T (specs P) l xs fn.ntmps c (some 0) (Env.args (.val (.func (.yield l) #[] #[]) :: caps)) hp0 (RetY xs.length)) : (specs P).iter f caps hc xs := by
  refine ⟨⟨fn, hf, hn, by rw [hb]; rfl⟩, fun N0 w ν lb hhp hargs => ?_⟩
  intro l J Jx W hW hAJ _ hY h0
  have hck : CellsKeep (nN N0 ν) w W := ⟨hW.size, fun a v _ hcell => by rw [World.cell?_of_block (hW.block a.block (cell?_lt hcell))]; exact hcell⟩
  have hkW : Kp (fun _ => False) w W := ⟨hW.os, hW.tape, hW.output, hW.size, fun b hb _ => hW.block b hb⟩
  have hpW := hhp.grew hkW
  have hargsW : Rv W (nN N0 ν) (fun _ => undef) caps lb := by
    have := Rv.past (ν' := fun _ => undef) hck hargs
    rwa [hp] at this
  have hall : Rv W (nN N0 ν) (fun _ => undef) (.val (.func (.yield l) #[] #[]) :: caps) (.func (.yield l) #[] #[] :: lb) := .val _ hargsW
  have hle := Nat.le_of_ble_eq_true hlen
  have hl := hargs.length
  refine callsIn_of_wp (F := G none) hf hb trivial ?_
  have earr : #[Value.func (.yield l) #[] #[]] ++ lb.toArray = (Value.func (.yield l) #[] #[] :: lb).toArray := by apply Array.ext'; simp
  rw [earr]
  have hNe : nN (nN N0 ν) (fun _ => undef) = nN N0 ν := by
    funext b
    simp only [nN, vblk, undef, reduceCtorEq, exists_false, or_false]
  have s : Ys N0 w ν hc fn.ntmps xs J Jx (some 0) (Env.args (.val (.func (.yield l) #[] #[]) :: caps)) hp0 { tmps := (Value.func (.yield l) #[] #[] :: lb).toArray ++ Array.replicate (fn.ntmps - (Value.func (.yield l) #[] #[] :: lb).toArray.size) undef, defers := [] } W := by
    refine ⟨W, fun _ => undef, ⟨fun k => ?_, ⟨?_, ?_, ?_, fun _ _ => rfl, hpW.all, ?_, hpW.lw.nN ν⟩, Kp.refl _ _, ?_, by simp; omega, Dfr.nil _ _ _ _, fun _ g => absurd rfl g, Nat.le_refl _, fun _ _ => rfl⟩, hpW, hck, [], rfl, Nat.zero_le _, h0⟩
    · rw [hNe]
      simp only [Env.args]
      generalize (AV.val (.func (.yield l) #[] #[]) :: caps) = as at *
      generalize (Value.func (.yield l) #[] #[] :: lb) = vs at *
      cases hq : as[k]? with
      | none => exact .any _ .nil
      | some v =>
        obtain ⟨u, h1, h2⟩ := hall.get hq
        have : (vs.toArray ++ Array.replicate (fn.ntmps - vs.toArray.size) undef).getD k undef = u := by
          have hk : k < vs.length := (List.getElem?_eq_some_iff.1 h1).1
          rw [Array.getD_eq_getD_getElem?, Array.getElem?_append_left (by simpa using hk)]
          simp [h1]
        rw [this]; exact h2
    · intro id o ho; simp [Vc.look, hp0] at ho
    all_goals (intro i; simp [vblk, undef])
  refine vcY_sound hT hm hAJ hY c (hv l hargs.ok) ?_ s
  intro e k σ h a w' hk s'
  have fin : (k = none ∨ k = some xs.length) → a.defers = [] ∧ ∃ v, (results fn a.tmps).run P w' = .ok v w' ∧ (∃ v', Ending.returned v = Ending.returned v') ∧
      ((∃ ys : List (Elem w (nN N0 ν) ν xs), ys.map (fun y => y.1.1) = List.range xs.length ∧ J ys w') ∨ (∃ pre, True ∧ Jx pre w')) := by
    rintro (rfl | rfl)
    · obtain ⟨s', pre, hJ⟩ := s'
      exact ⟨s'.2.2, _, results_none hres _ _ _, ⟨_, rfl⟩, .inr ⟨pre, trivial, hJ⟩⟩
    · obtain ⟨w1, ν1, s', _, _, pre, g1, _, hJ⟩ := s'
      exact ⟨s'.defers.1 rfl, _, results_none hres _ _ _, ⟨_, rfl⟩, .inl ⟨pre, g1, hAJ pre w1 w' none hJ s'.kp.grownBy (fun r e => by cases e)⟩⟩
  cases e with
  | normal => exact fin hk
  | ret => exact fin hk
  | _ => exact hk.elim
end Go.Vc
end
