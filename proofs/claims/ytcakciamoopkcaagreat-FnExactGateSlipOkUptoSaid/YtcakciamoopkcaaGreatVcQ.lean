/- A region that draws its order: one walk in the order of the text serves every order. -/
import Derived.Test.YtcakciamoopkcaaGreatVcP
import Derived.Deep.Quiet
set_option linter.unusedVariables false
set_option linter.unusedSimpArgs false
namespace Go.Vc
section
variable {P : Program} {T : List (Nat × TI)} {N0 Nf : Nat → Prop} {w0 w w' : World} {n : Nat} {σ σ' : Env} {h : Heap} {a : Act} {ν ν' ν0 : Nat → Value} {ops : Array Oper}

/-- one operation, in knowledge σ, yields r -/
def PStep (P : Program) (T : List (Nat × TI)) (ops : Array Oper) (h : Heap) (σ : Env) (o : Oper) (r : AV) : Prop :=
  match o.guard with
  | none => vcOp T (specs P) (ev σ) h o.op fun r' h' m => r' = r ∧ h' = h ∧ m = .sub []
  | some (g, want) => ∃ gd, (ops[g]?).bind (·.dst) = some gd ∧
      ((σ gd = .d (.bool want) ∧ vcOp T (specs P) (ev σ) h o.op fun r' h' m => r' = r ∧ h' = h ∧ m = .sub []) ∨
       (σ gd = .d (.bool (!want)) ∧ r = .val undef) ∨ (∃ xs, σ gd = .val (.tuple xs) ∧ r = .val undef) ∨
       (σ gd = .val (.bool want) ∧ vcOp T (specs P) (ev σ) h o.op fun r' h' m => r' = r ∧ h' = h ∧ m = .sub []) ∨ (σ gd = .val (.bool (!want)) ∧ r = .val undef))

theorem pstep_of (Sx : Specs) (hSx : Sx = specs P) {ρ : Operand → AV} {o : Op} {d : Option Nat} {K : Env → Prop} (hv : vcOp T (specs P) ρ h o fun r h' m => h' = h ∧ m = .sub [] ∧ putK σ (.sub []) n d r K) : ∃ r, (vcOp T (specs P) ρ h o fun r' h' m => r' = r ∧ h' = h ∧ m = .sub []) ∧ K (σ.putO n d r) := by
  obtain ⟨r, h', m, ⟨rfl, rfl, hΦ⟩, h2⟩ := vcOp_ang hv
  exact ⟨r, h2, putK_iff.1 hΦ⟩

theorem putO_ne (σ : Env) (d : Option Nat) (r : AV) (t : Nat) (ht : ∀ x, d = some x → t ≠ x) : (σ.putO n d r) t = σ t := by
  cases d with
  | none => rfl
  | some x =>
    simp only [Env.putO]
    cases Nat.ble (x + 1) n
    · rfl
    · simp only [cond_true, Env.put, nbF (ht x rfl), cond_false]
def DecOk (dec : List (Nat × Bool)) (σ : Env) : Prop := ∀ g b, look dec g = some b → σ g = .d (.bool b)
theorem DecOk.put {dec : List (Nat × Bool)} (hd : DecOk dec σ) (d : Option Nat) (r : AV) : DecOk (remD d dec) (σ.putO n d r) := by
  intro g b hg
  cases d with
  | none => exact hd g b hg
  | some x =>
    simp only [remD, look_del] at hg
    split at hg
    · cases hg
    · rename_i hne
      rw [putO_ne σ (some x) r g (fun y hy e => by injection hy with hy; exact hne (by rw [e, hy]))]
      exact hd g b hg
theorem DecOk.know {dec : List (Nat × Bool)} (hd : DecOk dec σ) {gd : Nat} {b : Bool} (hb : σ gd = .d (.bool b)) : DecOk ((gd, b) :: dec) σ := by
  intro g c hg
  simp only [look] at hg
  by_cases e : g = gd
  · subst e
    rw [nbT] at hg
    simp only [cond_true, Option.some.injEq] at hg
    rw [← hg]; exact hb
  · rw [nbF e] at hg
    exact hd g c hg

theorem vcPure_cons {o : Oper} {rest : List Oper} {K : Env → Prop} {dec : List (Nat × Bool)} (hdec : DecOk dec σ) (hv : vcPure T (specs P) n ops (o :: rest) dec σ h K) :
    ∃ r dec', PStep P T ops h σ o r ∧ DecOk dec' (σ.putO n o.dst r) ∧ vcPure T (specs P) n ops rest dec' (σ.putO n o.dst r) h K := by
  rw [vcPure_cons'] at hv
  unfold vcPureStep at hv
  unfold PStep
  split at hv
  · rename_i hg
    simp only [hg]
    obtain ⟨r, h1, h2⟩ := pstep_of _ rfl hv
    exact ⟨r, _, h1, hdec.put _ _, h2⟩
  · rename_i g want hg
    simp only [hg]
    split at hv
    · exact hv.elim
    · rename_i gd hd
      split at hv
      · rename_i b hl
        have hb := hdec gd b hl
        cases hbw : (b == want) <;> rw [hbw] at hv
        · have e' : b = !want := by cases b <;> cases want <;> simp_all
          exact ⟨_, _, ⟨gd, hd, .inr (.inl ⟨by rw [hb, e'], rfl⟩)⟩, hdec.put _ _, hv⟩
        · have e' : b = want := by simpa using hbw
          obtain ⟨r, h2, h3⟩ := pstep_of _ rfl hv
          exact ⟨r, _, ⟨gd, hd, .inl ⟨by rw [hb, e'], h2⟩⟩, hdec.put _ _, h3⟩
      · split at hv
        · rename_i b hb
          by_cases e : b = want
          · subst e
            have h1 := br_yes hv rfl
            simp only [put_same σ gd _ hb] at h1
            obtain ⟨r, h2, h3⟩ := pstep_of _ rfl h1
            exact ⟨r, _, ⟨gd, hd, .inl ⟨hb, h2⟩⟩, (hdec.know hb).put _ _, h3⟩
          · have e' : b = !want := by cases b <;> cases want <;> simp_all
            have h2 := br_no hv e'
            rw [← e', put_same σ gd _ hb] at h2
            exact ⟨_, _, ⟨gd, hd, .inr (.inl ⟨by rw [hb, e'], rfl⟩)⟩, (hdec.know hb).put _ _, h2⟩
        · rename_i b hb
          cases hbw : (b == want) <;> rw [hbw] at hv
          · have e' : b = !want := by cases b <;> cases want <;> simp_all
            exact ⟨_, _, ⟨gd, hd, .inr (.inr (.inr (.inr ⟨by rw [hb, e'], rfl⟩)))⟩, hdec.put _ _, hv⟩
          · have e' : b = want := by simpa using hbw
            obtain ⟨r, h2, h3⟩ := pstep_of _ rfl hv
            exact ⟨r, _, ⟨gd, hd, .inr (.inr (.inr (.inl ⟨by rw [hb, e'], h2⟩)))⟩, hdec.put _ _, h3⟩
        · rename_i xs hb
          exact ⟨_, _, ⟨gd, hd, .inr (.inr (.inl ⟨xs, hb, rfl⟩))⟩, hdec.put _ _, hv⟩
        · exact hv.elim

theorem PStep.congr {o : Oper} {r : AV} (hsel : ∀ cs b, o.op ≠ .select cs b) (he : ∀ t ∈ o.looksAt ops, σ t = σ' t) (hp : PStep P T ops h σ o r) : PStep P T ops h σ' o r := by
  have hop : ∀ x ∈ o.op.operands, ev σ x = ev σ' x := by
    intro x hx
    cases x with
    | tmp t => exact he t (by simp only [Oper.looksAt, List.mem_append, List.mem_filterMap]; exact .inl ⟨.tmp t, Array.mem_toList_iff.2 hx, rfl⟩)
    | const v => rfl
    | global g => rfl
    | func f => rfl
  unfold PStep at hp ⊢
  split at hp
  · rename_i hg
    exact vcOp_congr hsel hop hp
  · rename_i g want hg
    obtain ⟨gd, hd, hp⟩ := hp
    have hgd : σ gd = σ' gd := he gd (by simp [Oper.looksAt, hg, hd])
    refine ⟨gd, hd, ?_⟩
    rw [← hgd]
    rcases hp with ⟨h1, h2⟩ | h1 | h1 | ⟨h1, h2⟩ | h1
    · exact .inl ⟨h1, vcOp_congr hsel hop h2⟩
    · exact .inr (.inl h1)
    · exact .inr (.inr (.inl h1))
    · exact .inr (.inr (.inr (.inl ⟨h1, vcOp_congr hsel hop h2⟩)))
    · exact .inr (.inr (.inr (.inr h1)))

theorem putO_comm (σ : Env) (d e : Option Nat) (r u : AV) (hde : ∀ x, d = some x → e ≠ some x) : (σ.putO n d r).putO n e u = (σ.putO n e u).putO n d r := by
  cases d with
  | none => rfl
  | some x =>
    cases e with
    | none => rfl
    | some y =>
      have hxy : y ≠ x := fun g => hde x rfl (by rw [g])
      simp only [Env.putO]
      cases Nat.ble (x + 1) n <;> cases Nat.ble (y + 1) n <;> try rfl
      funext t
      simp only [cond_true, Env.put]
      by_cases h1 : t = x
      · subst h1; simp [nbT, nbF (Ne.symm hxy)]
      · by_cases h2 : t = y
        · subst h2; simp [nbT, nbF hxy]
        · simp [nbF h1, nbF h2]

def qA (P : Program) (T : List (Nat × TI)) (n : Nat) (ops : Array Oper) (h : Heap) (i : Nat) (K : Env → Prop) (σ : Env) : Prop :=
  match ops[i]? with
  | none => K σ
  | some o => ∃ r, PStep P T ops h σ o r ∧ K (σ.putO n o.dst r)
def wpAnyA (P : Program) (T : List (Nat × TI)) (n : Nat) (ops : Array Oper) (h : Heap) (K : Env → Prop) : Nat → Array Bool → Env → Prop
  | 0, listed, σ => Region.ready .any ops listed = [] ∧ K σ
  | fuel + 1, listed, σ =>
    (Region.ready .any ops listed = [] → K σ) ∧
    ∀ i ∈ Region.ready .any ops listed, qA P T n ops h i (wpAnyA P T n ops h K fuel (listed.setIfInBounds i true)) σ

theorem qA_mono {i : Nat} {K K' : Env → Prop} (hk : ∀ σ, K σ → K' σ) (hq : qA P T n ops h i K σ) : qA P T n ops h i K' σ := by
  unfold qA at *
  split
  · exact hk _ (by simpa [*] using hq)
  · rename_i o ho
    simp only [ho] at hq
    obtain ⟨r, h1, h2⟩ := hq
    exact ⟨r, h1, hk _ h2⟩

/-- a single operation, as the model carries it out -/
theorem PStep.sound (hT : tabB P T = true) {o : Oper} {r : AV} (s : St N0 w0 Nf n ν0 σ h a w ν) (hp : PStep P T ops h σ o r) {K' : Act → World → Prop} {Q' : Exit → Act → World → Prop}
    (hn : ∀ a' w' ν', St N0 w0 Nf n ν0 (σ.putO n o.dst r) h a' w' ν' → K' a' w') : if Region.wanted o (yielded ops a.tmps) then o.wp P a w K' Q' ∨ (o.asks P a w ∧ LetsOut Q') else K' (a.put o.dst undef) w := by
  have go : (vcOp T (specs P) (ev σ) h o.op fun r' h' m => r' = r ∧ h' = h ∧ m = .sub []) → o.wp P a w K' Q' := fun hv =>
    vcOp_sound hT s hv fun r' h' m a' w' ν' hk hs => by obtain ⟨rfl, rfl, rfl⟩ := hk; exact hn a' w' ν' hs
  unfold PStep at hp
  split at hp
  · rename_i hg
    rw [if_pos (by simp [Region.wanted, hg])]
    exact .inl (go hp)
  · rename_i g want hg
    obtain ⟨gd, hd, hp⟩ := hp
    have hsl := s.slots gd
    rcases hp with ⟨h1, h2⟩ | ⟨h1, h2⟩ | ⟨xs, h1, h2⟩ | ⟨h1, h2⟩ | ⟨h1, h2⟩
    · rw [h1] at hsl
      rw [if_pos (by rw [wanted_of hg hd (guard_bool hsl)]; simp)]
      exact .inl (go h2)
    · rw [h1] at hsl
      rw [if_neg (by rw [wanted_of hg hd (guard_bool hsl)]; cases want <;> simp)]
      subst h2
      exact hn _ _ ν (s.skip o.dst)
    · rw [h1] at hsl
      rw [if_neg (by rw [wanted_undef hg hd hsl]; simp)]
      subst h2
      exact hn _ _ ν (s.skip o.dst)
    · rw [h1] at hsl
      rw [if_pos (by rw [wanted_of hg hd (guard_val hsl)]; simp)]
      exact .inl (go h2)
    · rw [h1] at hsl
      rw [if_neg (by rw [wanted_of hg hd (guard_val hsl)]; cases want <;> simp)]
      subst h2
      exact hn _ _ ν (s.skip o.dst)

theorem wpAny_of_A (hT : tabB P T = true) {K : Env → Prop} {Q' : Exit → Act → World → Prop} (hQ : ∀ σ a w ν, K σ → St N0 w0 Nf n ν0 σ h a w ν → Q' .normal a w) : ∀ (fuel : Nat) (listed : Array Bool) {σ : Env} {a : Act} {w : World} {ν : Nat → Value},
    St N0 w0 Nf n ν0 σ h a w ν → wpAnyA P T n ops h K fuel listed σ → wpAny P .any ops Q' fuel listed a w
  | 0, _, _, _, _, _, s, hv => ⟨hv.1, hQ _ _ _ _ hv.2 s⟩
  | fuel + 1, listed, σ, a, w, ν, s, hv => ⟨fun h0 => hQ _ _ _ _ (hv.1 h0) s, fun i hi => by
      have h1 := hv.2 i hi
      unfold qA at h1
      unfold wpOp
      split
      · rename_i ho; simp only [ho] at h1; exact wpAny_of_A hT hQ fuel _ s h1
      · rename_i o ho
        simp only [ho] at h1
        obtain ⟨r, h2, h3⟩ := h1
        exact PStep.sound hT s h2 fun a' w' ν' hs => wpAny_of_A hT hQ fuel _ hs h3⟩

theorem qA_put {j : Nat} {oi oj : Oper} {r : AV} (hj : ops[j]? = some oj) (hap : oi.apart ops oj = true) (hsi : ∀ cs b, oi.op ≠ .select cs b) (hsj : ∀ cs b, oj.op ≠ .select cs b) {K : Env → Prop} {σ : Env}
    (hy : PStep P T ops h σ oi r) (hq : qA P T n ops h j K (σ.putO n oi.dst r)) : qA P T n ops h j (fun σ' => PStep P T ops h σ' oi r ∧ K (σ'.putO n oi.dst r)) σ := by
  obtain ⟨h1, h2, h3⟩ := Oper.apart_spec hap
  unfold qA at *
  simp only [hj] at *
  obtain ⟨u, hu, hk⟩ := hq
  refine ⟨u, hu.congr hsj (fun t ht => putO_ne σ _ _ t (fun x hx g => h1 x hx (g ▸ ht))), hy.congr hsi (fun t ht => (putO_ne σ _ _ t (fun x hx g => h3 x hx (g ▸ ht))).symm), ?_⟩
  rw [← putO_comm σ oi.dst oj.dst r u (fun x hx => h2 x hx)]
  exact hk

theorem wpAnyA_first {K : Env → Prop} {i : Nat} {oi : Oper} {r : AV} (hi : ops[i]? = some oi) (hsel : ∀ (j : Nat) (o : Oper) cs b, ops[j]? = some o → o.op ≠ .select cs b) :
    ∀ (fuel : Nat) (listed : Array Bool) (σ : Env),
      (∀ j oj, ops[j]? = some oj → j ≠ i → listed.getD j true = false → (∀ e ∈ oj.after, Region.binds .any e = true → e.on ≠ i) → oi.apart ops oj = true) →
      i ∈ Region.ready .any ops listed → PStep P T ops h σ oi r →
      wpAnyA P T n ops h K fuel (listed.setIfInBounds i true) (σ.putO n oi.dst r) → wpAnyA P T n ops h K (fuel + 1) listed σ := by
  have self : ∀ (K' : Env → Prop) (σ : Env), PStep P T ops h σ oi r → K' (σ.putO n oi.dst r) → qA P T n ops h i K' σ := fun K' σ hy hk => by
    unfold qA; simp only [hi]; exact ⟨r, hy, hk⟩
  intro fuel
  induction fuel with
  | zero =>
    intro listed σ _ hr hy H
    refine ⟨fun h => (by rw [h] at hr; cases hr), fun j hj => ?_⟩
    by_cases hji : j = i
    · subst hji; exact self _ _ hy H
    · have := ready_mono hj hji
      rw [H.1] at this
      cases this
  | succ fuel ih =>
    intro listed σ hfree hr hy H
    refine ⟨fun h => (by rw [h] at hr; cases hr), fun j hj => ?_⟩
    by_cases hji : j = i
    · subst hji; exact self _ _ hy H
    · have h1 := H.2 j (ready_mono hj hji)
      obtain ⟨hjun, oj, hoj, hall⟩ := mem_ready.1 hj
      have hnot : ∀ e ∈ oj.after, Region.binds .any e = true → e.on ≠ i := fun e he hb heq => by
        have h1 := hall e he hb
        have h0 := (mem_ready.1 hr).1
        rw [heq] at h1
        rcases Nat.lt_or_ge i listed.size with h' | h'
        · simp [h'] at h0 h1; rw [h0] at h1; cases h1
        · simp [Array.getElem?_eq_none h'] at h1
      have h2 := qA_put hoj (hfree j oj hoj hji hjun hnot) (fun cs b => hsel i oi cs b hi) (fun cs b => hsel j oj cs b hoj) hy h1
      have hfree' : ∀ k ok, ops[k]? = some ok → k ≠ i → (listed.setIfInBounds j true).getD k true = false →
          (∀ e ∈ ok.after, Region.binds .any e = true → e.on ≠ i) → oi.apart ops ok = true := fun k ok hk hki hun hno => by
        refine hfree k ok hk hki ?_ hno
        by_cases hjk : j = k
        · subst hjk; exact hjun
        · rw [getD_set_ne true hjk] at hun; exact hun
      refine qA_mono (fun σ' h3 => ih (listed.setIfInBounds j true) σ' hfree' (ready_mono hr (Ne.symm hji)) h3.1 ?_) h2
      rw [Array.setIfInBounds_comm _ _ hji]
      exact h3.2

theorem wpAnyA_lex {K : Env → Prop} (hs : Region.noSelect ops = true) : ∀ (l : List Oper) (k : Nat) (listed : Array Bool) (dec : List (Nat × Bool)) (σ : Env), DecOk dec σ → (∀ j, l[j]? = ops[k + j]?) →
    Region.lexFrom .any ops l.length k listed = true → vcPure T (specs P) n ops l dec σ h K → wpAnyA P T n ops h K l.length listed σ
  | [], _, _, _, _, _, _, hB, hv => ⟨by simpa [Region.lexFrom] using hB, hv⟩
  | o :: l, k, listed, dec, σ, hdec, hl, hB, hv => by
    have h0 : ops[k]? = some o := by simpa using (hl 0).symm
    simp only [List.length_cons, Region.lexFrom, Bool.and_eq_true] at hB
    obtain ⟨⟨hr, hf⟩, hB'⟩ := hB
    obtain ⟨r, dec', hy, hdec', hK⟩ := vcPure_cons hdec hv
    exact wpAnyA_first h0 (Region.noSelect_spec hs) l.length listed σ (Region.free_spec h0 hf) (by simpa using hr) hy
      (wpAnyA_lex hs l (k + 1) _ _ _ hdec' (fun j => by have := hl (j + 1); simpa [Nat.add_assoc, Nat.add_comm 1 j] using this) hB' hK)

theorem drew_kp (w : World) : Kp (fun _ => False) w { w with drawn := w.drawn + 1 } := ⟨rfl, rfl, rfl, Nat.le_refl _, fun _ _ _ => rfl⟩

/-- WHATEVER ORDER -/
theorem vcPure_sound (hT : tabB P T = true) (hm : P.follows .mixedOrders = true) {id : Nat} {K : Env → Prop} {Q : Exit → Act → World → Prop} (hQ : ∀ σ a w ν, K σ → St N0 w0 Nf n ν0 σ h a w ν → Q .normal a w)
    (s : St N0 w0 Nf n ν0 σ h a w ν) (hB : Region.lexB .any ops = true) (hv : vcPure T (specs P) n ops ops.toList [] σ h K) : (Code.region id ops true).wp P Q a w := by
  simp only [Region.lexB, Bool.and_eq_true] at hB
  refine wp_region_any hm (wpAny_of_A hT hQ _ _ (s.world (drew_kp w)) ?_)
  have := wpAnyA_lex (P := P) (T := T) (n := n) (h := h) (K := K) hB.1 ops.toList 0 (Array.replicate ops.size false) [] σ (fun g b hg => by simp [look] at hg) (by simp) (by simpa using hB.2) hv
  simpa using this
end
end Go.Vc
