/- Abstract heaps and states: what they say of a world and a frame, and the moves that keep it. -/
import Derived.Test.YtcakciamoopkcaaGreatVcB
set_option linter.unusedVariables false
set_option linter.unusedSimpArgs false
namespace Go.Vc

def vblk : Value → Option Nat
  | .pointer (some a) => some a.block
  | .slice (some a) _ _ => some a.block
  | .map (some r) => some r
  | _ => none
def nN (N0 : Nat → Prop) (ν : Nat → Value) : Nat → Prop := fun b => N0 b ∨ ∃ id, vblk (ν id) = some b
def upd (ν : Nat → Value) (i : Nat) (v : Value) : Nat → Value := fun j => if j = i then v else ν j

def Ro (w : World) (N : Nat → Prop) (ν : Nat → Value) (id : Nat) : AO → Prop
  | .cells _ cs => ∃ b arr e, ν id = .pointer (some ⟨b, 0, none⟩) ∧ w.heap[b]? = some (.cells arr e (0, 0)) ∧ Rv w N ν cs arr.toList
  | .row t sz rows => ∃ A c cells, ν id = .slice A rows.length c ∧ Rd w N rows.flatten cells ∧ (∀ r ∈ rows, r.length = sz) ∧ rows.length ≤ big ∧ 0 < sz ∧ w.ownsRow 0 t sz (ν id) rows.length cells
  | .map _ tk es => ∃ r arr clock, ν id = .map (some r) ∧ w.heap[r]? = some (.map arr clock) ∧ Km w N ν tk es arr.toList

structure Hp (N0 : Nat → Prop) (w : World) (ν : Nat → Value) (h : Heap) : Prop where
  objs : ∀ id o, look h.objs id = some o → Ro w (nN N0 ν) ν id o
  inj : ∀ i j b, vblk (ν i) = some b → vblk (ν j) = some b → i = j
  bnd : ∀ i b, vblk (ν i) = some b → b < w.heap.size
  dom : ∀ i, h.nx ≤ i → ν i = undef
  n0 : ∀ b, N0 b → b < w.heap.size
  dis : ∀ i b, vblk (ν i) = some b → ¬ N0 b

/-- since w0 only blocks of Nf, and new ones, have turned -/
structure Kp (Nf : Nat → Prop) (w0 w : World) : Prop where
  os : w.os = w0.os
  tape : w.tape = w0.tape
  output : w.output = w0.output
  size : w0.heap.size ≤ w.heap.size
  blk : ∀ b, b < w0.heap.size → ¬ Nf b → w.heap[b]? = w0.heap[b]?
theorem Kp.refl (Nf : Nat → Prop) (w : World) : Kp Nf w w := ⟨rfl, rfl, rfl, Nat.le_refl _, fun _ _ _ => rfl⟩
theorem Kp.trans {Nf Ng : Nat → Prop} {a b c : World} (h : Kp Nf a b) (k : Kp Ng b c) (hN : ∀ x, x < a.heap.size → Ng x → Nf x) : Kp Nf a c :=
  ⟨k.os.trans h.os, k.tape.trans h.tape, k.output.trans h.output, Nat.le_trans h.size k.size, fun x hx hn => (k.blk x (Nat.lt_of_lt_of_le hx h.size) (fun g => hn (hN x hx g))).trans (h.blk x hx hn)⟩

structure St (N0 : Nat → Prop) (w0 : World) (Nf : Nat → Prop) (n : Nat) (ν0 : Nat → Value) (σ : Env) (h : Heap) (a : Act) (w : World) (ν : Nat → Value) : Prop where
  slots : ∀ k, Rv w (nN N0 ν) ν [σ k] [a.tmps.getD k undef]
  hp : Hp N0 w ν h
  kp : Kp Nf w0 w
  fresh : ∀ i b, vblk (ν i) = some b → w0.heap.size ≤ b ∨ Nf b
  size : a.tmps.size = n
  defers : a.defers = []
  keep : ∀ i, ν0 i ≠ undef → (∀ A m c, ν0 i ≠ .slice A m c) → ν i = ν0 i
  low : h.lo ≤ h.nx ∧ ∀ i, h.lo ≤ i → ν0 i = undef

section
variable {N0 Nf : Nat → Prop} {w0 w w' : World} {n : Nat} {σ : Env} {h : Heap} {a : Act} {ν ν' ν0 : Nat → Value}

theorem getD_put (a : Act) (d : Option Nat) (v : Value) (k : Nat) : (a.put d v).tmps.getD k undef = match d with
    | none => a.tmps.getD k undef
    | some d => if k = d ∧ d < a.tmps.size then v else a.tmps.getD k undef := by
  cases d with
  | none => rfl
  | some d =>
    simp only [Act.put, Array.getD_eq_getD_getElem?, Array.getElem?_setIfInBounds]
    by_cases h1 : d = k
    · subst h1
      by_cases h2 : d < a.tmps.size
      · simp [h2]
      · simp [h2]
    · rw [if_neg h1, if_neg (fun h => h1 h.1.symm)]
theorem size_put (a : Act) (d : Option Nat) (v : Value) : (a.put d v).tmps.size = a.tmps.size := by
  cases d <;> simp [Act.put]
theorem defers_put (a : Act) (d : Option Nat) (v : Value) : (a.put d v).defers = a.defers := by
  cases d <;> simp [Act.put]

/-- the slots behind an operation -/
theorem slots_put {w : World} {N : Nat → Prop} (hs : ∀ k, Rv w N ν [σ k] [a.tmps.getD k undef]) (hn : a.tmps.size = n) (d : Option Nat) {r : AV} {v : Value} (hr : Rv w N ν [r] [v]) :
    ∀ k, Rv w N ν [(σ.putO n d r) k] [(a.put d v).tmps.getD k undef] := by
  intro k
  rw [getD_put]
  cases d with
  | none => exact hs k
  | some d =>
    simp only [Env.putO]
    by_cases h2 : d < a.tmps.size
    · rw [show Nat.ble (d + 1) n = true from by rw [Nat.ble_eq]; omega]
      simp only [cond_true, Env.put]
      by_cases h1 : k = d
      · subst h1; rw [nbT, if_pos ⟨rfl, h2⟩]; exact hr
      · rw [nbF h1, if_neg (fun h => h1 h.1)]; exact hs k
    · rw [show Nat.ble (d + 1) n = false from by cases e : Nat.ble (d + 1) n; rfl; rw [Nat.ble_eq] at e; omega]
      rw [if_neg (fun h => h2 h.2)]
      exact hs k

theorem Hp.mvN (hp : Hp N0 w ν h) (hsz : w.heap.size ≤ w'.heap.size) (tb : Nat → Prop) (hb : ∀ b, b < w.heap.size → ¬ tb b → w'.heap[b]? = w.heap[b]?) (htb : ∀ b, tb b → nN N0 ν b)
    (hnew : ∀ id b, vblk (ν' id) = some b → vblk (ν id) = some b ∨ w.heap.size ≤ b) : Mv w (nN N0 ν) w' (nN N0 ν') := by
  refine ⟨hsz, fun b hlt hN => ⟨?_, hb b hlt (fun g => hN (htb b g))⟩⟩
  rintro (g | ⟨id, g⟩)
  · exact hN (.inl g)
  · rcases hnew id b g with g | g
    · exact hN (.inr ⟨id, g⟩)
    · omega

theorem ownsRow_blk {w w' : World} {t sz k : Nat} {v : Value} {cells : List Value} (h : w.ownsRow 0 t sz v k cells) (hb : ∀ b, vblk v = some b → w'.heap[b]? = w.heap[b]?) : w'.ownsRow 0 t sz v k cells := by
  refine ⟨h.1, ?_⟩
  rcases h.2 with h | ⟨g, cap, cur, rfl, h1, h2, h3⟩
  · exact .inl h
  · exact .inr ⟨g, cap, cur, rfl, h1, by rw [hb g rfl]; exact h2, h3⟩

/-- an object whose own block stands -/
theorem Ro.keep {N N' : Nat → Prop} (m : Mv w N w' N') (hν : ∀ id, ν id ≠ undef → ν' id = ν id) {id : Nat} {o : AO} (hb : ∀ b, vblk (ν id) = some b → w'.heap[b]? = w.heap[b]?)
    (hr : Ro w N ν id o) : Ro w' N' ν' id o := by
  cases o with
  | cells t cs =>
    obtain ⟨b, arr, e, h1, h2, h3⟩ := hr
    refine ⟨b, arr, e, ?_, ?_, h3.mv m hν⟩
    · rw [hν id (by rw [h1]; simp [undef]), h1]
    · rw [hb b (by rw [h1]; rfl)]; exact h2
  | row t sz rows =>
    obtain ⟨A, c, cells, h1, h2, h3, h4, h5, h6⟩ := hr
    have e : ν' id = ν id := hν id (by rw [h1]; simp [undef])
    refine ⟨A, c, cells, by rw [e, h1], h2.mv m, h3, h4, h5, ?_⟩
    rw [e]
    exact ownsRow_blk h6 hb
  | map t tk es =>
    obtain ⟨r, arr, clock, h1, h2, h3⟩ := hr
    exact ⟨r, arr, clock, by rw [hν id (by rw [h1]; simp [undef]), h1], by rw [hb r (by rw [h1]; rfl)]; exact h2, h3.mv m hν⟩
theorem Ro.keepSub {N N' : Nat → Prop} (m : Mv w N w' N') {i : Nat} {by_ : AV} (hν : ∀ id, id ≠ i → ν id ≠ undef → ν' id = ν id) (hby : ∀ A n c, ν i = .slice A n c → Rv w' N' ν' [by_] [.slice A n c])
    {id : Nat} {o : AO} (hid : id ≠ i) (hb : ∀ b, vblk (ν id) = some b → w'.heap[b]? = w.heap[b]?) (hr : Ro w N ν id o) : Ro w' N' ν' id (o.sub i by_) := by
  cases o with
  | cells t cs =>
    obtain ⟨b, arr, e, h1, h2, h3⟩ := hr
    refine ⟨b, arr, e, ?_, ?_, h3.sub m hν hby⟩
    · rw [hν id hid (by rw [h1]; simp [undef]), h1]
    · rw [hb b (by rw [h1]; rfl)]; exact h2
  | row t sz rows =>
    obtain ⟨A, c, cells, h1, h2, h3, h4, h5, h6⟩ := hr
    have e : ν' id = ν id := hν id hid (by rw [h1]; simp [undef])
    refine ⟨A, c, cells, by rw [e, h1], h2.mv m, h3, h4, h5, ?_⟩
    rw [e]
    exact ownsRow_blk h6 hb
  | map t tk es =>
    obtain ⟨r, arr, clock, h1, h2, h3⟩ := hr
    exact ⟨r, arr, clock, by rw [hν id hid (by rw [h1]; simp [undef]), h1], by rw [hb r (by rw [h1]; rfl)]; exact h2, h3.sub m hν hby⟩

theorem look_setO (l : List (Nat × AO)) (i j : Nat) (x : AO) : look (setO i x l) j = if j = i then (look l i).map (fun _ => x) else look l j := by
  induction l with
  | nil => simp [setO, look]
  | cons p l ih =>
    obtain ⟨k, o⟩ := p
    by_cases hki : k = i
    · subst hki
      simp only [setO, nbT, cond_true, look]
      by_cases hj : j = k
      · subst hj; simp [nbT]
      · simp [nbF hj, hj]
    · simp only [setO, nbF hki, cond_false, look]
      by_cases hj : j = k
      · subst hj; simp [nbT, hki]
      · simp only [nbF hj, cond_false, ih]
        by_cases hji : j = i
        · subst hji; simp [nbF hj]
        · simp [hji]
theorem look_subO (l : List (Nat × AO)) (i j : Nat) (b : AV) : look (subO i b l) j = (look l j).map (AO.sub i b) := by
  induction l with
  | nil => rfl
  | cons p l ih =>
    obtain ⟨k, o⟩ := p
    simp only [subO, look]
    cases Nat.beq j k <;> simp [ih]
theorem look_del {α : Type} (l : List (Nat × α)) (i j : Nat) : look (del i l) j = if j = i then none else look l j := by
  induction l with
  | nil => simp [del, look]
  | cons p l ih =>
    obtain ⟨k, o⟩ := p
    simp only [del]
    by_cases hki : k = i
    · subst hki
      simp only [nbT, cond_true, ih, look]
      by_cases hj : j = k
      · simp [hj]
      · simp [hj, nbF hj]
    · simp only [nbF hki, cond_false, look]
      by_cases hj : j = k
      · subst hj; simp [nbT, hki]
      · simp only [nbF hj, cond_false, ih]

/-- A NEW OBJECT. -/
theorem Hp.new (hp : Hp N0 w ν h) (hsz : w.heap.size ≤ w'.heap.size) (hb : ∀ b, b < w.heap.size → w'.heap[b]? = w.heap[b]?) {val : Value} (hval : val ≠ undef)
    (hblk : ∀ b, vblk val = some b → w.heap.size ≤ b ∧ b < w'.heap.size) {o : AO}
    (hro : Mv w (nN N0 ν) w' (nN N0 (upd ν h.nx val)) → (∀ id, ν id ≠ undef → upd ν h.nx val id = ν id) → Ro w' (nN N0 (upd ν h.nx val)) (upd ν h.nx val) h.nx o) :
    Hp N0 w' (upd ν h.nx val) (h.new o) ∧ Mv w (nN N0 ν) w' (nN N0 (upd ν h.nx val)) ∧ ∀ id, ν id ≠ undef → upd ν h.nx val id = ν id := by
  have hν : ∀ id, ν id ≠ undef → upd ν h.nx val id = ν id := by
    intro id hid
    have : id ≠ h.nx := fun e => hid (by rw [e]; exact hp.dom _ (Nat.le_refl _))
    simp [upd, this]
  have hup : ∀ i b, vblk (upd ν h.nx val i) = some b → (i = h.nx ∧ vblk val = some b) ∨ (i ≠ h.nx ∧ vblk (ν i) = some b) := by
    intro i b g
    by_cases e : i = h.nx
    · exact .inl ⟨e, by simpa [upd, e] using g⟩
    · exact .inr ⟨e, by simpa [upd, e] using g⟩
  have m : Mv w (nN N0 ν) w' (nN N0 (upd ν h.nx val)) := hp.mvN hsz (fun _ => False) (fun b hlt _ => hb b hlt) (fun _ h => h.elim) (by
    intro id b g
    rcases hup id b g with ⟨_, g⟩ | ⟨_, g⟩
    · exact .inr (hblk b g).1
    · exact .inl g)
  refine ⟨⟨?_, ?_, ?_, ?_, fun b hb' => Nat.lt_of_lt_of_le (hp.n0 b hb') hsz, ?_⟩, m, hν⟩
  · intro id o' hl
    simp only [Heap.new, look] at hl
    by_cases e : id = h.nx
    · subst e
      rw [nbT] at hl
      simp only [cond_true, Option.some.injEq] at hl
      subst hl
      exact hro m hν
    · rw [nbF e] at hl
      exact Ro.keep m hν (fun b g => hb b (hp.bnd id b g)) (hp.objs id o' hl)
  · intro i j b gi gj
    rcases hup i b gi with ⟨e1, g1⟩ | ⟨e1, g1⟩ <;> rcases hup j b gj with ⟨e2, g2⟩ | ⟨e2, g2⟩
    · rw [e1, e2]
    · have := (hblk b g1).1; have := hp.bnd j b g2; omega
    · have := (hblk b g2).1; have := hp.bnd i b g1; omega
    · exact hp.inj i j b g1 g2
  · intro i b g
    rcases hup i b g with ⟨_, g⟩ | ⟨_, g⟩
    · exact (hblk b g).2
    · exact Nat.lt_of_lt_of_le (hp.bnd i b g) hsz
  · intro i hi
    simp only [Heap.new] at hi
    have : i ≠ h.nx := by omega
    simp only [upd, this, if_false]
    exact hp.dom i (by omega)
  · intro i b g hN
    rcases hup i b g with ⟨_, g⟩ | ⟨_, g⟩
    · have := (hblk b g).1; have := hp.n0 b hN; omega
    · exact hp.dis i b g hN

/-- a state behind a new object -/
theorem St.new (s : St N0 w0 Nf n ν0 σ h a w ν) (hk : Kp (fun _ => False) w w') {val : Value} (hval : val ≠ undef)
    (hblk : ∀ b, vblk val = some b → w.heap.size ≤ b ∧ b < w'.heap.size) {o : AO}
    (hro : Mv w (nN N0 ν) w' (nN N0 (upd ν h.nx val)) → (∀ id, ν id ≠ undef → upd ν h.nx val id = ν id) → Ro w' (nN N0 (upd ν h.nx val)) (upd ν h.nx val) h.nx o)
    (d : Option Nat) {r : AV} {v : Value} (hr : Rv w' (nN N0 (upd ν h.nx val)) (upd ν h.nx val) [r] [v]) :
    St N0 w0 Nf n ν0 (σ.putO n d r) (h.new o) (a.put d v) w' (upd ν h.nx val) := by
  obtain ⟨hp, m, hν⟩ := s.hp.new hk.size (fun b hb => hk.blk b hb (fun h => h)) hval hblk hro
  refine ⟨slots_put (fun k => (s.slots k).mv m hν) s.size d hr, hp, s.kp.trans hk (fun _ _ h => h.elim), ?_, by rw [size_put, s.size], by rw [defers_put, s.defers], ?_, ⟨Nat.le_succ_of_le s.low.1, s.low.2⟩⟩
  · intro i b g
    by_cases e : i = h.nx
    · have : vblk val = some b := by simpa [upd, e] using g
      exact .inl (Nat.le_trans s.kp.size (hblk b this).1)
    · exact s.fresh i b (by simpa [upd, e] using g)
  · intro i h1 h2
    have : i ≠ h.nx := fun e => h1 (s.low.2 i (by rw [e]; exact s.low.1))
    simp only [upd, this, if_false]
    exact s.keep i h1 h2

/-- a state behind an operation that looks alone, or a call that leaves all that was there -/
theorem St.seen (s : St N0 w0 Nf n ν0 σ h a w ν) (hk : Kp (fun _ => False) w w') (d : Option Nat) {r : AV} {v : Value} (hr : Rv w' (nN N0 ν) ν [r] [v]) :
    St N0 w0 Nf n ν0 (σ.putO n d r) h (a.put d v) w' ν := by
  have hb : ∀ b, b < w.heap.size → w'.heap[b]? = w.heap[b]? := fun b hb => hk.blk b hb (fun h => h)
  have m : Mv w (nN N0 ν) w' (nN N0 ν) := ⟨hk.size, fun b hlt hN => ⟨hN, hb b hlt⟩⟩
  refine ⟨slots_put (fun k => (s.slots k).mv m (fun _ _ => rfl)) s.size d hr, ?_, s.kp.trans hk (fun _ _ h => h.elim), s.fresh, by rw [size_put, s.size], by rw [defers_put, s.defers], s.keep, s.low⟩
  exact ⟨fun id o hl => Ro.keep m (fun _ _ => rfl) (fun b g => hb b (s.hp.bnd id b g)) (s.hp.objs id o hl), s.hp.inj, fun i b g => Nat.lt_of_lt_of_le (s.hp.bnd i b g) hk.size, s.hp.dom,
    fun b hb' => Nat.lt_of_lt_of_le (s.hp.n0 b hb') hk.size, s.hp.dis⟩
end
end Go.Vc
