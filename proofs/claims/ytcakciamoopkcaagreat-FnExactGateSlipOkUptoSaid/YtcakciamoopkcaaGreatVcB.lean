/- How abstract values stand for Go values in a world, and that this stands when the world goes on. -/
import Derived.Test.YtcakciamoopkcaaGreatVcA
namespace Go.Vc

/-- a text, as the model holds it -/
def mkS (s : Bs) : ByteArray := ⟨s.toArray⟩

def Placed (w : World) (N : Nat → Prop) (A : Option Addr) (cells : List Value) : Prop :=
  cells = [] ∨ ∃ b o, A = some ⟨b, o, none⟩ ∧ ¬ N b ∧ ∀ (j : Nat) (v : Value), cells[j]? = some v → w.cell? ⟨b, o + j, none⟩ = some v

/-- the cells 'cs' read as the data 'ds'; no block of N is looked at -/
inductive Rd (w : World) (N : Nat → Prop) : List D → List Value → Prop
  | nil : Rd w N [] []
  | int {ds cs} (k : IntKind) (n : Int) : Rd w N ds cs → Rd w N (.int k n :: ds) (.int k n :: cs)
  | bool {ds cs} (b : Bool) : Rd w N ds cs → Rd w N (.bool b :: ds) (.bool b :: cs)
  | str {ds cs} (s : Bs) : s.length ≤ big → Rd w N ds cs → Rd w N (.str s :: ds) (.string (mkS s) :: cs)
  | list {ds cs} (rows : List (List D)) (A : Option Addr) (cap sz : Nat) (cells : List Value) : Rd w N rows.flatten cells → (∀ r ∈ rows, r.length = sz) → Placed w N A cells →
      rows.length ≤ cap → rows.length ≤ big → Rd w N ds cs → Rd w N (.list rows :: ds) (.slice A rows.length cap :: cs)

theorem Rd.length {w : World} {N : Nat → Prop} {ds : List D} {cs : List Value} (h : Rd w N ds cs) : cs.length = ds.length := by
  induction h <;> simp_all
theorem Rd.one {w : World} {N : Nat → Prop} {ds : List D} {cs : List Value} (h : Rd w N ds cs) : ∀ v ∈ cs, v.oneCell' = true := by
  induction h <;> simp_all [Value.oneCell']

theorem Rd.append {w : World} {N : Nat → Prop} {ds es : List D} {cs fs : List Value} (h : Rd w N ds cs) (k : Rd w N es fs) : Rd w N (ds ++ es) (cs ++ fs) := by
  induction h with
  | nil => exact k
  | int a b _ ih => exact .int a b ih
  | bool b _ ih => exact .bool b ih
  | str s hs _ ih => exact .str s hs ih
  | list rows A cap sz cells h1 h2 h3 h4 h5 _ _ ih => exact .list rows A cap sz cells h1 h2 h3 h4 h5 ih

theorem Rd.split {w : World} {N : Nat → Prop} : ∀ {ds es : List D} {cs : List Value}, Rd w N (ds ++ es) cs → ∃ c1 c2, cs = c1 ++ c2 ∧ Rd w N ds c1 ∧ Rd w N es c2
  | [], _, cs, h => ⟨[], cs, rfl, .nil, h⟩
  | d :: ds, es, _, h => by
    cases h with
    | int k n h => obtain ⟨c1, c2, rfl, h1, h2⟩ := Rd.split h; exact ⟨_ :: c1, c2, rfl, .int k n h1, h2⟩
    | bool b h => obtain ⟨c1, c2, rfl, h1, h2⟩ := Rd.split h; exact ⟨_ :: c1, c2, rfl, .bool b h1, h2⟩
    | str s hs h => obtain ⟨c1, c2, rfl, h1, h2⟩ := Rd.split h; exact ⟨_ :: c1, c2, rfl, .str s hs h1, h2⟩
    | list rows A cap sz cells h1 h2 h3 h4 h5 h => obtain ⟨c1, c2, rfl, k1, k2⟩ := Rd.split h; exact ⟨_ :: c1, c2, rfl, .list rows A cap sz cells h1 h2 h3 h4 h5 k1, k2⟩

theorem Rd.drop {w : World} {N : Nat → Prop} {ds : List D} {cs : List Value} (h : Rd w N ds cs) (k : Nat) : Rd w N (ds.drop k) (cs.drop k) := by
  have h' := h
  have g : Rd w N (ds.take k ++ ds.drop k) cs := by rw [List.take_append_drop]; exact h
  obtain ⟨c1, c2, rfl, h1, h2⟩ := Rd.split g
  by_cases hk : k ≤ ds.length
  · have := h1.length
    rw [List.length_take, Nat.min_eq_left hk] at this
    have e : (c1 ++ c2).drop k = c2 := by rw [← this]; exact List.drop_left
    rw [e]
    exact h2
  · have := h'.length
    rw [List.drop_of_length_le (l := ds) (by omega), List.drop_of_length_le (l := c1 ++ c2) (by omega)]
    exact .nil
theorem Rd.take {w : World} {N : Nat → Prop} {ds : List D} {cs : List Value} (h : Rd w N ds cs) (k : Nat) : Rd w N (ds.take k) (cs.take k) := by
  have h' := h
  have g : Rd w N (ds.take k ++ ds.drop k) cs := by rw [List.take_append_drop]; exact h
  obtain ⟨c1, c2, rfl, h1, h2⟩ := Rd.split g
  by_cases hk : k ≤ ds.length
  · have := h1.length
    rw [List.length_take, Nat.min_eq_left hk] at this
    have e : (c1 ++ c2).take k = c1 := by rw [← this]; exact List.take_left
    rw [e]
    exact h1
  · have := h'.length
    rw [List.take_of_length_le (l := ds) (by omega), List.take_of_length_le (l := c1 ++ c2) (by omega)]
    exact h'

theorem nbF {a b : Nat} (h : a ≠ b) : Nat.beq a b = false := by
  cases e : Nat.beq a b with
  | false => rfl
  | true => exact absurd (Nat.eq_of_beq_eq_true e) h
theorem nbT (a : Nat) : Nat.beq a a = true := Nat.beq_refl a
theorem cell?_lt {w : World} {a : Addr} {v : Value} (h : w.cell? a = some v) : a.block < w.heap.size := by
  unfold World.cell? at h
  rcases Nat.lt_or_ge a.block w.heap.size with g | g
  · exact g
  · rw [Array.getElem?_eq_none g] at h
    cases h

/-- the world goes on: what is not in N stands, and is not in N' either -/
structure Mv (w : World) (N : Nat → Prop) (w' : World) (N' : Nat → Prop) : Prop where
  size : w.heap.size ≤ w'.heap.size
  blk : ∀ b, b < w.heap.size → ¬ N b → ¬ N' b ∧ w'.heap[b]? = w.heap[b]?

theorem Mv.refl (w : World) (N : Nat → Prop) : Mv w N w N := ⟨Nat.le_refl _, fun _ _ h => ⟨h, rfl⟩⟩

theorem Placed.mv {w w' : World} {N N' : Nat → Prop} (m : Mv w N w' N') {A : Option Addr} {cells : List Value} (h : Placed w N A cells) : Placed w' N' A cells := by
  rcases h with h | ⟨b, o, rfl, hb, hc⟩
  · exact .inl h
  · cases cells with
    | nil => exact .inl rfl
    | cons c cs =>
      have h0 := cell?_lt (hc 0 c rfl)
      obtain ⟨g1, g2⟩ := m.blk b h0 hb
      refine .inr ⟨b, o, rfl, g1, fun j v hv => ?_⟩
      rw [World.cell?_of_block (w := w) (a := ⟨b, o + j, none⟩) g2]
      exact hc j v hv
theorem Rd.mv {w w' : World} {N N' : Nat → Prop} (m : Mv w N w' N') {ds : List D} {cs : List Value} (h : Rd w N ds cs) : Rd w' N' ds cs := by
  induction h with
  | nil => exact .nil
  | int a b _ ih => exact .int a b ih
  | bool b _ ih => exact .bool b ih
  | str s hs _ ih => exact .str s hs ih
  | list rows A cap sz cells _ h2 h3 h4 h5 _ ih1 ih2 => exact .list rows A cap sz cells ih1 h2 (h3.mv m) h4 h5 ih2

/-- the values 'vs' are as 'as' says; ν: what the names of the own blocks stand for -/
inductive Rv (w : World) (N : Nat → Prop) (ν : Nat → Value) : List AV → List Value → Prop
  | nil : Rv w N ν [] []
  | any {as vs} (v : Value) : Rv w N ν as vs → Rv w N ν (.any :: as) (v :: vs)
  | d {as vs x v} : Rd w N [x] [v] → Rv w N ν as vs → Rv w N ν (.d x :: as) (v :: vs)
  | nils {as vs} : Rv w N ν as vs → Rv w N ν (.nils :: as) (.slice none 0 0 :: vs)
  | val {as vs} (v : Value) : Rv w N ν as vs → Rv w N ν (.val v :: as) (v :: vs)
  | agg {as vs cs} (xs : List Value) : Rv w N ν cs xs → Rv w N ν as vs → Rv w N ν (.agg cs :: as) (.agg xs.toArray :: vs)
  | tup {as vs cs} (xs : List Value) : Rv w N ν cs xs → Rv w N ν as vs → Rv w N ν (.tup cs :: as) (.tuple xs.toArray :: vs)
  | ptr {as vs id b} (off : Nat) : ν id = .pointer (some ⟨b, 0, none⟩) → Rv w N ν as vs → Rv w N ν (.ptr id off :: as) (.pointer (some ⟨b, off, none⟩) :: vs)
  | at_ {as vs ds} (A : Addr) (cells : List Value) : cells ≠ [] → Rd w N ds cells → Placed w N (some A) cells → Rv w N ν as vs → Rv w N ν (.at_ ds :: as) (.pointer (some A) :: vs)
  | rptr {as vs id b n c} (i off sz : Nat) : ν id = .slice (some ⟨b, 0, none⟩) n c → i < n → Rv w N ν as vs → Rv w N ν (.rptr id i sz off :: as) (.pointer (some ⟨b, i * sz + off, none⟩) :: vs)
  | own {as vs id A n c} : ν id = .slice A n c → Rv w N ν as vs → Rv w N ν (.own id :: as) (.slice A n c :: vs)
  | mapr {as vs id r} : ν id = .map (some r) → Rv w N ν as vs → Rv w N ν (.mapr id :: as) (.map (some r) :: vs)
  | fn {as vs cs} (f : FuncId) (xs : List Value) : Rv w N ν cs xs → Rv w N ν as vs → Rv w N ν (.fn f cs :: as) (.func (.func f) #[] xs.toArray :: vs)
  | iface {as vs x v} (t : TypeId) : Rv w N ν [x] [v] → Rv w N ν as vs → Rv w N ν (.iface t x :: as) (.iface t v :: vs)

section
variable {w w' : World} {N N' : Nat → Prop} {ν ν' ν0 : Nat → Value}
theorem Rv.length {as : List AV} {vs : List Value} (h : Rv w N ν as vs) : vs.length = as.length := by
  induction h <;> simp_all

theorem Rv.mv (m : Mv w N w' N') (hν : ∀ id, ν id ≠ undef → ν' id = ν id) {as : List AV} {vs : List Value} (h : Rv w N ν as vs) : Rv w' N' ν' as vs := by
  induction h with
  | nil => exact .nil
  | any v _ ih => exact .any v ih
  | d h _ ih => exact .d (h.mv m) ih
  | nils _ ih => exact .nils ih
  | val v _ ih => exact .val v ih
  | agg xs _ _ ih1 ih2 => exact .agg xs ih1 ih2
  | tup xs _ _ ih1 ih2 => exact .tup xs ih1 ih2
  | ptr off h _ ih => exact .ptr off (by rw [hν _ (by rw [h]; simp [undef]), h]) ih
  | at_ A cells h0 h1 h2 _ ih => exact .at_ A cells h0 (h1.mv m) (h2.mv m) ih
  | rptr i off sz h hi _ ih => exact .rptr i off sz (by rw [hν _ (by rw [h]; simp [undef]), h]) hi ih
  | own h _ ih => exact .own (by rw [hν _ (by rw [h]; simp [undef]), h]) ih
  | mapr h _ ih => exact .mapr (by rw [hν _ (by rw [h]; simp [undef]), h]) ih
  | fn f xs _ _ ih1 ih2 => exact .fn f xs ih1 ih2
  | iface t _ _ ih1 ih2 => exact .iface t ih1 ih2

theorem Rv.sub (m : Mv w N w' N') {i : Nat} {b : AV} (hν : ∀ id, id ≠ i → ν id ≠ undef → ν' id = ν id) (hb : ∀ A n c, ν i = .slice A n c → Rv w' N' ν' [b] [.slice A n c]) :
    ∀ {as : List AV} {vs : List Value}, Rv w N ν as vs → Rv w' N' ν' (AV.subL i b as) vs := by
  intro as vs h
  induction h with
  | nil => simp only [AV.subL]; exact .nil
  | any v _ ih => simp only [AV.subL, AV.sub]; exact .any v ih
  | d h _ ih => simp only [AV.subL, AV.sub]; exact .d (h.mv m) ih
  | nils _ ih => simp only [AV.subL, AV.sub]; exact .nils ih
  | val v _ ih => simp only [AV.subL, AV.sub]; exact .val v ih
  | agg xs _ _ ih1 ih2 => simp only [AV.subL, AV.sub]; exact .agg xs ih1 ih2
  | tup xs _ _ ih1 ih2 => simp only [AV.subL, AV.sub]; exact .tup xs ih1 ih2
  | @ptr as vs id b' off h _ ih =>
    simp only [AV.subL, AV.sub]
    by_cases e : id = i
    · rw [show Nat.beq id i = true from by simpa using e]; exact .any _ ih
    · rw [show Nat.beq id i = false from nbF e]; exact .ptr off (by rw [hν _ e (by rw [h]; simp [undef]), h]) ih
  | at_ A cells h0 h1 h2 _ ih => simp only [AV.subL, AV.sub]; exact .at_ A cells h0 (h1.mv m) (h2.mv m) ih
  | @rptr as vs id b' n c i' off sz h hi _ ih =>
    simp only [AV.subL, AV.sub]
    by_cases e : id = i
    · rw [show Nat.beq id i = true from by simpa using e]; exact .any _ ih
    · rw [show Nat.beq id i = false from nbF e]; exact .rptr i' off sz (by rw [hν _ e (by rw [h]; simp [undef]), h]) hi ih
  | @own as vs id A n c h _ ih =>
    simp only [AV.subL, AV.sub]
    by_cases e : id = i
    · rw [show Nat.beq id i = true from by simpa using e]
      subst e
      have := hb A n c h
      cases hb A n c h with
      | any => exact .any _ ih
      | d h1 => exact .d h1 ih
      | nils => exact .nils ih
      | val => exact .val _ ih
      | own h1 => exact .own h1 ih
    · rw [show Nat.beq id i = false from nbF e]; exact .own (by rw [hν _ e (by rw [h]; simp [undef]), h]) ih
  | @mapr as vs id r h _ ih =>
    simp only [AV.subL, AV.sub]
    by_cases e : id = i
    · rw [show Nat.beq id i = true from by simpa using e]; exact .any _ ih
    · rw [show Nat.beq id i = false from nbF e]; exact .mapr (by rw [hν _ e (by rw [h]; simp [undef]), h]) ih
  | fn f xs _ _ ih1 ih2 => simp only [AV.subL, AV.sub]; exact .fn f xs ih1 ih2
  | iface t _ _ ih1 ih2 =>
    simp only [AV.subL, AV.sub] at ih1 ⊢
    exact .iface t ih1 ih2

theorem Rv.cons_inv {a : AV} {as : List AV} {vs : List Value} (h : Rv w N ν (a :: as) vs) : ∃ v r, vs = v :: r ∧ Rv w N ν [a] [v] ∧ Rv w N ν as r := by
  cases h with
  | any v h => exact ⟨_, _, rfl, .any v .nil, h⟩
  | d h1 h => exact ⟨_, _, rfl, .d h1 .nil, h⟩
  | nils h => exact ⟨_, _, rfl, .nils .nil, h⟩
  | val v h => exact ⟨_, _, rfl, .val v .nil, h⟩
  | agg xs h1 h => exact ⟨_, _, rfl, .agg xs h1 .nil, h⟩
  | tup xs h1 h => exact ⟨_, _, rfl, .tup xs h1 .nil, h⟩
  | ptr off h1 h => exact ⟨_, _, rfl, .ptr off h1 .nil, h⟩
  | at_ A cells h0 h1 h2 h => exact ⟨_, _, rfl, .at_ A cells h0 h1 h2 .nil, h⟩
  | rptr i off sz h1 h2 h => exact ⟨_, _, rfl, .rptr i off sz h1 h2 .nil, h⟩
  | own h1 h => exact ⟨_, _, rfl, .own h1 .nil, h⟩
  | mapr h1 h => exact ⟨_, _, rfl, .mapr h1 .nil, h⟩
  | fn f xs h1 h => exact ⟨_, _, rfl, .fn f xs h1 .nil, h⟩
  | iface t h1 h => exact ⟨_, _, rfl, .iface t h1 .nil, h⟩
theorem Rv.cons {a : AV} {v : Value} (h : Rv w N ν [a] [v]) {as : List AV} {vs : List Value} (k : Rv w N ν as vs) : Rv w N ν (a :: as) (v :: vs) := by
  cases h with
  | any v h => exact .any v k
  | d h1 h => exact .d h1 k
  | nils h => exact .nils k
  | val v h => exact .val v k
  | agg xs h1 h => exact .agg xs h1 k
  | tup xs h1 h => exact .tup xs h1 k
  | ptr off h1 h => exact .ptr off h1 k
  | at_ A cells h0 h1 h2 h => exact .at_ A cells h0 h1 h2 k
  | rptr i off sz h1 h2 h => exact .rptr i off sz h1 h2 k
  | own h1 h => exact .own h1 k
  | mapr h1 h => exact .mapr h1 k
  | fn f xs h1 h => exact .fn f xs h1 k
  | iface t h1 h => exact .iface t h1 k
theorem Rv.append {as bs : List AV} {vs us : List Value} (h : Rv w N ν as vs) (k : Rv w N ν bs us) : Rv w N ν (as ++ bs) (vs ++ us) := by
  induction as generalizing vs with
  | nil => cases h; exact k
  | cons a as ih =>
    obtain ⟨v, r, rfl, h1, h2⟩ := h.cons_inv
    exact h1.cons (ih h2)
theorem Rv.split {as bs : List AV} {vs : List Value} (h : Rv w N ν (as ++ bs) vs) : ∃ c1 c2, vs = c1 ++ c2 ∧ Rv w N ν as c1 ∧ Rv w N ν bs c2 := by
  induction as generalizing vs with
  | nil => exact ⟨[], vs, rfl, .nil, h⟩
  | cons a as ih =>
    obtain ⟨v, r, rfl, h1, h2⟩ := h.cons_inv
    obtain ⟨c1, c2, rfl, h3, h4⟩ := ih h2
    exact ⟨v :: c1, c2, rfl, h1.cons h3, h4⟩
theorem Rv.drop {as : List AV} {vs : List Value} (h : Rv w N ν as vs) (k : Nat) : Rv w N ν (as.drop k) (vs.drop k) := by
  induction k generalizing as vs with
  | zero => exact h
  | succ k ih =>
    cases as with
    | nil => cases h; exact .nil
    | cons a as => obtain ⟨v, r, rfl, _, h2⟩ := h.cons_inv; exact ih h2
theorem Rv.take {as : List AV} {vs : List Value} (h : Rv w N ν as vs) (k : Nat) : Rv w N ν (as.take k) (vs.take k) := by
  induction k generalizing as vs with
  | zero => exact .nil
  | succ k ih =>
    cases as with
    | nil => cases h; exact .nil
    | cons a as => obtain ⟨v, r, rfl, h1, h2⟩ := h.cons_inv; exact h1.cons (ih h2)
theorem Rv.get {as : List AV} {vs : List Value} (h : Rv w N ν as vs) {k : Nat} {a : AV} (hk : as[k]? = some a) : ∃ v, vs[k]? = some v ∧ Rv w N ν [a] [v] := by
  induction k generalizing as vs with
  | zero =>
    cases as with
    | nil => cases hk
    | cons x as => obtain ⟨v, r, rfl, h1, _⟩ := h.cons_inv; simp at hk; subst hk; exact ⟨v, rfl, h1⟩
  | succ k ih =>
    cases as with
    | nil => cases hk
    | cons x as => obtain ⟨v, r, rfl, _, h2⟩ := h.cons_inv; exact ih h2 (by simpa using hk)
theorem Rv.ofRd {ds : List D} {cs : List Value} (h : Rd w N ds cs) : Rv w N ν (ds.map .d) cs := by
  induction h with
  | nil => exact .nil
  | int a b _ ih => exact .d (.int a b .nil) ih
  | bool b _ ih => exact .d (.bool b .nil) ih
  | str s hs _ ih => exact .d (.str s hs .nil) ih
  | list rows A cap sz cells h1 h2 h3 h4 h5 _ _ ih => exact .d (.list rows A cap sz cells h1 h2 h3 h4 h5 .nil) ih
theorem Rv.dsOf {as : List AV} {vs : List Value} {ds : List D} (h : Rv w N ν as vs) (hd : dsOf as = some ds) : Rd w N ds vs := by
  induction as generalizing vs ds with
  | nil => cases h; simp [Vc.dsOf] at hd; subst hd; exact .nil
  | cons a as ih =>
    obtain ⟨v, r, rfl, h1, h2⟩ := h.cons_inv
    cases a <;> simp [Vc.dsOf] at hd
    · obtain ⟨ds', hd', rfl⟩ := hd
      cases h1 with
      | d h3 => exact h3.append (ih h2 hd')
    · obtain ⟨ds', hd', rfl⟩ := hd
      cases h1 with
      | nils _ => exact .list [] none 0 0 [] .nil (by simp) (.inl rfl) (Nat.le_refl _) (Nat.zero_le _) (ih h2 hd')
theorem Rv.oneCell {a : AV} {v : Value} (h : Rv w N ν [a] [v]) (h1 : a.one = true) : v.oneCell' = true := by
  cases h with
  | d h _ => exact h.one _ (by simp)
  | _ => simp_all [AV.one, Value.oneCell']
theorem Rv.oneL {as : List AV} {vs : List Value} (h : Rv w N ν as vs) (h1 : oneL as = true) : ∀ v ∈ vs, v.oneCell' = true := by
  induction as generalizing vs with
  | nil => cases h; simp
  | cons a as ih =>
    obtain ⟨v, r, rfl, h2, h3⟩ := h.cons_inv
    simp [Vc.oneL] at h1
    intro u hu
    rcases List.mem_cons.1 hu with rfl | hu
    · exact h2.oneCell h1.1
    · exact ih h3 h1.2 u hu

/-- rows forgotten: only what is no slice need stay -/
theorem Rv.noOwn (m : Mv w N w' N') (hν : ∀ id, ν id ≠ undef → (∀ A k c, ν id ≠ .slice A k c) → ν' id = ν id) : ∀ {as : List AV} {vs : List Value}, Rv w N ν as vs → Rv w' N' ν' (AV.noOwnL as) vs := by
  intro as vs h
  induction h with
  | nil => simp only [AV.noOwnL]; exact .nil
  | any v _ ih => simp only [AV.noOwnL, AV.noOwn]; exact .any v ih
  | d h _ ih => simp only [AV.noOwnL, AV.noOwn]; exact .d (h.mv m) ih
  | nils _ ih => simp only [AV.noOwnL, AV.noOwn]; exact .nils ih
  | val v _ ih => simp only [AV.noOwnL, AV.noOwn]; exact .val v ih
  | agg xs _ _ ih1 ih2 => simp only [AV.noOwnL, AV.noOwn]; exact .agg xs ih1 ih2
  | tup xs _ _ ih1 ih2 => simp only [AV.noOwnL, AV.noOwn]; exact .tup xs ih1 ih2
  | ptr off h _ ih => simp only [AV.noOwnL, AV.noOwn]; exact .ptr off (by rw [hν _ (by rw [h]; simp [undef]) (by rw [h]; simp), h]) ih
  | at_ A cells h0 h1 h2 _ ih => simp only [AV.noOwnL, AV.noOwn]; exact .at_ A cells h0 (h1.mv m) (h2.mv m) ih
  | rptr i off sz h hi _ ih => simp only [AV.noOwnL, AV.noOwn]; exact .any _ ih
  | own h _ ih => simp only [AV.noOwnL, AV.noOwn]; exact .any _ ih
  | mapr h _ ih => simp only [AV.noOwnL, AV.noOwn]; exact .mapr (by rw [hν _ (by rw [h]; simp [undef]) (by rw [h]; simp), h]) ih
  | fn f xs _ _ ih1 ih2 => simp only [AV.noOwnL, AV.noOwn]; exact .fn f xs ih1 ih2
  | iface t _ _ ih1 ih2 => simp only [AV.noOwnL, AV.noOwn] at ih1 ⊢; exact .iface t ih1 ih2

/-! ### the entries of a map -/
def keyVal : List D → Option Value
  | [.int k n] => some (.int k n)
  | [.str s] => some (.string (mkS s))
  | [.bool b] => some (.bool b)
  | _ => none
inductive Km (w : World) (N : Nat → Prop) (ν : Nat → Value) (tk : TK) : List (List D × AV) → List MapEntry → Prop
  | nil : Km w N ν tk [] []
  | cons {ks a es e l} : keyOk tk ks = true → keyVal ks = some e.key → Rv w N ν [a] [e.val] → Km w N ν tk es l → Km w N ν tk ((ks, a) :: es) (e :: l)
theorem Km.mv (m : Mv w N w' N') (hν : ∀ id, ν id ≠ undef → ν' id = ν id) {tk : TK} {es : List (List D × AV)} {l : List MapEntry} (h : Km w N ν tk es l) : Km w' N' ν' tk es l := by
  induction h with
  | nil => exact .nil
  | cons h1 h2 h3 _ ih => exact .cons h1 h2 (h3.mv m hν) ih
theorem Km.sub (m : Mv w N w' N') {i : Nat} {b : AV} (hν : ∀ id, id ≠ i → ν id ≠ undef → ν' id = ν id) (hb : ∀ A n c, ν i = .slice A n c → Rv w' N' ν' [b] [.slice A n c])
    {tk : TK} {es : List (List D × AV)} {l : List MapEntry} (h : Km w N ν tk es l) : Km w' N' ν' tk (subM i b es) l := by
  induction h with
  | nil => exact .nil
  | cons h1 h2 h3 _ ih =>
    have := h3.sub m hν hb
    simp only [AV.subL] at this
    exact .cons h1 h2 this ih
end
end Go.Vc
