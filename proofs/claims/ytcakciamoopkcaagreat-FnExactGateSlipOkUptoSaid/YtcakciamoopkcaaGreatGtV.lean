/- Rows in which each stands behind what it reads: one by one (greedy) and depth first come to the same. Plain Lean, no program. -/
import Derived.Test.YtcakciamoopkcaaGreatGtP
namespace Go.Vc
set_option linter.unusedSimpArgs false
set_option linter.unusedVariables false
/-- there is a rank that falls from each to what it reads -/
def Acy (rd : Bs → List Bs) (ns : List Bs) : Prop := ∃ r : Bs → Nat, ∀ n ∈ ns, ∀ y ∈ rd n, r y < r n
def stepG (rd : Bs → List Bs) (ns row : List Bs) : List Bs :=
  match ns.find? (fun f => !row.contains f && (rd f).all row.contains) with
  | some f => row ++ [f]
  | none => row
def greedy (rd : Bs → List Bs) (ns : List Bs) : Nat → List Bs
  | 0 => []
  | k + 1 => stepG rd ns (greedy rd ns k)
theorem len_of_sub : ∀ {xs ys : List Bs}, xs.Nodup → (∀ x ∈ xs, x ∈ ys) → xs.length ≤ ys.length
  | [], _, _, _ => Nat.zero_le _
  | x :: xs, ys, hn, hs => by
    have hn' := List.nodup_cons.1 hn
    have hx : x ∈ ys := hs x List.mem_cons_self
    have h1 : xs.length ≤ (ys.erase x).length := len_of_sub hn'.2 (fun y hy => by
      have hne : y ≠ x := fun e => hn'.1 (e ▸ hy)
      exact (List.mem_erase_of_ne hne).2 (hs y (List.mem_cons_of_mem _ hy)))
    have h2 := List.length_erase_of_mem hx
    have h3 := List.length_pos_of_mem hx
    simp only [List.length_cons]; omega
theorem find_min {α : Type} (p : α → Prop) (r : α → Nat) : ∀ m : Nat, (∃ x, p x ∧ r x ≤ m) → ∃ x, p x ∧ ∀ y, p y → r x ≤ r y
  | 0, ⟨x, hx, hr⟩ => ⟨x, hx, fun y _ => by omega⟩
  | m + 1, ⟨x, hx, hr⟩ => by
    by_cases h : ∃ y, p y ∧ r y ≤ m
    · exact find_min p r m h
    · exact ⟨x, hx, fun y hy => by
        have : ¬ r y ≤ m := fun c => h ⟨y, hy, c⟩
        omega⟩
theorem exists_out : ∀ {ns row : List Bs}, ns.Nodup → row.length < ns.length → ∃ x, x ∈ ns ∧ x ∉ row := by
  intro ns row hn hl
  refine Classical.byContradiction fun h => ?_
  have : ns.length ≤ row.length := len_of_sub hn (fun x hx => Classical.byContradiction fun hx' => h ⟨x, hx, hx'⟩)
  omega
structure Good (rd : Bs → List Bs) (ns row : List Bs) : Prop where
  nd : row.Nodup
  sub : ∀ x ∈ row, x ∈ ns
  beh : ∀ x ∈ row, ∀ y ∈ rd x, row.idxOf y < row.idxOf x
theorem idxOf_app {row : List Bs} {x f : Bs} (h : x ∈ row) : (row ++ [f]).idxOf x = row.idxOf x := by
  rw [List.idxOf_append, if_pos h]
theorem good_step {rd : Bs → List Bs} {ns row : List Bs} {f : Bs} (g : Good rd ns row) (hf : f ∈ ns) (h : f ∉ row) (hr : ∀ y ∈ rd f, y ∈ row) : Good rd ns (row ++ [f]) := by
  refine ⟨?_, ?_, ?_⟩
  · rw [List.nodup_append]
    refine ⟨g.nd, by simp, ?_⟩
    intro a ha b hb e
    rw [List.mem_singleton] at hb
    exact h (hb ▸ e ▸ ha)
  · intro x hx
    rcases List.mem_append.1 hx with hx | hx
    · exact g.sub x hx
    · rw [List.mem_singleton] at hx; exact hx ▸ hf
  · intro x hx y hy
    rcases List.mem_append.1 hx with hx | hx
    · have h1 := g.beh x hx y hy
      have h2 : row.idxOf x < row.length := List.idxOf_lt_length_of_mem hx
      have hy' : y ∈ row := List.idxOf_lt_length_iff.1 (by omega)
      rw [idxOf_app hx, idxOf_app hy']; exact h1
    · rw [List.mem_singleton] at hx
      subst hx
      have hy' := hr y hy
      rw [idxOf_app hy', List.idxOf_append, if_neg h]
      have := List.idxOf_lt_length_of_mem hy'
      omega
theorem stepG_good {rd : Bs → List Bs} {ns row : List Bs} (g : Good rd ns row) : Good rd ns (stepG rd ns row) := by
  unfold stepG
  split
  · rename_i f hf
    have h1 := List.find?_some hf
    rw [Bool.and_eq_true, Bool.not_eq_true'] at h1
    refine good_step g (List.mem_of_find?_eq_some hf) ?_ ?_
    · intro c
      have := h1.1
      rw [← Bool.not_eq_true, List.contains_iff_mem] at this
      exact this c
    · intro y hy
      have := List.all_eq_true.1 h1.2 y hy
      exact List.contains_iff_mem.1 this
  · exact g
theorem greedy_good (rd : Bs → List Bs) (ns : List Bs) : ∀ k, Good rd ns (greedy rd ns k)
  | 0 => ⟨List.nodup_nil, (fun x hx => absurd hx List.not_mem_nil), (fun x hx => absurd hx List.not_mem_nil)⟩
  | k + 1 => stepG_good (greedy_good rd ns k)
theorem greedy_full {rd : Bs → List Bs} {ns : List Bs} (hn : ns.Nodup) (hin : ∀ n ∈ ns, ∀ y ∈ rd n, y ∈ ns) (ha : Acy rd ns) : ∀ k, k ≤ ns.length → (greedy rd ns k).length = k
  | 0, _ => rfl
  | k + 1, h => by
    have ih := greedy_full hn hin ha k (by omega)
    have g := greedy_good rd ns k
    obtain ⟨r, hr⟩ := ha
    obtain ⟨x0, hx0, hx0'⟩ := exists_out (row := greedy rd ns k) hn (by omega)
    obtain ⟨x, ⟨hx, hxr⟩, hmin⟩ := find_min (fun x => x ∈ ns ∧ x ∉ greedy rd ns k) r (r x0) ⟨x0, ⟨hx0, hx0'⟩, Nat.le_refl _⟩
    have hready : (!(greedy rd ns k).contains x && (rd x).all (greedy rd ns k).contains) = true := by
      rw [Bool.and_eq_true, Bool.not_eq_true', List.all_eq_true]
      refine ⟨?_, fun y hy => ?_⟩
      · rw [← Bool.not_eq_true, List.contains_iff_mem]; exact hxr
      · refine List.contains_iff_mem.2 (Classical.byContradiction fun c => ?_)
        have := hmin y ⟨hin x hx y hy, c⟩
        have := hr x hx y hy
        omega
    show (stepG rd ns (greedy rd ns k)).length = k + 1
    unfold stepG
    split
    · rw [List.length_append, ih]; rfl
    · rename_i hf
      have := List.find?_eq_none.1 hf x hx
      exact absurd hready this
theorem greedy_acy {rd : Bs → List Bs} {ns : List Bs} (hn : ns.Nodup) (h : (greedy rd ns ns.length).length = ns.length) : Acy rd ns := by
  have g := greedy_good rd ns ns.length
  refine ⟨(greedy rd ns ns.length).idxOf, fun n hm y hy => g.beh n ?_ y hy⟩
  refine Classical.byContradiction fun c => ?_
  have : (n :: greedy rd ns ns.length).length ≤ ns.length := len_of_sub (List.nodup_cons.2 ⟨c, g.nd⟩) (fun x hx => by
    rcases List.mem_cons.1 hx with e | e
    · exact e ▸ hm
    · exact g.sub x e)
  rw [List.length_cons] at this
  omega
theorem greedy_le (rd : Bs → List Bs) (ns : List Bs) : (greedy rd ns ns.length).length ≤ ns.length := len_of_sub (greedy_good rd ns _).nd (greedy_good rd ns _).sub

/-! ### depth first -/
structure Wk where
  st : List (Bs × Int)
  out : List Bs
def lk : List (Bs × Int) → Bs → Int
  | [], _ => 0
  | (k, v) :: r, x => bif k == x then v else lk r x
def pt : List (Bs × Int) → Bs → Int → List (Bs × Int)
  | [], x, v => [(x, v)]
  | (k, u) :: r, x, v => bif k == x then (k, v) :: r else (k, u) :: pt r x v
theorem lk_pt {x y : Bs} {v : Int} : ∀ {s : List (Bs × Int)}, lk (pt s x v) y = bif x == y then v else lk s y
  | [] => by simp only [pt, lk]
  | (k, u) :: r => by
    cases h : k == x with
    | true =>
      have e : k = x := beq_iff_eq.1 h
      subst e
      simp only [pt, h, cond_true, lk]
      cases k == y <;> rfl
    | false =>
      simp only [pt, h, cond_false, lk, lk_pt (s := r)]
      cases h2 : k == y with
      | true =>
        have e : k = y := beq_iff_eq.1 h2
        subst e
        have : (x == k) = false := by rw [← Bool.not_eq_true, beq_iff_eq]; rw [← Bool.not_eq_true, beq_iff_eq] at h; exact fun c => h c.symm
        rw [this]; rfl
      | false => rfl
def walkL (w : Bs → Wk → Bool × Wk) : List Bs → Wk → Bool × Wk
  | [], s => (true, s)
  | y :: ys, s => match w y s with
    | (false, s') => (false, s')
    | (true, s') => walkL w ys s'
def walk (rd : Bs → List Bs) : Nat → Bs → Wk → Bool × Wk
  | 0, _, s => (false, s)
  | k + 1, x, s => bif lk s.st x == 1 then (false, s) else bif lk s.st x == 2 then (true, s) else
    match walkL (walk rd k) (rd x) ⟨pt s.st x 1, s.out⟩ with
    | (false, s') => (false, s')
    | (true, s') => (true, ⟨pt s'.st x 2, s'.out ++ [x]⟩)
/-- how many are not yet looked at -/
def white (ns : List Bs) (s : Wk) : Nat := (ns.filter fun n => lk s.st n == 0).length
/-- what a walk keeps: no value but 0, 1, 2; marks stay; what is 2 is out, behind what it reads -/
structure WkOk (rd : Bs → List Bs) (ns : List Bs) (s : Wk) : Prop where
  nd : s.out.Nodup
  sub : ∀ x ∈ s.out, x ∈ ns
  val : ∀ x, lk s.st x = 0 ∨ lk s.st x = 1 ∨ lk s.st x = 2
  two : ∀ x, lk s.st x = 2 ↔ x ∈ s.out
  beh : ∀ x ∈ s.out, ∀ y ∈ rd x, s.out.idxOf y < s.out.idxOf x
/-- from s to s': the ones stay the ones, nothing becomes white -/
structure WkLe (s s' : Wk) : Prop where
  one : ∀ x, lk s.st x = 1 ↔ lk s'.st x = 1
  two : ∀ x, lk s.st x = 2 → lk s'.st x = 2
  white : ∀ x, lk s'.st x = 0 → lk s.st x = 0
theorem WkLe.refl (s : Wk) : WkLe s s := ⟨fun _ => Iff.rfl, fun _ h => h, fun _ h => h⟩
theorem WkLe.trans {a b c : Wk} (h : WkLe a b) (k : WkLe b c) : WkLe a c := ⟨fun x => (h.one x).trans (k.one x), fun x e => k.two x (h.two x e), fun x e => h.white x (k.white x e)⟩
theorem filter_len_le {p q : Bs → Bool} : ∀ {ns : List Bs}, (∀ x, p x = true → q x = true) → (ns.filter p).length ≤ (ns.filter q).length
  | [], _ => Nat.le_refl _
  | n :: ns, h => by
    have ih := filter_len_le (ns := ns) h
    cases hp : p n with
    | true => rw [List.filter_cons_of_pos hp, List.filter_cons_of_pos (h n hp)]; simp only [List.length_cons]; omega
    | false =>
      rw [List.filter_cons_of_neg (by rw [hp]; simp)]
      cases hq : q n with
      | true => rw [List.filter_cons_of_pos hq]; simp only [List.length_cons]; omega
      | false => rw [List.filter_cons_of_neg (by rw [hq]; simp)]; exact ih
theorem filter_len_lt {p q : Bs → Bool} {a : Bs} : ∀ {ns : List Bs}, (∀ x, p x = true → q x = true) → a ∈ ns → p a = false → q a = true → (ns.filter p).length < (ns.filter q).length
  | [], _, h, _, _ => absurd h List.not_mem_nil
  | n :: ns, h, ha, h1, h2 => by
    by_cases e : n = a
    · subst e
      rw [List.filter_cons_of_neg (by rw [h1]; simp), List.filter_cons_of_pos h2]
      have := filter_len_le (ns := ns) h
      simp only [List.length_cons]; omega
    · have hm : a ∈ ns := (List.mem_cons.1 ha).resolve_left (fun c => e c.symm)
      have ih := filter_len_lt (ns := ns) h hm h1 h2
      cases hp : p n with
      | true => rw [List.filter_cons_of_pos hp, List.filter_cons_of_pos (h n hp)]; simp only [List.length_cons]; omega
      | false =>
        rw [List.filter_cons_of_neg (by rw [hp]; simp)]
        cases hq : q n with
        | true => rw [List.filter_cons_of_pos hq]; simp only [List.length_cons]; omega
        | false => rw [List.filter_cons_of_neg (by rw [hq]; simp)]; exact ih
theorem white_le {ns : List Bs} {s s' : Wk} (h : WkLe s s') : white ns s' ≤ white ns s := filter_len_le (fun x hx => by
  rw [beq_iff_eq] at hx ⊢; exact h.white x hx)
theorem white_pt {ns : List Bs} {s : Wk} {x : Bs} (hx : x ∈ ns) (h : lk s.st x = 0) (o : List Bs) : white ns ⟨pt s.st x 1, o⟩ < white ns s := by
  refine filter_len_lt (a := x) (fun y hy => ?_) hx ?_ ?_
  · simp only [lk_pt] at hy
    cases e : x == y with
    | true => rw [e] at hy; simp at hy
    | false => rw [e] at hy; exact hy
  · simp only [lk_pt, BEq.rfl, cond_true]; rfl
  · rw [h]; rfl
/-- What a walk does. -/
def WalkGood (rd : Bs → List Bs) (ns : List Bs) (x : Bs) (s : Wk) (r : Bool × Wk) : Prop :=
  (r.1 = true → WkOk rd ns r.2 ∧ WkLe s r.2 ∧ lk r.2.st x = 2) ∧
  (r.1 = false → ∀ rk : Bs → Nat, (∀ n ∈ ns, ∀ y ∈ rd n, rk y < rk n) → ∃ z, lk s.st z = 1 ∧ rk z ≤ rk x)
theorem walkL_good {rd : Bs → List Bs} {ns : List Bs} {w : Bs → Wk → Bool × Wk} {n : Nat} : ∀ (ys : List Bs) (s : Wk), (∀ y ∈ ys, ∀ s, WkOk rd ns s → white ns s ≤ n → WalkGood rd ns y s (w y s)) → WkOk rd ns s → white ns s ≤ n →
    ((walkL w ys s).1 = true → WkOk rd ns (walkL w ys s).2 ∧ WkLe s (walkL w ys s).2 ∧ ∀ y ∈ ys, lk (walkL w ys s).2.st y = 2) ∧
    ((walkL w ys s).1 = false → ∀ rk : Bs → Nat, (∀ n ∈ ns, ∀ y ∈ rd n, rk y < rk n) → ∃ z y, y ∈ ys ∧ lk s.st z = 1 ∧ rk z ≤ rk y)
  | [], s, _, hs, _ => ⟨fun _ => ⟨hs, WkLe.refl _, fun y hy => absurd hy List.not_mem_nil⟩, fun h => by simp [walkL] at h⟩
  | y :: ys, s, hw, hs, hn => by
    have g := hw y List.mem_cons_self s hs hn
    unfold walkL
    cases e : w y s with
    | mk b s' => cases b with
      | false =>
        refine ⟨fun h => by simp at h, fun _ rk hrk => ?_⟩
        rw [e] at g
        obtain ⟨z, h1, h2⟩ := g.2 rfl rk hrk
        exact ⟨z, y, List.mem_cons_self, h1, h2⟩
      | true =>
        rw [e] at g
        obtain ⟨g1, g2, g3⟩ := g.1 rfl
        have ih := walkL_good ys s' (fun y hy => hw y (List.mem_cons_of_mem _ hy)) g1 (Nat.le_trans (white_le g2) hn)
        refine ⟨fun h => ?_, fun h rk hrk => ?_⟩
        · obtain ⟨i1, i2, i3⟩ := ih.1 h
          refine ⟨i1, g2.trans i2, fun u hu => ?_⟩
          rcases List.mem_cons.1 hu with c | c
          · rw [c]; exact i2.two y g3
          · exact i3 u c
        · obtain ⟨z, u, hu, h1, h2⟩ := ih.2 h rk hrk
          exact ⟨z, u, List.mem_cons_of_mem _ hu, (g2.one z).2 h1, h2⟩
theorem walk_good {rd : Bs → List Bs} {ns : List Bs} (hin : ∀ n ∈ ns, ∀ y ∈ rd n, y ∈ ns) : ∀ (k : Nat) (x : Bs) (s : Wk), x ∈ ns → WkOk rd ns s → white ns s < k → WalkGood rd ns x s (walk rd k x s)
  | 0, _, _, _, _, h => by omega
  | k + 1, x, s, hx, hs, hn => by
    unfold walk
    cases h1 : lk s.st x == 1 with
    | true =>
      rw [beq_iff_eq] at h1
      exact ⟨fun h => by simp at h, fun _ rk _ => ⟨x, h1, Nat.le_refl _⟩⟩
    | false => cases h2 : lk s.st x == 2 with
      | true =>
        rw [beq_iff_eq] at h2
        exact ⟨fun _ => ⟨hs, WkLe.refl _, h2⟩, fun h => by simp at h⟩
      | false =>
        have h0 : lk s.st x = 0 := by
          have e1 : lk s.st x ≠ 1 := fun c => by rw [c] at h1; simp at h1
          have e2 : lk s.st x ≠ 2 := fun c => by rw [c] at h2; simp at h2
          rcases hs.val x with c | c | c
          · exact c
          · exact absurd c e1
          · exact absurd c e2
        have hout : x ∉ s.out := fun c => by
          have := (hs.two x).2 c
          rw [h0] at this; exact absurd this (by decide)
        simp only [cond_false]
        have hs1 : WkOk rd ns ⟨pt s.st x 1, s.out⟩ := by
          refine ⟨hs.nd, hs.sub, fun y => ?_, fun y => ?_, hs.beh⟩
          · simp only [lk_pt]
            cases x == y
            · exact hs.val y
            · exact .inr (.inl rfl)
          · simp only [lk_pt]
            cases e : x == y with
            | true =>
              have e' : x = y := beq_iff_eq.1 e
              subst e'
              exact ⟨fun c => by simp at c, fun c => absurd c hout⟩
            | false => exact hs.two y
        have hw := white_pt hx h0 s.out
        have g := walkL_good (rd := rd) (ns := ns) (w := walk rd k) (n := white ns ⟨pt s.st x 1, s.out⟩) (rd x) ⟨pt s.st x 1, s.out⟩
          (fun y hy s' hs' hl => walk_good hin k y s' (hin x hx y hy) hs' (by omega)) hs1 (Nat.le_refl _)
        cases e : walkL (walk rd k) (rd x) ⟨pt s.st x 1, s.out⟩ with
        | mk b s' =>
          rw [e] at g
          cases b with
          | false =>
            refine ⟨fun h => by simp at h, fun _ rk hrk => ?_⟩
            obtain ⟨z, y, hy, hz, hle⟩ := g.2 rfl rk hrk
            have hlt := hrk x hx y hy
            refine ⟨z, ?_, by omega⟩
            have hz' : lk (pt s.st x 1) z = 1 := hz
            rw [lk_pt] at hz'
            cases e2 : x == z with
            | true =>
              have e3 : x = z := beq_iff_eq.1 e2
              subst e3
              omega
            | false => rw [e2] at hz'; exact hz'
          | true =>
            obtain ⟨g1, g2, g3⟩ := g.1 rfl
            have g1 : WkOk rd ns s' := g1
            have g3 : ∀ y ∈ rd x, lk s'.st y = 2 := g3
            refine ⟨fun _ => ?_, fun h => by simp at h⟩
            have hx1 : lk s'.st x = 1 := (g2.one x).1 (by simp only [lk_pt, BEq.rfl, cond_true])
            have hx' : x ∉ s'.out := fun c => by
              have := (g1.two x).2 c
              rw [hx1] at this; exact absurd this (by decide)
            refine ⟨⟨?_, ?_, fun y => ?_, fun y => ?_, ?_⟩, ⟨fun y => ?_, fun y hy => ?_, fun y hy => ?_⟩, ?_⟩
            · show (s'.out ++ [x]).Nodup
              rw [List.nodup_append]
              refine ⟨g1.nd, by simp, ?_⟩
              intro a ha b hb e
              rw [List.mem_singleton] at hb
              exact hx' (hb ▸ e ▸ ha)
            · intro y hy
              rcases List.mem_append.1 hy with hy | hy
              · exact g1.sub y hy
              · rw [List.mem_singleton] at hy; exact hy ▸ hx
            · simp only [lk_pt]
              cases x == y
              · exact g1.val y
              · exact .inr (.inr rfl)
            · simp only [lk_pt, List.mem_append, List.mem_singleton]
              cases e2 : x == y with
              | true =>
                have e3 : x = y := beq_iff_eq.1 e2
                exact ⟨fun _ => .inr e3.symm, fun _ => rfl⟩
              | false =>
                have e3 : x ≠ y := fun c => by rw [c] at e2; simp at e2
                exact (g1.two y).trans ⟨.inl, fun c => c.resolve_right (fun c => e3 c.symm)⟩
            · intro u hu y hy
              rcases List.mem_append.1 hu with hu | hu
              · have q1 := g1.beh u hu y hy
                have q2 : s'.out.idxOf u < s'.out.length := List.idxOf_lt_length_of_mem hu
                have hy' : y ∈ s'.out := List.idxOf_lt_length_iff.1 (by omega)
                rw [idxOf_app hu, idxOf_app hy']; exact q1
              · rw [List.mem_singleton] at hu
                subst hu
                have hy' := (g1.two y).1 (g3 y hy)
                rw [idxOf_app hy', List.idxOf_append, if_neg hx']
                have := List.idxOf_lt_length_of_mem hy'
                omega
            · simp only [lk_pt]
              cases e2 : x == y with
              | true =>
                have e3 : x = y := beq_iff_eq.1 e2
                subst e3
                rw [h0]
                exact ⟨fun c => by simp at c, fun c => by simp at c⟩
              | false =>
                have := g2.one y
                simp only [lk_pt, e2, cond_false] at this
                exact this
            · simp only [lk_pt]
              cases e2 : x == y with
              | true => rfl
              | false =>
                have := g2.two y
                simp only [lk_pt, e2, cond_false] at this
                exact this hy
            · simp only [lk_pt] at hy
              cases e2 : x == y with
              | true => rw [e2] at hy; simp at hy
              | false =>
                rw [e2] at hy
                have := g2.white y hy
                simp only [lk_pt, e2, cond_false] at this
                exact this
            · simp only [lk_pt, BEq.rfl, cond_true]
def wk0 : Wk := ⟨[], []⟩
theorem wk0_ok (rd : Bs → List Bs) (ns : List Bs) : WkOk rd ns wk0 := ⟨List.nodup_nil, fun x h => absurd h List.not_mem_nil, fun _ => .inl rfl, fun x => ⟨fun h => absurd (show (0 : Int) = 2 from h) (by decide), fun h => absurd h List.not_mem_nil⟩, fun x h => absurd h List.not_mem_nil⟩
theorem white_len (ns : List Bs) (s : Wk) : white ns s ≤ ns.length := List.length_filter_le _ _
theorem walkL_out {w : Bs → Wk → Bool × Wk} (hw : ∀ y s, ∃ t, (w y s).2.out = s.out ++ t) : ∀ (ys : List Bs) (s : Wk), ∃ t, (walkL w ys s).2.out = s.out ++ t
  | [], s => ⟨[], by simp [walkL]⟩
  | y :: ys, s => by
    obtain ⟨t, ht⟩ := hw y s
    unfold walkL
    cases e : w y s with
    | mk b s' =>
      rw [e] at ht
      cases b with
      | false => exact ⟨t, ht⟩
      | true =>
        obtain ⟨t2, ht2⟩ := walkL_out hw ys s'
        exact ⟨t ++ t2, by rw [← List.append_assoc, ← ht]; exact ht2⟩
/-- what is out stays out -/
theorem walk_out (rd : Bs → List Bs) : ∀ (k : Nat) (x : Bs) (s : Wk), ∃ t, (walk rd k x s).2.out = s.out ++ t
  | 0, _, s => ⟨[], by simp [walk]⟩
  | k + 1, x, s => by
    unfold walk
    cases lk s.st x == 1 with
    | true => exact ⟨[], by simp⟩
    | false => cases lk s.st x == 2 with
      | true => exact ⟨[], by simp⟩
      | false =>
        obtain ⟨t, ht⟩ := walkL_out (w := walk rd k) (walk_out rd k) (rd x) ⟨pt s.st x 1, s.out⟩
        simp only [cond_false]
        cases e : walkL (walk rd k) (rd x) ⟨pt s.st x 1, s.out⟩ with
        | mk b s' =>
          rw [e] at ht
          cases b with
          | false => exact ⟨t, ht⟩
          | true => exact ⟨t ++ [x], by rw [← List.append_assoc, ← ht]⟩
theorem walk_one {rd : Bs → List Bs} {k : Nat} {x : Bs} {s : Wk} (h : (lk s.st x == 1) = true) : walk rd (k + 1) x s = (false, s) := by
  unfold walk; rw [h]; rfl
theorem walk_two {rd : Bs → List Bs} {k : Nat} {x : Bs} {s : Wk} (h : (lk s.st x == 1) = false) (h2 : (lk s.st x == 2) = true) : walk rd (k + 1) x s = (true, s) := by
  unfold walk; rw [h, h2]; rfl
theorem walk_no {rd : Bs → List Bs} {k : Nat} {x : Bs} {s s' : Wk} (h : (lk s.st x == 1) = false) (h2 : (lk s.st x == 2) = false) (e : walkL (walk rd k) (rd x) ⟨pt s.st x 1, s.out⟩ = (false, s')) : walk rd (k + 1) x s = (false, s') := by
  unfold walk; rw [h, h2, e]; rfl
theorem walk_yes {rd : Bs → List Bs} {k : Nat} {x : Bs} {s s' : Wk} (h : (lk s.st x == 1) = false) (h2 : (lk s.st x == 2) = false) (e : walkL (walk rd k) (rd x) ⟨pt s.st x 1, s.out⟩ = (true, s')) : walk rd (k + 1) x s = (true, ⟨pt s'.st x 2, s'.out ++ [x]⟩) := by
  unfold walk; rw [h, h2, e]; rfl
theorem walkL_drop {w : Bs → Wk → Bool × Wk} {ys : List Bs} {i : Nat} {s : Wk} (h : i < ys.length) : walkL w (ys.drop i) s = match w ys[i] s with
    | (false, s') => (false, s')
    | (true, s') => walkL w (ys.drop (i + 1)) s' := by
  rw [List.drop_eq_getElem_cons h]; rfl
theorem walkL_end {w : Bs → Wk → Bool × Wk} {ys : List Bs} {i : Nat} {s : Wk} (h : ys.length ≤ i) : walkL w (ys.drop i) s = (true, s) := by
  rw [List.drop_of_length_le h]; rfl
/-- from the begin of a walk at x -/
structure WkIn (rd : Bs → List Bs) (ns : List Bs) (x : Bs) (s s1 : Wk) : Prop where
  ok : WkOk rd ns s1
  one : lk s1.st x = 1
  white : white ns s1 < white ns s
theorem wk_start {rd : Bs → List Bs} {ns : List Bs} {x : Bs} {s : Wk} (hx : x ∈ ns) (hs : WkOk rd ns s) (h1 : (lk s.st x == 1) = false) (h2 : (lk s.st x == 2) = false) : WkIn rd ns x s ⟨pt s.st x 1, s.out⟩ := by
  have h0 : lk s.st x = 0 := by
    rcases hs.val x with c | c | c
    · exact c
    · rw [c] at h1; simp at h1
    · rw [c] at h2; simp at h2
  have hout : x ∉ s.out := fun c => by
    have := (hs.two x).2 c
    rw [h0] at this; exact absurd this (by decide)
  refine ⟨⟨hs.nd, hs.sub, fun y => ?_, fun y => ?_, hs.beh⟩, by simp only [lk_pt, BEq.rfl, cond_true], white_pt hx h0 _⟩
  · simp only [lk_pt]
    cases x == y
    · exact hs.val y
    · exact .inr (.inl rfl)
  · simp only [lk_pt]
    cases e : x == y with
    | true =>
      have e' : x = y := beq_iff_eq.1 e
      subst e'
      exact ⟨fun c => by simp at c, fun c => absurd c hout⟩
    | false => exact hs.two y
theorem wk_next {rd : Bs → List Bs} {ns : List Bs} (hin : ∀ n ∈ ns, ∀ y ∈ rd n, y ∈ ns) {k : Nat} {x y : Bs} {s s1 s2 : Wk} (h : WkIn rd ns x s s1) (hk : white ns s < k + 1) (hy : y ∈ ns) (e : walk rd k y s1 = (true, s2)) : WkIn rd ns x s s2 := by
  have hw := h.white
  have g := walk_good hin k y s1 hy h.ok (by omega)
  rw [e] at g
  obtain ⟨g1, g2, _⟩ := g.1 rfl
  exact ⟨g1, (g2.one x).1 h.one, Nat.lt_of_le_of_lt (white_le g2) h.white⟩
theorem wk_room {rd : Bs → List Bs} {ns : List Bs} {x : Bs} {s s1 : Wk} (hx : x ∈ ns) (h : WkIn rd ns x s s1) : s1.out.length + 1 ≤ ns.length := by
  have : (x :: s1.out).length ≤ ns.length := len_of_sub (List.nodup_cons.2 ⟨fun c => by
    have := (h.ok.two x).2 c
    rw [h.one] at this; exact absurd this (by decide), h.ok.nd⟩) (fun y hy => by
    rcases List.mem_cons.1 hy with e | e
    · exact e ▸ hx
    · exact h.ok.sub y e)
  exact this
/-- depth first finds a row just if there is a rank -/
theorem walk_acy {rd : Bs → List Bs} {ns : List Bs} (hin : ∀ n ∈ ns, ∀ y ∈ rd n, y ∈ ns) : (walkL (walk rd (ns.length + 1)) ns wk0).1 = true ↔ Acy rd ns := by
  have g := walkL_good (rd := rd) (ns := ns) (w := walk rd (ns.length + 1)) (n := ns.length) ns wk0
    (fun y hy s hs hl => walk_good hin _ y s hy hs (by omega)) (wk0_ok rd ns) (white_len _ _)
  constructor
  · intro h
    obtain ⟨g1, g2, g3⟩ := g.1 h
    exact ⟨(walkL (walk rd (ns.length + 1)) ns wk0).2.out.idxOf, fun n hn y hy => g1.beh n ((g1.two n).1 (g3 n hn)) y hy⟩
  · rintro ⟨rk, hrk⟩
    cases e : (walkL (walk rd (ns.length + 1)) ns wk0).1 with
    | true => rfl
    | false =>
      obtain ⟨z, y, hy, hz, _⟩ := g.2 e rk hrk
      exact absurd hz (by show ¬ ((0 : Int) = 1); decide)
theorem walk_greedy {rd : Bs → List Bs} {ns : List Bs} (hn : ns.Nodup) (hin : ∀ n ∈ ns, ∀ y ∈ rd n, y ∈ ns) :
    (walkL (walk rd (ns.length + 1)) ns wk0).1 = decide ((greedy rd ns ns.length).length = ns.length) := by
  rw [Bool.eq_iff_iff, decide_eq_true_eq, walk_acy hin]
  exact ⟨fun h => greedy_full hn hin h _ (Nat.le_refl _), greedy_acy hn⟩
end Go.Vc
