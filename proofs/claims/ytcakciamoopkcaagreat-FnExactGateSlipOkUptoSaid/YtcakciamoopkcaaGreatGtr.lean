/- From the statement's reading of an argument to my relation 'Rd': plain types. -/
import Derived.Test.YtcakciamoopkcaaGreatGtQ
import Derived.Test.YtcakciamoopkcaaGreatRows
namespace Go.Vc
open Go.Proofs Go.Proofs.YtcakciamoopkcaaGreat
set_option linter.unusedSimpArgs false
set_option linter.unusedVariables false
/-- rows of cells, one behind the other -/
def ShapeFs (S : TypeId → List D → Prop) : List TypeId → List D → Prop
  | [], ds => ds = []
  | t :: ts, ds => ∃ a b, ds = a ++ b ∧ S t a ∧ ShapeFs S ts b
/-- data of a type -/
def Shape (P : Program) : Nat → TypeId → List D → Prop
  | 0, _, _ => False
  | n + 1, t, ds => match P.underlying t with
    | some .bool => ∃ b, ds = [.bool b]
    | some (.int k) => ∃ i, ds = [.int k i]
    | some .string => ∃ s, ds = [.str s]
    | some (.slice e) => ∃ rows, ds = [.list rows] ∧ ∀ r ∈ rows, Shape P n e r
    | some (.struct fs) => ShapeFs (Shape P n) (fs.toList.map (·.type)) ds
    | _ => False
def fieldTs (P : Program) (t : TypeId) : Option (List TypeId) := match P.underlying t with
  | some (.struct fs) => some (fs.toList.map (·.type))
  | _ => none
theorem shape_fields {P : Program} {n : Nat} {t : TypeId} {ts : List TypeId} {ds : List D} (hf : fieldTs P t = some ts) (h : Shape P (n + 1) t ds) : ShapeFs (Shape P n) ts ds := by
  unfold fieldTs at hf
  unfold Shape at h
  split at hf
  · rename_i fs hu
    rw [hu] at h
    rw [← Option.some.inj hf]
    exact h
  · cases hf
/-- the fields lie one behind the other -/
def tiles (P : Program) : Nat → List Field → Option Nat
  | o, [] => some o
  | o, f :: fs => bif Nat.beq f.offset o then tiles P (o + P.cellsOf f.type) fs else none
def plainT (P : Program) : Nat → TypeId → Bool
  | 0, _ => false
  | n + 1, t => match P.underlying t with
    | some .bool => true
    | some (.int _) => true
    | some .string => true
    | some (.slice e) => plainT P n e
    | some (.struct fs) => (tiles P 0 fs.toList == some (P.cellsOf t)) && fs.toList.all fun f => plainT P n f.type
    | _ => false
theorem mapM_get {α β : Type} {f : α → Option β} : ∀ {l : List α} {xs : List β}, l.mapM f = some xs → xs.length = l.length ∧ ∀ (i : Nat) (h : i < l.length) (h' : i < xs.length), f l[i] = some xs[i]
  | [], xs, h => by
    rw [List.mapM_nil] at h
    obtain rfl : [] = xs := Option.some.inj h
    exact ⟨rfl, fun i h => by simp at h⟩
  | a :: l, xs, h => by
    rw [List.mapM_cons] at h
    cases ha : f a with
    | none => rw [ha] at h; cases h
    | some b =>
      rw [ha] at h
      cases hl : l.mapM f with
      | none => rw [hl] at h; cases h
      | some ys =>
        rw [hl] at h
        obtain rfl : b :: ys = xs := Option.some.inj h
        obtain ⟨h1, h2⟩ := mapM_get hl
        refine ⟨by simp [h1], fun i h h' => ?_⟩
        cases i with
        | zero => exact ha
        | succ i => exact h2 i (by simpa using h) (by simpa using h')
theorem bulk_pos {H : Type} (d : DataW H) : 1 ≤ Rows.uptoBulk d := by
  cases d with
  | lit l => cases l <;> simp [Rows.uptoBulk]
  | _ => simp [Rows.uptoBulk]
theorem bulk_mem {H : Type} {d : DataW H} : ∀ {l : List (DataW H)}, d ∈ l → Rows.uptoBulk d ≤ Rows.uptoBulkAll l
  | x :: r, h => by
    simp only [Rows.uptoBulkAll]
    rcases List.mem_cons.1 h with e | e
    · subst e; omega
    · have := bulk_mem e; omega
theorem bulk_len {H : Type} : ∀ {l : List (DataW H)}, l.length ≤ Rows.uptoBulkAll l
  | [] => Nat.zero_le _
  | x :: r => by
    have := bulk_len (l := r)
    have := bulk_pos x
    simp only [Rows.uptoBulkAll, List.length_cons]; omega
/-- the cells of a row are read one by one -/
theorem cells_at {w : World} {base n : Nat} {a : Addr} {cs : List Value} (h : w.cells? base a n = some cs) : cs.length = n ∧ ∀ (i : Nat) v, cs[i]? = some v → w.cell? (a.add i) = some v := by
  unfold World.cells? at h
  split at h
  · obtain ⟨h1, h2⟩ := mapM_get h
    rw [List.length_range] at h1
    refine ⟨h1, fun i v hv => ?_⟩
    obtain ⟨hi, e⟩ := List.getElem?_eq_some_iff.1 hv
    have := h2 i (by rw [List.length_range]; omega) hi
    rw [List.getElem_range, e] at this
    exact this
  · cases h
theorem spot_none {w : World} {a : Addr} {v : Value} (h : w.cell? a = some v) : a.spot = none := by
  unfold World.cell? at h
  split at h
  · cases hs : a.spot with
    | none => rfl
    | some s => rw [hs] at h; simp at h
  · cases h
theorem add_eq {a : Addr} (h : a.spot = none) (n : Nat) : a.add n = ⟨a.block, a.off + n, none⟩ := by
  unfold Addr.add
  split
  · subst n; cases a; simp_all
  · rfl
/-- rows that lie one behind the other -/
theorem rows_at {w : World} {b o sz : Nat} : ∀ {rows : List (List Value)} {k : Nat}, (∀ r ∈ rows, r.length = sz) → (∀ (i : Nat) (h : i < rows.length) (j : Nat) v, rows[i][j]? = some v → w.cell? ⟨b, o + ((k + i) * sz + j), none⟩ = some v) →
    ∀ (j : Nat) v, rows.flatten[j]? = some v → w.cell? ⟨b, o + (k * sz + j), none⟩ = some v
  | [], _, _, _, j, v, h => by simp at h
  | r :: rs, k, hl, hc, j, v, h => by
    rw [List.flatten_cons] at h
    have hr := hl r List.mem_cons_self
    by_cases hj : j < r.length
    · rw [List.getElem?_append_left hj] at h
      have := hc 0 (by simp) j v h
      rw [Nat.add_zero] at this
      exact this
    · rw [List.getElem?_append_right (by omega)] at h
      have := rows_at (k := k + 1) (fun r hr => hl r (List.mem_cons_of_mem _ hr)) (fun i h j v hv => by
        have := hc (i + 1) (by simpa using h) j v hv
        rw [show k + 1 + i = k + (i + 1) from by omega]; exact this) (j - r.length) v h
      rw [show o + (k * sz + j) = o + ((k + 1) * sz + (j - r.length)) from by rw [Nat.add_mul]; omega]
      exact this
section
variable {H : Type} {enc : TypeId × Value → H} {P : Program} {w : World} {base : Nat} {spare : Nat → Bool} {held : Bool}
theorem fields_rd {n fuel : Nat} {cs : List Value} (ih : ∀ {t : TypeId} {c : List Value} {d : DataW H} {ps : List MemPlace}, plainT P n t = true → DataW.trod enc P w base spare held fuel t c = some (d, ps) → Rows.uptoBulk d ≤ big → ∃ ds, Rd w (fun _ => False) ds c ∧ Shape P n t ds) :
    ∀ {fs : List Field} {o e : Nat} {xs : List (DataW H × List MemPlace)}, tiles P o fs = some e → (∀ f ∈ fs, plainT P n f.type = true) → o ≤ cs.length → e = cs.length →
      (fs.mapM fun f => DataW.trod enc P w base spare held fuel f.type ((cs.drop f.offset).take (P.cellsOf f.type))) = some xs → Rows.uptoBulkAll (xs.map (·.1)) ≤ big →
      ∃ ds, Rd w (fun _ => False) ds (cs.drop o) ∧ ShapeFs (Shape P n) (fs.map (·.type)) ds
  | [], o, e, xs, ht, _, _, he, _, _ => by
    simp only [tiles, Option.some.injEq] at ht
    refine ⟨[], ?_, rfl⟩
    rw [List.drop_of_length_le (by omega)]; exact .nil
  | f :: fs, o, e, xs, ht, hp, ho, he, hx, hb => by
    simp only [tiles] at ht
    cases hq : Nat.beq f.offset o with
    | false => rw [hq] at ht; cases ht
    | true =>
      rw [hq] at ht
      have hoff := Nat.eq_of_beq_eq_true hq
      subst hoff
      rw [List.mapM_cons] at hx
      cases h1 : DataW.trod enc P w base spare held fuel f.type ((cs.drop f.offset).take (P.cellsOf f.type)) with
      | none => rw [h1] at hx; cases hx
      | some x =>
        rw [h1] at hx
        cases h2 : (fs.mapM fun f => DataW.trod enc P w base spare held fuel f.type ((cs.drop f.offset).take (P.cellsOf f.type))) with
        | none => rw [h2] at hx; cases hx
        | some ys =>
          rw [h2] at hx
          obtain rfl : x :: ys = xs := Option.some.inj hx
          simp only [List.map_cons, Rows.uptoBulkAll] at hb
          obtain ⟨d1, r1, s1⟩ := ih (hp f List.mem_cons_self) h1 (by omega)
          have hmono : ∀ {fs : List Field} {o e : Nat}, tiles P o fs = some e → o ≤ e := by
            intro fs
            induction fs with
            | nil => intro o e h; simp only [tiles, Option.some.injEq] at h; omega
            | cons g gs ihg =>
              intro o e h
              simp only [tiles] at h
              cases hq : Nat.beq g.offset o with
              | false => rw [hq] at h; cases h
              | true => rw [hq] at h; have := ihg h; omega
          have hle := hmono ht
          obtain ⟨d2, r2, s2⟩ := fields_rd ih ht (fun g hg => hp g (List.mem_cons_of_mem _ hg)) (by omega) he h2 (by omega)
          refine ⟨d1 ++ d2, ?_, d1, d2, rfl, s1, s2⟩
          have := r1.append r2
          rw [Nat.add_comm, ← List.drop_drop, List.drop_drop, Nat.add_comm, ← List.drop_drop] at this
          rwa [List.take_append_drop] at this
theorem trod_bool {fuel : Nat} {t : TypeId} {c : List Value} {x : DataW H × List MemPlace} (hu : P.underlying t = some .bool) (h : DataW.trod enc P w base spare held (fuel + 1) t c = some x) : ∃ b, c = [.bool b] := by
  unfold DataW.trod at h
  rw [hu] at h
  split at h
  case h_1 => exact ⟨_, rfl⟩
  all_goals (first | (rename_i e; cases e; done) | (rename_i e _; cases e; done) | (rename_i e _ _; cases e; done) | (cases h; done) | simp_all)
theorem trod_int {fuel : Nat} {t : TypeId} {k : IntKind} {c : List Value} {x : DataW H × List MemPlace} (hu : P.underlying t = some (.int k)) (h : DataW.trod enc P w base spare held (fuel + 1) t c = some x) : ∃ i, c = [.int k i] := by
  unfold DataW.trod at h
  rw [hu] at h
  split at h
  case h_2 =>
    rename_i e
    cases e
    split at h
    · rename_i hk
      obtain ⟨rfl, _⟩ := hk
      exact ⟨_, rfl⟩
    · cases h
  all_goals (first | (rename_i e; cases e; done) | (rename_i e _; cases e; done) | (rename_i e _ _; cases e; done) | (cases h; done) | simp_all)
theorem trod_string {fuel : Nat} {t : TypeId} {c : List Value} {x : DataW H × List MemPlace} (hu : P.underlying t = some .string) (h : DataW.trod enc P w base spare held (fuel + 1) t c = some x) : ∃ s : ByteArray, c = [.string s] ∧ x.1 = .lit (.string s.data.toList) := by
  unfold DataW.trod at h
  rw [hu] at h
  split at h
  case h_4 =>
    split at h
    · have := Option.some.inj h
      subst this
      exact ⟨_, rfl, rfl⟩
    · cases h
  all_goals (first | (rename_i e; cases e; done) | (rename_i e _; cases e; done) | (rename_i e _ _; cases e; done) | (cases h; done) | simp_all)
theorem trod_slice {fuel : Nat} {t e : TypeId} {c : List Value} {x : DataW H × List MemPlace} (hu : P.underlying t = some (.slice e)) (h : DataW.trod enc P w base spare held (fuel + 1) t c = some x) :
    c = [.slice none 0 0] ∨ ∃ (a : Addr) (len cap : Nat) (es : List (DataW H × List MemPlace)) (sp : List (DataW H)), c = [.slice (some a) len cap] ∧ len ≤ cap ∧ x.1 = .slice (es.map (·.1)) sp ∧
      (List.range len).mapM (fun i => (w.cells? base (a.add (i * P.cellsOf e)) (P.cellsOf e)).bind (DataW.trod enc P w base spare held fuel e)) = some es := by
  unfold DataW.trod at h
  rw [hu] at h
  split at h
  case h_7 => exact .inl rfl
  case h_8 =>
    rename_i e1
    cases e1
    dsimp only at h
    split at h
    · rename_i hb
      rw [Option.bind_eq_some_iff] at h
      obtain ⟨es, h1, h2⟩ := h
      rw [Option.map_eq_some_iff] at h2
      obtain ⟨rest, _, h3⟩ := h2
      subst h3
      exact .inr ⟨_, _, _, es, _, rfl, hb.2.1, rfl, h1⟩
    · cases h
  all_goals (first | (rename_i e; cases e; done) | (rename_i e _; cases e; done) | (rename_i e _ _; cases e; done) | (cases h; done) | simp_all)
theorem trod_fields {fuel : Nat} {t : TypeId} {fs : Array Field} {c : List Value} {x : DataW H × List MemPlace} (hu : P.underlying t = some (.struct fs)) (h : DataW.trod enc P w base spare held (fuel + 1) t c = some x) :
    c.length = P.cellsOf t ∧ ∃ xs, (fs.toList.mapM fun f => DataW.trod enc P w base spare held fuel f.type ((c.drop f.offset).take (P.cellsOf f.type))) = some xs ∧ x.1 = .agg (xs.map (·.1)) := by
  unfold DataW.trod at h
  rw [hu] at h
  split at h
  case h_9 =>
    rename_i e1
    cases e1
    split at h
    · rename_i hl
      rw [Option.map_eq_some_iff] at h
      obtain ⟨xs, h1, h2⟩ := h
      subst h2
      exact ⟨hl, xs, h1, rfl⟩
    · cases h
  all_goals (first | (rename_i e; cases e; done) | (rename_i e _; cases e; done) | (rename_i e _ _; cases e; done) | (cases h; done) | simp_all)
theorem rows_rd {n fuel sz : Nat} {e : TypeId} {a : Addr} (ih : ∀ {t : TypeId} {c : List Value} {d : DataW H} {ps : List MemPlace}, plainT P n t = true → DataW.trod enc P w base spare held fuel t c = some (d, ps) → Rows.uptoBulk d ≤ big → ∃ ds, Rd w (fun _ => False) ds c ∧ Shape P n t ds)
    (hp : plainT P n e = true) (hsz : P.cellsOf e = sz) : ∀ {len k : Nat} {es : List (DataW H × List MemPlace)},
    ((List.range len).map (k + ·)).mapM (fun i => (w.cells? base (a.add (i * sz)) sz).bind (DataW.trod enc P w base spare held fuel e)) = some es → Rows.uptoBulkAll (es.map (·.1)) ≤ big →
    ∃ (rows : List (List D)) (cells : List (List Value)), rows.length = len ∧ cells.length = len ∧ Rd w (fun _ => False) rows.flatten cells.flatten ∧ (∀ r ∈ rows, r.length = sz ∧ Shape P n e r) ∧ (∀ c ∈ cells, c.length = sz) ∧
      ∀ (i : Nat) (h : i < cells.length) (j : Nat) v, cells[i][j]? = some v → w.cell? ((a.add ((k + i) * sz)).add j) = some v
  | 0, k, es, h, hb => ⟨[], [], rfl, rfl, .nil, (fun _ h => by cases h), (fun _ h => by cases h), fun i h => by simp at h⟩
  | len + 1, k, es, h, hb => by
    rw [List.range_succ_eq_map, List.map_cons, List.mapM_cons, List.map_map] at h
    rw [Nat.add_zero] at h
    cases h1 : (w.cells? base (a.add (k * sz)) sz).bind (DataW.trod enc P w base spare held fuel e) with
    | none => rw [h1] at h; cases h
    | some x =>
      rw [h1] at h
      have he : (fun i => k + i) ∘ Nat.succ = fun i => (k + 1) + i := by funext i; simp only [Function.comp]; omega
      have he' : ((fun x => k + x) ∘ Nat.succ) = fun i => (k + 1) + i := he
      rw [he'] at h
      cases h2 : ((List.range len).map (fun i => (k + 1) + i)).mapM (fun i => (w.cells? base (a.add (i * sz)) sz).bind (DataW.trod enc P w base spare held fuel e)) with
      | none => rw [h2] at h; cases h
      | some ys =>
        rw [h2] at h
        obtain rfl : x :: ys = es := Option.some.inj h
        simp only [List.map_cons, Rows.uptoBulkAll] at hb
        rw [Option.bind_eq_some_iff] at h1
        obtain ⟨c, hc, ht⟩ := h1
        obtain ⟨hl, hcell⟩ := cells_at hc
        obtain ⟨d1, r1, s1⟩ := ih (d := x.1) (ps := x.2) hp ht (by omega)
        obtain ⟨rows, cells, g1, g2, g3, g4, g5, g6⟩ := rows_rd ih hp hsz (k := k + 1) h2 (by omega)
        refine ⟨d1 :: rows, c :: cells, by simp [g1], by simp [g2], ?_, ?_, ?_, ?_⟩
        · rw [List.flatten_cons, List.flatten_cons]; exact r1.append g3
        · intro r hr
          rcases List.mem_cons.1 hr with q | q
          · subst q; exact ⟨by rw [← r1.length, hl], s1⟩
          · exact g4 r q
        · intro r hr
          rcases List.mem_cons.1 hr with q | q
          · subst q; exact hl
          · exact g5 r q
        · intro i hi j v hv
          cases i with
          | zero => exact hcell j v hv
          | succ i =>
            have := g6 i (by simpa using hi) j v hv
            rw [show k + 1 + i = k + (i + 1) from by omega] at this
            exact this
theorem trod_rd : ∀ {n : Nat} {fuel : Nat} {t : TypeId} {c : List Value} {d : DataW H} {ps : List MemPlace}, plainT P n t = true → DataW.trod enc P w base spare held fuel t c = some (d, ps) → Rows.uptoBulk d ≤ big →
    ∃ ds, Rd w (fun _ => False) ds c ∧ Shape P n t ds
  | 0, _, _, _, _, _, h, _, _ => by simp [plainT] at h
  | _ + 1, 0, _, _, _, _, _, h, _ => by simp [DataW.trod] at h
  | n + 1, fuel + 1, t, c, d, ps, hp, h, hb => by
    unfold plainT at hp
    unfold Shape
    split at hp
    · rename_i hu
      obtain ⟨b, rfl⟩ := trod_bool hu h
      exact ⟨_, .bool b .nil, b, rfl⟩
    · rename_i hu
      obtain ⟨i, rfl⟩ := trod_int hu h
      exact ⟨_, .int _ i .nil, i, rfl⟩
    · rename_i hu
      obtain ⟨s, rfl, hx⟩ := trod_string hu h
      refine ⟨[.str s.data.toList], ?_, _, rfl⟩
      have hx' : d = .lit (.string s.data.toList) := hx
      rw [hx'] at hb
      simp only [Rows.uptoBulk] at hb
      have : Rd w (fun _ => False) [.str s.data.toList] [.string (mkS s.data.toList)] := .str _ (by omega) .nil
      exact this
    · rename_i e hu
      rcases trod_slice hu h with rfl | ⟨a, len, cap, es, sp, rfl, hle, hx, hm⟩
      · exact ⟨[.list []], .list [] none 0 0 [] .nil (by simp) (.inl rfl) (Nat.le_refl _) (Nat.zero_le _) .nil, [], rfl, fun _ h => by cases h⟩
      · have hx' : d = .slice (es.map (·.1)) sp := hx
        rw [hx'] at hb
        simp only [Rows.uptoBulk] at hb
        obtain ⟨rows, cells, g1, g2, g3, g4, g5, g6⟩ := rows_rd (P := P) (a := a) (len := len) (k := 0) (es := es) (fun hp ht hb => trod_rd hp ht hb) hp rfl (by
          have : (List.range len).map (0 + ·) = List.range len := by simp
          rw [this]; exact hm) (by omega)
        have hlen : len ≤ big := by
          have h1 := (mapM_get hm).1
          rw [List.length_range] at h1
          have := bulk_len (l := es.map (·.1))
          rw [List.length_map] at this
          omega
        refine ⟨[.list rows], ?_, rows, rfl, fun r hr => (g4 r hr).2⟩
        rw [← g1]
        refine .list rows (some a) cap (P.cellsOf e) cells.flatten g3 (fun r hr => (g4 r hr).1) ?_ (by omega) (by omega) .nil
        by_cases hne : cells.flatten = []
        · exact .inl hne
        · have hsp : a.spot = none := by
            cases hc : cells with
            | nil => rw [hc] at hne; exact absurd rfl hne
            | cons c0 cs =>
              have hl0 : c0.length = P.cellsOf e := g5 c0 (by rw [hc]; exact List.mem_cons_self)
              have hpos : 0 < P.cellsOf e := by
                refine Nat.pos_of_ne_zero fun hz => hne ?_
                rw [List.flatten_eq_nil_iff]
                intro l hl
                exact List.eq_nil_of_length_eq_zero (by rw [g5 l hl, hz])
              have := g6 0 (by rw [hc]; simp) 0 (c0[0]'(by omega)) (by simp only [hc, List.getElem_cons_zero]; rw [List.getElem?_eq_getElem])
              rw [Nat.zero_add, Nat.zero_mul] at this
              exact spot_none this
          refine .inr ⟨a.block, a.off, by rw [show a = ⟨a.block, a.off, none⟩ from by cases a; simp_all], fun h => h, fun j v hv => ?_⟩
          have := rows_at (w := w) (b := a.block) (o := a.off) (sz := P.cellsOf e) (rows := cells) (k := 0) g5 (fun i hi j v hv => by
            have := g6 i hi j v hv
            rw [add_eq hsp, add_eq (by rfl), Nat.add_assoc] at this
            exact this) j v hv
          rw [Nat.zero_mul, Nat.zero_add] at this
          exact this
    · rename_i fs hu
      obtain ⟨hl, xs, hm, hx⟩ := trod_fields hu h
      have hx' : d = .agg (xs.map (·.1)) := hx
      rw [hx'] at hb
      simp only [Rows.uptoBulk] at hb
      simp only [Bool.and_eq_true, beq_iff_eq, List.all_eq_true] at hp
      obtain ⟨ds, r1, s1⟩ := fields_rd (P := P) (cs := c) (fun hp ht hb => trod_rd hp ht hb) hp.1 hp.2 (Nat.zero_le _) hl.symm hm (by omega)
      exact ⟨ds, r1, s1⟩
    · cases hp
end
def isStruct (P : Program) (t : TypeId) : Bool := match P.underlying t with
  | some (.struct _) => true
  | _ => false
theorem structT_of {P : Program} {t : TypeId} (h : isStruct P t = true) : ∃ fs, P.underlying t = some (.struct fs) := by
  unfold isStruct at h
  split at h
  · rename_i fs hu; exact ⟨fs, hu⟩
  · cases h
theorem agg_of {P : Program} {w : World} {base : Nat} {t : TypeId} {fs : Array Field} {v : Value} (hu : P.underlying t = some (.struct fs)) (h : Value.okWide P w .any base t v) : ∃ cs, v = .agg cs := by
  unfold Value.okWide at h
  rw [hu] at h
  obtain ⟨cs, e, _⟩ := h
  exact ⟨cs, e⟩
end Go.Vc
