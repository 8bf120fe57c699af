/- Maps that the call made. -/
import Derived.Test.YtcakciamoopkcaaGreatVcN
import Derived.Laws.StructEq
set_option linter.unusedVariables false
set_option linter.unusedSimpArgs false
namespace Go.Vc
section
variable {P : Program} {T : List (Nat × TI)} {N0 Nf : Nat → Prop} {w0 w w' : World} {n : Nat} {σ : Env} {h : Heap} {a : Act} {ν ν' ν0 : Nat → Value} {Q : Exit → Act → World → Prop} {next : Act → World → Prop}
  {K : AV → Heap → Rn → Prop} {N : Nat → Prop}

theorem map_of {t : TypeId} {ti : TI} (k : TiOk P t ti) {kt vt : TypeId} (hk : ti.kind = .map kt vt) : P.underlying t = some (.map kt vt) := by
  obtain ⟨d, h1, h2⟩ := k.kind
  rw [hk] at h2
  cases d <;> simp [kindB] at h2
  obtain ⟨rfl, rfl⟩ := h2
  exact h1

theorem mkS_beq (x y : Bs) : (mkS x == mkS y) = (x == y) := by
  rw [beq_toListBytes]
  simp [mkS, ByteArray.toList_mk]

/-- two keys of one kind, as the model compares them -/
theorem sameNow_ok {d : TypeDesc} {tk tk' : TK} (hd : kindB tk d = true) {k k' : List D} {v v' : Value} (h1 : keyOk tk k = true) (h1' : keyOk tk' k = true) (h2 : keyOk tk' k' = true) (hv : keyVal k = some v) (hv' : keyVal k' = some v') :
    Instr.sameNow d v v' = some (keyEq k k') := by
  unfold keyOk at h1 h1' h2
  split at h1
  · rename_i kd kd' m
    rw [kindEq_iff] at h1; subst h1
    cases d <;> simp [kindB, kindEq_iff] at hd
    subst hd
    simp only [keyVal, Option.some.injEq] at hv
    subst hv
    split at h1' <;> simp_all
    split at h2 <;> simp_all
    rename_i q
    simp only [keyVal, Option.some.injEq] at hv'
    subst hv'
    rw [kindEq_iff] at h1' h2
    subst h1' h2
    simp [Instr.sameNow, keyEq, kindEq_iff]
  · rename_i x
    cases d <;> simp [kindB] at hd
    simp only [keyVal, Option.some.injEq] at hv
    subst hv
    split at h1' <;> simp_all
    split at h2 <;> simp_all
    simp only [keyVal, Option.some.injEq] at hv'
    subst hv'
    simp [Instr.sameNow, keyEq, mkS_beq]
  · rename_i x
    cases d <;> simp [kindB] at hd
    simp only [keyVal, Option.some.injEq] at hv
    subst hv
    split at h1' <;> simp_all
    split at h2 <;> simp_all
    simp only [keyVal, Option.some.injEq] at hv'
    subst hv'
    simp [Instr.sameNow, keyEq]
  · cases h1

theorem findNow_ok {d : TypeDesc} {tk tk' : TK} (hd : kindB tk d = true) {k : List D} {v : Value} (h1 : keyOk tk k = true) (h1' : keyOk tk' k = true) (hv : keyVal k = some v) : ∀ {es : List (List D × AV)} {l : List MapEntry} (i : Nat), Km w N ν tk' es l →
    (mapLook es k = none ∧ Instr.findNow d v l i = some none ∧ ∀ x, mapPut es k x = es ++ [(k, x)]) ∨
    ∃ j e a, mapLook es k = some a ∧ l[j]? = some e ∧ Instr.findNow d v l i = some (some (i + j, e.val)) ∧ Rv w N ν [a] [e.val] ∧ (∃ k', es[j]? = some (k', a) ∧ keyEq k k' = true ∧ ∀ x, mapPut es k x = es.set j (k', x))
  | [], [], i, .nil => .inl ⟨rfl, rfl, fun _ => rfl⟩
  | (k', b) :: es, e :: l, i, .cons g1 g2 g3 g4 => by
    have hs := sameNow_ok hd h1 h1' g1 hv g2
    simp only [mapLook, Instr.findNow, hs]
    cases hq : keyEq k k' with
    | true => exact .inr ⟨0, e, b, rfl, rfl, rfl, g3, k', rfl, hq, fun x => by simp [mapPut, hq]⟩
    | false =>
      rcases findNow_ok hd h1 h1' hv (i + 1) g4 with ⟨q1, q2, q3⟩ | ⟨j, e', a', q1, q2, q3, q4, k2, q5, q6, q7⟩
      · exact .inl ⟨q1, q2, fun x => by simp [mapPut, hq, q3]⟩
      · refine .inr ⟨j + 1, e', a', q1, by simpa using q2, ?_, q4, k2, by simpa using q5, q6, fun x => by simp [mapPut, hq, q7]⟩
        simp only [q3]
        congr 3
        omega

theorem keyOk_val {tk : TK} {key : D} (h : keyOk tk [key] = true) : ∃ v, keyVal [key] = some v := by
  cases key <;> simp [keyVal]
  cases tk <;> simp [keyOk] at h
theorem rv_key {key : D} {v : Value} (h : Rv w N ν [.d key] [v]) {u : Value} (hu : keyVal [key] = some u) : v = u := by
  cases key <;> simp [keyVal] at hu
  · rw [rv_int h, hu]
  · rw [rv_bool h, hu]
  · rw [(rv_str h).1, hu]
theorem checkKey_ok {kt : TypeId} {tk : TI} (k : TiOk P kt tk) {key : D} (hk : keyOk tk.kind [key] = true) (b : Bool) (v : Value) : (Instr.checkKey b 10000 kt v).run P w = .ok () w := by
  obtain ⟨d, h1, h2⟩ := k.kind
  unfold Instr.checkKey
  simp only [Sem.run_bind, run_underlying h1, Result.andThen_ok]
  unfold keyOk at hk
  split at hk
  · rename_i h3 _; rw [h3] at h2; cases d <;> simp [kindB] at h2; cases v <;> rfl
  · rename_i h3 _; rw [h3] at h2; cases d <;> simp [kindB] at h2; cases v <;> rfl
  · rename_i h3 _; rw [h3] at h2; cases d <;> simp [kindB] at h2; cases v <;> rfl
  · cases hk

theorem rv_mapr {id : Nat} {v : Value} (h : Rv w N ν [.mapr id] [v]) : ∃ r, v = .map (some r) ∧ ν id = .map (some r) := by
  cases h with | mapr q _ => exact ⟨_, rfl, q⟩
theorem zeroOf_ok {t : TypeId} {ti : TI} (k : TiOk P t ti) : ∃ z, (zeroValue t).run P w = .ok z w ∧ Rv w N ν [zeroOf ti] [z] := by
  obtain ⟨i, z, h1, h2, _, h3, h4, h5, _, h6⟩ := k.info
  refine ⟨z, by simp [zeroValue, typeInfo, h1, h3], ?_⟩
  have hz := zerosB_ok (w := w) (N := N) (ν := ν) h4
  unfold zeroOf
  cases hag : ti.isAgg with
  | true =>
    rw [hag] at h6
    cases z <;> simp at h6
    rename_i cs
    simp only [cond_true]
    have : cs = cs.toList.toArray := by simp
    rw [this]
    exact .agg _ (by simpa [Value.cells] using hz) .nil
  | false =>
    rw [hag] at h6
    have hc : z.cells = #[z] := by cases z <;> simp at h6 <;> rfl
    rw [hc] at hz
    simp only [cond_false]
    split
    · rename_i b as e
      rw [e] at hz
      obtain ⟨v, r, e2, q1, _⟩ := hz.cons_inv
      simp only [List.cons.injEq] at e2
      rw [e2.1]; exact q1
    · exact .any _ .nil

theorem lookup_sound (hT : tabB P T = true) (s : St N0 w0 Nf n ν0 σ h a w ν) {o : Oper} {t : TypeId} {x k : Operand} {ok : Bool} (hop : o.op = .lookup t x k ok) (hv : vcOp T (specs P) (ev σ) h (.lookup t x k ok) K)
    (hn : ∀ r h' m a' w' ν', K r h' m → St N0 w0 Nf n ν0 ((σ.ren m).putO n o.dst r) h' a' w' ν' → next a' w') : o.wp P a w next Q := by
  have hxx := ev_ok s x
  have hkk := norm_rv (ev_ok s k)
  have he : execOp a.eval o = (do pure (Next.value (← Instr.lookup t (a.eval x) (a.eval k) ok))) := by unfold execOp; rw [hop]
  simp only [vcOp] at hv
  split at hv
  · rename_i ti hti
    split at hv
    · rename_i kt vt hk
      split at hv
      · rename_i tk tv id key htk htv e1 e2
        rw [e1] at hxx; rw [e2] at hkk
        split at hv
        · rename_i t' tk' es hid
          obtain ⟨hb, r, hr, hv⟩ := hv
          simp only [Bool.and_eq_true] at hb
          obtain ⟨⟨_, b2⟩, b3⟩ := hb
          obtain ⟨rr, arr, clock, g1, g2, g3⟩ := s.hp.objs _ _ hid
          have hx : a.eval x = .map (some rr) := by obtain ⟨r', q1, q2⟩ := rv_mapr hxx; rw [q1, ← q2, g1]
          obtain ⟨u, hu⟩ := keyOk_val b2
          have hku := rv_key hkk hu
          obtain ⟨d, d1, d2⟩ := (tabB_ok hT htk).kind
          have hfn := findNow_ok (w := w) (N := nN N0 ν) (ν := ν) d2 b2 b3 hu 0 g3
          have hobj : (getObj rr).run P w = .ok (.map arr clock) w := by simp [getObj, Sem.run, g2]
          rw [hx, hku] at he
          rcases hfn with ⟨q1, q2, _⟩ | ⟨j, e, b, q1, q2, q3, q4, _⟩
          · obtain ⟨z, z1, z2⟩ := zeroOf_ok (w := w) (N := nN N0 ν) (ν := ν) (tabB_ok hT htv)
            rw [q1] at hr; subst hr
            have hrun : (Instr.lookup t (.map (some rr)) u ok).run P w = .ok (if ok then .tuple #[z, .bool false] else z) w := by
              unfold Instr.lookup
              simp only [Sem.run_bind, run_underlying (map_of (tabB_ok hT hti) hk), Result.andThen_ok, hobj, Sem.run_pure, checkKey_ok (tabB_ok hT htk) b2, Instr.findKey, run_underlying d1, q2, z1]
            refine Looks.wp s ⟨_, exec_val he hrun, ?_⟩ (fun a' w' hs => hn _ _ (.sub []) a' w' ν hv hs)
            cases ok
            · simpa using z2
            · exact .tup [z, .bool false] (z2.cons (.val _ .nil)) .nil
          · rw [q1] at hr; subst hr
            have hrun : (Instr.lookup t (.map (some rr)) u ok).run P w = .ok (if ok then .tuple #[e.val, .bool true] else e.val) w := by
              unfold Instr.lookup
              simp only [Sem.run_bind, run_underlying (map_of (tabB_ok hT hti) hk), Result.andThen_ok, hobj, Sem.run_pure, checkKey_ok (tabB_ok hT htk) b2, Instr.findKey, run_underlying d1, q3]
            refine Looks.wp s ⟨_, exec_val he hrun, ?_⟩ (fun a' w' hs => hn _ _ (.sub []) a' w' ν hv hs)
            cases ok
            · simpa using q4
            · exact .tup [e.val, .bool true] (q4.cons (.val _ .nil)) .nil
        · exact hv.elim
      · exact hv.elim
    · exact hv.elim
  · exact hv.elim

theorem sameBits_key {k : D} {u : Value} (hu : keyVal [k] = some u) {k' : List D} {u' : Value} (hu' : keyVal k' = some u') (he : keyEq [k] k' = true) : u' = u ∧ Instr.sameBits 10000 u' u = true := by
  unfold keyEq at he
  split at he
  · rename_i kd p kd' q e
    simp only [List.cons.injEq, and_true] at e
    subst e
    simp only [Bool.and_eq_true, kindEq_iff, beq_iff_eq] at he
    obtain ⟨rfl, rfl⟩ := he
    simp only [keyVal, Option.some.injEq] at hu hu'
    subst hu hu'
    exact ⟨rfl, by simp [Instr.sameBits]⟩
  · rename_i p q e
    simp only [List.cons.injEq, and_true] at e
    subst e
    simp only [beq_iff_eq] at he
    subst he
    simp only [keyVal, Option.some.injEq] at hu hu'
    subst hu hu'
    exact ⟨rfl, by simp only [Instr.sameBits, mkS_beq]; simp⟩
  · rename_i p q e
    simp only [List.cons.injEq, and_true] at e
    subst e
    simp only [beq_iff_eq] at he
    subst he
    simp only [keyVal, Option.some.injEq] at hu hu'
    subst hu hu'
    exact ⟨rfl, by simp [Instr.sameBits]⟩
  · cases he

theorem Km.set {tk : TK} {es : List (List D × AV)} {l : List MapEntry} (h : Km w N ν tk es l) {j : Nat} {k' : List D} {b b' : AV} {e : MapEntry} (h1 : es[j]? = some (k', b)) (h2 : l[j]? = some e) {v : Value} {k2 : Value} (hk : k2 = e.key) (hv : Rv w N ν [b'] [v]) :
    keyVal k' = some e.key ∧ Km w N ν tk (es.set j (k', b')) (l.set j { e with key := k2, val := v }) := by
  induction h generalizing j with
  | nil => simp at h1
  | @cons ks a0 es e0 l g1 g2 g3 g4 ih =>
    cases j with
    | zero =>
      simp only [List.getElem?_cons_zero, Option.some.injEq, Prod.mk.injEq] at h1 h2
      obtain ⟨rfl, rfl⟩ := h1
      subst h2
      exact ⟨g2, .cons g1 (by rw [g2, hk]) hv g4⟩
    | succ j =>
      obtain ⟨q1, q2⟩ := ih (by simpa using h1) (by simpa using h2)
      exact ⟨q1, .cons g1 g2 g3 q2⟩
theorem Km.snoc {tk : TK} {es : List (List D × AV)} {l : List MapEntry} (h : Km w N ν tk es l) {k : List D} {b : AV} {e : MapEntry} (h1 : keyOk tk k = true) (h2 : keyVal k = some e.key) (h3 : Rv w N ν [b] [e.val]) : Km w N ν tk (es ++ [(k, b)]) (l ++ [e]) := by
  induction h with
  | nil => exact .cons h1 h2 h3 .nil
  | cons g1 g2 g3 _ ih => exact .cons g1 g2 g3 ih

theorem setObj_kp (w : World) (r : Nat) (o : Obj) : Kp (fun x => x = r) w { w with heap := w.heap.setIfInBounds r o } :=
  ⟨rfl, rfl, rfl, by simp, fun b hb hne => by rw [Array.getElem?_setIfInBounds]; rw [if_neg (fun e => hne e.symm)]⟩

theorem put_sound (hT : tabB P T = true) (s : St N0 w0 Nf n ν0 σ h a w ν) {o : Oper} {t : TypeId} {x k v : Operand} (he : execOp a.eval o = (do (Instr.mapUpdate t (a.eval x) (a.eval k) (a.eval v)); pure Next.skip)) (hv : vcPut T (ev σ) h t x k v K)
    (hn : ∀ r h' m a' w' ν', K r h' m → St N0 w0 Nf n ν0 ((σ.ren m).putO n o.dst r) h' a' w' ν' → next a' w') : o.wp P a w next Q := by
  have hxx := ev_ok s x
  have hkk := norm_rv (ev_ok s k)
  have hvv := ev_ok s v
  unfold vcPut at hv
  split at hv
  · rename_i ti hti
    split at hv
    · rename_i kt vt hk
      split at hv
      · rename_i tk id key htk e1 e2
        rw [e1] at hxx; rw [e2] at hkk
        split at hv
        · rename_i t' tk' es hid
          obtain ⟨hb, hv⟩ := hv
          simp only [Bool.and_eq_true] at hb
          obtain ⟨⟨⟨_, b2⟩, b3⟩, b4⟩ := hb
          obtain ⟨rr, arr, clock, g1, g2, g3⟩ := s.hp.objs _ _ hid
          have hx : a.eval x = .map (some rr) := by obtain ⟨r', q1, q2⟩ := rv_mapr hxx; rw [q1, ← q2, g1]
          obtain ⟨u, hu⟩ := keyOk_val b2
          have hku := rv_key hkk hu
          obtain ⟨d, d1, d2⟩ := (tabB_ok hT htk).kind
          have hfn := findNow_ok (w := w) (N := nN N0 ν) (ν := ν) d2 b2 b3 hu 0 g3
          have hobj : (getObj rr).run P w = .ok (.map arr clock) w := by simp [getObj, Sem.run, g2]
          have hset : ∀ ob, (setObj rr ob).run P w = .ok () { w with heap := w.heap.setIfInBounds rr ob } := fun ob => by simp [setObj, Sem.run, g2]
          have hlt : rr < w.heap.size := s.hp.bnd id rr (by rw [g1]; rfl)
          rw [hx, hku] at he
          have fin : ∀ arr' clock', (∀ (w' : World), Mv w (nN N0 ν) w' (nN N0 ν) → Km w' (nN N0 ν) ν tk' (mapPut es [key] (ev σ v)) arr'.toList) →
              (Instr.mapUpdate t (.map (some rr)) u (a.eval v)).run P w = .ok () { w with heap := w.heap.setIfInBounds rr (.map arr' clock') } → o.wp P a w next Q := by
            intro arr' clock' hkm hrun
            have hro : Ro { w with heap := w.heap.setIfInBounds rr (.map arr' clock') } (nN N0 ν) ν id (.map t' tk' (mapPut es [key] (ev σ v))) := by
              refine ⟨rr, arr', clock', g1, by simp [hlt], hkm _ ⟨by simp, fun c hc hN => ⟨hN, ?_⟩⟩⟩
              simp only [Array.getElem?_setIfInBounds]
              rw [if_neg (fun e => hN (.inr ⟨id, by rw [g1, ← e]; rfl⟩))]
            have hs := s.set (by rw [g1]; rfl) (setObj_kp w rr _) hro
            refine wp_skip' ?_ (hn _ _ (.sub []) _ _ ν hv (putAgain hs o.dst (.val _ .nil)))
            rw [he]
            simp only [Sem.run_bind, hrun, Result.andThen_ok, Sem.run_pure]
          rcases hfn with ⟨q1, q2, q3⟩ | ⟨j, e, b, q1, q2, q3, q4, k', q5, q6, q7⟩
          · refine fin (arr.push { key := u, val := a.eval v, born := clock }) (clock + 1) (fun w' m => ?_) ?_
            · rw [q3, Array.toList_push]
              exact (g3.mv m (fun _ _ => rfl)).snoc b3 hu (hvv.mv m (fun _ _ => rfl))
            · unfold Instr.mapUpdate
              simp only [Sem.run_bind, run_underlying (map_of (tabB_ok hT hti) hk), Result.andThen_ok, hobj, checkKey_ok (tabB_ok hT htk) b2, Instr.findKey, run_underlying d1, q2, Sem.run_pure, hset]
          · have hj : arr.toList[j]? = some e := q2
            have hj' : arr[j]? = some e := by simpa using hj
            obtain ⟨r1, r2⟩ := g3.set q5 q2 (v := a.eval v) (k2 := e.key) rfl hvv
            obtain ⟨r3, r4⟩ := sameBits_key hu r1 q6
            refine fin (arr.modify j fun e => { e with key := u, val := a.eval v }) clock (fun w' m => ?_) ?_
            · obtain ⟨_, r5⟩ := (g3.mv m (fun _ _ => rfl)).set q5 q2 (v := a.eval v) (k2 := u) r3.symm (hvv.mv m (fun _ _ => rfl))
              rw [q7]
              have : (arr.modify j fun e => { e with key := u, val := a.eval v }).toList = arr.toList.set j { e with key := u, val := a.eval v } := by
                apply List.ext_getElem?
                intro i
                simp only [Array.getElem?_toList, Array.getElem?_modify, List.getElem?_set]
                by_cases hi : j = i
                · subst hi
                  have : j < arr.size := (Array.getElem?_eq_some_iff.1 hj').1
                  have h8 := (Array.getElem?_eq_some_iff.1 hj').2
                  simp [this, h8]
                · simp [hi]
              rw [this]; exact r5
            · unfold Instr.mapUpdate
              simp only [Sem.run_bind, run_underlying (map_of (tabB_ok hT hti) hk), Result.andThen_ok, hobj, checkKey_ok (tabB_ok hT htk) b2, Instr.findKey, run_underlying d1, q3, Sem.run_pure, Nat.zero_add, hj', Option.map_some, Option.getD_some, Instr.keyThatStays, r4, if_true, hset]
        · exact hv.elim
      · exact hv.elim
    · exact hv.elim
  · exact hv.elim
end
end Go.Vc
