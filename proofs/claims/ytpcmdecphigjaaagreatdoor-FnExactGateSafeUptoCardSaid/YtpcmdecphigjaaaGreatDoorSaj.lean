/- Part 10 of a proof: Contracts: the sums of a book. Contracts: the sums of a book, by the specification; a book. Contracts: laws. Contracts: books. Sets of verbs, a bit each. No program, no memory. Contracts: what a person may. Contracts: may. Asks and slips: what is computed, and the specification's contracts. Contracts: slips of the specification. Contracts: asks and slips of the program. Contracts: GateAskOk and GateSlipOk of the program. Contracts: doors and worlds. -/
import Derived.Test.YtpcmdecphigjaaaGreatDoorSaa
import Derived.Test.YtpcmdecphigjaaaGreatDoorSab
import Derived.Test.YtpcmdecphigjaaaGreatDoorSac
import Derived.Test.YtpcmdecphigjaaaGreatDoorSad
import Derived.Test.YtpcmdecphigjaaaGreatDoorSae
import Derived.Test.YtpcmdecphigjaaaGreatDoorSaf
import Derived.Test.YtpcmdecphigjaaaGreatDoorSag
import Derived.Test.YtpcmdecphigjaaaGreatDoorSah
import Derived.Test.YtpcmdecphigjaaaGreatDoorSai
section
namespace Go.Vc
open Go.Proofs
set_option maxRecDepth 100000
set_option pp.maxSteps 400
set_option pp.deepTerms false
set_option linter.unusedSimpArgs false
set_option linter.unusedVariables false
def ledgF (L : GateLaw) (p : Option GateLedger) (g : GateLedger) : Bool := prevL p g && (L.teams.any (·.name == g.team) && (nameOk g.resource && (!decide (g.free < 0) && (!decide (g.free > g.most) && !decide (g.most > 1000000)))))
def prevP (p : Option GatePurse) (x : GatePurse) : Bool := match p with | some q => purseLt q x | none => true
def purF (b : GateBook) (p : Option GatePurse) (x : GatePurse) : Bool := prevP p x && (b.ledgers.any (fun g => g.team == x.team && g.resource == x.resource) && (nameOk x.door && (inR x.amount 1 1000000 && inR x.until_ b.tick (wadd b.tick 10))))
def sumF (L : GateLaw) (b : GateBook) (g : GateLedger) : Bool := wadd (wadd (usedF L b g.team g.resource) (outF b g.team g.resource)) g.free == g.most
def sumsF (L : GateLaw) (b : GateBook) : Bool := !decide ((b.ledgers.length : Int) > 10) && (!decide ((b.purses.length : Int) > 24) && (chainK (ledgF L) none b.ledgers && (chainK (purF b) none b.purses && b.ledgers.all (sumF L b))))
def val1 (L : GateLaw) (b : GateBook) (g : GateLedger) : Int := wadd g.free (usedF L b g.team g.resource)
theorem ledg_prev {L : GateLaw} : ∀ (p : Option GateLedger) (g : GateLedger), ledgF L p g = true → prevL p g = true := fun p g h => by
  simp only [ledgF, Bool.and_eq_true] at h; exact h.1
theorem sum_look {L : GateLaw} {b : GateBook} (h : chainK (ledgF L) none b.ledgers = true) {g : GateLedger} (hg : g ∈ b.ledgers) : ∃ v, lookE (en2 (en1 (val1 L b) b.ledgers) b.purses) (accL g) = some v ∧ (v == g.most) = sumF L b g := by
  have h1 := en1_look (val1 L b) [] (chain_weaken ledg_prev h) g hg
  refine ⟨_, by rw [look_en2]; unfold en1; rw [h1]; rfl, ?_⟩
  unfold sumF val1 outF
  simp only [accL]
  rw [out_split]
theorem en2_look {E : List (Acc × Int)} {k : Acc} (h : (lookE E k).isSome) (ps : List GatePurse) : ∃ v, lookE (en2 E ps) k = some v := by
  obtain ⟨v, e⟩ := Option.isSome_iff_exists.1 h
  exact ⟨_, by rw [look_en2, e]; rfl⟩
theorem maprow {t : Nat} {tk : TK} {E : List (Acc × Int)} {a c : Bs} {v : Int} : some (AO.map t tk (mapPut (E.map entA) [.str a, .str c] (.d (.int .i64 v)))) = some (AO.map t tk ((putE E (a, c) v).map entA)) := by
  rw [show ([D.str a, D.str c] : List D) = keyA (a, c) from rfl, mapPut_A]
theorem ltTwo_eq (a b c d : Bs) : ltTwo a b c d = !(!(Op.bytesLess a c || a == c) || (a == c && !Op.bytesLess b d)) := by rw [ltTwo_not, Bool.not_not]
theorem lookrow {E : List (Acc × Int)} {a c : Bs} {v : Int} (h : lookE E (a, c) = some v) : mapLook (E.map entA) [.str a, .str c] = some (.d (.int .i64 v)) := by
  rw [show ([D.str a, D.str c] : List D) = keyA (a, c) from rfl, mapLook_A, h]; rfl
theorem entryrow {E : List (Acc × Int)} {a c : Bs} {v : Int} (h : lookE E (a, c) = some v) : ∃ j, ∃ k' : Acc, mapAt (E.map entA) [.str a, .str c] 0 = some (j, .d (.int .i64 v)) ∧ (E.map entA)[(((j : Nat) : Int)).toNat]? = some (keyA k', .d (.int .i64 v)) ∧
    ∀ t tk x, some (AO.map t tk ((E.map entA).set (((j : Nat) : Int)).toNat (keyA k', .d (.int .i64 (IntKind.i64.wrap (v + x)))))) = some (AO.map t tk ((addE E (a, c) x).map entA)) := by
  obtain ⟨j, k', h1, h2, h3⟩ := mapAt_A (i := 0) h
  rw [Nat.zero_add] at h1
  refine ⟨j, k', h1, ?_, fun t tk x => ?_⟩
  · rw [Int.toNat_natCast, List.getElem?_map, h2]; rfl
  · rw [h3, List.map_set, Int.toNat_natCast]; rfl
theorem pur_look {L : GateLaw} {b : GateBook} (h : chainK (ledgF L) none b.ledgers = true) {p : Option GatePurse} {x : GatePurse} (hx : purF b p x = true) (ps : List GatePurse) : ∃ v, lookE (en2 (en1 (val1 L b) b.ledgers) ps) (x.team, x.resource) = some v := by
  simp only [purF, Bool.and_eq_true] at hx
  obtain ⟨g, hg, hk⟩ := List.any_eq_true.1 hx.2.1
  simp only [Bool.and_eq_true, beq_iff_eq] at hk
  have h1 := en1_look (val1 L b) [] (chain_weaken ledg_prev h) g hg
  refine en2_look ?_ ps
  rw [← hk.1, ← hk.2]
  show (lookE (en1 (val1 L b) b.ledgers) (accL g)).isSome
  unfold en1; rw [h1]; rfl
set_option maxHeartbeats 4000000 in
theorem i_sumsOk (L : GateLaw) (b : GateBook) : Spec P 79 [st b.e, st L.e] (.d (.bool (sumsF L b))) := by
  refine Spec.of_vc vcT vcM [.tmp 4] Tryz.func79 rfl rfl rfl rfl (fun hok => ?_)
  have hsl := (ok_book (okAs_head hok)).2.2.1
  have hsp := (ok_book (okAs_head hok)).2.2.2
  repeat refine And.intro rfl ?_
  refine And.intro (fun h0 => ?_) (fun h0 => ?_)
  · have h0' : decide ((b.ledgers.length : Int) > 10) = false := by rw [List.length_map] at h0; exact h0
    repeat refine And.intro rfl ?_
    refine And.intro (fun h00 => ?_) (fun h00 => ?_)
    · have h00 : decide ((b.purses.length : Int) > 24) = true := by simp only [cond_false, List.length_map] at h00; exact h00
      refine bd ?_
      rw [sumsF, h0', h00]; rfl
    have h00 : decide ((b.purses.length : Int) > 24) = false := by simp only [cond_false, List.length_map] at h00; exact h00
    have hob : sumsF L b = (chainK (ledgF L) none b.ledgers && (chainK (purF b) none b.purses && b.ledgers.all (sumF L b))) := by rw [sumsF, h0', h00]; rfl
    rw [hob]
    repeat refine And.intro rfl ?_
    refine ⟨fun m l h => ∃ (i : Nat) (E : List (Acc × Int)), m = b.ledgers.length - i ∧ i ≤ b.ledgers.length ∧ (E = en1 (val1 L b) (b.ledgers.take i) ∧ chainK (ledgF L) none b.ledgers = chainK (ledgF L) (prevO b.ledgers i) (b.ledgers.drop i)) ∧ l = [(2, .ptr 0 0), (3, .ptr 1 0), (5, .mapr 2), (26, .d (lGateLedger b.ledgers)), (27, .d (.int .i64 (b.ledgers.map GateLedger.e).length)), (28, .d (.int .i64 i))] ∧ h = ⟨[(2, .map 204 .pair (E.map entA)), (1, .cells 43 (L.e.map .d)), (0, .cells 50 (b.e.map .d))], 3, 0⟩,
      ⟨_, _, _, ⟨0, _, rfl, Nat.zero_le _, ⟨rfl, rfl⟩, rfl, rfl⟩, rfl, rfl, ⟨rfl, rfl, rfl, rfl, rfl, rfl, trivial⟩, (by repeat' first|exact rfl|exact trivial|exact ltM_A _ _|refine And.intro ?_ ?_), (by repeat' first|exact rfl|exact trivial|refine And.intro ?_ ?_)⟩, ?_⟩
    rintro m l hh ⟨i, E, rfl, hi, hr, rfl, rfl⟩
    obtain ⟨hE, hr⟩ := hr
    repeat refine And.intro rfl ?_
    refine And.intro (fun h1 => ?_) (fun h1 => ?_)
    · have hlt : i < b.ledgers.length := lt_map h1
      rw [chain_step hlt] at hr
      repeat refine And.intro rfl ?_
      refine ix_at (e := GateLedger.e) (xs := b.ledgers) (hlt) rfl ?_
      repeat refine And.intro rfl ?_
      repeat' first
        | refine And.intro rfl ?_
        | refine And.intro (fun h => nomatch (show true = false from h)) (fun h => ?_)
        | refine And.intro (fun h => nomatch (show false = true from h)) (fun h => ?_)
        | refine And.intro (fun h => ?_) (fun h => nomatch (show true = false from h))
        | refine And.intro (fun h => ?_) (fun h => nomatch (show false = true from h))
        | refine And.intro (fun h => ?_) (fun h => ?_)
        | refine Or.inl (Exists.intro _ (And.intro (i_teamOf _ _) ?_))
        | refine Or.inl (Exists.intro _ (And.intro (i_isName _) ?_))
        | refine ix_atw (e := GateLedger.e) (xs := b.ledgers) (k := i - 1) (by omega) (wrap_pred (gt0 (by assumption)) hlt hsl) rfl ?_
      all_goals (simp only [cond_false, cond_true, Bool.not_eq_true', Bool.not_eq_false', reduceCtorEq, idx_lt] at *)
      all_goals first
        | (refine bd ?_
           rw [hr]
           clear hr hE hob h0 h0' h00
           first | rw [prevO_some (gt0 (by assumption)) hlt] | rw [prevO_none (le0 (by assumption))]
           simp_all only [ledgF, prevL, ltTwo_eq, Bool.true_and, Bool.and_true, Bool.false_and, Bool.and_false, Bool.true_or, Bool.or_true, Bool.false_or, Bool.or_false, Bool.not_true, Bool.not_false]
           done)
        | (refine (fun hq : ledgF L (prevO b.ledgers i) b.ledgers[i] = true => ?_) ?_
           rotate_left
           · clear hr hE hob h0 h0' h00
             first | rw [prevO_some (gt0 (by assumption)) hlt] | rw [prevO_none (le0 (by assumption))]
             simp_all only [ledgF, prevL, ltTwo_eq, Bool.true_and, Bool.and_true, Bool.false_and, Bool.and_false, Bool.true_or, Bool.or_true, Bool.false_or, Bool.or_false, Bool.not_true, Bool.not_false]
             done
           · rw [hq, Bool.true_and] at hr
             repeat refine And.intro rfl ?_
             refine And.intro (by kernel_rfl) (And.intro (by kernel_rfl) ?_)
             repeat refine And.intro rfl ?_
             repeat refine And.intro rfl ?_
             refine Or.inl (Exists.intro _ (And.intro (i_GateUsed _ _ _ _) ?_))
             repeat refine And.intro rfl ?_
             refine ⟨_, _, _, ⟨i + 1, putE E (accL b.ledgers[i]) (val1 L b b.ledgers[i]), rfl, hlt, ⟨by rw [hE, List.take_succ_eq_append_getElem hlt, en1_snoc], hr⟩, rfl, rfl⟩, by omega, rfl, rfl, ?_, ?_, ?_⟩
             all_goals (repeat' first | exact rfl | exact trivial | exact nd (wrap_succ hlt hsl) | exact maprow | exact ltM_A _ _ | refine And.intro ?_ ?_)
          )
    · rw [chain_end (ge_map h1)] at hr
      rw [List.take_of_length_le (ge_map h1)] at hE
      rw [hr, Bool.true_and]
      have hC := hr
      clear hr
      repeat refine And.intro rfl ?_
      refine ⟨fun m l h => ∃ (i : Nat) (F : List (Acc × Int)), m = b.purses.length - i ∧ i ≤ b.purses.length ∧ (F = en2 E (b.purses.take i) ∧ chainK (purF b) none b.purses = chainK (purF b) (prevO b.purses i) (b.purses.drop i)) ∧ l = [(2, .ptr 0 0), (5, .mapr 2), (107, .d (lGatePurse b.purses)), (108, .d (.int .i64 (b.purses.map GatePurse.e).length)), (109, .d (.int .i64 i))] ∧ h = ⟨[(2, .map 204 .pair (F.map entA)), (0, .cells 50 (b.e.map .d))], 3, 0⟩,
        ⟨_, _, _, ⟨0, _, rfl, Nat.zero_le _, ⟨rfl, rfl⟩, rfl, rfl⟩, rfl, rfl, ⟨rfl, rfl, rfl, rfl, rfl, trivial⟩, (by repeat' first|exact rfl|exact trivial|exact ltM_A _ _|refine And.intro ?_ ?_), (by repeat' first|exact rfl|exact trivial|refine And.intro ?_ ?_)⟩, ?_⟩
      rintro m l hh ⟨i, F, rfl, hi, hr, rfl, rfl⟩
      obtain ⟨hF, hr⟩ := hr
      repeat refine And.intro rfl ?_
      refine And.intro (fun h2 => ?_) (fun h2 => ?_)
      · have hlt : i < b.purses.length := lt_map h2
        rw [chain_step hlt] at hr
        repeat refine And.intro rfl ?_
        refine ix_at (e := GatePurse.e) (xs := b.purses) (hlt) rfl ?_
        repeat refine And.intro rfl ?_
        repeat' first
          | refine And.intro rfl ?_
          | refine And.intro (fun h => nomatch (show true = false from h)) (fun h => ?_)
          | refine And.intro (fun h => nomatch (show false = true from h)) (fun h => ?_)
          | refine And.intro (fun h => ?_) (fun h => nomatch (show true = false from h))
          | refine And.intro (fun h => ?_) (fun h => nomatch (show false = true from h))
          | refine And.intro (fun h => ?_) (fun h => ?_)
          | refine Or.inl (Exists.intro _ (And.intro (i_purseBefore _ _) ?_))
          | refine Or.inl (Exists.intro _ (And.intro (i_ledger _ _ _) ?_))
          | refine Or.inl (Exists.intro _ (And.intro (i_isName _) ?_))
          | refine And.intro (by kernel_rfl) ?_
          | refine ix_atw (e := GatePurse.e) (xs := b.purses) (k := i - 1) (by omega) (wrap_pred (gt0 (by assumption)) hlt hsp) rfl ?_
        all_goals (simp only [cond_false, cond_true, Bool.not_eq_true', Bool.not_eq_false', reduceCtorEq, idx_lt] at *)
        all_goals first
          | (refine bd ?_
             rw [hr]
             clear hr hE hob h0 h0' h00 hF hC
             first | rw [prevO_some (gt0 (by assumption)) hlt] | rw [prevO_none (le0 (by assumption))]
             simp_all only [purF, prevP, inR_two, wadd, Bool.true_and, Bool.and_true, Bool.false_and, Bool.and_false, Bool.true_or, Bool.or_true, Bool.false_or, Bool.or_false, Bool.not_true, Bool.not_false]
             done)
          | (refine (fun hq : purF b (prevO b.purses i) b.purses[i] = true => ?_) ?_
             rotate_left
             · clear hr hE hob h0 h0' h00 hF hC
               first | rw [prevO_some (gt0 (by assumption)) hlt] | rw [prevO_none (le0 (by assumption))]
               simp_all only [purF, prevP, inR_two, wadd, Bool.true_and, Bool.and_true, Bool.false_and, Bool.and_false, Bool.true_or, Bool.or_true, Bool.false_or, Bool.or_false, Bool.not_true, Bool.not_false]
               done
             · rw [hq, Bool.true_and] at hr
               obtain ⟨v, hv⟩ := pur_look hC hq (b.purses.take i)
               rw [← hE, ← hF] at hv
               obtain ⟨j, k', g1, g2, g3⟩ := entryrow hv
               refine ⟨_, lookrow hv, ?_⟩
               repeat first | refine And.intro rfl ?_ | refine And.intro trivial ?_
               refine ⟨_, g1, ?_⟩
               repeat first | refine And.intro rfl ?_ | refine And.intro trivial ?_
               refine ⟨Int.natCast_nonneg _, _, g2, ?_⟩
               repeat refine And.intro rfl ?_
               refine ⟨_, _, _, ⟨i + 1, addE F (b.purses[i].team, b.purses[i].resource) b.purses[i].amount, rfl, hlt, ⟨by rw [hF, List.take_succ_eq_append_getElem hlt, en2_snoc]; rfl, hr⟩, rfl, rfl⟩, by omega, rfl, rfl, ?_, ?_, ?_⟩
               all_goals (repeat' first | exact rfl | exact trivial | exact nd (wrap_succ hlt hsp) | exact g3 _ _ _ | exact ltM_A _ _ | refine And.intro ?_ ?_)
            )
      · rw [chain_end (ge_map h2)] at hr
        rw [List.take_of_length_le (ge_map h2)] at hF
        rw [hr, Bool.true_and]
        clear hr
        repeat refine And.intro rfl ?_
        refine ⟨fun m l h => ∃ (i : Nat) , m = b.ledgers.length - i ∧ i ≤ b.ledgers.length ∧ (b.ledgers.all (sumF L b) = (b.ledgers.drop i).all (sumF L b)) ∧ l = [(5, .mapr 2), (180, .d (lGateLedger b.ledgers)), (181, .d (.int .i64 (b.ledgers.map GateLedger.e).length)), (182, .d (.int .i64 i))] ∧ h = ⟨[(2, .map 204 .pair (F.map entA))], 3, 0⟩,
          ⟨_, _, _, ⟨0, rfl, Nat.zero_le _, rfl, rfl, rfl⟩, rfl, rfl, ⟨rfl, rfl, rfl, rfl, trivial⟩, (by repeat' first|exact rfl|exact trivial|exact ltM_A _ _|refine And.intro ?_ ?_), (by repeat' first|exact rfl|exact trivial|refine And.intro ?_ ?_)⟩, ?_⟩
        rintro m l hh ⟨i, rfl, hi, hr, rfl, rfl⟩
        repeat refine And.intro rfl ?_
        refine And.intro (fun h3 => ?_) (fun h3 => ?_)
        · have hlt : i < b.ledgers.length := lt_map h3
          rw [all_step hlt] at hr
          obtain ⟨v, hv, hs⟩ := sum_look hC (List.getElem_mem hlt)
          rw [← hE, ← hF] at hv
          repeat refine And.intro rfl ?_
          refine ix_at (e := GateLedger.e) (xs := b.ledgers) (hlt) rfl ?_
          repeat refine And.intro rfl ?_
          repeat refine And.intro rfl ?_
          refine And.intro (by kernel_rfl) ?_
          repeat refine And.intro rfl ?_
          refine ⟨_, lookrow hv, ?_⟩
          repeat refine And.intro rfl ?_
          refine And.intro (fun h4 => ?_) (fun h4 => ?_)
          · refine bd ?_
            rw [hr, ← hs, nbt h4]; rfl
          · rw [← hs, nbf h4, Bool.true_and] at hr
            repeat refine And.intro rfl ?_
            exact ⟨_, _, _, ⟨i + 1, rfl, hlt, hr, rfl, rfl⟩, by omega, rfl, rfl, ⟨rfl, rfl, rfl, nd (wrap_succ hlt hsl), trivial⟩, (by repeat' first|exact rfl|exact trivial|exact ltM_A _ _|refine And.intro ?_ ?_), (by repeat' first|exact rfl|exact trivial|refine And.intro ?_ ?_)⟩
        · refine bd ?_
          rw [hr, all_end (ge_map h3)]
  · refine bd ?_
    rw [List.length_map] at h0
    rw [sumsF, h0]; rfl
end Go.Vc
end

section
namespace Go.Vc
open Go.Proofs
set_option maxRecDepth 100000
set_option pp.maxSteps 400
set_option pp.deepTerms false
set_option linter.unusedSimpArgs false
set_option linter.unusedVariables false
def ledgS (L : GateLaw) (b : GateBook) (p : Option GateLedger) (g : GateLedger) : Bool := ledgF L p g && sumF L b g
set_option maxHeartbeats 4000000 in
theorem s_l5SumsOk (L : GateLaw) (b : GateBook) : Spec P 66 [st L.e, st b.e] (.d (.bool (sumsF L b))) := by
  refine Spec.of_vc vcT vcM [.tmp 4] Tryz.func66 rfl rfl rfl rfl (fun hok => ?_)
  have hsl := (ok_book hok.2).2.2.1
  have hsp := (ok_book hok.2).2.2.2
  repeat refine And.intro rfl ?_
  refine And.intro (fun h0 => ?_) (fun h0 => ?_)
  · have h0' : decide ((b.ledgers.length : Int) > 10) = false := by rw [List.length_map] at h0; exact h0
    repeat refine And.intro rfl ?_
    refine And.intro (fun h00 => ?_) (fun h00 => ?_)
    · have h00 : decide ((b.purses.length : Int) > 24) = true := by simp only [cond_false, List.length_map] at h00; exact h00
      refine bd ?_
      rw [sumsF, h0', h00]; rfl
    have h00 : decide ((b.purses.length : Int) > 24) = false := by simp only [cond_false, List.length_map] at h00; exact h00
    have hob : sumsF L b = (chainK (purF b) none b.purses && chainK (ledgS L b) none b.ledgers) := by
      rw [sumsF, h0', h00]
      rw [show chainK (ledgS L b) none b.ledgers = (chainK (ledgF L) none b.ledgers && b.ledgers.all (sumF L b)) from chain_and]
      cases chainK (ledgF L) none b.ledgers <;> cases chainK (purF b) none b.purses <;> rfl
    rw [hob]
    repeat refine And.intro rfl ?_
    repeat refine And.intro rfl ?_
    refine ⟨fun m l h => ∃ (i : Nat) , m = b.purses.length - i ∧ i ≤ b.purses.length ∧ (chainK (purF b) none b.purses = chainK (purF b) (prevO b.purses i) (b.purses.drop i)) ∧ l = [(2, .ptr 0 0), (3, .ptr 1 0), (5, .d (.int .i64 i))] ∧ h = ⟨[(1, .cells 50 (b.e.map .d)), (0, .cells 43 (L.e.map .d))], 2, 0⟩,
      ⟨_, _, _, ⟨0, rfl, Nat.zero_le _, rfl, rfl, rfl⟩, rfl, rfl, ⟨rfl, rfl, rfl, trivial⟩, (by repeat' first|exact rfl|exact trivial|refine And.intro ?_ ?_), (by repeat' first|exact rfl|exact trivial|refine And.intro ?_ ?_)⟩, ?_⟩
    rintro m l hh ⟨i, rfl, hi, hr, rfl, rfl⟩
    repeat refine And.intro rfl ?_
    refine And.intro (fun h1 => ?_) (fun h1 => ?_)
    · have hlt : i < b.purses.length := lt_map h1
      rw [chain_step hlt] at hr
      repeat refine And.intro rfl ?_
      refine ix_at (e := GatePurse.e) (xs := b.purses) (hlt) rfl ?_
      repeat refine And.intro rfl ?_
      repeat refine And.intro rfl ?_
      refine And.intro (by kernel_rfl) ?_
      repeat refine And.intro rfl ?_
      repeat' first
        | refine And.intro rfl ?_
        | refine And.intro (fun h => nomatch (show true = false from h)) (fun h => ?_)
        | refine And.intro (fun h => nomatch (show false = true from h)) (fun h => ?_)
        | refine And.intro (fun h => ?_) (fun h => nomatch (show true = false from h))
        | refine And.intro (fun h => ?_) (fun h => nomatch (show false = true from h))
        | refine And.intro (fun h => ?_) (fun h => ?_)
        | refine Or.inl (Exists.intro _ (And.intro (s_l1NameOk _) ?_))
        | refine Or.inl (Exists.intro _ (And.intro (s_l5Ledger _ _ _) ?_))
        | refine Or.inl (Exists.intro _ (And.intro (s_l1In _ _ _) ?_))
        | refine Or.inl (Exists.intro _ (And.intro (s_l5PurseKey _ _) ?_))
        | refine And.intro (by kernel_rfl) ?_
        | refine ix_atw (e := GatePurse.e) (xs := b.purses) (k := i - 1) (by omega) (wrap_pred (gt0 (by assumption)) hlt hsp) rfl ?_
      all_goals (simp only [cond_false, cond_true, Bool.not_eq_true', Bool.not_eq_false', reduceCtorEq, idx_lt, purseF_ge] at *)
      all_goals first
        | (refine bd ?_
           rw [hr]
           clear hr hob h0 h0' h00
           first | rw [prevO_some (gt0 (by assumption)) hlt] | rw [prevO_none (le0 (by assumption))] | skip
           simp_all only [purF, prevP, wadd, Bool.true_and, Bool.and_true, Bool.false_and, Bool.and_false, Bool.true_or, Bool.or_true, Bool.false_or, Bool.or_false, Bool.not_true, Bool.not_false]
           done)
        | (refine (fun hq : purF b (prevO b.purses i) b.purses[i] = true => ?_) ?_
           rotate_left
           · clear hr hob h0 h0' h00
             first | rw [prevO_some (gt0 (by assumption)) hlt] | rw [prevO_none (le0 (by assumption))]
             simp_all only [purF, prevP, wadd, Bool.true_and, Bool.and_true, Bool.false_and, Bool.and_false, Bool.true_or, Bool.or_true, Bool.false_or, Bool.or_false, Bool.not_true, Bool.not_false]
             done
           · rw [hq, Bool.true_and] at hr
             repeat first | refine And.intro rfl ?_ | refine And.intro trivial ?_
             exact ⟨_, _, _, ⟨i + 1, rfl, hlt, hr, rfl, rfl⟩, by omega, rfl, rfl, ⟨rfl, rfl, nd (wrap_succ hlt hsp), trivial⟩, (by repeat' first|exact rfl|exact trivial|refine And.intro ?_ ?_), (by repeat' first|exact rfl|exact trivial|refine And.intro ?_ ?_)⟩
          )
    · rw [chain_end (ge_map h1)] at hr
      rw [hr, Bool.true_and]
      clear hr
      repeat refine And.intro rfl ?_
      repeat refine And.intro rfl ?_
      refine ⟨fun m l h => ∃ (i : Nat) , m = b.ledgers.length - i ∧ i ≤ b.ledgers.length ∧ (chainK (ledgS L b) none b.ledgers = chainK (ledgS L b) (prevO b.ledgers i) (b.ledgers.drop i)) ∧ l = [(2, .ptr 0 0), (3, .ptr 1 0), (7, .d (.int .i64 i))] ∧ h = ⟨[(1, .cells 50 (b.e.map .d)), (0, .cells 43 (L.e.map .d))], 2, 0⟩,
        ⟨_, _, _, ⟨0, rfl, Nat.zero_le _, rfl, rfl, rfl⟩, rfl, rfl, ⟨rfl, rfl, rfl, trivial⟩, (by repeat' first|exact rfl|exact trivial|refine And.intro ?_ ?_), (by repeat' first|exact rfl|exact trivial|refine And.intro ?_ ?_)⟩, ?_⟩
      rintro m l hh ⟨i, rfl, hi, hr, rfl, rfl⟩
      repeat refine And.intro rfl ?_
      refine And.intro (fun h2 => ?_) (fun h2 => ?_)
      · have hlt : i < b.ledgers.length := lt_map h2
        rw [chain_step hlt] at hr
        repeat refine And.intro rfl ?_
        refine ix_at (e := GateLedger.e) (xs := b.ledgers) (hlt) rfl ?_
        repeat refine And.intro rfl ?_
        repeat' first
          | refine And.intro rfl ?_
          | refine And.intro (fun h => nomatch (show true = false from h)) (fun h => ?_)
          | refine And.intro (fun h => nomatch (show false = true from h)) (fun h => ?_)
          | refine And.intro (fun h => ?_) (fun h => nomatch (show true = false from h))
          | refine And.intro (fun h => ?_) (fun h => nomatch (show false = true from h))
          | refine And.intro (fun h => ?_) (fun h => ?_)
          | refine Or.inl (Exists.intro _ (And.intro (s_l1NameOk _) ?_))
          | refine Or.inl (Exists.intro _ (And.intro (s_l4Team _ _) ?_))
          | refine Or.inl (Exists.intro _ (And.intro (s_l5Two _ _ _ _) ?_))
          | refine Or.inl (Exists.intro _ (And.intro (s_GateUsed _ _ _ _) ?_))
          | refine Or.inl (Exists.intro _ (And.intro (s_l5Out _ _ _) ?_))
          | refine And.intro (by kernel_rfl) ?_
          | refine ix_atw (e := GateLedger.e) (xs := b.ledgers) (k := i - 1) (by omega) (wrap_pred (gt0 (by assumption)) hlt hsl) rfl ?_
        all_goals (simp only [cond_false, cond_true, Bool.not_eq_true', Bool.not_eq_false', reduceCtorEq, idx_lt, twoF_ge] at *)
        all_goals (try simp only [bne, Bool.not_eq_true', Bool.not_eq_false'] at *)
        all_goals first
          | (refine bd ?_
             rw [hr]
             clear hr hob h0 h0' h00
             first | rw [prevO_some (gt0 (by assumption)) hlt] | rw [prevO_none (le0 (by assumption))] | skip
             simp_all only [ledgS, ledgF, sumF, prevL, wadd, Bool.true_and, Bool.and_true, Bool.false_and, Bool.and_false, Bool.true_or, Bool.or_true, Bool.false_or, Bool.or_false, Bool.not_true, Bool.not_false]
             done)
          | (refine (fun hq : ledgS L b (prevO b.ledgers i) b.ledgers[i] = true => ?_) ?_
             rotate_left
             · clear hr hob h0 h0' h00
               first | rw [prevO_some (gt0 (by assumption)) hlt] | rw [prevO_none (le0 (by assumption))]
               simp_all only [ledgS, ledgF, sumF, prevL, wadd, Bool.true_and, Bool.and_true, Bool.false_and, Bool.and_false, Bool.true_or, Bool.or_true, Bool.false_or, Bool.or_false, Bool.not_true, Bool.not_false]
               done
             · rw [hq, Bool.true_and] at hr
               repeat first | refine And.intro rfl ?_ | refine And.intro trivial ?_
               exact ⟨_, _, _, ⟨i + 1, rfl, hlt, hr, rfl, rfl⟩, by omega, rfl, rfl, ⟨rfl, rfl, nd (wrap_succ hlt hsl), trivial⟩, (by repeat' first|exact rfl|exact trivial|refine And.intro ?_ ?_), (by repeat' first|exact rfl|exact trivial|refine And.intro ?_ ?_)⟩
            )
      · refine bd ?_
        rw [hr, chain_end (ge_map h2)]
  · refine bd ?_
    rw [List.length_map] at h0
    rw [sumsF, h0]; rfl
end Go.Vc
end

section
namespace Go.Vc
open Go.Proofs
set_option maxRecDepth 100000
set_option pp.maxSteps 400
set_option pp.deepTerms false
set_option linter.unusedSimpArgs false
set_option linter.unusedVariables false
def lawOk (l : GateLaw) : Bool := mendsOk l.shapes l.mends && teamsOk l.teams
theorem s_GateLawOk (l : GateLaw) : Spec P 62 [st l.e] (.d (.bool (lawOk l))) := by
  refine Spec.of_vc vcT vcM [.tmp 2] Tryz.func62 rfl rfl rfl rfl (fun hok => ?_)
  repeat refine And.intro rfl ?_
  refine Or.inl (Exists.intro _ (And.intro (s_GateMendsOk _ _) ?_))
  repeat refine And.intro rfl ?_
  refine And.intro (fun h => ?_) (fun h => ?_)
  · repeat refine And.intro rfl ?_
    refine Or.inl (Exists.intro _ (And.intro (s_GateTeamsOk _) ?_))
    refine bd ?_
    simp only [lawOk, h, Bool.true_and]
  · refine bd ?_
    simp only [lawOk, h, Bool.false_and]
theorem i_GateLawOk (l : GateLaw) : Spec P 76 [st l.e] (.d (.bool (lawOk l))) := by
  refine Spec.of_vc vcT vcM [.tmp 2] Tryz.func76 rfl rfl rfl rfl (fun hok => ?_)
  repeat refine And.intro rfl ?_
  refine Or.inl (Exists.intro _ (And.intro (i_GateMendsOk _ _) ?_))
  repeat refine And.intro rfl ?_
  refine And.intro (fun h => ?_) (fun h => ?_)
  · repeat refine And.intro rfl ?_
    refine Or.inl (Exists.intro _ (And.intro (i_GateTeamsOk _) ?_))
    refine bd ?_
    simp only [lawOk, h, Bool.true_and]
  · refine bd ?_
    simp only [lawOk, h, Bool.false_and]
end Go.Vc
end

section
namespace Go.Vc
open Go.Proofs
set_option maxRecDepth 100000
set_option pp.maxSteps 400
set_option pp.deepTerms false
set_option linter.unusedSimpArgs false
set_option linter.unusedVariables false
def bookOk (L : GateLaw) (b : GateBook) : Bool := lawOk L && (inR b.now 0 1000000 && (inR b.tick 0 1000000 && (inR b.given 0 b.now && (objsF L b && (grantsF b && sumsF L b)))))
theorem law_mends {L : GateLaw} (h : lawOk L = true) : mendsOk L.shapes L.mends = true := by
  unfold lawOk at h; rw [Bool.and_eq_true] at h; exact h.1
theorem i_GateBookOk (L : GateLaw) (b : GateBook) : Spec P 39 [st L.e, st b.e] (.d (.bool (bookOk L b))) := by
  refine Spec.of_vc vcT vcM [.tmp 4] Tryz.func39 rfl rfl rfl rfl (fun hok => ?_)
  repeat refine And.intro rfl ?_
  refine Or.inl (Exists.intro _ (And.intro (i_GateLawOk _) ?_))
  repeat' first
    | refine And.intro rfl ?_
    | refine And.intro (fun h => nomatch (show true = false from h)) (fun h => ?_)
    | refine And.intro (fun h => nomatch (show false = true from h)) (fun h => ?_)
    | refine And.intro (fun h => ?_) (fun h => nomatch (show true = false from h))
    | refine And.intro (fun h => ?_) (fun h => nomatch (show false = true from h))
    | refine And.intro (fun h => ?_) (fun h => ?_)
    | refine Or.inl (Exists.intro _ (And.intro (i_objectsOk L b (law_mends (nbf (by assumption)))) ?_))
    | refine Or.inl (Exists.intro _ (And.intro (i_grantsOk b) ?_))
    | refine Or.inl (Exists.intro _ (And.intro (i_sumsOk L b) ?_))
  all_goals (refine bd ?_; simp only [cond_false, cond_true, Bool.not_eq_true', Bool.not_eq_false', reduceCtorEq] at *; simp only [bookOk, inR_two, *, Bool.true_and, Bool.and_true, Bool.false_and, Bool.and_false, Bool.true_or, Bool.or_true, Bool.false_or, Bool.or_false, Bool.not_true, Bool.not_false])
theorem s_GateBookOk (L : GateLaw) (b : GateBook) : Spec P 30 [st L.e, st b.e] (.d (.bool (bookOk L b))) := by
  refine Spec.of_vc vcT vcM [.tmp 4] Tryz.func30 rfl rfl rfl rfl (fun hok => ?_)
  repeat refine And.intro rfl ?_
  refine Or.inl (Exists.intro _ (And.intro (s_GateLawOk _) ?_))
  repeat' first
    | refine And.intro rfl ?_
    | refine And.intro (fun h => nomatch (show true = false from h)) (fun h => ?_)
    | refine And.intro (fun h => nomatch (show false = true from h)) (fun h => ?_)
    | refine And.intro (fun h => ?_) (fun h => nomatch (show true = false from h))
    | refine And.intro (fun h => ?_) (fun h => nomatch (show false = true from h))
    | refine And.intro (fun h => ?_) (fun h => ?_)
    | refine Or.inl (Exists.intro _ (And.intro (s_l1In _ _ _) ?_))
    | refine Or.inl (Exists.intro _ (And.intro (s_l5ObjectsOk L b (law_mends (nbf (by assumption)))) ?_))
    | refine Or.inl (Exists.intro _ (And.intro (s_l5GrantsOk b) ?_))
    | refine Or.inl (Exists.intro _ (And.intro (s_l5SumsOk L b) ?_))
  all_goals (refine bd ?_; simp only [cond_false, cond_true, Bool.not_eq_true', Bool.not_eq_false', reduceCtorEq] at *; simp only [bookOk, *, Bool.true_and, Bool.and_true, Bool.false_and, Bool.and_false, Bool.true_or, Bool.or_true, Bool.false_or, Bool.or_false, Bool.not_true, Bool.not_false])
end Go.Vc
end

section
namespace Go.Vc
open Go.Proofs
set_option linter.unusedSimpArgs false
set_option linter.unusedVariables false
def setStep (s v : Int) : Int := bif decide (v ≥ 0) && decide (v < 16) then bitsF .or .u16 s (shiftF .shl .u16 1 (IntKind.u64.wrap v)) else s
def setF (vs : List Int) (s : Int) : Int := match vs with
  | [] => s
  | v :: vs => setF vs (setStep s v)
def hasF (s v : Int) : Bool := (decide (v ≥ 0) && decide (v < 16)) && (bitsF .and .u16 (shiftF .shr .u16 s (IntKind.u64.wrap v)) 1 == 1)
theorem u64_small {n : Nat} (h : n < 16) : IntKind.u64.wrap (n : Int) = n := by
  unfold IntKind.wrap
  simp [IntKind.bits, IntKind.signed]
  omega
theorem u16_small {n : Nat} (h : n < 65536) : IntKind.u16.wrap (n : Int) = n := by
  unfold IntKind.wrap
  simp [IntKind.bits, IntKind.signed]
  omega
theorem pow16 {n : Nat} (h : n < 16) : 2 ^ n < 65536 := by
  have : 2 ^ n ≤ 2 ^ 15 := Nat.pow_le_pow_right (by decide) (by omega)
  omega
theorem shl_one {n : Nat} (h : n < 16) : shiftF .shl .u16 1 (IntKind.u64.wrap (n : Int)) = ((2 ^ n : Nat) : Int) := by
  rw [u64_small h]
  unfold shiftF
  have e : min (n : Int).toNat IntKind.u16.bits = n := by
    rw [Int.toNat_natCast]
    have : IntKind.u16.bits = 16 := rfl
    omega
  simp only [e, Int.one_mul]
  have := u16_small (pow16 h)
  rw [← this]
  congr 1
  try simp
theorem ofInt_nat {n : Nat} (h : n < 65536) : (BitVec.ofInt IntKind.u16.bits (n : Int)).toNat = n := by
  have : IntKind.u16.bits = 16 := rfl
  rw [BitVec.toNat_ofInt, this]
  omega
theorem or_bits {a b : Nat} (ha : a < 65536) (hb : b < 65536) : bitsF .or .u16 (a : Int) (b : Int) = ((a ||| b : Nat) : Int) := by
  unfold bitsF
  simp only [BitVec.toNat_or, ofInt_nat ha, ofInt_nat hb]
  exact u16_small (Nat.or_lt_two_pow (n := 16) ha hb)
theorem and_bits {a b : Nat} (ha : a < 65536) (hb : b < 65536) : bitsF .and .u16 (a : Int) (b : Int) = ((a &&& b : Nat) : Int) := by
  unfold bitsF
  simp only [BitVec.toNat_and, ofInt_nat ha, ofInt_nat hb]
  exact u16_small (Nat.lt_of_le_of_lt Nat.and_le_left ha)
theorem shr_nat {a n : Nat} (h : n < 16) : shiftF .shr .u16 (a : Int) (IntKind.u64.wrap (n : Int)) = ((a / 2 ^ n : Nat) : Int) := by
  rw [u64_small h]
  unfold shiftF
  have e : min (n : Int).toNat IntKind.u16.bits = n := by
    rw [Int.toNat_natCast]
    have : IntKind.u16.bits = 16 := rfl
    omega
  simp only [e]
  rw [Int.fdiv_eq_ediv_of_nonneg _ (by exact Int.pow_nonneg (by decide))]
  simp
theorem setF_acc : ∀ (vs : List Int) (S : Nat), S < 65536 → ∃ S' : Nat, S' < 65536 ∧ setF vs (S : Int) = (S' : Int) ∧ ∀ n, n < 16 → S'.testBit n = (S.testBit n || vs.any (· == (n : Int)))
  | [], S, h => ⟨S, h, rfl, fun n _ => by simp⟩
  | v :: vs, S, h => by
    simp only [setF, setStep]
    cases hc : decide (v ≥ 0) && decide (v < 16) with
    | false =>
      obtain ⟨S', h1, h2, h3⟩ := setF_acc vs S h
      refine ⟨S', h1, h2, fun n hn => ?_⟩
      rw [h3 n hn, List.any_cons]
      have : (v == (n : Int)) = false := by
        rw [Bool.and_eq_false_iff, decide_eq_false_iff_not, decide_eq_false_iff_not] at hc
        exact beq_eq_false_iff_ne.2 (by omega)
      rw [this, Bool.false_or]
    | true =>
      rw [Bool.and_eq_true, decide_eq_true_iff, decide_eq_true_iff] at hc
      obtain ⟨m, rfl⟩ : ∃ m : Nat, v = (m : Int) := ⟨v.toNat, by omega⟩
      have hm : m < 16 := by omega
      rw [cond_true, shl_one hm, or_bits h (pow16 hm)]
      obtain ⟨S', h1, h2, h3⟩ := setF_acc vs (S ||| 2 ^ m) (Nat.or_lt_two_pow (n := 16) h (pow16 hm))
      refine ⟨S', h1, h2, fun n hn => ?_⟩
      rw [h3 n hn, List.any_cons, Nat.testBit_or, Nat.testBit_two_pow, Bool.or_assoc]
      congr 2
      by_cases e : m = n
      · subst e; simp
      · rw [decide_eq_false e]
        exact (beq_eq_false_iff_ne.2 (by omega)).symm
theorem has_set (vs : List Int) (v : Int) : hasF (setF vs 0) v = ((decide (v ≥ 0) && decide (v < 16)) && vs.any (· == v)) := by
  unfold hasF
  cases hc : decide (v ≥ 0) && decide (v < 16) with
  | false => rfl
  | true =>
    rw [Bool.and_eq_true, decide_eq_true_iff, decide_eq_true_iff] at hc
    obtain ⟨n, rfl⟩ : ∃ n : Nat, v = (n : Int) := ⟨v.toNat, by omega⟩
    have hn : n < 16 := by omega
    obtain ⟨S, h1, h2, h3⟩ := setF_acc vs 0 (by decide)
    have h2 : setF vs 0 = (S : Int) := h2
    rw [h2, shr_nat hn]
    have hlt : S / 2 ^ n < 65536 := Nat.lt_of_le_of_lt (Nat.div_le_self _ _) h1
    have := and_bits hlt (show (1 : Nat) < 65536 by decide)
    rw [show ((1 : Nat) : Int) = 1 from rfl] at this
    rw [this]
    have h4 := h3 n hn
    rw [Nat.zero_testBit, Bool.false_or, Nat.testBit_eq_decide_div_mod_eq] at h4
    rw [Bool.true_and, Bool.true_and, ← h4, Nat.and_one_is_mod]
    cases hd : decide (S / 2 ^ n % 2 = 1) with
    | true => rw [of_decide_eq_true hd]; rfl
    | false => exact beq_eq_false_iff_ne.2 (by have := of_decide_eq_false hd; omega)
end Go.Vc
end

section
namespace Go.Vc
open Go.Proofs
set_option maxRecDepth 100000
set_option pp.maxSteps 400
set_option pp.deepTerms false
set_option linter.unusedSimpArgs false
set_option linter.unusedVariables false
theorem u64_nonneg (v : Int) : 0 ≤ IntKind.u64.wrap v := by
  unfold IntKind.wrap
  simp [IntKind.bits, IntKind.signed]
  omega
theorem setF_drop {vs : List Int} {i : Nat} {s : Int} (h : i < vs.length) : setF (vs.drop i) s = setF (vs.drop (i + 1)) (setStep s vs[i]) := by
  rw [List.drop_eq_getElem_cons h]; rfl
theorem setF_end {vs : List Int} {i : Nat} {s : Int} (h : vs.length ≤ i) : setF (vs.drop i) s = s := by
  rw [List.drop_of_length_le h]; rfl
theorem i_setOf (vs : List Int) : Spec P 174 [.d (lI vs)] (.d (.int .u16 (setF vs 0))) := by
  refine Spec.of_vc vcT vcM [.tmp 2] Tryz.func174 rfl rfl rfl rfl (fun hok => ?_)
  have hs : vs.length ≤ big := len_map hok.1.1
  repeat refine And.intro rfl ?_
  refine ⟨fun m l h => ∃ (i : Nat) (s : Int), m = vs.length - i ∧ i ≤ vs.length ∧ (setF vs 0 = setF (vs.drop i) s) ∧ l = [(3, .d (.int .u16 s)), (6, .d (lI vs)), (7, .d (.int .i64 (vs.map eN).length)), (8, .d (.int .i64 i))] ∧ h = hp0,
    ⟨_, _, _, ⟨0, _, rfl, Nat.zero_le _, rfl, rfl, rfl⟩, rfl, rfl, ⟨rfl, rfl, rfl, rfl, trivial⟩, trivial, trivial⟩, ?_⟩
  rintro m l hh ⟨i, s, rfl, hi, hr, rfl, rfl⟩
  repeat refine And.intro rfl ?_
  refine And.intro (fun h1 => ?_) (fun h1 => ?_)
  · have hlt : i < vs.length := lt_map h1
    rw [setF_drop hlt, setStep] at hr
    repeat refine And.intro rfl ?_
    refine ix_at (e := eN) (xs := vs) (hlt) rfl ?_
    repeat refine And.intro rfl ?_
    repeat refine And.intro rfl ?_
    refine And.intro (fun h2 => ?_) (fun h2 => ?_)
    · repeat refine And.intro rfl ?_
      refine And.intro (fun h3 => ?_) (fun h3 => ?_)
      · rw [h2, h3, Bool.and_true, cond_true] at hr
        repeat refine And.intro rfl ?_
        refine And.intro (u64_nonneg _) ?_
        repeat refine And.intro rfl ?_
        refine ⟨_, _, _, ⟨i + 1, _, rfl, hlt, hr, rfl, rfl⟩, by omega, rfl, rfl, ?_, ?_, ?_⟩
        all_goals (repeat' first | exact rfl | exact trivial | exact nd (wrap_succ hlt hs) | refine And.intro ?_ ?_)
      · rw [h2, h3, Bool.and_false, cond_false] at hr
        repeat refine And.intro rfl ?_
        refine ⟨_, _, _, ⟨i + 1, s, rfl, hlt, hr, rfl, rfl⟩, by omega, rfl, rfl, ?_, ?_, ?_⟩
        all_goals (repeat' first | exact rfl | exact trivial | exact nd (wrap_succ hlt hs) | refine And.intro ?_ ?_)
    · rw [h2, Bool.false_and, cond_false] at hr
      repeat refine And.intro rfl ?_
      repeat refine And.intro rfl ?_
      refine ⟨_, _, _, ⟨i + 1, s, rfl, hlt, hr, rfl, rfl⟩, by omega, rfl, rfl, ?_, ?_, ?_⟩
      all_goals (repeat' first | exact rfl | exact trivial | exact nd (wrap_succ hlt hs) | refine And.intro ?_ ?_)
  · rw [hr, setF_end (ge_map h1)]
    repeat refine And.intro rfl ?_
    exact rfl
theorem i_has (s v : Int) : Spec P 175 [.d (.int .u16 s), .d (.int .i64 v)] (.d (.bool (hasF s v))) := by
  refine Spec.of_vc vcT vcM [.tmp 4] Tryz.func175 rfl rfl rfl rfl (fun hok => ?_)
  repeat' first
    | refine And.intro rfl ?_
    | refine And.intro (fun h => nomatch (show true = false from h)) (fun h => ?_)
    | refine And.intro (fun h => nomatch (show false = true from h)) (fun h => ?_)
    | refine And.intro (fun h => ?_) (fun h => nomatch (show true = false from h))
    | refine And.intro (fun h => ?_) (fun h => nomatch (show false = true from h))
    | refine And.intro (fun h => ?_) (fun h => ?_)
    | refine And.intro (show (0 : Int) ≤ IntKind.u64.wrap _ from u64_nonneg _) ?_
  all_goals (refine bd ?_; simp only [hasF, *, Bool.true_and, Bool.false_and, Bool.and_false, Bool.and_true])
def startsF (a b : Bs) : Bool := decide ((a.length : Int) ≥ b.length) && (a.take b.length == b)
theorem s_l4Begins (a b : Bs) : Spec P 98 [.d (.str a), .d (.str b)] (.d (.bool (startsF a b))) := by
  refine Spec.of_vc vcT vcM [.tmp 4] Tryz.func98 rfl rfl rfl rfl (fun hok => ?_)
  repeat refine And.intro rfl ?_
  refine And.intro (fun h0 => ?_) (fun h0 => ?_)
  · refine And.intro ⟨Int.le_refl _, Int.natCast_nonneg _, of_decide_eq_true h0⟩ ?_
    repeat refine And.intro rfl ?_
    refine bd ?_
    rw [startsF, show decide ((a.length : Int) ≥ b.length) = true from h0]; rfl
  · refine bd ?_
    rw [startsF, show decide ((a.length : Int) ≥ b.length) = false from h0]; rfl
theorem i_hasPrefix' (a b : Bs) : Spec P 206 [.d (.str a), .d (.str b)] (.d (.bool (startsF a b))) := by
  refine Spec.of_vc vcT vcM [.tmp 4] Tryz.func206 rfl rfl rfl rfl (fun hok => ?_)
  repeat refine And.intro rfl ?_
  refine And.intro (fun h0 => ?_) (fun h0 => ?_)
  · refine And.intro ⟨Int.le_refl _, Int.natCast_nonneg _, of_decide_eq_true h0⟩ ?_
    repeat refine And.intro rfl ?_
    refine bd ?_
    rw [startsF, show decide ((a.length : Int) ≥ b.length) = true from h0]; rfl
  · refine bd ?_
    rw [startsF, show decide ((a.length : Int) ≥ b.length) = false from h0]; rfl
theorem i_hasPrefix (a b : Bs) : Spec P 176 [.d (.str a), .d (.str b)] (.d (.bool (startsF a b))) := by
  refine Spec.of_vc vcT vcM [.tmp 4] Tryz.func176 rfl rfl rfl rfl (fun hok => ?_)
  repeat refine And.intro rfl ?_
  refine Or.inl (Exists.intro _ (And.intro (i_hasPrefix' _ _) ?_))
  repeat refine And.intro rfl ?_
  exact rfl
def rstF (ts : List GateTeam) (r : GateRule) (a : GateAct) : Bool := (r.kind == [] || r.kind == a.kind) && ((r.team == [] || under ts a.team r.team) && startsF a.name r.prefix_)
theorem s_l4Verb (r : GateRule) (v : Int) : Spec P 96 [st r.e, .d (.int .i64 v)] (.d (.bool (r.verbs.any (· == v)))) := by
  refine Spec.of_vc vcT vcM [.tmp 4] Tryz.func96 rfl rfl rfl rfl (fun hok => ?_)
  have hs : r.verbs.length ≤ big := by
    have := hok.1
    simp only [st, AV.ok, GateRule.e, List.map, okAs] at this
    exact len_map this.1.1
  repeat refine And.intro rfl ?_
  refine ⟨fun m l h => ∃ (i : Nat) , m = r.verbs.length - i ∧ i ≤ r.verbs.length ∧ (r.verbs.any (· == v) = (r.verbs.drop i).any (· == v)) ∧ l = [(1, .d (.int .i64 v)), (2, .ptr 0 0), (5, .d (.int .i64 i))] ∧ h = ⟨[(0, .cells 103 (r.e.map .d))], 1, 0⟩,
    ⟨_, _, _, ⟨0, rfl, Nat.zero_le _, rfl, rfl, rfl⟩, rfl, rfl, ⟨rfl, rfl, rfl, trivial⟩, ⟨rfl, trivial⟩, ⟨rfl, trivial⟩⟩, ?_⟩
  rintro m l hh ⟨i, rfl, hi, hr, rfl, rfl⟩
  repeat refine And.intro rfl ?_
  refine And.intro (fun h1 => ?_) (fun h1 => ?_)
  · have hlt : i < r.verbs.length := lt_map h1
    rw [List.drop_eq_getElem_cons hlt, List.any_cons] at hr
    repeat refine And.intro rfl ?_
    refine ix_at (e := eN) (xs := r.verbs) (hlt) rfl ?_
    repeat refine And.intro rfl ?_
    repeat refine And.intro rfl ?_
    refine And.intro (fun h2 => ?_) (fun h2 => ?_)
    · refine bd ?_
      rw [hr, show (r.verbs[i] == v) = true from h2]; rfl
    · rw [show (r.verbs[i] == v) = false from h2, Bool.false_or] at hr
      repeat refine And.intro rfl ?_
      refine ⟨_, _, _, ⟨i + 1, rfl, hlt, hr, rfl, rfl⟩, by omega, rfl, rfl, ?_, ?_, ?_⟩
      all_goals (repeat' first | exact rfl | exact trivial | exact nd (wrap_succ hlt hs) | refine And.intro ?_ ?_)
  · refine bd ?_
    rw [hr, List.drop_of_length_le (ge_map h1)]; rfl
theorem s_l4Allows (ts : List GateTeam) (r : GateRule) (a : GateAct) : Spec P 68 [.d (lGateTeam ts), st r.e, st a.e] (.d (.bool (r.verbs.any (· == a.verb) && rstF ts r a))) := by
  refine Spec.of_vc vcT vcM [.tmp 6] Tryz.func68 rfl rfl rfl rfl (fun hok => ?_)
  repeat' first
    | refine And.intro rfl ?_
    | refine And.intro (fun h => nomatch (show true = false from h)) (fun h => ?_)
    | refine And.intro (fun h => nomatch (show false = true from h)) (fun h => ?_)
    | refine And.intro (fun h => ?_) (fun h => nomatch (show true = false from h))
    | refine And.intro (fun h => ?_) (fun h => nomatch (show false = true from h))
    | refine And.intro (fun h => ?_) (fun h => ?_)
    | refine Or.inl (Exists.intro _ (And.intro (s_l4Verb r a.verb) ?_))
    | refine Or.inl (Exists.intro _ (And.intro (s_GateUnder ts a.team r.team) ?_))
    | refine Or.inl (Exists.intro _ (And.intro (s_l4Begins a.name r.prefix_) ?_))
  all_goals (refine bd ?_; (try simp only [cond_false, cond_true] at *); simp only [rstF, *, Bool.true_and, Bool.and_true, Bool.false_and, Bool.and_false, Bool.true_or, Bool.or_true, Bool.false_or, Bool.or_false, Bool.not_true, Bool.not_false])
theorem i_reaches (r : GateRule) (ts : List GateTeam) (a : GateAct) : Spec P 133 [st r.e, .d (lGateTeam ts), st a.e] (.d (.bool (hasF (setF r.verbs 0) a.verb && rstF ts r a))) := by
  refine Spec.of_vc vcT vcM [.tmp 6] Tryz.func133 rfl rfl rfl rfl (fun hok => ?_)
  repeat refine And.intro rfl ?_
  refine And.intro (by kernel_rfl) ?_
  repeat refine And.intro rfl ?_
  repeat' first
    | refine And.intro rfl ?_
    | refine And.intro (fun h => nomatch (show true = false from h)) (fun h => ?_)
    | refine And.intro (fun h => nomatch (show false = true from h)) (fun h => ?_)
    | refine And.intro (fun h => ?_) (fun h => nomatch (show true = false from h))
    | refine And.intro (fun h => ?_) (fun h => nomatch (show false = true from h))
    | refine And.intro (fun h => ?_) (fun h => ?_)
    | refine Or.inl (Exists.intro _ (And.intro (i_setOf r.verbs) ?_))
    | refine Or.inl (Exists.intro _ (And.intro (i_has _ a.verb) ?_))
    | refine Or.inl (Exists.intro _ (And.intro (i_GateUnder ts a.team r.team) ?_))
    | refine Or.inl (Exists.intro _ (And.intro (i_hasPrefix a.name r.prefix_) ?_))
  all_goals (refine bd ?_; (try simp only [cond_false, cond_true] at *); simp only [rstF, *, Bool.true_and, Bool.and_true, Bool.false_and, Bool.and_false, Bool.true_or, Bool.or_true, Bool.false_or, Bool.or_false, Bool.not_true, Bool.not_false])
def allowsI (ts : List GateTeam) (r : GateRule) (a : GateAct) : Bool := teamsOk ts && (ruleOk r && (hasF (setF r.verbs 0) a.verb && rstF ts r a))
theorem i_GateAllows (ts : List GateTeam) (r : GateRule) (a : GateAct) : Spec P 81 [.d (lGateTeam ts), st r.e, st a.e] (.d (.bool (allowsI ts r a))) := by
  refine Spec.of_vc vcT vcM [.tmp 6] Tryz.func81 rfl rfl rfl rfl (fun hok => ?_)
  repeat' first
    | refine And.intro rfl ?_
    | refine And.intro (fun h => nomatch (show true = false from h)) (fun h => ?_)
    | refine And.intro (fun h => nomatch (show false = true from h)) (fun h => ?_)
    | refine And.intro (fun h => ?_) (fun h => nomatch (show true = false from h))
    | refine And.intro (fun h => ?_) (fun h => nomatch (show false = true from h))
    | refine And.intro (fun h => ?_) (fun h => ?_)
    | refine Or.inl (Exists.intro _ (And.intro (i_GateTeamsOk ts) ?_))
    | refine Or.inl (Exists.intro _ (And.intro (i_ruleOk r) ?_))
    | refine Or.inl (Exists.intro _ (And.intro (i_reaches r ts a) ?_))
  all_goals (refine bd ?_; simp only [cond_false, cond_true, Bool.not_eq_true', Bool.not_eq_false', reduceCtorEq] at *; simp only [allowsI, *, Bool.true_and, Bool.and_true, Bool.false_and, Bool.and_false, Bool.true_or, Bool.or_true, Bool.false_or, Bool.or_false, Bool.not_true, Bool.not_false])
def rl (who : Bs) (gs : List GateGrant) : List GateRule := (gs.filter (·.to_ == who)).map (·.rule)
theorem rl_step {who : Bs} {gs : List GateGrant} {i : Nat} (h : i < gs.length) : rl who (gs.drop i) = bif gs[i].to_ == who then gs[i].rule :: rl who (gs.drop (i + 1)) else rl who (gs.drop (i + 1)) := by
  rw [List.drop_eq_getElem_cons h]
  unfold rl
  rw [List.filter_cons]
  cases gs[i].to_ == who <;> rfl
theorem rl_end {who : Bs} {gs : List GateGrant} {i : Nat} (h : gs.length ≤ i) : rl who (gs.drop i) = [] := by
  rw [List.drop_of_length_le h]; rfl
theorem s_l8Rules (b : GateBook) (who : Bs) : Spec P 67 [st b.e, .d (.str who)] (.d (lGateRule (rl who b.grants))) := by
  refine Spec.of_vc vcT vcM [.tmp 4] Tryz.func67 rfl rfl rfl rfl (fun hok => ?_)
  have hs := (ok_book ⟨hok.1, trivial⟩).2.1
  repeat refine And.intro rfl ?_
  refine ⟨fun m l h => ∃ (i : Nat) (rs : List GateRule), m = b.grants.length - i ∧ i ≤ b.grants.length ∧ (rl who b.grants = rs ++ rl who (b.grants.drop i) ∧ rs.length ≤ i) ∧ l = [(1, .d (.str who)), (2, .ptr 0 0), (5, .own 1), (6, .d (.int .i64 i))] ∧ h = ⟨[(1, .row 103 4 (rs.map GateRule.e)), (0, .cells 50 (b.e.map .d))], 2, 0⟩,
    ⟨_, _, _, ⟨0, _, rfl, Nat.zero_le _, (show rl who b.grants = ([] : List GateRule) ++ rl who (b.grants.drop 0) ∧ ([] : List GateRule).length ≤ 0 from ⟨rfl, Nat.le_refl 0⟩), rfl, rfl⟩, rfl, rfl, ⟨rfl, rfl, rfl, rfl, trivial⟩, (by repeat' first|exact rfl|exact trivial|refine And.intro ?_ ?_), (by repeat' first|exact rfl|exact trivial|refine And.intro ?_ ?_)⟩, ?_⟩
  rintro m l hh ⟨i, rs, rfl, hi, hr, rfl, rfl⟩
  obtain ⟨hr, hl⟩ := hr
  repeat refine And.intro rfl ?_
  refine And.intro (fun h1 => ?_) (fun h1 => ?_)
  · have hlt : i < b.grants.length := lt_map h1
    rw [rl_step hlt] at hr
    repeat refine And.intro rfl ?_
    refine ix_at (e := GateGrant.e) (xs := b.grants) (hlt) rfl ?_
    repeat refine And.intro rfl ?_
    repeat refine And.intro rfl ?_
    refine And.intro (fun h2 => ?_) (fun h2 => ?_)
    · rw [show (b.grants[i].to_ == who) = true from h2, cond_true] at hr
      repeat refine And.intro rfl ?_
      refine ix_at (e := GateGrant.e) (xs := b.grants) (hlt) rfl ?_
      repeat refine And.intro rfl ?_
      repeat refine And.intro rfl ?_
      refine And.intro (fun r hr => by rw [List.mem_singleton.1 hr]; rfl) ?_
      repeat refine And.intro rfl ?_
      refine And.intro (by simp only [List.length_append, List.length_nil, List.length_cons, List.length_map] at *; unfold big at *; omega) ?_
      repeat refine And.intro rfl ?_
      refine ⟨_, _, _, ⟨i + 1, rs ++ [b.grants[i].rule], rfl, hlt, ⟨by rw [hr, List.append_assoc]; rfl, by rw [List.length_append]; simp only [List.length_cons, List.length_nil]; omega⟩, rfl, rfl⟩, by omega, rfl, rfl, ?_, ?_, ?_⟩
      all_goals (repeat' first | exact rfl | exact trivial | exact nd (wrap_succ hlt hs) | (rw [List.map_append]; exact rfl) | refine And.intro ?_ ?_)
    · rw [show (b.grants[i].to_ == who) = false from h2, cond_false] at hr
      repeat refine And.intro rfl ?_
      refine ⟨_, _, _, ⟨i + 1, rs, rfl, hlt, ⟨hr, by omega⟩, rfl, rfl⟩, by omega, rfl, rfl, ?_, ?_, ?_⟩
      all_goals (repeat' first | exact rfl | exact trivial | exact nd (wrap_succ hlt hs) | refine And.intro ?_ ?_)
  · rw [hr, rl_end (ge_map h1), List.append_nil]
    repeat refine And.intro rfl ?_
    exact rfl
theorem i_rulesTo (b : GateBook) (who : Bs) : Spec P 80 [st b.e, .d (.str who)] (.d (lGateRule (rl who b.grants))) := by
  refine Spec.of_vc vcT vcM [.tmp 4] Tryz.func80 rfl rfl rfl rfl (fun hok => ?_)
  have hs := (ok_book ⟨hok.1, trivial⟩).2.1
  repeat refine And.intro rfl ?_
  refine ⟨fun m l h => ∃ (i : Nat) (rs : List GateRule), m = b.grants.length - i ∧ i ≤ b.grants.length ∧ (rl who b.grants = rs ++ rl who (b.grants.drop i) ∧ rs.length ≤ i) ∧
      ((rs = [] ∧ l = [(1, .d (.str who)), (5, .nils), (9, .d (lGateGrant b.grants)), (10, .d (.int .i64 (b.grants.map GateGrant.e).length)), (11, .d (.int .i64 i))] ∧ h = ⟨[(0, .cells 50 (b.e.map .d))], 1, 0⟩) ∨
       (l = [(1, .d (.str who)), (5, .own 2), (9, .d (lGateGrant b.grants)), (10, .d (.int .i64 (b.grants.map GateGrant.e).length)), (11, .d (.int .i64 i))] ∧ h = ⟨[(2, .row 103 4 (rs.map GateRule.e)), (0, .cells 50 (b.e.map .d))], 3, 0⟩)),
    ⟨_, _, _, ⟨0, [], rfl, Nat.zero_le _, ⟨rfl, Nat.le_refl 0⟩, Or.inl ⟨rfl, rfl, rfl⟩⟩, rfl, rfl, ⟨rfl, rfl, rfl, rfl, rfl, trivial⟩, (by repeat' first|exact rfl|exact trivial|refine And.intro ?_ ?_), (by repeat' first|exact rfl|exact trivial|refine And.intro ?_ ?_)⟩, ?_⟩
  rintro m l hh ⟨i, rs, rfl, hi, ⟨hr, hl⟩, ⟨rfl, rfl, rfl⟩ | ⟨rfl, rfl⟩⟩
  · repeat refine And.intro rfl ?_
    refine And.intro (fun h1 => ?_) (fun h1 => ?_)
    · have hlt : i < b.grants.length := lt_map h1
      rw [rl_step hlt] at hr
      repeat refine And.intro rfl ?_
      refine ix_at (e := GateGrant.e) (xs := b.grants) (hlt) rfl ?_
      repeat refine And.intro rfl ?_
      repeat refine And.intro rfl ?_
      refine And.intro (fun h2 => ?_) (fun h2 => ?_)
      · rw [show (b.grants[i].to_ == who) = true from h2, cond_true] at hr
        repeat refine And.intro rfl ?_
        refine And.intro (fun r hr => by rw [List.mem_singleton.1 hr]; rfl) ?_
        repeat refine And.intro rfl ?_
        refine And.intro (by simp only [List.length_append, List.length_nil, List.length_cons, List.length_map] at *; unfold big at *; omega) ?_
        repeat refine And.intro rfl ?_
        refine ⟨_, _, _, ⟨i + 1, ([] : List GateRule) ++ [b.grants[i].rule], rfl, hlt, ⟨by rw [hr, List.append_assoc]; rfl, by rw [List.length_append]; simp only [List.length_cons, List.length_nil] at *; omega⟩, Or.inr ⟨rfl, rfl⟩⟩, by omega, rfl, rfl, ?_, ?_, ?_⟩
        all_goals (repeat' first | exact rfl | exact trivial | exact nd (wrap_succ hlt hs) | (rw [List.map_append]; exact rfl) | refine And.intro ?_ ?_)
      · rw [show (b.grants[i].to_ == who) = false from h2, cond_false] at hr
        repeat refine And.intro rfl ?_
        refine ⟨_, _, _, ⟨i + 1, ([] : List GateRule), rfl, hlt, ⟨hr, by omega⟩, Or.inl ⟨rfl, rfl, rfl⟩⟩, by omega, rfl, rfl, ?_, ?_, ?_⟩
        all_goals (repeat' first | exact rfl | exact trivial | exact nd (wrap_succ hlt hs) | refine And.intro ?_ ?_)
    · rw [hr, rl_end (ge_map h1), List.append_nil]
      repeat refine And.intro rfl ?_
      exact rfl
  · repeat refine And.intro rfl ?_
    refine And.intro (fun h1 => ?_) (fun h1 => ?_)
    · have hlt : i < b.grants.length := lt_map h1
      rw [rl_step hlt] at hr
      repeat refine And.intro rfl ?_
      refine ix_at (e := GateGrant.e) (xs := b.grants) (hlt) rfl ?_
      repeat refine And.intro rfl ?_
      repeat refine And.intro rfl ?_
      refine And.intro (fun h2 => ?_) (fun h2 => ?_)
      · rw [show (b.grants[i].to_ == who) = true from h2, cond_true] at hr
        repeat refine And.intro rfl ?_
        refine And.intro (fun r hr => by rw [List.mem_singleton.1 hr]; rfl) ?_
        repeat refine And.intro rfl ?_
        refine And.intro (by simp only [List.length_append, List.length_nil, List.length_cons, List.length_map] at *; unfold big at *; omega) ?_
        repeat refine And.intro rfl ?_
        refine ⟨_, _, _, ⟨i + 1, rs ++ [b.grants[i].rule], rfl, hlt, ⟨by rw [hr, List.append_assoc]; rfl, by rw [List.length_append]; simp only [List.length_cons, List.length_nil] at *; omega⟩, Or.inr ⟨rfl, rfl⟩⟩, by omega, rfl, rfl, ?_, ?_, ?_⟩
        all_goals (repeat' first | exact rfl | exact trivial | exact nd (wrap_succ hlt hs) | (rw [List.map_append]; exact rfl) | refine And.intro ?_ ?_)
      · rw [show (b.grants[i].to_ == who) = false from h2, cond_false] at hr
        repeat refine And.intro rfl ?_
        refine ⟨_, _, _, ⟨i + 1, rs, rfl, hlt, ⟨hr, by omega⟩, Or.inr ⟨rfl, rfl⟩⟩, by omega, rfl, rfl, ?_, ?_, ?_⟩
        all_goals (repeat' first | exact rfl | exact trivial | exact nd (wrap_succ hlt hs) | refine And.intro ?_ ?_)
    · rw [hr, rl_end (ge_map h1), List.append_nil]
      repeat refine And.intro rfl ?_
      exact rfl
end Go.Vc
end

section
namespace Go.Vc
open Go.Proofs
set_option maxRecDepth 100000
set_option pp.maxSteps 400
set_option pp.deepTerms false
set_option linter.unusedSimpArgs false
set_option linter.unusedVariables false
theorem rl_len (who : Bs) (gs : List GateGrant) : (rl who gs).length ≤ gs.length := by
  unfold rl; rw [List.length_map]; exact List.length_filter_le _ _
theorem s_l8May (L : GateLaw) (b : GateBook) (who : Bs) (a : GateAct) : Spec P 31 [st L.e, st b.e, .d (.str who), st a.e] (.d (.bool ((rl who b.grants).any (fun r => r.verbs.any (· == a.verb) && rstF L.teams r a)))) := by
  refine Spec.of_vc vcT vcM [.tmp 8] Tryz.func31 rfl rfl rfl rfl (fun hok => ?_)
  have hs' := (ok_book ⟨hok.2.1, trivial⟩).2.1
  have hs : (rl who b.grants).length ≤ big := Nat.le_trans (rl_len _ _) hs'
  repeat refine And.intro rfl ?_
  refine Or.inl (Exists.intro _ (And.intro (s_l8Rules _ _) ?_))
  generalize rl who b.grants = rs at *
  repeat refine And.intro rfl ?_
  refine ⟨fun m l h => ∃ (i : Nat) , m = rs.length - i ∧ i ≤ rs.length ∧ (rs.any (fun r => r.verbs.any (fun x => x == a.verb) && rstF L.teams r a) = (rs.drop i).any (fun r => r.verbs.any (fun x => x == a.verb) && rstF L.teams r a)) ∧ l = [(4, .ptr 0 0), (7, .ptr 2 0), (9, .d (lGateRule rs)), (10, .d (.int .i64 i))] ∧ h = ⟨[(2, .cells 52 (a.e.map .d)), (1, .cells 50 (b.e.map .d)), (0, .cells 43 (L.e.map .d))], 3, 0⟩,
    ⟨_, _, _, ⟨0, rfl, Nat.zero_le _, rfl, rfl, rfl⟩, rfl, rfl, ⟨rfl, rfl, rfl, rfl, trivial⟩, (by repeat' first|exact rfl|exact trivial|refine And.intro ?_ ?_), (by repeat' first|exact rfl|exact trivial|refine And.intro ?_ ?_)⟩, ?_⟩
  rintro m l hh ⟨i, rfl, hi, hr, rfl, rfl⟩
  repeat refine And.intro rfl ?_
  refine And.intro (fun h1 => ?_) (fun h1 => ?_)
  · have hlt : i < rs.length := lt_map h1
    rw [any_step hlt] at hr
    repeat refine And.intro rfl ?_
    refine And.intro (by kernel_rfl) ?_
    repeat refine And.intro rfl ?_
    repeat refine And.intro rfl ?_
    refine ix_at (e := GateRule.e) (xs := rs) (hlt) rfl ?_
    repeat refine And.intro rfl ?_
    repeat refine And.intro rfl ?_
    refine Or.inl (Exists.intro _ (And.intro (s_l4Allows _ _ _) ?_))
    repeat refine And.intro rfl ?_
    refine And.intro (fun h2 => ?_) (fun h2 => ?_)
    · refine bd ?_
      rw [hr, h2]; rfl
    · rw [h2, Bool.false_or] at hr
      repeat refine And.intro rfl ?_
      refine ⟨_, _, _, ⟨i + 1, rfl, hlt, hr, rfl, rfl⟩, by omega, rfl, rfl, ?_, ?_, ?_⟩
      all_goals (repeat' first | exact rfl | exact trivial | exact nd (wrap_succ hlt hs) | refine And.intro ?_ ?_)
  · refine bd ?_
    rw [hr, any_end (ge_map h1)]
theorem i_may (L : GateLaw) (b : GateBook) (who : Bs) (a : GateAct) : Spec P 40 [st L.e, st b.e, .d (.str who), st a.e] (.d (.bool ((rl who b.grants).any (fun r => allowsI L.teams r a)))) := by
  refine Spec.of_vc vcT vcM [.tmp 8] Tryz.func40 rfl rfl rfl rfl (fun hok => ?_)
  have hs' := (ok_book ⟨hok.2.1, trivial⟩).2.1
  have hs : (rl who b.grants).length ≤ big := Nat.le_trans (rl_len _ _) hs'
  repeat refine And.intro rfl ?_
  refine Or.inl (Exists.intro _ (And.intro (i_rulesTo _ _) ?_))
  generalize rl who b.grants = rs at *
  repeat refine And.intro rfl ?_
  refine ⟨fun m l h => ∃ (i : Nat) , m = rs.length - i ∧ i ≤ rs.length ∧ (rs.any (fun r => allowsI L.teams r a) = (rs.drop i).any (fun r => allowsI L.teams r a)) ∧ l = [(4, .ptr 0 0), (7, .ptr 2 0), (13, .d (lGateRule rs)), (14, .d (.int .i64 (rs.map GateRule.e).length)), (15, .d (.int .i64 i))] ∧ h = ⟨[(2, .cells 52 (a.e.map .d)), (1, .cells 50 (b.e.map .d)), (0, .cells 43 (L.e.map .d))], 3, 0⟩,
    ⟨_, _, _, ⟨0, rfl, Nat.zero_le _, rfl, rfl, rfl⟩, rfl, rfl, ⟨rfl, rfl, rfl, rfl, rfl, trivial⟩, (by repeat' first|exact rfl|exact trivial|refine And.intro ?_ ?_), (by repeat' first|exact rfl|exact trivial|refine And.intro ?_ ?_)⟩, ?_⟩
  rintro m l hh ⟨i, rfl, hi, hr, rfl, rfl⟩
  repeat refine And.intro rfl ?_
  refine And.intro (fun h1 => ?_) (fun h1 => ?_)
  · have hlt : i < rs.length := lt_map h1
    rw [any_step hlt] at hr
    skip
    repeat refine And.intro rfl ?_
    refine ix_at (e := GateRule.e) (xs := rs) (hlt) rfl ?_
    repeat refine And.intro rfl ?_
    repeat refine And.intro rfl ?_
    refine Or.inl (Exists.intro _ (And.intro (i_GateAllows _ _ _) ?_))
    repeat refine And.intro rfl ?_
    refine And.intro (fun h2 => ?_) (fun h2 => ?_)
    · refine bd ?_
      rw [hr, h2]; rfl
    · rw [h2, Bool.false_or] at hr
      repeat refine And.intro rfl ?_
      refine ⟨_, _, _, ⟨i + 1, rfl, hlt, hr, rfl, rfl⟩, by omega, rfl, rfl, ?_, ?_, ?_⟩
      all_goals (repeat' first | exact rfl | exact trivial | exact nd (wrap_succ hlt hs) | refine And.intro ?_ ?_)
  · refine bd ?_
    rw [hr, any_end (ge_map h1)]
def mayOk (L : GateLaw) (b : GateBook) (who : Bs) (a : GateAct) : Bool := bookOk L b && (rl who b.grants).any (fun r => allowsI L.teams r a)
theorem chain_in {α : Type} {f : Option α → α → Bool} : ∀ {xs : List α} {p : Option α}, chainK f p xs = true → ∀ x ∈ xs, ∃ q, f q x = true
  | [], _, _, x, hx => by cases hx
  | y :: ys, p, h, x, hx => by
    rw [chainK, Bool.and_eq_true] at h
    rcases List.mem_cons.1 hx with rfl | hx
    · exact ⟨_, h.1⟩
    · exact chain_in h.2 x hx
theorem book_law {L : GateLaw} {b : GateBook} (h : bookOk L b = true) : lawOk L = true := by
  unfold bookOk at h; rw [Bool.and_eq_true] at h; exact h.1
theorem book_teams {L : GateLaw} {b : GateBook} (h : bookOk L b = true) : teamsOk L.teams = true := by
  have := book_law h
  unfold lawOk at this; rw [Bool.and_eq_true] at this; exact this.2
theorem book_rule {L : GateLaw} {b : GateBook} (h : bookOk L b = true) : ∀ g ∈ b.grants, ruleOk g.rule = true := by
  simp only [bookOk, grantsF, Bool.and_eq_true] at h
  intro g hg
  obtain ⟨q, hq⟩ := chain_in h.2.2.2.2.2.1.2 g hg
  simp only [grantF, Bool.and_eq_true] at hq
  exact hq.2.2.2.2
theorem vrb_in : ∀ {xs : List Int} {p : Option Int}, vrb p xs = true → ∀ x ∈ xs, 1 ≤ x ∧ x ≤ 5
  | [], _, _, x, hx => by cases hx
  | y :: ys, p, h, x, hx => by
    rw [vrb, Bool.and_eq_true, Bool.and_eq_true] at h
    rcases List.mem_cons.1 hx with rfl | hx
    · have := h.1.1
      simp only [inR, Bool.and_eq_true, decide_eq_true_eq] at this
      omega
    · exact vrb_in h.2 x hx
theorem rule_verbs {r : GateRule} (h : ruleOk r = true) : ∀ x ∈ r.verbs, 1 ≤ x ∧ x ≤ 5 := by
  simp only [ruleOk, Bool.and_eq_true] at h
  exact vrb_in h.2.2.2.2.2
theorem rule_has {r : GateRule} (h : ruleOk r = true) (v : Int) : hasF (setF r.verbs 0) v = r.verbs.any (· == v) := by
  rw [has_set]
  cases e : r.verbs.any (· == v) with
  | false => rw [Bool.and_false]
  | true =>
    obtain ⟨x, hx, hv⟩ := List.any_eq_true.1 e
    obtain rfl := beq_iff_eq.1 hv
    have := rule_verbs h x hx
    rw [decide_eq_true (show x ≥ 0 by omega), decide_eq_true (show x < 16 by omega)]; rfl
theorem any_congr' {α : Type} {p q : α → Bool} : ∀ {xs : List α}, (∀ x ∈ xs, p x = q x) → xs.any p = xs.any q
  | [], _ => rfl
  | x :: xs, h => by rw [List.any_cons, List.any_cons, h x (List.mem_cons_self ..), any_congr' (fun y hy => h y (List.mem_cons_of_mem _ hy))]
theorem rl_ok {L : GateLaw} {b : GateBook} (h : bookOk L b = true) {who : Bs} : ∀ r ∈ rl who b.grants, ruleOk r = true := by
  intro r hr
  obtain ⟨g, hg, rfl⟩ := List.mem_map.1 hr
  exact book_rule h g (List.mem_filter.1 hg).1
theorem may_eq (L : GateLaw) (b : GateBook) (who : Bs) (a : GateAct) : mayOk L b who a = (bookOk L b && (rl who b.grants).any (fun r => r.verbs.any (· == a.verb) && rstF L.teams r a)) := by
  unfold mayOk
  cases h : bookOk L b with
  | false => rfl
  | true =>
    rw [Bool.true_and, Bool.true_and]
    refine any_congr' fun r hr => ?_
    rw [allowsI, book_teams h, rl_ok h r hr, rule_has (rl_ok h r hr), Bool.true_and, Bool.true_and]
theorem i_GateMay (L : GateLaw) (b : GateBook) (who : Bs) (a : GateAct) : Spec P 13 [st L.e, st b.e, .d (.str who), st a.e] (.d (.bool (mayOk L b who a))) := by
  refine Spec.of_vc vcT vcM [.tmp 8] Tryz.func13 rfl rfl rfl rfl (fun hok => ?_)
  repeat refine And.intro rfl ?_
  refine Or.inl (Exists.intro _ (And.intro (i_GateBookOk _ _) ?_))
  repeat' first
    | refine And.intro rfl ?_
    | refine And.intro (fun h => nomatch (show true = false from h)) (fun h => ?_)
    | refine And.intro (fun h => nomatch (show false = true from h)) (fun h => ?_)
    | refine And.intro (fun h => ?_) (fun h => nomatch (show true = false from h))
    | refine And.intro (fun h => ?_) (fun h => nomatch (show false = true from h))
    | refine And.intro (fun h => ?_) (fun h => ?_)
    | refine Or.inl (Exists.intro _ (And.intro (i_may L b who a) ?_))
  all_goals (refine bd ?_; simp only [mayOk, *, Bool.true_and, Bool.false_and])
theorem s_GateMay (L : GateLaw) (b : GateBook) (who : Bs) (a : GateAct) : Spec P 9 [st L.e, st b.e, .d (.str who), st a.e] (.d (.bool (mayOk L b who a))) := by
  refine Spec.of_vc vcT vcM [.tmp 8] Tryz.func9 rfl rfl rfl rfl (fun hok => ?_)
  repeat refine And.intro rfl ?_
  refine Or.inl (Exists.intro _ (And.intro (s_GateBookOk _ _) ?_))
  repeat' first
    | refine And.intro rfl ?_
    | refine And.intro (fun h => nomatch (show true = false from h)) (fun h => ?_)
    | refine And.intro (fun h => nomatch (show false = true from h)) (fun h => ?_)
    | refine And.intro (fun h => ?_) (fun h => nomatch (show true = false from h))
    | refine And.intro (fun h => ?_) (fun h => nomatch (show false = true from h))
    | refine And.intro (fun h => ?_) (fun h => ?_)
    | refine Or.inl (Exists.intro _ (And.intro (s_l8May L b who a) ?_))
  all_goals (refine bd ?_; simp only [may_eq, *, Bool.true_and, Bool.false_and])
end Go.Vc
end

section
namespace Go.Vc
open Go.Proofs
set_option maxRecDepth 100000
set_option pp.maxSteps 400
set_option pp.deepTerms false
set_option linter.unusedSimpArgs false
set_option linter.unusedVariables false
def noRule : GateRule := ⟨[], [], [], []⟩
def restF (a : GateAsk) : GateAsk :=
  bif a.verb == 1 then { a with who := [], kind := [], name := [], team := [], values := [], holds := [] } else
  bif a.verb == 2 then { a with who := [], kind := [], name := [], values := [], seen := 0 } else
  bif a.verb == 3 then { a with who := [], kind := [], name := [], seen := 0 } else
  bif a.verb == 4 then { a with who := [], kind := [], name := [], hold := [] } else
  bif a.verb == 5 then { a with who := [], to_ := [], rule := noRule } else
  bif a.verb == 6 then { a with who := [], number := 0 } else { a with who := [] }
def nothingF (a : GateAsk) : Bool :=
  ((((((((((((a.kind == [] && a.name == []) && a.team == []) && ((a.values.length : Int) == 0)) && ((a.holds.length : Int) == 0)) && a.seen == 0) && a.hold == []) && a.to_ == []) && ((a.rule.verbs.length : Int) == 0)) && a.rule.kind == []) && a.rule.team == []) && a.rule.prefix_ == []) && a.number == 0)
def kidx (l : GateLaw) (a : GateAsk) : Int := idx (·.kind == a.kind) l.shapes
def kindF (l : GateLaw) (a : GateAsk) : Bool := decide (kidx l a ≥ 0) && nameOk a.name
def valsF (l : GateLaw) (a : GateAsk) : Bool := match l.shapes[(kidx l a).toNat]? with
  | some s => ((a.values.length : Int) == (s.fields.length : Int))
  | none => false
def askF (l : GateLaw) (a : GateAsk) : Bool :=
  bif a.verb == 1 then (kindF l a && (l.teams.any (·.name == a.team) && (valsF l a && (decide ((a.holds.length : Int) ≤ 3) && asc a.holds)))) else
  bif a.verb == 2 then (kindF l a && (valsF l a && decide (a.seen ≥ 0))) else
  bif a.verb == 3 then (kindF l a && decide (a.seen ≥ 0)) else
  bif a.verb == 4 then (kindF l a && nameOk a.hold) else
  bif a.verb == 5 then (nameOk a.to_ && ruleOk a.rule) else decide (a.number ≥ 1)
def askOkF (l : GateLaw) (a : GateAsk) : Bool := nameOk a.who && (inR a.verb 1 6 && (nothingF (restF a) && askF l a))
def wantF (w : GateWant) : Bool := nameOk w.kind && (nameOk w.name && !decide (w.version < 0))
def slipF (l : GateLaw) (s : GateSlip) : Bool := nameOk s.door && (askOkF l s.ask && (!decide (s.given < 0) && (!decide ((s.wants.length : Int) > 8) && s.wants.all wantF)))
theorem s_l8Nothing (a : GateAsk) : Spec P 180 [st a.e] (.d (.bool (nothingF a))) := by
  refine Spec.of_vc vcT vcM [.tmp 2] Tryz.func180 rfl rfl rfl rfl (fun hok => ?_)
  repeat' first
    | refine And.intro rfl ?_
    | refine And.intro (fun h => ?_) (fun h => ?_)
  all_goals (refine bd ?_; (try simp only [List.length_map, cond_true, cond_false] at *); simp only [nothingF, *, Bool.false_or, Bool.true_or, Bool.or_false, Bool.or_true, Bool.and_true, Bool.true_and, Bool.and_false, Bool.false_and, Bool.not_true, Bool.not_false, Bool.not_not, cond_true, cond_false])
theorem s_l8Rest (a : GateAsk) : Spec P 181 [st a.e] (st (restF a).e) := by
  refine Spec.of_vc vcT vcM [.cell 2 168] Tryz.func181 rfl rfl rfl rfl (fun hok => ?_)
  repeat' first
    | refine And.intro rfl ?_
    | refine And.intro (fun h => ?_) (fun h => ?_)
  all_goals (have e : restF a = restF a := rfl; conv at e => lhs; unfold restF; simp only [*, cond_true, cond_false])
  all_goals (rw [← e]; rfl)
theorem getK {xs : List GateShape} {n : Int} {j : Nat} (hj : j < xs.length) (e : n = (j : Int)) : xs[n.toNat]? = some xs[j] := by
  rw [e, Int.toNat_natCast, List.getElem?_eq_getElem hj]
theorem valsF_at {l : GateLaw} {a : GateAsk} {j : Nat} (hj : j < l.shapes.length) (e : kidx l a = (j : Int)) : valsF l a = ((a.values.length : Int) == (l.shapes[j].fields.length : Int)) := by
  unfold valsF
  rw [getK hj e]
theorem askOk_who {l : GateLaw} {a : GateAsk} (h : nameOk a.who = false) : askOkF l a = false := by unfold askOkF; rw [h]; rfl
theorem askOk_verb {l : GateLaw} {a : GateAsk} (h : inR a.verb 1 6 = false) : askOkF l a = false := by unfold askOkF; rw [h]; simp
theorem askOk_rest {l : GateLaw} {a : GateAsk} (h : nothingF (restF a) = false) : askOkF l a = false := by unfold askOkF; rw [h]; simp
theorem askOk_form {l : GateLaw} {a : GateAsk} (h1 : nameOk a.who = true) (h2 : inR a.verb 1 6 = true) (h3 : nothingF (restF a) = true) : askOkF l a = askF l a := by unfold askOkF; rw [h1, h2, h3]; rfl
theorem ne_verb {v k : Int} (hk : k ≤ 4) (h : decide (v ≤ 4) = false) : (v == k) = false := by
  have := of_decide_eq_false h
  rw [← Bool.not_eq_true, beq_iff_eq]; omega
theorem no_verb {v : Int} (h : inR v 1 6 = true) (h4 : decide (v ≤ 4) = true) (v1 : (v == 1) = false) (v2 : (v == 2) = false) (v3 : (v == 3) = false) (v4 : (v == 4) = false) : False := by
  have := of_decide_eq_true h4
  simp only [inR, Bool.and_eq_true, decide_eq_true_eq] at h
  rw [← Bool.not_eq_true, beq_iff_eq] at v1 v2 v3 v4
  omega
theorem askF_kind {l : GateLaw} {a : GateAsk} (h : inR a.verb 1 6 = true) (h4 : decide (a.verb ≤ 4) = true) (hk : kindF l a = false) : askF l a = false := by
  unfold askF
  rw [hk]
  cases v1 : a.verb == 1 with
  | true => rfl
  | false => cases v2 : a.verb == 2 with
    | true => rfl
    | false => cases v3 : a.verb == 3 with
      | true => rfl
      | false => cases v4 : a.verb == 4 with
        | true => rfl
        | false => exact (no_verb h h4 v1 v2 v3 v4).elim
set_option maxHeartbeats 4000000 in
theorem s_l8AskOk (l : GateLaw) (a : GateAsk) : Spec P 139 [st l.e, st a.e] (.d (.bool (askOkF l a))) := by
  refine Spec.of_vc vcT vcM [.tmp 4] Tryz.func139 rfl rfl rfl rfl (fun hok => ?_)
  repeat refine And.intro rfl ?_
  refine Or.inl (Exists.intro _ (And.intro (s_l1NameOk _) ?_))
  repeat refine And.intro rfl ?_
  refine And.intro (fun h1 => ?_) (fun h1 => ?_)
  · simp only [Bool.not_eq_true', Bool.not_eq_false'] at h1
    repeat refine And.intro rfl ?_
    refine Or.inl (Exists.intro _ (And.intro (s_l1In _ _ _) ?_))
    repeat refine And.intro rfl ?_
    refine And.intro (fun h2 => ?_) (fun h2 => ?_)
    · simp only [Bool.not_eq_true', Bool.not_eq_false'] at h2
      repeat refine And.intro rfl ?_
      refine Or.inl (Exists.intro _ (And.intro (s_l8Rest a) ?_))
      repeat refine And.intro rfl ?_
      refine Or.inl (Exists.intro _ (And.intro (s_l8Nothing (restF a)) ?_))
      repeat refine And.intro rfl ?_
      refine And.intro (fun h3 => ?_) (fun h3 => ?_)
      · simp only [Bool.not_eq_true', Bool.not_eq_false'] at h3
        refine bd ?_
        rw [askOk_rest h3]
      · simp only [Bool.not_eq_true', Bool.not_eq_false'] at h3
        rw [askOk_form h1 h2 h3]
        repeat refine And.intro rfl ?_
        refine Or.inl (Exists.intro _ (And.intro (s_l1Shape _ _) ?_))
        repeat refine And.intro rfl ?_
        refine And.intro (fun h4 => ?_) (fun h4 => ?_)
        · repeat refine And.intro rfl ?_
          refine And.intro (fun h5 => ?_) (fun h5 => ?_)
          · obtain ⟨j, hj, ej, _⟩ := idx_pos (p := fun s : GateShape => s.kind == a.kind) (xs := l.shapes) (decide_eq_true (by have := of_decide_eq_false h5; omega))
            repeat refine And.intro rfl ?_
            refine Or.inl (Exists.intro _ (And.intro (s_l1NameOk _) ?_))
            repeat refine And.intro rfl ?_
            refine And.intro (fun h6 => ?_) (fun h6 => ?_)
            · change (!nameOk a.name) = true at h6
              simp only [Bool.not_eq_true', Bool.not_eq_false'] at h6
              refine bd ?_
              rw [askF_kind h2 h4 (by unfold kindF; rw [h6, Bool.and_false])]
            · change (!nameOk a.name) = false at h6
              simp only [Bool.not_eq_true', Bool.not_eq_false'] at h6
              have hk : kindF l a = true := by
                unfold kindF kidx
                rw [h6, ej]; simp
              repeat refine And.intro rfl ?_
              refine And.intro (fun v1 => ?_) (fun v1 => ?_)
              · repeat refine And.intro rfl ?_
                refine And.intro (by kernel_rfl) ?_
                repeat refine And.intro rfl ?_
                repeat refine And.intro rfl ?_
                refine ix_atw (e := GateShape.e) (xs := l.shapes) (hj) (ej) rfl ?_
                repeat refine And.intro rfl ?_
                repeat' first
                  | refine And.intro rfl ?_
                  | refine And.intro (fun h => ?_) (fun h => ?_)
                  | refine Or.inl (Exists.intro _ (And.intro (s_l4Team _ _) ?_))
                  | refine Or.inl (Exists.intro _ (And.intro (s_l1Ascending _) ?_))
                all_goals (refine bd ?_; first | (simp only [List.length_map, cond_true, cond_false, reduceCtorEq] at *; done) | ((try simp only [List.length_map, cond_true, cond_false] at *); simp only [askF, v1, hk, valsF_at hj ej, *, Bool.false_or, Bool.true_or, Bool.or_false, Bool.or_true, Bool.and_true, Bool.true_and, Bool.and_false, Bool.false_and, Bool.not_true, Bool.not_false, Bool.not_not, cond_true, cond_false]))
              · repeat refine And.intro rfl ?_
                refine And.intro (fun v2 => ?_) (fun v2 => ?_)
                · repeat refine And.intro rfl ?_
                  refine And.intro (by kernel_rfl) ?_
                  repeat refine And.intro rfl ?_
                  repeat refine And.intro rfl ?_
                  refine ix_atw (e := GateShape.e) (xs := l.shapes) (hj) (ej) rfl ?_
                  repeat refine And.intro rfl ?_
                  repeat' first
                    | refine And.intro rfl ?_
                    | refine And.intro (fun h => ?_) (fun h => ?_)
                  all_goals (refine bd ?_; first | (simp only [List.length_map, cond_true, cond_false, reduceCtorEq] at *; done) | ((try simp only [List.length_map, cond_true, cond_false] at *); simp only [askF, v1, v2, hk, valsF_at hj ej, *, Bool.false_or, Bool.true_or, Bool.or_false, Bool.or_true, Bool.and_true, Bool.true_and, Bool.and_false, Bool.false_and, Bool.not_true, Bool.not_false, Bool.not_not, cond_true, cond_false]))
                · repeat refine And.intro rfl ?_
                  refine And.intro (fun v3 => ?_) (fun v3 => ?_)
                  · repeat' first
                      | refine And.intro rfl ?_
                      | refine And.intro (fun h => ?_) (fun h => ?_)
                    all_goals (refine bd ?_; first | (simp only [List.length_map, cond_true, cond_false, reduceCtorEq] at *; done) | ((try simp only [List.length_map, cond_true, cond_false] at *); simp only [askF, v1, v2, v3, hk, *, Bool.false_or, Bool.true_or, Bool.or_false, Bool.or_true, Bool.and_true, Bool.true_and, Bool.and_false, Bool.false_and, Bool.not_true, Bool.not_false, Bool.not_not, cond_true, cond_false]))
                  · repeat refine And.intro rfl ?_
                    refine And.intro (fun v4 => ?_) (fun v4 => ?_)
                    · repeat' first
                        | refine And.intro rfl ?_
                        | refine And.intro (fun h => ?_) (fun h => ?_)
                        | refine Or.inl (Exists.intro _ (And.intro (s_l1NameOk _) ?_))
                      all_goals (refine bd ?_; first | (simp only [List.length_map, cond_true, cond_false, reduceCtorEq] at *; done) | ((try simp only [List.length_map, cond_true, cond_false] at *); simp only [askF, v1, v2, v3, v4, hk, *, Bool.false_or, Bool.true_or, Bool.or_false, Bool.or_true, Bool.and_true, Bool.true_and, Bool.and_false, Bool.false_and, Bool.not_true, Bool.not_false, Bool.not_not, cond_true, cond_false]))
                    · exact (no_verb h2 h4 v1 v2 v3 v4).elim
          · refine bd ?_
            rw [askF_kind h2 h4 (by unfold kindF kidx; rw [show decide (idx (fun s : GateShape => s.kind == a.kind) l.shapes ≥ 0) = false from decide_eq_false (by have := of_decide_eq_true h5; omega)]; rfl)]
        · have g1 : (a.verb == 1) = false := ne_verb (k := 1) (by omega) h4
          have g2 : (a.verb == 2) = false := ne_verb (k := 2) (by omega) h4
          have g3 : (a.verb == 3) = false := ne_verb (k := 3) (by omega) h4
          have g4 : (a.verb == 4) = false := ne_verb (k := 4) (by omega) h4
          repeat refine And.intro rfl ?_
          refine And.intro (fun v1 => ?_) (fun v1 => ?_)
          · exact absurd v1 (by rw [g1]; simp)
          · repeat refine And.intro rfl ?_
            refine And.intro (fun v2 => ?_) (fun v2 => ?_)
            · exact absurd v2 (by rw [g2]; simp)
            · repeat refine And.intro rfl ?_
              refine And.intro (fun v3 => ?_) (fun v3 => ?_)
              · exact absurd v3 (by rw [g3]; simp)
              · repeat refine And.intro rfl ?_
                refine And.intro (fun v4 => ?_) (fun v4 => ?_)
                · exact absurd v4 (by rw [g4]; simp)
                · repeat refine And.intro rfl ?_
                  refine And.intro (fun v5 => ?_) (fun v5 => ?_)
                  · repeat' first
                      | refine And.intro rfl ?_
                      | refine And.intro (fun h => ?_) (fun h => ?_)
                      | refine Or.inl (Exists.intro _ (And.intro (s_l1NameOk _) ?_))
                      | refine Or.inl (Exists.intro _ (And.intro (s_l4RuleOk a.rule) ?_))
                    all_goals (refine bd ?_; first | (simp only [List.length_map, cond_true, cond_false, reduceCtorEq] at *; done) | ((try simp only [List.length_map, cond_true, cond_false] at *); simp only [askF, g1, g2, g3, g4, v5, *, Bool.false_or, Bool.true_or, Bool.or_false, Bool.or_true, Bool.and_true, Bool.true_and, Bool.and_false, Bool.false_and, Bool.not_true, Bool.not_false, Bool.not_not, cond_true, cond_false]))
                  · repeat' first
                      | refine And.intro rfl ?_
                      | refine And.intro (fun h => ?_) (fun h => ?_)
                    all_goals (refine bd ?_; first | (simp only [List.length_map, cond_true, cond_false, reduceCtorEq] at *; done) | ((try simp only [List.length_map, cond_true, cond_false] at *); simp only [askF, g1, g2, g3, g4, v5, *, Bool.false_or, Bool.true_or, Bool.or_false, Bool.or_true, Bool.and_true, Bool.true_and, Bool.and_false, Bool.false_and, Bool.not_true, Bool.not_false, Bool.not_not, cond_true, cond_false]))
    · simp only [Bool.not_eq_true', Bool.not_eq_false'] at h2
      refine bd ?_
      rw [askOk_verb h2]
  · simp only [Bool.not_eq_true', Bool.not_eq_false'] at h1
    refine bd ?_
    rw [askOk_who h1]
end Go.Vc
end

section
namespace Go.Vc
open Go.Proofs
set_option maxRecDepth 100000
set_option pp.maxSteps 400
set_option pp.deepTerms false
set_option linter.unusedSimpArgs false
set_option linter.unusedVariables false
theorem slipF_door {l : GateLaw} {s : GateSlip} (h : nameOk s.door = false) : slipF l s = false := by unfold slipF; rw [h]; rfl
theorem slipF_ask {l : GateLaw} {s : GateSlip} (h : askOkF l s.ask = false) : slipF l s = false := by unfold slipF; rw [h]; simp
theorem slipF_given {l : GateLaw} {s : GateSlip} (h : decide (s.given < 0) = true) : slipF l s = false := by unfold slipF; rw [h]; simp
theorem slipF_len {l : GateLaw} {s : GateSlip} (h : decide ((s.wants.length : Int) > 8) = true) : slipF l s = false := by unfold slipF; rw [h]; simp
theorem slipF_all {l : GateLaw} {s : GateSlip} (h1 : nameOk s.door = true) (h2 : askOkF l s.ask = true) (h3 : decide (s.given < 0) = false) (h4 : decide ((s.wants.length : Int) > 8) = false) : slipF l s = s.wants.all wantF := by unfold slipF; rw [h1, h2, h3, h4]; rfl
theorem s_l9SlipOk (l : GateLaw) (s : GateSlip) : Spec P 91 [st l.e, st s.e] (.d (.bool (slipF l s))) := by
  refine Spec.of_vc vcT vcM [.tmp 4] Tryz.func91 rfl rfl rfl rfl (fun hok => ?_)
  repeat refine And.intro rfl ?_
  refine Or.inl (Exists.intro _ (And.intro (s_l1NameOk _) ?_))
  repeat refine And.intro rfl ?_
  refine And.intro (fun h1 => ?_) (fun h1 => ?_)
  · simp only [Bool.not_eq_true', Bool.not_eq_false'] at h1
    repeat refine And.intro rfl ?_
    refine Or.inl (Exists.intro _ (And.intro (s_l8AskOk l s.ask) ?_))
    repeat refine And.intro rfl ?_
    refine And.intro (fun h2 => ?_) (fun h2 => ?_)
    · simp only [Bool.not_eq_true', Bool.not_eq_false'] at h2
      repeat refine And.intro rfl ?_
      refine And.intro (fun h3 => ?_) (fun h3 => ?_)
      · repeat refine And.intro rfl ?_
        refine And.intro (fun h4 => ?_) (fun h4 => ?_)
        · rw [List.length_map] at h4
          refine bd ?_
          rw [slipF_len h4]
        · rw [List.length_map] at h4
          have hs : s.wants.length ≤ big := by have := of_decide_eq_false h4; unfold big; omega
          rw [slipF_all h1 h2 h3 h4]
          repeat refine And.intro rfl ?_
          refine ⟨fun m l h => ∃ (i : Nat) , m = s.wants.length - i ∧ i ≤ s.wants.length ∧ (s.wants.all wantF = (s.wants.drop i).all wantF) ∧ l = [(3, .ptr 1 0), (5, .d (.int .i64 i))] ∧ h = ⟨[(1, .cells 171 (s.e.map .d))], 2, 0⟩,
            ⟨_, _, _, ⟨0, rfl, Nat.zero_le _, rfl, rfl, rfl⟩, rfl, rfl, ⟨rfl, rfl, trivial⟩, ⟨rfl, trivial⟩, ⟨rfl, trivial⟩⟩, ?_⟩
          rintro m l hh ⟨i, rfl, hi, hr, rfl, rfl⟩
          repeat refine And.intro rfl ?_
          refine And.intro (fun h5 => ?_) (fun h5 => ?_)
          · have hlt : i < s.wants.length := lt_map h5
            rw [all_step hlt] at hr
            repeat refine And.intro rfl ?_
            refine ix_at (e := GateWant.e) (xs := s.wants) (hlt) rfl ?_
            repeat refine And.intro rfl ?_
            repeat' first
              | refine And.intro rfl ?_
              | refine And.intro (fun h => ?_) (fun h => ?_)
              | refine Or.inl (Exists.intro _ (And.intro (s_l1NameOk _) ?_))
              | (refine ix_at (e := GateWant.e) (xs := s.wants) hlt rfl ?_)
            all_goals first
              | (refine bd ?_; (try simp only [Bool.not_eq_true', Bool.not_eq_false'] at *); rw [hr]; simp only [wantF, *, Bool.true_and, Bool.false_and, Bool.and_true, Bool.and_false, Bool.not_true, Bool.not_false]; done)
              | exact ⟨_, _, _, ⟨i + 1, rfl, hlt, (by (try simp only [Bool.not_eq_true', Bool.not_eq_false'] at *); rw [hr]; simp only [wantF, *, Bool.true_and, Bool.false_and, Bool.and_true, Bool.and_false, Bool.not_true, Bool.not_false]), rfl, rfl⟩, by omega, rfl, rfl, ⟨rfl, nd (wrap_succ hlt hs), trivial⟩, ⟨rfl, trivial⟩, ⟨rfl, trivial⟩⟩
          · refine bd ?_
            rw [hr, all_end (ge_map h5)]
      · refine bd ?_
        rw [slipF_given h3]
    · simp only [Bool.not_eq_true', Bool.not_eq_false'] at h2
      refine bd ?_
      rw [slipF_ask h2]
  · simp only [Bool.not_eq_true', Bool.not_eq_false'] at h1
    refine bd ?_
    rw [slipF_door h1]

end Go.Vc
end

section
namespace Go.Vc
open Go.Proofs
set_option maxRecDepth 100000
set_option pp.maxSteps 400
set_option pp.deepTerms false
set_option linter.unusedSimpArgs false
set_option linter.unusedVariables false
theorem i_kindOk (l : GateLaw) (a : GateAsk) : Spec P 257 [st l.e, st a.e] (.d (.bool (kindF l a))) := by
  refine Spec.of_vc vcT vcM [.tmp 4] Tryz.func257 rfl rfl rfl rfl (fun hok => ?_)
  repeat refine And.intro rfl ?_
  refine Or.inl (Exists.intro _ (And.intro (i_shapeOf _ _) ?_))
  repeat refine And.intro rfl ?_
  refine And.intro (fun h => ?_) (fun h => ?_)
  · repeat refine And.intro rfl ?_
    refine Or.inl (Exists.intro _ (And.intro (i_isName _) ?_))
    refine bd ?_
    unfold kindF
    rw [show decide (kidx l a ≥ 0) = true from h]; rfl
  · refine bd ?_
    unfold kindF
    rw [show decide (kidx l a ≥ 0) = false from h]; rfl
theorem i_valuesOk (l : GateLaw) (a : GateAsk) : Spec P 258 [st l.e, st a.e] (.d (.bool (decide (kidx l a ≥ 0) && valsF l a))) := by
  refine Spec.of_vc vcT vcM [.tmp 4] Tryz.func258 rfl rfl rfl rfl (fun hok => ?_)
  repeat refine And.intro rfl ?_
  refine Or.inl (Exists.intro _ (And.intro (i_shapeOf _ _) ?_))
  repeat refine And.intro rfl ?_
  refine And.intro (by kernel_rfl) ?_
  repeat refine And.intro rfl ?_
  repeat refine And.intro rfl ?_
  refine And.intro (fun h => ?_) (fun h => ?_)
  · obtain ⟨j, hj, ej, _⟩ := idx_pos h
    repeat refine And.intro rfl ?_
    refine ix_atw (e := GateShape.e) (xs := l.shapes) (hj) (ej) rfl ?_
    repeat refine And.intro rfl ?_
    refine bd ?_
    rw [List.length_map, List.length_map, valsF_at hj ej, show decide (kidx l a ≥ 0) = true from h]; rfl
  · repeat refine And.intro rfl ?_
    refine bd ?_
    rw [show decide (kidx l a ≥ 0) = false from h]; rfl
def oneF (a : GateAsk) : GateAsk := ⟨[], 0, a.kind, a.name, a.team, a.values, a.holds, 0, [], [], noRule, 0⟩
def askTwoF (a : GateAsk) : GateAsk := ⟨[], 0, a.kind, a.name, [], a.values, [], a.seen, [], [], noRule, 0⟩
def threeF (a : GateAsk) : GateAsk := ⟨[], 0, a.kind, a.name, [], [], [], a.seen, [], [], noRule, 0⟩
def fourF (a : GateAsk) : GateAsk := ⟨[], 0, a.kind, a.name, [], [], [], 0, a.hold, [], noRule, 0⟩
def fiveF (a : GateAsk) : GateAsk := ⟨[], 0, [], [], [], [], [], 0, [], a.to_, a.rule, 0⟩
def sixF (a : GateAsk) : GateAsk := ⟨[], 0, [], [], [], [], [], 0, [], [], noRule, a.number⟩
theorem i_only1 (a : GateAsk) : Spec P 256 [.agg [], st a.e] (st (oneF a).e) := by
  refine Spec.of_vc vcT vcM [.cell 4 168] Tryz.func256 rfl rfl rfl rfl (fun hok => ?_)
  repeat refine And.intro rfl ?_
  rfl
theorem i_only2 (a : GateAsk) : Spec P 261 [.agg [], st a.e] (st (askTwoF a).e) := by
  refine Spec.of_vc vcT vcM [.cell 4 168] Tryz.func261 rfl rfl rfl rfl (fun hok => ?_)
  repeat refine And.intro rfl ?_
  rfl
theorem i_only3 (a : GateAsk) : Spec P 264 [.agg [], st a.e] (st (threeF a).e) := by
  refine Spec.of_vc vcT vcM [.cell 4 168] Tryz.func264 rfl rfl rfl rfl (fun hok => ?_)
  repeat refine And.intro rfl ?_
  rfl
theorem i_only4 (a : GateAsk) : Spec P 267 [.agg [], st a.e] (st (fourF a).e) := by
  refine Spec.of_vc vcT vcM [.cell 4 168] Tryz.func267 rfl rfl rfl rfl (fun hok => ?_)
  repeat refine And.intro rfl ?_
  rfl
theorem i_only5 (a : GateAsk) : Spec P 270 [.agg [], st a.e] (st (fiveF a).e) := by
  refine Spec.of_vc vcT vcM [.cell 4 168] Tryz.func270 rfl rfl rfl rfl (fun hok => ?_)
  repeat refine And.intro rfl ?_
  rfl
theorem i_only6 (a : GateAsk) : Spec P 273 [.agg [], st a.e] (st (sixF a).e) := by
  refine Spec.of_vc vcT vcM [.cell 4 168] Tryz.func273 rfl rfl rfl rfl (fun hok => ?_)
  repeat refine And.intro rfl ?_
  rfl
theorem i_form1 (l : GateLaw) (a : GateAsk) : Spec P 255 [.agg [], st l.e, st a.e] (.d (.bool (kindF l a && (l.teams.any (·.name == a.team) && ((decide (kidx l a ≥ 0) && valsF l a) && (decide ((a.holds.length : Int) ≤ 3) && asc a.holds)))))) := by
  refine Spec.of_vc vcT vcM [.tmp 6] Tryz.func255 rfl rfl rfl rfl (fun hok => ?_)
  repeat refine And.intro rfl ?_
  refine Or.inl (Exists.intro _ (And.intro (i_kindOk l a) ?_))
  rw [← idx_any]
  repeat' first
    | refine And.intro rfl ?_
    | refine And.intro (fun h => ?_) (fun h => ?_)
    | refine Or.inl (Exists.intro _ (And.intro (i_teamOf _ _) ?_))
    | refine Or.inl (Exists.intro _ (And.intro (i_valuesOk l a) ?_))
    | refine Or.inl (Exists.intro _ (And.intro (i_ascendingNames _) ?_))
  all_goals (refine bd ?_; first | (simp only [List.length_map, cond_true, cond_false, reduceCtorEq] at *; done) | ((try simp only [List.length_map, cond_true, cond_false] at *); simp only [Bool.and_true, *, Bool.false_or, Bool.true_or, Bool.or_false, Bool.or_true, Bool.and_true, Bool.true_and, Bool.and_false, Bool.false_and, Bool.not_true, Bool.not_false, Bool.not_not, cond_true, cond_false]))
theorem i_form2 (l : GateLaw) (a : GateAsk) : Spec P 260 [.agg [], st l.e, st a.e] (.d (.bool (kindF l a && ((decide (kidx l a ≥ 0) && valsF l a) && decide (a.seen ≥ 0))))) := by
  refine Spec.of_vc vcT vcM [.tmp 6] Tryz.func260 rfl rfl rfl rfl (fun hok => ?_)
  repeat refine And.intro rfl ?_
  refine Or.inl (Exists.intro _ (And.intro (i_kindOk l a) ?_))
  repeat' first
    | refine And.intro rfl ?_
    | refine And.intro (fun h => ?_) (fun h => ?_)
    | refine Or.inl (Exists.intro _ (And.intro (i_valuesOk l a) ?_))
  all_goals (refine bd ?_; first | (simp only [List.length_map, cond_true, cond_false, reduceCtorEq] at *; done) | ((try simp only [List.length_map, cond_true, cond_false] at *); simp only [Bool.and_true, *, Bool.false_or, Bool.true_or, Bool.or_false, Bool.or_true, Bool.and_true, Bool.true_and, Bool.and_false, Bool.false_and, Bool.not_true, Bool.not_false, Bool.not_not, cond_true, cond_false]))
theorem i_form3 (l : GateLaw) (a : GateAsk) : Spec P 263 [.agg [], st l.e, st a.e] (.d (.bool (kindF l a && decide (a.seen ≥ 0)))) := by
  refine Spec.of_vc vcT vcM [.tmp 6] Tryz.func263 rfl rfl rfl rfl (fun hok => ?_)
  repeat refine And.intro rfl ?_
  refine Or.inl (Exists.intro _ (And.intro (i_kindOk l a) ?_))
  repeat' first
    | refine And.intro rfl ?_
    | refine And.intro (fun h => ?_) (fun h => ?_)
  all_goals (refine bd ?_; first | (simp only [List.length_map, cond_true, cond_false, reduceCtorEq] at *; done) | ((try simp only [List.length_map, cond_true, cond_false] at *); simp only [Bool.and_true, *, Bool.false_or, Bool.true_or, Bool.or_false, Bool.or_true, Bool.and_true, Bool.true_and, Bool.and_false, Bool.false_and, Bool.not_true, Bool.not_false, Bool.not_not, cond_true, cond_false]))
theorem i_form4 (l : GateLaw) (a : GateAsk) : Spec P 266 [.agg [], st l.e, st a.e] (.d (.bool (kindF l a && nameOk a.hold))) := by
  refine Spec.of_vc vcT vcM [.tmp 6] Tryz.func266 rfl rfl rfl rfl (fun hok => ?_)
  repeat refine And.intro rfl ?_
  refine Or.inl (Exists.intro _ (And.intro (i_kindOk l a) ?_))
  repeat' first
    | refine And.intro rfl ?_
    | refine And.intro (fun h => ?_) (fun h => ?_)
    | refine Or.inl (Exists.intro _ (And.intro (i_isName _) ?_))
  all_goals (refine bd ?_; first | (simp only [List.length_map, cond_true, cond_false, reduceCtorEq] at *; done) | ((try simp only [List.length_map, cond_true, cond_false] at *); simp only [Bool.and_true, *, Bool.false_or, Bool.true_or, Bool.or_false, Bool.or_true, Bool.and_true, Bool.true_and, Bool.and_false, Bool.false_and, Bool.not_true, Bool.not_false, Bool.not_not, cond_true, cond_false]))
theorem i_form5 (l : GateLaw) (a : GateAsk) : Spec P 269 [.agg [], st l.e, st a.e] (.d (.bool (nameOk a.to_ && ruleOk a.rule))) := by
  refine Spec.of_vc vcT vcM [.tmp 6] Tryz.func269 rfl rfl rfl rfl (fun hok => ?_)
  repeat refine And.intro rfl ?_
  refine Or.inl (Exists.intro _ (And.intro (i_isName _) ?_))
  repeat' first
    | refine And.intro rfl ?_
    | refine And.intro (fun h => ?_) (fun h => ?_)
    | refine Or.inl (Exists.intro _ (And.intro (i_ruleOk a.rule) ?_))
  all_goals (refine bd ?_; first | (simp only [List.length_map, cond_true, cond_false, reduceCtorEq] at *; done) | ((try simp only [List.length_map, cond_true, cond_false] at *); simp only [Bool.and_true, *, Bool.false_or, Bool.true_or, Bool.or_false, Bool.or_true, Bool.and_true, Bool.true_and, Bool.and_false, Bool.false_and, Bool.not_true, Bool.not_false, Bool.not_not, cond_true, cond_false]))
theorem i_form6 (l : GateLaw) (a : GateAsk) : Spec P 272 [.agg [], st l.e, st a.e] (.d (.bool (decide (a.number ≥ 1)))) := by
  refine Spec.of_vc vcT vcM [.tmp 6] Tryz.func272 rfl rfl rfl rfl (fun hok => ?_)
  repeat refine And.intro rfl ?_
  rfl
theorem c_int (n : Int) : ((0 : Int) == n) = (n == 0) := by rw [Bool.eq_iff_iff, beq_iff_eq, beq_iff_eq]; exact eq_comm
theorem c_bs (s : Bs) : (([] : Bs) == s) = (s == []) := bs_comm _ _
theorem c_lenS (xs : List Bs) : (([] : List Bs) == xs) = ((xs.length : Int) == 0) := by cases xs <;> simp <;> omega
theorem c_lenI (xs : List Int) : (([] : List Int) == xs) = ((xs.length : Int) == 0) := by cases xs <;> simp <;> omega
theorem c_emp {α : Type} (xs : List α) : ((xs.length : Int) == 0) = xs.isEmpty := by cases xs <;> simp <;> omega
def progF (o a : GateAsk) : Bool := (((((((((o.kind == a.kind && o.name == a.name) && o.team == a.team) && o.values == a.values) && o.holds == a.holds) && o.seen == a.seen) && o.hold == a.hold) && o.to_ == a.to_) &&
  (o.rule.verbs == a.rule.verbs && (o.rule.kind == a.rule.kind && (o.rule.team == a.rule.team && o.rule.prefix_ == a.rule.prefix_)))) && o.number == a.number)
def onlyF (a : GateAsk) : GateAsk :=
  bif a.verb == 1 then oneF a else bif a.verb == 2 then askTwoF a else bif a.verb == 3 then threeF a else bif a.verb == 4 then fourF a else bif a.verb == 5 then fiveF a else sixF a
theorem prog_rest {a : GateAsk} (h : inR a.verb 1 6 = true) : progF (onlyF a) a = nothingF (restF a) := by
  obtain ⟨who, verb, kind, name, team, values, holds, seen, hold, to_, rule, number⟩ := a
  simp only [inR, Bool.and_eq_true, decide_eq_true_eq] at h
  have hv : verb = 1 ∨ verb = 2 ∨ verb = 3 ∨ verb = 4 ∨ verb = 5 ∨ verb = 6 := by omega
  rcases hv with rfl | rfl | rfl | rfl | rfl | rfl <;>
    simp [progF, onlyF, oneF, askTwoF, threeF, fourF, fiveF, sixF, nothingF, restF, noRule, c_int, c_emp, Bool.and_assoc]
theorem kind_vals {l : GateLaw} {a : GateAsk} (x : Bool) : (kindF l a && ((decide (kidx l a ≥ 0) && valsF l a) && x)) = (kindF l a && (valsF l a && x)) := by
  unfold kindF
  cases decide (kidx l a ≥ 0) <;> simp
theorem kind_vals2 {l : GateLaw} {a : GateAsk} (y x : Bool) : (kindF l a && (y && ((decide (kidx l a ≥ 0) && valsF l a) && x))) = (kindF l a && (y && (valsF l a && x))) := by
  unfold kindF
  cases decide (kidx l a ≥ 0) <;> simp
theorem i_verbs : Spec P 184 [] (.agg [.val .nilIface, .iface 287 (.agg []), .iface 288 (.agg []), .iface 289 (.agg []), .iface 290 (.agg []), .iface 291 (.agg []), .iface 292 (.agg [])]) := by
  refine Spec.of_vc vcT vcM [.cell 0 259] Tryz.func184 rfl rfl rfl rfl (fun hok => ?_)
  repeat refine And.intro rfl ?_
  rfl
end Go.Vc
end

section
namespace Go.Vc
open Go.Proofs
set_option maxRecDepth 100000
set_option pp.maxSteps 400
set_option pp.deepTerms false
set_option linter.unusedSimpArgs false
set_option linter.unusedVariables false
theorem ask_no {l : GateLaw} {a : GateAsk} (h : nameOk a.who = true) (h2 : inR a.verb 1 6 = true) : askOkF l a = (progF (onlyF a) a && askF l a) := by
  unfold askOkF
  rw [h, h2, prog_rest h2]; rfl
section
variable {l : GateLaw} {a : GateAsk} (h : nameOk a.who = true)
include h
theorem ask_1 (hv : a.verb = 1) : askOkF l a = (progF (oneF a) a && (kindF l a && (l.teams.any (·.name == a.team) && ((decide (kidx l a ≥ 0) && valsF l a) && (decide ((a.holds.length : Int) ≤ 3) && asc a.holds))))) := by
  rw [ask_no h (by rw [hv]; decide), kind_vals2]
  unfold onlyF askF; rw [hv]; rfl
theorem ask_2 (hv : a.verb = 2) : askOkF l a = (progF (askTwoF a) a && (kindF l a && ((decide (kidx l a ≥ 0) && valsF l a) && decide (a.seen ≥ 0)))) := by
  rw [ask_no h (by rw [hv]; decide), kind_vals]
  unfold onlyF askF; rw [hv]; rfl
theorem ask_3 (hv : a.verb = 3) : askOkF l a = (progF (threeF a) a && (kindF l a && decide (a.seen ≥ 0))) := by
  rw [ask_no h (by rw [hv]; decide)]
  unfold onlyF askF; rw [hv]; rfl
theorem ask_4 (hv : a.verb = 4) : askOkF l a = (progF (fourF a) a && (kindF l a && nameOk a.hold)) := by
  rw [ask_no h (by rw [hv]; decide)]
  unfold onlyF askF; rw [hv]; rfl
theorem ask_5 (hv : a.verb = 5) : askOkF l a = (progF (fiveF a) a && (nameOk a.to_ && ruleOk a.rule)) := by
  rw [ask_no h (by rw [hv]; decide)]
  unfold onlyF askF; rw [hv]; rfl
theorem ask_6 (hv : a.verb = 6) : askOkF l a = (progF (sixF a) a && decide (a.number ≥ 1)) := by
  rw [ask_no h (by rw [hv]; decide)]
  unfold onlyF askF; rw [hv]; rfl
end
set_option maxHeartbeats 4000000 in
theorem i_GateAskOk (l : GateLaw) (a : GateAsk) : Spec P 142 [st l.e, st a.e] (.d (.bool (lawOk l && askOkF l a))) := by
  refine Spec.of_vc vcT vcM [.tmp 4] Tryz.func142 rfl rfl rfl rfl (fun hok => ?_)
  repeat refine And.intro rfl ?_
  refine Or.inl (Exists.intro _ (And.intro (i_GateLawOk l) ?_))
  repeat refine And.intro rfl ?_
  refine And.intro (fun h0 => ?_) (fun h0 => ?_)
  · simp only [Bool.not_eq_true', Bool.not_eq_false'] at h0
    rw [h0, Bool.true_and]
    repeat refine And.intro rfl ?_
    refine Or.inl (Exists.intro _ (And.intro (i_isName _) ?_))
    repeat refine And.intro rfl ?_
    refine And.intro (fun h1 => ?_) (fun h1 => ?_)
    · simp only [Bool.not_eq_true', Bool.not_eq_false'] at h1
      repeat refine And.intro rfl ?_
      refine And.intro (fun h2 => ?_) (fun h2 => ?_)
      · repeat refine And.intro rfl ?_
        refine And.intro (fun h3 => ?_) (fun h3 => ?_)
        · refine bd ?_
          rw [askOk_verb (show inR a.verb 1 6 = false from by
            have := of_decide_eq_true h3
            simp only [inR, Bool.and_eq_false_iff, decide_eq_false_iff_not]; omega)]
        · have hv : a.verb = 1 ∨ a.verb = 2 ∨ a.verb = 3 ∨ a.verb = 4 ∨ a.verb = 5 ∨ a.verb = 6 := by
            have := of_decide_eq_false h2
            have := of_decide_eq_false h3
            omega
          rcases hv with hv | hv | hv | hv | hv | hv
          · rw [ask_1 h1 hv]
            repeat refine And.intro rfl ?_
            refine And.intro (by kernel_rfl) ?_
            repeat refine And.intro rfl ?_
            repeat refine And.intro rfl ?_
            refine Or.inl (Exists.intro _ (And.intro (i_verbs) ?_))
            repeat refine And.intro rfl ?_
            refine And.intro (show (0 : Int) ≤ a.verb ∧ a.verb < 7 from by omega) ⟨.iface 287 (.agg []), by rw [hv]; rfl, ?_⟩
            repeat refine And.intro rfl ?_
            repeat refine And.intro rfl ?_
            refine Or.inl (Exists.intro _ (And.intro (i_only1 a) ?_))
            repeat' first
              | refine And.intro rfl ?_
              | refine And.intro (fun h => ?_) (fun h => ?_)
              | refine Or.inl (Exists.intro _ (And.intro (i_equalTexts _ _) ?_))
              | refine Or.inl (Exists.intro _ (And.intro (i_sameRule (oneF a).rule a.rule) ?_))
              | refine Or.inl (Exists.intro _ (And.intro (i_form1 l a) ?_))
            all_goals (refine bd ?_; simp only [progF, *, Bool.true_and, Bool.and_true, Bool.false_and, Bool.and_false])
          · rw [ask_2 h1 hv]
            repeat refine And.intro rfl ?_
            refine And.intro (by kernel_rfl) ?_
            repeat refine And.intro rfl ?_
            repeat refine And.intro rfl ?_
            refine Or.inl (Exists.intro _ (And.intro (i_verbs) ?_))
            repeat refine And.intro rfl ?_
            refine And.intro (show (0 : Int) ≤ a.verb ∧ a.verb < 7 from by omega) ⟨.iface 288 (.agg []), by rw [hv]; rfl, ?_⟩
            repeat refine And.intro rfl ?_
            repeat refine And.intro rfl ?_
            refine Or.inl (Exists.intro _ (And.intro (i_only2 a) ?_))
            repeat' first
              | refine And.intro rfl ?_
              | refine And.intro (fun h => ?_) (fun h => ?_)
              | refine Or.inl (Exists.intro _ (And.intro (i_equalTexts _ _) ?_))
              | refine Or.inl (Exists.intro _ (And.intro (i_sameRule (askTwoF a).rule a.rule) ?_))
              | refine Or.inl (Exists.intro _ (And.intro (i_form2 l a) ?_))
            all_goals (refine bd ?_; simp only [progF, *, Bool.true_and, Bool.and_true, Bool.false_and, Bool.and_false])
          · rw [ask_3 h1 hv]
            repeat refine And.intro rfl ?_
            refine And.intro (by kernel_rfl) ?_
            repeat refine And.intro rfl ?_
            repeat refine And.intro rfl ?_
            refine Or.inl (Exists.intro _ (And.intro (i_verbs) ?_))
            repeat refine And.intro rfl ?_
            refine And.intro (show (0 : Int) ≤ a.verb ∧ a.verb < 7 from by omega) ⟨.iface 289 (.agg []), by rw [hv]; rfl, ?_⟩
            repeat refine And.intro rfl ?_
            repeat refine And.intro rfl ?_
            refine Or.inl (Exists.intro _ (And.intro (i_only3 a) ?_))
            repeat' first
              | refine And.intro rfl ?_
              | refine And.intro (fun h => ?_) (fun h => ?_)
              | refine Or.inl (Exists.intro _ (And.intro (i_equalTexts _ _) ?_))
              | refine Or.inl (Exists.intro _ (And.intro (i_sameRule (threeF a).rule a.rule) ?_))
              | refine Or.inl (Exists.intro _ (And.intro (i_form3 l a) ?_))
            all_goals (refine bd ?_; simp only [progF, *, Bool.true_and, Bool.and_true, Bool.false_and, Bool.and_false])
          · rw [ask_4 h1 hv]
            repeat refine And.intro rfl ?_
            refine And.intro (by kernel_rfl) ?_
            repeat refine And.intro rfl ?_
            repeat refine And.intro rfl ?_
            refine Or.inl (Exists.intro _ (And.intro (i_verbs) ?_))
            repeat refine And.intro rfl ?_
            refine And.intro (show (0 : Int) ≤ a.verb ∧ a.verb < 7 from by omega) ⟨.iface 290 (.agg []), by rw [hv]; rfl, ?_⟩
            repeat refine And.intro rfl ?_
            repeat refine And.intro rfl ?_
            refine Or.inl (Exists.intro _ (And.intro (i_only4 a) ?_))
            repeat' first
              | refine And.intro rfl ?_
              | refine And.intro (fun h => ?_) (fun h => ?_)
              | refine Or.inl (Exists.intro _ (And.intro (i_equalTexts _ _) ?_))
              | refine Or.inl (Exists.intro _ (And.intro (i_sameRule (fourF a).rule a.rule) ?_))
              | refine Or.inl (Exists.intro _ (And.intro (i_form4 l a) ?_))
            all_goals (refine bd ?_; simp only [progF, *, Bool.true_and, Bool.and_true, Bool.false_and, Bool.and_false])
          · rw [ask_5 h1 hv]
            repeat refine And.intro rfl ?_
            refine And.intro (by kernel_rfl) ?_
            repeat refine And.intro rfl ?_
            repeat refine And.intro rfl ?_
            refine Or.inl (Exists.intro _ (And.intro (i_verbs) ?_))
            repeat refine And.intro rfl ?_
            refine And.intro (show (0 : Int) ≤ a.verb ∧ a.verb < 7 from by omega) ⟨.iface 291 (.agg []), by rw [hv]; rfl, ?_⟩
            repeat refine And.intro rfl ?_
            repeat refine And.intro rfl ?_
            refine Or.inl (Exists.intro _ (And.intro (i_only5 a) ?_))
            repeat' first
              | refine And.intro rfl ?_
              | refine And.intro (fun h => ?_) (fun h => ?_)
              | refine Or.inl (Exists.intro _ (And.intro (i_equalTexts _ _) ?_))
              | refine Or.inl (Exists.intro _ (And.intro (i_sameRule (fiveF a).rule a.rule) ?_))
              | refine Or.inl (Exists.intro _ (And.intro (i_form5 l a) ?_))
            all_goals (refine bd ?_; simp only [progF, *, Bool.true_and, Bool.and_true, Bool.false_and, Bool.and_false])
          · rw [ask_6 h1 hv]
            repeat refine And.intro rfl ?_
            refine And.intro (by kernel_rfl) ?_
            repeat refine And.intro rfl ?_
            repeat refine And.intro rfl ?_
            refine Or.inl (Exists.intro _ (And.intro (i_verbs) ?_))
            repeat refine And.intro rfl ?_
            refine And.intro (show (0 : Int) ≤ a.verb ∧ a.verb < 7 from by omega) ⟨.iface 292 (.agg []), by rw [hv]; rfl, ?_⟩
            repeat refine And.intro rfl ?_
            repeat refine And.intro rfl ?_
            refine Or.inl (Exists.intro _ (And.intro (i_only6 a) ?_))
            repeat' first
              | refine And.intro rfl ?_
              | refine And.intro (fun h => ?_) (fun h => ?_)
              | refine Or.inl (Exists.intro _ (And.intro (i_equalTexts _ _) ?_))
              | refine Or.inl (Exists.intro _ (And.intro (i_sameRule (sixF a).rule a.rule) ?_))
              | refine Or.inl (Exists.intro _ (And.intro (i_form6 l a) ?_))
            all_goals (refine bd ?_; simp only [progF, *, Bool.true_and, Bool.and_true, Bool.false_and, Bool.and_false])
      · refine bd ?_
        rw [askOk_verb (show inR a.verb 1 6 = false from by
            have := of_decide_eq_true h2
            simp only [inR, Bool.and_eq_false_iff, decide_eq_false_iff_not]; omega)]
    · simp only [Bool.not_eq_true', Bool.not_eq_false'] at h1
      refine bd ?_
      rw [askOk_who h1]
  · simp only [Bool.not_eq_true', Bool.not_eq_false'] at h0
    refine bd ?_
    rw [h0]; rfl
theorem i_GateSlipOk (l : GateLaw) (s : GateSlip) : Spec P 94 [st l.e, st s.e] (.d (.bool (lawOk l && slipF l s))) := by
  refine Spec.of_vc vcT vcM [.tmp 4] Tryz.func94 rfl rfl rfl rfl (fun hok => ?_)
  repeat refine And.intro rfl ?_
  refine Or.inl (Exists.intro _ (And.intro (i_isName _) ?_))
  repeat refine And.intro rfl ?_
  refine And.intro (fun h1 => ?_) (fun h1 => ?_)
  · simp only [Bool.not_eq_true', Bool.not_eq_false'] at h1
    repeat refine And.intro rfl ?_
    refine Or.inl (Exists.intro _ (And.intro (i_GateAskOk l s.ask) ?_))
    repeat refine And.intro rfl ?_
    refine And.intro (fun h2 => ?_) (fun h2 => ?_)
    · simp only [Bool.not_eq_true', Bool.not_eq_false', Bool.and_eq_true] at h2
      repeat refine And.intro rfl ?_
      refine And.intro (fun h3 => ?_) (fun h3 => ?_)
      · repeat refine And.intro rfl ?_
        refine And.intro (fun h4 => ?_) (fun h4 => ?_)
        · rw [List.length_map] at h4
          refine bd ?_
          rw [slipF_len h4, Bool.and_false]
        · rw [List.length_map] at h4
          have hs : s.wants.length ≤ big := by have := of_decide_eq_false h4; unfold big; omega
          rw [slipF_all h1 h2.2 h3 h4, h2.1, Bool.true_and]
          repeat refine And.intro rfl ?_
          refine ⟨fun m l h => ∃ (i : Nat) , m = s.wants.length - i ∧ i ≤ s.wants.length ∧ (s.wants.all wantF = (s.wants.drop i).all wantF) ∧ l = [(30, .d (lGateWant s.wants)), (31, .d (.int .i64 (s.wants.map GateWant.e).length)), (32, .d (.int .i64 i))] ∧ h = hp0,
            ⟨_, _, _, ⟨0, rfl, Nat.zero_le _, rfl, rfl, rfl⟩, rfl, rfl, ⟨rfl, rfl, rfl, trivial⟩, trivial, trivial⟩, ?_⟩
          rintro m l hh ⟨i, rfl, hi, hr, rfl, rfl⟩
          repeat refine And.intro rfl ?_
          refine And.intro (fun h5 => ?_) (fun h5 => ?_)
          · have hlt : i < s.wants.length := lt_map h5
            rw [all_step hlt] at hr
            repeat refine And.intro rfl ?_
            refine ix_at (e := GateWant.e) (xs := s.wants) (hlt) rfl ?_
            repeat refine And.intro rfl ?_
            repeat' first
              | refine And.intro rfl ?_
              | refine And.intro (fun h => ?_) (fun h => ?_)
              | refine Or.inl (Exists.intro _ (And.intro (i_isName _) ?_))
            all_goals first
              | (refine bd ?_; (try simp only [Bool.not_eq_true', Bool.not_eq_false'] at *); rw [hr]; simp only [wantF, *, Bool.true_and, Bool.false_and, Bool.and_true, Bool.and_false, Bool.not_true, Bool.not_false]; done)
              | exact ⟨_, _, _, ⟨i + 1, rfl, hlt, (by (try simp only [Bool.not_eq_true', Bool.not_eq_false'] at *); rw [hr]; simp only [wantF, *, Bool.true_and, Bool.false_and, Bool.and_true, Bool.and_false, Bool.not_true, Bool.not_false]), rfl, rfl⟩, by omega, rfl, rfl, ⟨rfl, rfl, nd (wrap_succ hlt hs), trivial⟩, trivial, trivial⟩
          · refine bd ?_
            rw [hr, all_end (ge_map h5)]; rfl
      · refine bd ?_
        rw [slipF_given h3, Bool.and_false]
    · simp only [Bool.not_eq_true', Bool.not_eq_false'] at h2
      refine bd ?_
      cases hl : lawOk l with
      | false => rfl
      | true =>
        rw [hl, Bool.true_and] at h2
        rw [slipF_ask h2]; rfl
  · simp only [Bool.not_eq_true', Bool.not_eq_false'] at h1
    refine bd ?_
    rw [slipF_door h1, Bool.and_false]
end Go.Vc
end

section
namespace Go.Vc
open Go.Proofs
set_option maxRecDepth 100000
set_option pp.maxSteps 400
set_option pp.deepTerms false
set_option linter.unusedSimpArgs false
set_option linter.unusedVariables false
def slipG (L : GateLaw) (n : Bs) (s : GateSlip) : Bool := slipF L s && s.door == n
def doorF (L : GateLaw) (now : Int) (d : GateDoor) : Bool :=
  nameOk d.name && (bookOk L d.view && (!decide (d.view.now > now) && (!decide ((d.slips.length : Int) > 6) && ((d.up || !decide ((d.slips.length : Int) > 0)) && d.slips.all (slipG L d.name)))))
def prevD (p : Option GateDoor) (n : Bs) : Bool := match p with | some q => Op.bytesLess q.name n | none => true
def doorG (L : GateLaw) (w : GateWorld) (p : Option GateDoor) (d : GateDoor) : Bool := prevD p d.name && doorF L w.book.now d
def worldOk (L : GateLaw) (w : GateWorld) : Bool := bookOk L w.book && (!decide ((w.doors.length : Int) > 4) && chainK (doorG L w) none w.doors)
theorem ok_door {d : GateDoor} (h : okAs [st d.e]) : d.slips.length ≤ big := by
  have := h.1
  simp only [st, AV.ok, GateDoor.e, List.map, okAs] at this
  exact len_map this.2.2.2.2.2.2.2.2.2.1.1
theorem ok_world {w : GateWorld} (h : okAs [st w.e]) : w.book.grants.length ≤ big ∧ w.doors.length ≤ big := by
  have := h.1
  simp only [st, AV.ok, GateWorld.e, List.map, okAs] at this
  exact ⟨len_map this.2.2.2.2.1.1, len_map this.2.2.2.2.2.2.2.1.1⟩
theorem i_doorOk (L : GateLaw) (d : GateDoor) (now : Int) : Spec P 51 [st L.e, st d.e, .d (.int .i64 now)] (.d (.bool (doorF L now d))) := by
  refine Spec.of_vc vcT vcM [.tmp 6] Tryz.func51 rfl rfl rfl rfl (fun hok => ?_)
  have hs := ok_door ⟨hok.2.1, trivial⟩
  repeat' first
    | refine And.intro rfl ?_
    | refine And.intro (fun h => nomatch (show true = false from h)) (fun h => ?_)
    | refine And.intro (fun h => nomatch (show false = true from h)) (fun h => ?_)
    | refine And.intro (fun h => ?_) (fun h => nomatch (show true = false from h))
    | refine And.intro (fun h => ?_) (fun h => nomatch (show false = true from h))
    | refine And.intro (fun h => ?_) (fun h => ?_)
    | refine Or.inl (Exists.intro _ (And.intro (i_isName _) ?_))
    | refine Or.inl (Exists.intro _ (And.intro (i_GateBookOk L d.view) ?_))
  all_goals first
    | (refine bd ?_
       first
         | (simp only [List.length_map, cond_false, cond_true, Bool.not_eq_true', Bool.not_eq_false', reduceCtorEq] at *; done)
         | (simp only [List.length_map, cond_false, cond_true, Bool.not_eq_true', Bool.not_eq_false', reduceCtorEq] at *
            simp only [doorF, *, Bool.true_and, Bool.and_true, Bool.false_and, Bool.and_false, Bool.true_or, Bool.or_true, Bool.false_or, Bool.or_false, Bool.not_true, Bool.not_false]
            done)
         | (simp only [doorF, *, Bool.true_and, Bool.and_true, Bool.false_and, Bool.and_false, Bool.true_or, Bool.or_true, Bool.false_or, Bool.or_false, Bool.not_true, Bool.not_false]
            done))
    | skip
  · have hl : lawOk L = true := by
      simp only [List.length_map, cond_false, cond_true, Bool.not_eq_true', Bool.not_eq_false', reduceCtorEq] at *
      exact book_law (b := d.view) (by assumption)
    have hq : doorF L now d = d.slips.all (slipG L d.name) := by
      simp only [List.length_map, cond_false, cond_true, Bool.not_eq_true', Bool.not_eq_false', reduceCtorEq] at *
      simp only [doorF, *, Bool.true_and, Bool.and_true, Bool.false_and, Bool.and_false, Bool.true_or, Bool.or_true, Bool.false_or, Bool.or_false, Bool.not_true, Bool.not_false]
    rw [hq]
    clear hq
    repeat refine And.intro rfl ?_
    refine ⟨fun m l h => ∃ (i : Nat) , m = d.slips.length - i ∧ i ≤ d.slips.length ∧ (d.slips.all (slipG L d.name) = (d.slips.drop i).all (slipG L d.name)) ∧ l = [(3, .ptr 0 0), (4, .ptr 1 0), (45, .d (lGateSlip d.slips)), (46, .d (.int .i64 (d.slips.map GateSlip.e).length)), (47, .d (.int .i64 i))] ∧ h = ⟨[(1, .cells 96 (d.e.map .d)), (0, .cells 43 (L.e.map .d))], 2, 0⟩,
      ⟨_, _, _, ⟨0, rfl, Nat.zero_le _, rfl, rfl, rfl⟩, rfl, rfl, ⟨rfl, rfl, rfl, rfl, rfl, trivial⟩, (by repeat' first|exact rfl|exact trivial|refine And.intro ?_ ?_), (by repeat' first|exact rfl|exact trivial|refine And.intro ?_ ?_)⟩, ?_⟩
    rintro m l hh ⟨i, rfl, hi, hr, rfl, rfl⟩
    repeat refine And.intro rfl ?_
    refine And.intro (fun g1 => ?_) (fun g1 => ?_)
    · have hlt : i < d.slips.length := lt_map g1
      rw [all_step hlt] at hr
      repeat' first
        | refine And.intro rfl ?_
        | refine And.intro (fun h => nomatch (show true = false from h)) (fun h => ?_)
        | refine And.intro (fun h => nomatch (show false = true from h)) (fun h => ?_)
        | refine And.intro (fun h => ?_) (fun h => nomatch (show true = false from h))
        | refine And.intro (fun h => ?_) (fun h => nomatch (show false = true from h))
        | refine And.intro (fun h => ?_) (fun h => ?_)
        | refine Or.inl (Exists.intro _ (And.intro (i_GateSlipOk L _) ?_))
        | refine ix_at (e := GateSlip.e) (xs := d.slips) hlt rfl ?_
        | refine And.intro (by kernel_rfl) ?_
      all_goals (simp only [hl, Bool.true_and, List.length_map, cond_false, cond_true, Bool.not_eq_true', Bool.not_eq_false', reduceCtorEq] at *)
      all_goals first
        | (refine bd ?_
           rw [hr]
           clear hr
           simp only [slipG, *, Bool.true_and, Bool.and_true, Bool.false_and, Bool.and_false, Bool.true_or, Bool.or_true, Bool.false_or, Bool.or_false, Bool.not_true, Bool.not_false]
           done)
        | (refine (fun hq : d.slips.all (slipG L d.name) = (d.slips.drop (i + 1)).all (slipG L d.name) => ?_) ?_
           rotate_left
           · rw [hr]
             clear hr
             simp only [slipG, *, Bool.true_and, Bool.and_true, Bool.false_and, Bool.and_false, Bool.true_or, Bool.or_true, Bool.false_or, Bool.or_false, Bool.not_true, Bool.not_false]
             done
           · repeat refine And.intro rfl ?_
             refine ⟨_, _, _, ⟨i + 1, rfl, hlt, hq, rfl, rfl⟩, by omega, rfl, rfl, ?_, ?_, ?_⟩
             all_goals (repeat' first | exact rfl | exact trivial | exact nd (wrap_succ hlt hs) | refine And.intro ?_ ?_))
    · refine bd ?_
      rw [hr, all_end (ge_map g1)]
  · have hl : lawOk L = true := by
      simp only [List.length_map, cond_false, cond_true, Bool.not_eq_true', Bool.not_eq_false', reduceCtorEq] at *
      exact book_law (b := d.view) (by assumption)
    have hq : doorF L now d = d.slips.all (slipG L d.name) := by
      simp only [List.length_map, cond_false, cond_true, Bool.not_eq_true', Bool.not_eq_false', reduceCtorEq] at *
      simp only [doorF, *, Bool.true_and, Bool.and_true, Bool.false_and, Bool.and_false, Bool.true_or, Bool.or_true, Bool.false_or, Bool.or_false, Bool.not_true, Bool.not_false]
    rw [hq]
    clear hq
    repeat refine And.intro rfl ?_
    refine ⟨fun m l h => ∃ (i : Nat) , m = d.slips.length - i ∧ i ≤ d.slips.length ∧ (d.slips.all (slipG L d.name) = (d.slips.drop i).all (slipG L d.name)) ∧ l = [(3, .ptr 0 0), (4, .ptr 1 0), (45, .d (lGateSlip d.slips)), (46, .d (.int .i64 (d.slips.map GateSlip.e).length)), (47, .d (.int .i64 i))] ∧ h = ⟨[(1, .cells 96 (d.e.map .d)), (0, .cells 43 (L.e.map .d))], 2, 0⟩,
      ⟨_, _, _, ⟨0, rfl, Nat.zero_le _, rfl, rfl, rfl⟩, rfl, rfl, ⟨rfl, rfl, rfl, rfl, rfl, trivial⟩, (by repeat' first|exact rfl|exact trivial|refine And.intro ?_ ?_), (by repeat' first|exact rfl|exact trivial|refine And.intro ?_ ?_)⟩, ?_⟩
    rintro m l hh ⟨i, rfl, hi, hr, rfl, rfl⟩
    repeat refine And.intro rfl ?_
    refine And.intro (fun g1 => ?_) (fun g1 => ?_)
    · have hlt : i < d.slips.length := lt_map g1
      rw [all_step hlt] at hr
      repeat' first
        | refine And.intro rfl ?_
        | refine And.intro (fun h => nomatch (show true = false from h)) (fun h => ?_)
        | refine And.intro (fun h => nomatch (show false = true from h)) (fun h => ?_)
        | refine And.intro (fun h => ?_) (fun h => nomatch (show true = false from h))
        | refine And.intro (fun h => ?_) (fun h => nomatch (show false = true from h))
        | refine And.intro (fun h => ?_) (fun h => ?_)
        | refine Or.inl (Exists.intro _ (And.intro (i_GateSlipOk L _) ?_))
        | refine ix_at (e := GateSlip.e) (xs := d.slips) hlt rfl ?_
        | refine And.intro (by kernel_rfl) ?_
      all_goals (simp only [hl, Bool.true_and, List.length_map, cond_false, cond_true, Bool.not_eq_true', Bool.not_eq_false', reduceCtorEq] at *)
      all_goals first
        | (refine bd ?_
           rw [hr]
           clear hr
           simp only [slipG, *, Bool.true_and, Bool.and_true, Bool.false_and, Bool.and_false, Bool.true_or, Bool.or_true, Bool.false_or, Bool.or_false, Bool.not_true, Bool.not_false]
           done)
        | (refine (fun hq : d.slips.all (slipG L d.name) = (d.slips.drop (i + 1)).all (slipG L d.name) => ?_) ?_
           rotate_left
           · rw [hr]
             clear hr
             simp only [slipG, *, Bool.true_and, Bool.and_true, Bool.false_and, Bool.and_false, Bool.true_or, Bool.or_true, Bool.false_or, Bool.or_false, Bool.not_true, Bool.not_false]
             done
           · repeat refine And.intro rfl ?_
             refine ⟨_, _, _, ⟨i + 1, rfl, hlt, hq, rfl, rfl⟩, by omega, rfl, rfl, ?_, ?_, ?_⟩
             all_goals (repeat' first | exact rfl | exact trivial | exact nd (wrap_succ hlt hs) | refine And.intro ?_ ?_))
    · refine bd ?_
      rw [hr, all_end (ge_map g1)]
theorem s_l10DoorOk (L : GateLaw) (w : GateWorld) (d : GateDoor) : Spec P 49 [st L.e, st w.e, st d.e] (.d (.bool (doorF L w.book.now d))) := by
  refine Spec.of_vc vcT vcM [.tmp 6] Tryz.func49 rfl rfl rfl rfl (fun hok => ?_)
  have hs := ok_door ⟨hok.2.2.1, trivial⟩
  repeat' first
    | refine And.intro rfl ?_
    | refine And.intro (fun h => nomatch (show true = false from h)) (fun h => ?_)
    | refine And.intro (fun h => nomatch (show false = true from h)) (fun h => ?_)
    | refine And.intro (fun h => ?_) (fun h => nomatch (show true = false from h))
    | refine And.intro (fun h => ?_) (fun h => nomatch (show false = true from h))
    | refine And.intro (fun h => ?_) (fun h => ?_)
    | refine Or.inl (Exists.intro _ (And.intro (s_l1NameOk _) ?_))
    | refine Or.inl (Exists.intro _ (And.intro (s_GateBookOk L d.view) ?_))
  all_goals first
    | (refine bd ?_
       first
         | (simp only [List.length_map, cond_false, cond_true, Bool.not_eq_true', Bool.not_eq_false', reduceCtorEq] at *; done)
         | (simp only [List.length_map, cond_false, cond_true, Bool.not_eq_true', Bool.not_eq_false', reduceCtorEq] at *
            simp only [doorF, *, Bool.true_and, Bool.and_true, Bool.false_and, Bool.and_false, Bool.true_or, Bool.or_true, Bool.false_or, Bool.or_false, Bool.not_true, Bool.not_false]
            done)
         | (simp only [doorF, *, Bool.true_and, Bool.and_true, Bool.false_and, Bool.and_false, Bool.true_or, Bool.or_true, Bool.false_or, Bool.or_false, Bool.not_true, Bool.not_false]
            done))
    | skip
  · have hl : lawOk L = true := by
      simp only [List.length_map, cond_false, cond_true, Bool.not_eq_true', Bool.not_eq_false', reduceCtorEq] at *
      exact book_law (b := d.view) (by assumption)
    have hq : doorF L w.book.now d = d.slips.all (slipG L d.name) := by
      simp only [List.length_map, cond_false, cond_true, Bool.not_eq_true', Bool.not_eq_false', reduceCtorEq] at *
      simp only [doorF, *, Bool.true_and, Bool.and_true, Bool.false_and, Bool.and_false, Bool.true_or, Bool.or_true, Bool.false_or, Bool.or_false, Bool.not_true, Bool.not_false]
    rw [hq]
    clear hq
    repeat refine And.intro rfl ?_
    refine ⟨fun m l h => ∃ (i : Nat) , m = d.slips.length - i ∧ i ≤ d.slips.length ∧ (d.slips.all (slipG L d.name) = (d.slips.drop i).all (slipG L d.name)) ∧ l = [(3, .ptr 0 0), (5, .ptr 2 0), (7, .d (.int .i64 i))] ∧ h = ⟨[(2, .cells 96 (d.e.map .d)), (1, .cells 64 (w.e.map .d)), (0, .cells 43 (L.e.map .d))], 3, 0⟩,
      ⟨_, _, _, ⟨0, rfl, Nat.zero_le _, rfl, rfl, rfl⟩, rfl, rfl, ⟨rfl, rfl, rfl, trivial⟩, (by repeat' first|exact rfl|exact trivial|refine And.intro ?_ ?_), (by repeat' first|exact rfl|exact trivial|refine And.intro ?_ ?_)⟩, ?_⟩
    rintro m l hh ⟨i, rfl, hi, hr, rfl, rfl⟩
    repeat refine And.intro rfl ?_
    refine And.intro (fun g1 => ?_) (fun g1 => ?_)
    · have hlt : i < d.slips.length := lt_map g1
      rw [all_step hlt] at hr
      repeat' first
        | refine And.intro rfl ?_
        | refine And.intro (fun h => nomatch (show true = false from h)) (fun h => ?_)
        | refine And.intro (fun h => nomatch (show false = true from h)) (fun h => ?_)
        | refine And.intro (fun h => ?_) (fun h => nomatch (show true = false from h))
        | refine And.intro (fun h => ?_) (fun h => nomatch (show false = true from h))
        | refine And.intro (fun h => ?_) (fun h => ?_)
        | refine Or.inl (Exists.intro _ (And.intro (s_l9SlipOk L _) ?_))
        | refine ix_at (e := GateSlip.e) (xs := d.slips) hlt rfl ?_
        | refine And.intro (by kernel_rfl) ?_
      all_goals (simp only [hl, Bool.true_and, List.length_map, cond_false, cond_true, Bool.not_eq_true', Bool.not_eq_false', reduceCtorEq] at *)
      all_goals first
        | (refine bd ?_
           rw [hr]
           clear hr
           simp only [slipG, *, Bool.true_and, Bool.and_true, Bool.false_and, Bool.and_false, Bool.true_or, Bool.or_true, Bool.false_or, Bool.or_false, Bool.not_true, Bool.not_false]
           done)
        | (refine (fun hq : d.slips.all (slipG L d.name) = (d.slips.drop (i + 1)).all (slipG L d.name) => ?_) ?_
           rotate_left
           · rw [hr]
             clear hr
             simp only [slipG, *, Bool.true_and, Bool.and_true, Bool.false_and, Bool.and_false, Bool.true_or, Bool.or_true, Bool.false_or, Bool.or_false, Bool.not_true, Bool.not_false]
             done
           · repeat refine And.intro rfl ?_
             refine ⟨_, _, _, ⟨i + 1, rfl, hlt, hq, rfl, rfl⟩, by omega, rfl, rfl, ?_, ?_, ?_⟩
             all_goals (repeat' first | exact rfl | exact trivial | exact nd (wrap_succ hlt hs) | refine And.intro ?_ ?_))
    · refine bd ?_
      rw [hr, all_end (ge_map g1)]
  · have hl : lawOk L = true := by
      simp only [List.length_map, cond_false, cond_true, Bool.not_eq_true', Bool.not_eq_false', reduceCtorEq] at *
      exact book_law (b := d.view) (by assumption)
    have hq : doorF L w.book.now d = d.slips.all (slipG L d.name) := by
      simp only [List.length_map, cond_false, cond_true, Bool.not_eq_true', Bool.not_eq_false', reduceCtorEq] at *
      simp only [doorF, *, Bool.true_and, Bool.and_true, Bool.false_and, Bool.and_false, Bool.true_or, Bool.or_true, Bool.false_or, Bool.or_false, Bool.not_true, Bool.not_false]
    rw [hq]
    clear hq
    repeat refine And.intro rfl ?_
    refine ⟨fun m l h => ∃ (i : Nat) , m = d.slips.length - i ∧ i ≤ d.slips.length ∧ (d.slips.all (slipG L d.name) = (d.slips.drop i).all (slipG L d.name)) ∧ l = [(3, .ptr 0 0), (5, .ptr 2 0), (7, .d (.int .i64 i))] ∧ h = ⟨[(2, .cells 96 (d.e.map .d)), (1, .cells 64 (w.e.map .d)), (0, .cells 43 (L.e.map .d))], 3, 0⟩,
      ⟨_, _, _, ⟨0, rfl, Nat.zero_le _, rfl, rfl, rfl⟩, rfl, rfl, ⟨rfl, rfl, rfl, trivial⟩, (by repeat' first|exact rfl|exact trivial|refine And.intro ?_ ?_), (by repeat' first|exact rfl|exact trivial|refine And.intro ?_ ?_)⟩, ?_⟩
    rintro m l hh ⟨i, rfl, hi, hr, rfl, rfl⟩
    repeat refine And.intro rfl ?_
    refine And.intro (fun g1 => ?_) (fun g1 => ?_)
    · have hlt : i < d.slips.length := lt_map g1
      rw [all_step hlt] at hr
      repeat' first
        | refine And.intro rfl ?_
        | refine And.intro (fun h => nomatch (show true = false from h)) (fun h => ?_)
        | refine And.intro (fun h => nomatch (show false = true from h)) (fun h => ?_)
        | refine And.intro (fun h => ?_) (fun h => nomatch (show true = false from h))
        | refine And.intro (fun h => ?_) (fun h => nomatch (show false = true from h))
        | refine And.intro (fun h => ?_) (fun h => ?_)
        | refine Or.inl (Exists.intro _ (And.intro (s_l9SlipOk L _) ?_))
        | refine ix_at (e := GateSlip.e) (xs := d.slips) hlt rfl ?_
        | refine And.intro (by kernel_rfl) ?_
      all_goals (simp only [hl, Bool.true_and, List.length_map, cond_false, cond_true, Bool.not_eq_true', Bool.not_eq_false', reduceCtorEq] at *)
      all_goals first
        | (refine bd ?_
           rw [hr]
           clear hr
           simp only [slipG, *, Bool.true_and, Bool.and_true, Bool.false_and, Bool.and_false, Bool.true_or, Bool.or_true, Bool.false_or, Bool.or_false, Bool.not_true, Bool.not_false]
           done)
        | (refine (fun hq : d.slips.all (slipG L d.name) = (d.slips.drop (i + 1)).all (slipG L d.name) => ?_) ?_
           rotate_left
           · rw [hr]
             clear hr
             simp only [slipG, *, Bool.true_and, Bool.and_true, Bool.false_and, Bool.and_false, Bool.true_or, Bool.or_true, Bool.false_or, Bool.or_false, Bool.not_true, Bool.not_false]
             done
           · repeat refine And.intro rfl ?_
             refine ⟨_, _, _, ⟨i + 1, rfl, hlt, hq, rfl, rfl⟩, by omega, rfl, rfl, ?_, ?_, ?_⟩
             all_goals (repeat' first | exact rfl | exact trivial | exact nd (wrap_succ hlt hs) | refine And.intro ?_ ?_))
    · refine bd ?_
      rw [hr, all_end (ge_map g1)]
theorem i_GateWorldOk (L : GateLaw) (w : GateWorld) : Spec P 19 [st L.e, st w.e] (.d (.bool (worldOk L w))) := by
  refine Spec.of_vc vcT vcM [.tmp 4] Tryz.func19 rfl rfl rfl rfl (fun hok => ?_)
  have hs := (ok_world hok.2).2
  repeat' first
    | refine And.intro rfl ?_
    | refine And.intro (fun h => nomatch (show true = false from h)) (fun h => ?_)
    | refine And.intro (fun h => nomatch (show false = true from h)) (fun h => ?_)
    | refine And.intro (fun h => ?_) (fun h => nomatch (show true = false from h))
    | refine And.intro (fun h => ?_) (fun h => nomatch (show false = true from h))
    | refine And.intro (fun h => ?_) (fun h => ?_)
    | refine Or.inl (Exists.intro _ (And.intro (i_GateBookOk L w.book) ?_))
  all_goals first
    | (refine bd ?_
       first
         | (simp only [List.length_map, cond_false, cond_true, Bool.not_eq_true', Bool.not_eq_false', reduceCtorEq] at *; done)
         | (simp only [List.length_map, cond_false, cond_true, Bool.not_eq_true', Bool.not_eq_false', reduceCtorEq] at *
            simp only [worldOk, *, Bool.true_and, Bool.and_true, Bool.false_and, Bool.and_false, Bool.true_or, Bool.or_true, Bool.false_or, Bool.or_false, Bool.not_true, Bool.not_false]
            done)
         | (simp only [worldOk, *, Bool.true_and, Bool.and_true, Bool.false_and, Bool.and_false, Bool.true_or, Bool.or_true, Bool.false_or, Bool.or_false, Bool.not_true, Bool.not_false]
            done))
    | skip
  have hq : worldOk L w = chainK (doorG L w) none w.doors := by
    simp only [List.length_map, cond_false, cond_true, Bool.not_eq_true', Bool.not_eq_false', reduceCtorEq] at *
    simp only [worldOk, *, Bool.true_and, Bool.and_true, Bool.false_and, Bool.and_false, Bool.true_or, Bool.or_true, Bool.false_or, Bool.or_false, Bool.not_true, Bool.not_false]
  rw [hq]
  clear hq
  repeat refine And.intro rfl ?_
  refine ⟨fun m l h => ∃ (i : Nat) , m = w.doors.length - i ∧ i ≤ w.doors.length ∧ (chainK (doorG L w) none w.doors = chainK (doorG L w) (prevO w.doors i) (w.doors.drop i)) ∧ l = [(2, .ptr 0 0), (3, .ptr 1 0), (19, .d (lGateDoor w.doors)), (20, .d (.int .i64 (w.doors.map GateDoor.e).length)), (21, .d (.int .i64 i))] ∧ h = ⟨[(1, .cells 64 (w.e.map .d)), (0, .cells 43 (L.e.map .d))], 2, 0⟩,
    ⟨_, _, _, ⟨0, rfl, Nat.zero_le _, rfl, rfl, rfl⟩, rfl, rfl, ⟨rfl, rfl, rfl, rfl, rfl, trivial⟩, (by repeat' first|exact rfl|exact trivial|refine And.intro ?_ ?_), (by repeat' first|exact rfl|exact trivial|refine And.intro ?_ ?_)⟩, ?_⟩
  rintro m l hh ⟨i, rfl, hi, hr, rfl, rfl⟩
  repeat refine And.intro rfl ?_
  refine And.intro (fun g1 => ?_) (fun g1 => ?_)
  · have hlt : i < w.doors.length := lt_map g1
    rw [chain_step hlt] at hr
    repeat' first
      | refine And.intro rfl ?_
      | refine And.intro (fun h => nomatch (show true = false from h)) (fun h => ?_)
      | refine And.intro (fun h => nomatch (show false = true from h)) (fun h => ?_)
      | refine And.intro (fun h => ?_) (fun h => nomatch (show true = false from h))
      | refine And.intro (fun h => ?_) (fun h => nomatch (show false = true from h))
      | refine And.intro (fun h => ?_) (fun h => ?_)
      | refine Or.inl (Exists.intro _ (And.intro (i_doorOk L _ w.book.now) ?_))
      | refine ix_at (e := GateDoor.e) (xs := w.doors) hlt rfl ?_
      | refine And.intro (by kernel_rfl) ?_
      | refine ix_atw (e := GateDoor.e) (xs := w.doors) (k := i - 1) (by omega) (wrap_pred (gt0 (by assumption)) hlt hs) rfl ?_
    all_goals (first | rw [prevO_some (gt0 (by assumption)) hlt] at hr | rw [prevO_none (le0 (by assumption))] at hr | skip)
    all_goals (simp only [Bool.not_true, List.length_map, cond_false, cond_true, Bool.not_eq_true', Bool.not_eq_false', reduceCtorEq] at *)
    all_goals first
      | (refine bd ?_
         rw [hr]
         clear hr
         simp only [doorG, prevD, *, Bool.true_and, Bool.and_true, Bool.false_and, Bool.and_false, Bool.true_or, Bool.or_true, Bool.false_or, Bool.or_false, Bool.not_true, Bool.not_false]
         done)
      | (refine (fun hq : chainK (doorG L w) none w.doors = chainK (doorG L w) (prevO w.doors (i + 1)) (w.doors.drop (i + 1)) => ?_) ?_
         rotate_left
         · rw [hr]
           clear hr
           simp only [doorG, prevD, *, Bool.true_and, Bool.and_true, Bool.false_and, Bool.and_false, Bool.true_or, Bool.or_true, Bool.false_or, Bool.or_false, Bool.not_true, Bool.not_false]
           done
         · repeat refine And.intro rfl ?_
           refine ⟨_, _, _, ⟨i + 1, rfl, hlt, hq, rfl, rfl⟩, by omega, rfl, rfl, ?_, ?_, ?_⟩
           all_goals (repeat' first | exact rfl | exact trivial | exact nd (wrap_succ hlt hs) | refine And.intro ?_ ?_))
  · refine bd ?_
    rw [hr, chain_end (ge_map g1)]
theorem s_GateWorldOk (L : GateLaw) (w : GateWorld) : Spec P 17 [st L.e, st w.e] (.d (.bool (worldOk L w))) := by
  refine Spec.of_vc vcT vcM [.tmp 4] Tryz.func17 rfl rfl rfl rfl (fun hok => ?_)
  have hs := (ok_world hok.2).2
  repeat' first
    | refine And.intro rfl ?_
    | refine And.intro (fun h => nomatch (show true = false from h)) (fun h => ?_)
    | refine And.intro (fun h => nomatch (show false = true from h)) (fun h => ?_)
    | refine And.intro (fun h => ?_) (fun h => nomatch (show true = false from h))
    | refine And.intro (fun h => ?_) (fun h => nomatch (show false = true from h))
    | refine And.intro (fun h => ?_) (fun h => ?_)
    | refine Or.inl (Exists.intro _ (And.intro (s_GateBookOk L w.book) ?_))
  all_goals first
    | (refine bd ?_
       first
         | (simp only [List.length_map, cond_false, cond_true, Bool.not_eq_true', Bool.not_eq_false', reduceCtorEq] at *; done)
         | (simp only [List.length_map, cond_false, cond_true, Bool.not_eq_true', Bool.not_eq_false', reduceCtorEq] at *
            simp only [worldOk, *, Bool.true_and, Bool.and_true, Bool.false_and, Bool.and_false, Bool.true_or, Bool.or_true, Bool.false_or, Bool.or_false, Bool.not_true, Bool.not_false]
            done)
         | (simp only [worldOk, *, Bool.true_and, Bool.and_true, Bool.false_and, Bool.and_false, Bool.true_or, Bool.or_true, Bool.false_or, Bool.or_false, Bool.not_true, Bool.not_false]
            done))
    | skip
  have hq : worldOk L w = chainK (doorG L w) none w.doors := by
    simp only [List.length_map, cond_false, cond_true, Bool.not_eq_true', Bool.not_eq_false', reduceCtorEq] at *
    simp only [worldOk, *, Bool.true_and, Bool.and_true, Bool.false_and, Bool.and_false, Bool.true_or, Bool.or_true, Bool.false_or, Bool.or_false, Bool.not_true, Bool.not_false]
  rw [hq]
  clear hq
  repeat refine And.intro rfl ?_
  refine ⟨fun m l h => ∃ (i : Nat) , m = w.doors.length - i ∧ i ≤ w.doors.length ∧ (chainK (doorG L w) none w.doors = chainK (doorG L w) (prevO w.doors i) (w.doors.drop i)) ∧ l = [(2, .ptr 0 0), (3, .ptr 1 0), (5, .d (.int .i64 i))] ∧ h = ⟨[(1, .cells 64 (w.e.map .d)), (0, .cells 43 (L.e.map .d))], 2, 0⟩,
    ⟨_, _, _, ⟨0, rfl, Nat.zero_le _, rfl, rfl, rfl⟩, rfl, rfl, ⟨rfl, rfl, rfl, trivial⟩, (by repeat' first|exact rfl|exact trivial|refine And.intro ?_ ?_), (by repeat' first|exact rfl|exact trivial|refine And.intro ?_ ?_)⟩, ?_⟩
  rintro m l hh ⟨i, rfl, hi, hr, rfl, rfl⟩
  repeat refine And.intro rfl ?_
  refine And.intro (fun g1 => ?_) (fun g1 => ?_)
  · have hlt : i < w.doors.length := lt_map g1
    rw [chain_step hlt] at hr
    repeat' first
      | refine And.intro rfl ?_
      | refine And.intro (fun h => nomatch (show true = false from h)) (fun h => ?_)
      | refine And.intro (fun h => nomatch (show false = true from h)) (fun h => ?_)
      | refine And.intro (fun h => ?_) (fun h => nomatch (show true = false from h))
      | refine And.intro (fun h => ?_) (fun h => nomatch (show false = true from h))
      | refine And.intro (fun h => ?_) (fun h => ?_)
      | refine Or.inl (Exists.intro _ (And.intro (s_l10DoorOk L w _) ?_))
      | refine ix_at (e := GateDoor.e) (xs := w.doors) hlt rfl ?_
      | refine And.intro (by kernel_rfl) ?_
      | refine ix_atw (e := GateDoor.e) (xs := w.doors) (k := i - 1) (by omega) (wrap_pred (gt0 (by assumption)) hlt hs) rfl ?_
    all_goals (first | rw [prevO_some (gt0 (by assumption)) hlt] at hr | rw [prevO_none (le0 (by assumption))] at hr | skip)
    all_goals (simp only [Bool.not_true, List.length_map, cond_false, cond_true, Bool.not_eq_true', Bool.not_eq_false', reduceCtorEq] at *)
    all_goals first
      | (refine bd ?_
         rw [hr]
         clear hr
         simp only [doorG, prevD, *, Bool.true_and, Bool.and_true, Bool.false_and, Bool.and_false, Bool.true_or, Bool.or_true, Bool.false_or, Bool.or_false, Bool.not_true, Bool.not_false]
         done)
      | (refine (fun hq : chainK (doorG L w) none w.doors = chainK (doorG L w) (prevO w.doors (i + 1)) (w.doors.drop (i + 1)) => ?_) ?_
         rotate_left
         · rw [hr]
           clear hr
           simp only [doorG, prevD, *, Bool.true_and, Bool.and_true, Bool.false_and, Bool.and_false, Bool.true_or, Bool.or_true, Bool.false_or, Bool.or_false, Bool.not_true, Bool.not_false]
           done
         · repeat refine And.intro rfl ?_
           refine ⟨_, _, _, ⟨i + 1, rfl, hlt, hq, rfl, rfl⟩, by omega, rfl, rfl, ?_, ?_, ?_⟩
           all_goals (repeat' first | exact rfl | exact trivial | exact nd (wrap_succ hlt hs) | refine And.intro ?_ ?_))
  · refine bd ?_
    rw [hr, chain_end (ge_map g1)]
end Go.Vc
end
