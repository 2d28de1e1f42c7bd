/- Parts of the proof of a statement of this seat: contracts of functions that the law calls, or the law's own row; no condition. -/
import Derived.Test.YtldpdjpchcoigaaGreatC
import Derived.Test.YtldpdjpchcoigaaGreatAbVec
import Derived.Test.YtldpdjpchcoigaaGreatAbBase
import Derived.Test.YtldpdjpchcoigaaGreatAbOps
import Derived.Test.YtldpdjpchcoigaaGreatAbTr
import Derived.Test.YtldpdjpchcoigaaGreatAbEff
import Derived.Test.YtldpdjpchcoigaaGreatAbCode
import Derived.Test.YtldpdjpchcoigaaGreatAbDraw
import Derived.Test.YtldpdjpchcoigaaGreatAbFun
import Derived.Test.YtldpdjpchcoigaaGreatAbUse
import Derived.Test.YtldpdjpchcoigaaGreatAbStep
import Derived.Test.YtldpdjpchcoigaaGreatAbMore
import Derived.Test.YtldpdjpchcoigaaGreatAbArg
/- Slices of ints: round 1's contracts, for this seat; no condition beyond stated lengths. -/
namespace Go.Proofs.YtldpdjpchcoigaaGreat.Ints
open Go.Ab
set_option linter.unusedSimpArgs false
set_option linter.unusedVariables false

abbrev vi (n : Int) : Value := .int .i64 n
abbrev fil : Value := .int .i64 (-7000000000000000101)
def roomN (n : Nat) : Nat := if n % 6 = 5 then 0 else if n % 3 = 0 then 1 else n
def laid (l : List Int) : List Value := l.map vi ++ List.replicate (roomN l.length) fil
theorem roomN_le (n : Nat) : roomN n ≤ n + 1 := by
  unfold roomN
  split
  · omega
  · split <;> omega
theorem laid_length (l : List Int) : (laid l).length = l.length + roomN l.length := by simp [laid]

theorem roomBehind_ok (lim n : Nat) (H : AHeap) : ACalls Tryz.prog lim n_laws_roomBehind [.int .i64 n] H fun v H' => v = .int .i64 (roomN n) ∧ H' = H := by
  refine is_laws_roomBehind.go rfl ?_
  unfold c_laws_roomBehind
  refine s_reg ?_
  simp only [o_pure, o_nil, POp.ev, Opd.ev, env0, gu, setD, List.set, Option.some.injEq, exists_eq_left']
  refine s_test ?_
  have e6 : ¬ (6 : Int) = 0 := by decide
  have e3 : ¬ (3 : Int) = 0 := by decide
  have t6 : (n : Int).tmod 6 = ((n % 6 : Nat) : Int) := rfl
  have t3 : (n : Int).tmod 3 = ((n % 3 : Nat) : Int) := rfl
  simp only [o_pure, o_nil, POp.ev, Opd.ev, gv, setD, Option.some.injEq, exists_eq_left', binV, ne_eq, not_true_eq_false, if_false, if_neg e6, t6]
  refine Test.split (fun h => ?_) (fun h => ?_)
  · refine s_reg ?_
    simp only [o_pure, o_nil, POp.ev, Opd.ev, setD, List.set, Option.some.injEq, exists_eq_left']
    refine s_ret1 ?_
    simp +decide only [p_seq_ret, p_fin_ret, resV, resOne, gv, Option.some.injEq, exists_eq_left']
    have : roomN n = 0 := by unfold roomN; rw [if_pos]; simp at h; omega
    simp [this]
  · refine s_skip1 ?_
    simp +decide only [p_seq_normal]
    refine s_test ?_
    simp only [o_pure, o_nil, POp.ev, Opd.ev, gv, setD, Option.some.injEq, exists_eq_left', binV, ne_eq, not_true_eq_false, if_false, if_neg e3, t3]
    refine Test.split (fun h2 => ?_) (fun h2 => ?_)
    · refine s_reg ?_
      simp only [o_pure, o_nil, POp.ev, Opd.ev, setD, List.set, Option.some.injEq, exists_eq_left']
      refine s_ret1 ?_
      simp +decide only [p_seq_ret, p_fin_ret, resV, resOne, gv, Option.some.injEq, exists_eq_left']
      have : roomN n = 1 := by unfold roomN; rw [if_neg, if_pos]; simp at h2; omega; simp at h; omega
      simp [this]
    · refine s_skip1 ?_
      simp +decide only [p_seq_normal]
      refine s_reg ?_
      simp only [o_pure, o_nil, POp.ev, Opd.ev, gv, setD, List.set, Option.some.injEq, exists_eq_left']
      refine s_ret1 ?_
      simp +decide only [p_fin_ret, resV, resOne, gv, Option.some.injEq, exists_eq_left']
      have : roomN n = n := by unfold roomN; rw [if_neg, if_neg]; simp at h2; omega; simp at h; omega
      simp [this]

theorem toIntS_ok (lim : Nat) (s : Value) (l : List Int) (bare : Bool) (H : AHeap) (hl : lim ≤ H.next) (hs : Sl H s l.length 1 (l.map vi)) (hn : l.length ≤ 1000000) :
    ACalls Tryz.prog lim n_laws_toIntS [s, .bool bare] H fun v H' => if bare = true ∧ l.length = 0 then v = .slice none 0 0 ∧ H' = H else v = .slice (some ⟨H.next, 0, some 0⟩) l.length (l.length + roomN l.length) ∧ H' = H.alloc (laid l) := by
  refine is_laws_toIntS.go rfl ?_
  unfold c_laws_toIntS
  refine s_reg ?_
  simp only [o_pure, o_nil, POp.ev, Opd.ev, env0, gu, setD, List.set, Option.some.injEq, exists_eq_left']
  have hR := roomN_le l.length
  refine s_test_cut (decide (bare = true ∧ l.length = 0)) [s, .bool bare, .slice none 0 0, undef, undef, undef] H ?_ (fun h => ?_) (fun h => ?_)
  · cases bare
    · simp only [o_pure, o_guard, gk_ft, o_nil, POp.ev, Opd.ev, gv, setD, Option.some.injEq, exists_eq_left', pickV, Bool.false_eq_true]
      simp
    · simp only [o_pure, o_guard, gk_tt, o_nil, POp.ev, Opd.ev, gv, setD, Option.some.injEq, exists_eq_left', pickV, binV, ne_eq, not_true_eq_false, if_false, hs.lenV]
      simp [nat_eq0]
  · refine s_reg ?_
    simp only [o_pure, o_nil, POp.ev, Opd.ev, setD, List.set, Option.some.injEq, exists_eq_left']
    refine s_ret1 ?_
    simp +decide only [p_seq_ret, p_fin_ret, resV, resOne, gv, Option.some.injEq, exists_eq_left']
    simp only [decide_eq_true_eq] at h
    simp [h]
  · simp only [decide_eq_false_iff_not] at h
    refine s_skip1 ?_
    simp +decide only [p_seq_normal]
    refine s_reg ?_
    simp only [o_pure, o_callF, POp.ev, Opd.ev, gv, setD, List.map, Option.some.injEq, exists_eq_left', hs.lenV]
    refine (roomBehind_ok _ _ _).mono ?_
    rintro v H1 ⟨rfl, rfl⟩
    have w1 := addN (i := l.length) (j := roomN l.length) (by omega)
    simp only [o_cont, o_pure, o_eff, o_nil, POp.ev, Opd.ev, EOp.ev, gv, setD, List.set, Option.some.injEq, exists_eq_left', binV, ne_eq, not_true_eq_false, if_false, w1, mkslice_int 8 (l.length + roomN l.length) (l.length + roomN l.length) [.int .i64 0] (Nat.le_refl _) (by omega) (by omega)]
    have hlaid := laid_length l
    have hlg : ∀ i, i < l.length → (laid l)[i]? = (l.map vi)[i]? := fun i hi => List.getElem?_append_left (by simpa using hi)
    have hlg2 : ∀ i, l.length ≤ i → i < l.length + roomN l.length → (laid l)[i]? = some fil := fun i hi hj => by
      unfold laid
      rw [List.getElem?_append_right (by simpa using hi), List.getElem?_replicate, if_pos (by simp; omega)]
    refine s_assoc (s_reg ?_)
    simp only [o_pure, o_nil, POp.ev, Opd.ev, setD, List.set, Option.some.injEq, exists_eq_left', zerosL_one]
    refine s_block ?_
    refine s_loop1 (fun k e' H' => ∃ i, i + k = l.length ∧ H' = H1.alloc ((laid l).take i ++ List.replicate (l.length + roomN l.length - i) (vi 0)) ∧ e' = [s, .bool bare, .slice none 0 0, .slice (some ⟨H1.next, 0, some 0⟩) (l.length + roomN l.length) (l.length + roomN l.length), .int .i64 i, undef]) l.length ⟨0, by omega, by simp, rfl⟩ ?_
    rintro k e' H' ⟨i, hik, rfl, rfl⟩
    refine s_test ?_
    simp only [o_pure, o_nil, POp.ev, Opd.ev, gv, setD, Option.some.injEq, exists_eq_left', binV, ne_eq, not_true_eq_false, if_false, hs.lenV]
    refine Test.split (fun hlt => ?_) (fun hlt => ?_)
    · have hlt' : i < l.length := by simpa using hlt
      refine s_skip1 ?_
      simp +decide only [p_seq_normal]
      refine s_block ?_
      refine s_reg1 ?_
      obtain ⟨bb, o, h1, h2, h3⟩ := hs.cell .i64 (i := i) (by omega) (by omega)
      have h3' : (H1.alloc ((laid l).take i ++ List.replicate (l.length + roomN l.length - i) (vi 0))).cell bb o = some (.int .i64 l[i]) := by
        unfold AHeap.cell
        rw [alloc_old _ _ h2]
        exact h3.trans (by simp [hlt'])
      simp only [o_pure, o_eff, o_nil, POp.ev, Opd.ev, EOp.ev, gv, setD, Option.some.injEq, exists_eq_left', load1V, h1, h3', iad_cell .i64 (show i < l.length + roomN l.length by omega), store_int (o := i) (H := H1.alloc ((laid l).take i ++ List.replicate (l.length + roomN l.length - i) (vi 0))) (lim := lim) .i64 l[i] hl (alloc_new _ _) (show i < _ by simp; omega), alloc_put, Nat.zero_add]
      rw [fill_set (by rw [hlg i hlt']; simp [hlt']) hlaid]
      simp +decide only [p_seq_normal, p_block_normal]
      refine s_reg1 ?_
      simp only [o_pure, o_nil, POp.ev, Opd.ev, gv, setD, List.set, Option.some.injEq, exists_eq_left', binV, ne_eq, not_true_eq_false, if_false, add1 (i := i) (by omega)]
      simp +decide only [p_seq_normal]
      exact Round.mk (k - 1) (by omega) ⟨i + 1, by omega, rfl, rfl⟩
    · have hge : i = l.length := by simp at hlt; omega
      subst hge
      refine s_exit1 ?_
      simp +decide only [p_seq_normal, p_seq_exit, p_block_exit, reduceIte]
      refine s_assoc (s_reg ?_)
      simp only [o_pure, o_nil, POp.ev, Opd.ev, gv, setD, List.set, Option.some.injEq, exists_eq_left', hs.lenV]
      refine s_block ?_
      refine s_loop1 (fun k e' H' => ∃ i, l.length ≤ i ∧ i + k = l.length + roomN l.length ∧ H' = H1.alloc ((laid l).take i ++ List.replicate (l.length + roomN l.length - i) (vi 0)) ∧ e' = [s, .bool bare, .slice none 0 0, .slice (some ⟨H1.next, 0, some 0⟩) (l.length + roomN l.length) (l.length + roomN l.length), .int .i64 l.length, .int .i64 i]) (roomN l.length) ⟨l.length, by omega, by omega, rfl, rfl⟩ ?_
      rintro k e' H' ⟨i, hli, hik, rfl, rfl⟩
      refine s_test ?_
      simp only [o_pure, o_nil, POp.ev, Opd.ev, gv, setD, Option.some.injEq, exists_eq_left', binV, ne_eq, not_true_eq_false, if_false, lenV]
      refine Test.split (fun hlt => ?_) (fun hlt => ?_)
      · have hlt' : i < l.length + roomN l.length := by simp at hlt; omega
        refine s_skip1 ?_
        simp +decide only [p_seq_normal]
        refine s_block ?_
        refine s_reg1 ?_
        simp only [o_pure, o_eff, o_nil, POp.ev, Opd.ev, EOp.ev, gv, setD, Option.some.injEq, exists_eq_left', iad_cell .i64 hlt', store_int (o := i) (H := H1.alloc ((laid l).take i ++ List.replicate (l.length + roomN l.length - i) (vi 0))) (lim := lim) .i64 (-7000000000000000101) hl (alloc_new _ _) (show i < _ by simp; omega), alloc_put, Nat.zero_add]
        rw [fill_set (hlg2 i hli hlt') hlaid]
        simp +decide only [p_seq_normal, p_block_normal]
        refine s_reg1 ?_
        simp only [o_pure, o_nil, POp.ev, Opd.ev, gv, setD, List.set, Option.some.injEq, exists_eq_left', binV, ne_eq, not_true_eq_false, if_false, add1 (i := i) (by omega)]
        simp +decide only [p_seq_normal]
        exact Round.mk (k - 1) (by omega) ⟨i + 1, by omega, by omega, rfl, rfl⟩
      · have hge : i = l.length + roomN l.length := by simp at hlt; omega
        subst hge
        refine s_exit1 ?_
        simp +decide only [p_seq_normal, p_seq_exit, p_block_exit, reduceIte]
        refine s_reg ?_
        simp only [o_pure, o_nil, POp.ev, Opd.ev, gv, setD, List.set, Option.map_none, Option.map_some, Option.some.injEq, exists_eq_left', hs.lenV, slc_to .i64 (Nat.le_add_right l.length (roomN l.length)), fill_all hlaid]
        refine s_ret1 ?_
        simp +decide only [p_fin_ret, resV, resOne, gv, Option.some.injEq, exists_eq_left']
        rw [if_neg h]
        trivial

/-- a slice of ints that reads as this list -/
abbrev SlI (H : AHeap) (s : Value) (l : List Int) : Prop := Sl H s l.length 1 (l.map vi)
theorem SlI.get {H : AHeap} {s : Value} {l : List Int} (h : SlI H s l) {i : Nat} (hi : i < l.length) : ∃ b o, iadV 1 s (.int .i64 i) = some (.pointer (some ⟨b, o, none⟩)) ∧ b < H.next ∧ H.cell b o = some (.int .i64 l[i]) := by
  obtain ⟨b, o, h1, h2, h3⟩ := h.cell .i64 (i := i) (by omega) (by omega)
  exact ⟨b, o, h1, h2, h3.trans (by simp [hi])⟩
theorem SlI.slc {H : AHeap} {s : Value} {l : List Int} (h : SlI H s l) {lo hi : Option Value} {i j : Nat} (hij : i ≤ j) (hj : j ≤ l.length)
    (hlo : lo = none ∧ i = 0 ∨ ∃ k, lo = some (.int k i)) (hhi : hi = none ∧ j = l.length ∨ ∃ k, hi = some (.int k j)) : ∃ v, slcV 1 s lo hi none = some v ∧ SlI H v ((l.drop i).take (j - i)) := by
  obtain ⟨v, h1, h2⟩ := Sl.slc h hij hj hlo hhi
  refine ⟨v, h1, ?_⟩
  have e : ((l.drop i).take (j - i)).length = j - i := by simp; omega
  unfold SlI
  rw [e]
  simpa [List.map_take, List.map_drop] using h2

theorem l1In_ok (lim : Nat) (a b c : Int) (H : AHeap) : ACalls Tryz.prog lim n_spec_l1In [.int .i64 a, .int .i64 b, .int .i64 c] H fun v H' => v = .bool (decide (b ≤ a) && decide (a ≤ c)) ∧ H' = H := by
  refine is_spec_l1In.go rfl ?_
  unfold c_spec_l1In
  refine s_reg ?_
  simp only [o_pure, o_nil, POp.ev, Opd.ev, env0, gu, setD, List.set, Option.some.injEq, exists_eq_left']
  refine s_reg ?_
  by_cases h : a ≥ b
  · simp only [o_pure, o_guard, gk_tt, o_nil, POp.ev, Opd.ev, gv, setD, List.set, Option.some.injEq, exists_eq_left', pickV, binV, ne_eq, not_true_eq_false, if_false, decide_eq_true h]
    refine s_ret1 ?_
    simp +decide only [p_fin_ret, resV, resOne, gv, Option.some.injEq, exists_eq_left']
    simp [h]
  · simp only [o_pure, o_guard, gk_ft, o_nil, POp.ev, Opd.ev, gv, setD, List.set, Option.some.injEq, exists_eq_left', pickV, binV, ne_eq, not_true_eq_false, if_false, decide_eq_false h]
    refine s_ret1 ?_
    simp +decide only [p_fin_ret, resV, resOne, gv, Option.some.injEq, exists_eq_left']
    simp
theorem inside_ok (lim : Nat) (a b c : Int) (H : AHeap) : ACalls Tryz.prog lim n_impl_inside [.int .i64 a, .int .i64 b, .int .i64 c] H fun v H' => v = .bool (decide (b ≤ a) && decide (a ≤ c)) ∧ H' = H := by
  refine is_impl_inside.go rfl ?_
  unfold c_impl_inside
  refine s_reg ?_
  simp only [o_pure, o_nil, POp.ev, Opd.ev, env0, gu, setD, List.set, Option.some.injEq, exists_eq_left']
  refine s_reg ?_
  by_cases h : a ≥ b
  · simp only [o_pure, o_guard, gk_tt, o_nil, POp.ev, Opd.ev, gv, setD, List.set, Option.some.injEq, exists_eq_left', pickV, binV, ne_eq, not_true_eq_false, if_false, decide_eq_true h]
    refine s_ret1 ?_
    simp +decide only [p_fin_ret, resV, resOne, gv, Option.some.injEq, exists_eq_left']
    simp [h]
  · simp only [o_pure, o_guard, gk_ft, o_nil, POp.ev, Opd.ev, gv, setD, List.set, Option.some.injEq, exists_eq_left', pickV, binV, ne_eq, not_true_eq_false, if_false, decide_eq_false h]
    refine s_ret1 ?_
    simp +decide only [p_fin_ret, resV, resOne, gv, Option.some.injEq, exists_eq_left']
    simp

theorem l1All_ok (lim : Nat) (s : Value) (l : List Int) (a b : Int) (H : AHeap) (hs : SlI H s l) (hn : l.length ≤ 1000000000) :
    ACalls Tryz.prog lim n_spec_l1All [s, .int .i64 a, .int .i64 b] H fun v H' => v = .bool (l.all fun x => decide (a ≤ x) && decide (x ≤ b)) ∧ H' = H := by
  refine is_spec_l1All.go rfl ?_
  unfold c_spec_l1All
  refine s_reg ?_
  simp only [o_pure, o_nil, POp.ev, Opd.ev, env0, gu, setD, List.set, Option.some.injEq, exists_eq_left']
  refine s_assoc (s_reg ?_)
  simp only [o_pure, o_nil, POp.ev, Opd.ev, gv, setD, List.set, Option.some.injEq, exists_eq_left', hs.lenV]
  refine s_block ?_
  refine s_loop1 (fun k e' H' => H' = H ∧ ∃ (i : Nat) (x : Value), i + k = l.length ∧ (l.all fun x => decide (a ≤ x) && decide (x ≤ b)) = ((l.drop i).all fun x => decide (a ≤ x) && decide (x ≤ b)) ∧ e' = [s, .int .i64 a, .int .i64 b, .bool false, x, s, .int .i64 l.length, .int .i64 i]) l.length ⟨rfl, 0, _, by omega, by simp, rfl⟩ ?_
  rintro k e' H' ⟨rfl, i, x, hik, hall, rfl⟩
  refine s_test ?_
  simp only [o_pure, o_nil, POp.ev, Opd.ev, gv, setD, Option.some.injEq, exists_eq_left', binV, ne_eq, not_true_eq_false, if_false]
  refine Test.split (fun hlt => ?_) (fun hlt => ?_)
  · have hlt' : i < l.length := by simpa using hlt
    rw [List.drop_eq_getElem_cons hlt'] at hall
    refine s_skip1 ?_
    simp +decide only [p_seq_normal]
    refine s_block ?_
    refine s_reg ?_
    obtain ⟨bb, o, h1, h2, h3⟩ := hs.get hlt'
    simp only [o_pure, o_nil, POp.ev, Opd.ev, gv, setD, List.set, Option.some.injEq, exists_eq_left', load1V, h1, h3]
    refine s_test1 ?_
    simp only [o_pure, o_callF, POp.ev, Opd.ev, gv, setD, List.map, Option.some.injEq, exists_eq_left']
    refine (l1In_ok _ _ _ _ _).mono ?_
    rintro v H1 ⟨rfl, rfl⟩
    simp only [o_cont, o_pure, o_nil, POp.ev, Opd.ev, gv, setD, Option.some.injEq, exists_eq_left', unV]
    refine Test.split (fun hv => ?_) (fun hv => ?_)
    · refine s_reg ?_
      simp only [o_pure, o_nil, POp.ev, Opd.ev, setD, List.set, Option.some.injEq, exists_eq_left']
      refine s_ret1 ?_
      simp +decide only [p_seq_ret, p_block_ret, p_fin_ret, resV, resOne, gv, Option.some.injEq, exists_eq_left']
      simp only [Bool.not_eq_true'] at hv
      rw [hall, List.all_cons, hv, Bool.false_and]
      simp
    · refine s_skip1 ?_
      simp +decide only [p_seq_normal, p_block_normal]
      refine s_reg1 ?_
      simp only [o_pure, o_nil, POp.ev, Opd.ev, gv, setD, List.set, Option.some.injEq, exists_eq_left', binV, ne_eq, not_true_eq_false, if_false, add1 (i := i) (by omega)]
      simp +decide only [p_seq_normal]
      simp only [Bool.not_eq_false'] at hv
      rw [List.all_cons, hv, Bool.true_and] at hall
      exact Round.mk (k - 1) (by omega) ⟨rfl, i + 1, _, by omega, hall, rfl⟩
  · refine s_exit1 ?_
    simp +decide only [p_seq_normal, p_seq_exit, p_block_exit, reduceIte]
    have hge : l.length ≤ i := by simp at hlt; omega
    rw [List.drop_of_length_le hge] at hall
    refine s_reg ?_
    simp only [o_pure, o_nil, POp.ev, Opd.ev, setD, List.set, Option.some.injEq, exists_eq_left']
    refine s_ret1 ?_
    simp +decide only [p_fin_ret, resV, resOne, gv, Option.some.injEq, exists_eq_left']
    simp [hall]

theorem eqIntS_ok (lim : Nat) (s t : Value) (l m : List Int) (H : AHeap) (hs : SlI H s l) (ht : SlI H t m) (hn : l.length ≤ 1000000000) :
    ACalls Tryz.prog lim n_laws_eqIntS [s, t] H fun v H' => v = .bool (decide (l = m)) ∧ H' = H := by
  refine is_laws_eqIntS.go rfl ?_
  unfold c_laws_eqIntS
  refine s_reg ?_
  simp only [o_pure, o_nil, POp.ev, Opd.ev, env0, gu, setD, List.set, Option.some.injEq, exists_eq_left']
  refine s_test ?_
  simp only [o_pure, o_nil, POp.ev, Opd.ev, gv, setD, Option.some.injEq, exists_eq_left', binV, ne_eq, not_true_eq_false, if_false, hs.lenV, ht.lenV]
  refine Test.split (fun h => ?_) (fun h => ?_)
  · refine s_reg ?_
    simp only [o_pure, o_nil, POp.ev, Opd.ev, setD, List.set, Option.some.injEq, exists_eq_left']
    refine s_ret1 ?_
    simp +decide only [p_seq_ret, p_fin_ret, resV, resOne, gv, Option.some.injEq, exists_eq_left']
    have : l ≠ m := by rintro rfl; simp at h
    simp [this]
  · have hlen : l.length = m.length := by simp at h; omega
    refine s_skip1 ?_
    simp +decide only [p_seq_normal]
    refine s_assoc (s_reg ?_)
    simp only [o_pure, o_nil, POp.ev, Opd.ev, setD, List.set, Option.some.injEq, exists_eq_left']
    refine s_block ?_
    refine s_loop1 (fun k e' H' => H' = H ∧ ∃ (i : Nat), i + k = l.length ∧ (decide (l = m)) = decide (l.drop i = m.drop i) ∧ e' = [s, t, .bool false, .int .i64 i]) l.length ⟨rfl, 0, by omega, by simp, rfl⟩ ?_
    rintro k e' H' ⟨rfl, i, hik, hall, rfl⟩
    refine s_test ?_
    simp only [o_pure, o_nil, POp.ev, Opd.ev, gv, setD, Option.some.injEq, exists_eq_left', binV, ne_eq, not_true_eq_false, if_false, hs.lenV]
    refine Test.split (fun hlt => ?_) (fun hlt => ?_)
    · have hlt' : i < l.length := by simpa using hlt
      have hlt2 : i < m.length := by omega
      rw [List.drop_eq_getElem_cons hlt', List.drop_eq_getElem_cons hlt2] at hall
      refine s_skip1 ?_
      simp +decide only [p_seq_normal]
      refine s_block ?_
      refine s_test1 ?_
      obtain ⟨bb, o, h1, h2, h3⟩ := hs.get hlt'
      obtain ⟨bb', o', h1', h2', h3'⟩ := ht.get hlt2
      simp only [o_pure, o_nil, POp.ev, Opd.ev, gv, setD, Option.some.injEq, exists_eq_left', binV, load1V, ne_eq, not_true_eq_false, if_false, h1, h3, h1', h3']
      refine Test.split (fun hv => ?_) (fun hv => ?_)
      · refine s_reg ?_
        simp only [o_pure, o_nil, POp.ev, Opd.ev, setD, List.set, Option.some.injEq, exists_eq_left']
        refine s_ret1 ?_
        simp +decide only [p_seq_ret, p_block_ret, p_fin_ret, resV, resOne, gv, Option.some.injEq, exists_eq_left']
        simp only [bne_iff_ne, ne_eq] at hv
        simp only [List.cons.injEq, hv, false_and, decide_false] at hall
        simp [hall]
      · refine s_skip1 ?_
        simp +decide only [p_seq_normal, p_block_normal]
        refine s_reg1 ?_
        simp only [o_pure, o_nil, POp.ev, Opd.ev, gv, setD, List.set, Option.some.injEq, exists_eq_left', binV, ne_eq, not_true_eq_false, if_false, add1 (i := i) (by omega)]
        simp +decide only [p_seq_normal]
        simp only [bne_eq_false_iff_eq] at hv
        exact Round.mk (k - 1) (by omega) ⟨rfl, i + 1, by omega, by rw [hall]; simp only [hv, List.cons.injEq, true_and], rfl⟩
    · refine s_exit1 ?_
      simp +decide only [p_seq_normal, p_seq_exit, p_block_exit, reduceIte]
      have hge : l.length ≤ i := by simp at hlt; omega
      rw [List.drop_of_length_le hge, List.drop_of_length_le (by omega)] at hall
      refine s_reg ?_
      simp only [o_pure, o_nil, POp.ev, Opd.ev, setD, List.set, Option.some.injEq, exists_eq_left']
      refine s_ret1 ?_
      simp +decide only [p_fin_ret, resV, resOne, gv, Option.some.injEq, exists_eq_left']
      simp only [decide_true] at hall
      simp [hall]

theorem laid_slc {H : AHeap} {b : Nat} {l : List Int} (h : H.blk b = some (laid l)) (hb : b < H.next) :
    SlI H (.slice (some ⟨b, 0, some 0⟩) (l.length + roomN l.length) (l.length + roomN l.length)) (l ++ List.replicate (roomN l.length) (-7000000000000000101)) := by
  refine ⟨by simp, _, _, by simp, Nat.le_refl _, (by intro h; cases h), (by intro ad h; cases h; exact ⟨.inl rfl, hb⟩), fun _ => ⟨b, 0, some 0, [], [], rfl, ?_, rfl⟩⟩
  rw [h]
  simp [laid]
theorem intactIntS_ok (lim : Nat) (b c : Nat) (l : List Int) (H : AHeap) (h1 : H.blk b = some (laid l)) (h2 : H.blk c = some (laid l)) (hb : b < H.next) (hc : c < H.next) (hn : l.length ≤ 1000000) :
    ACalls Tryz.prog lim n_laws_intactIntS [.slice (some ⟨b, 0, some 0⟩) l.length (l.length + roomN l.length), .slice (some ⟨c, 0, some 0⟩) l.length (l.length + roomN l.length)] H fun v H' => v = .bool true ∧ H' = H := by
  refine is_laws_intactIntS.go rfl ?_
  unfold c_laws_intactIntS
  have hR := roomN_le l.length
  refine s_reg ?_
  simp only [o_pure, o_nil, POp.ev, Opd.ev, env0, gu, setD, List.set, Option.some.injEq, exists_eq_left']
  refine s_reg ?_
  simp only [o_pure, o_callF, POp.ev, Opd.ev, gv, setD, List.map, Option.some.injEq, exists_eq_left', lenV]
  refine (roomBehind_ok _ _ _).mono ?_
  rintro v H1 ⟨rfl, rfl⟩
  simp only [o_cont, o_pure, o_nil, POp.ev, Opd.ev, gv, setD, List.set, Option.some.injEq, exists_eq_left', binV, ne_eq, not_true_eq_false, if_false, addN (i := l.length) (j := roomN l.length) (by omega)]
  refine s_reg ?_
  simp only [o_pure, o_callF, o_guard, gk_tt, POp.ev, Opd.ev, gv, setD, List.map, Option.map_none, Option.map_some, Option.some.injEq, exists_eq_left', binV, ne_eq, not_true_eq_false, if_false, beq_self_eq_true, lenV, slc_to .i64 (Nat.le_refl (l.length + roomN l.length))]
  refine (eqIntS_ok _ _ _ _ _ _ (laid_slc h1 hb) (laid_slc h2 hc) (by simp; omega)).mono ?_
  rintro v H1 ⟨rfl, rfl⟩
  simp only [o_cont, o_pure, o_nil, POp.ev, Opd.ev, gv, setD, List.set, Option.some.injEq, exists_eq_left', pickV]
  refine s_ret1 ?_
  simp +decide only [p_fin_ret, resV, resOne, gv, Option.some.injEq, exists_eq_left']
  simp

/-- the sign that is turned for every pair out of order -/
def inn (a s : Int) : List Int → Int
  | [] => s
  | b :: l => inn a (if a > b then -s else s) l
def sgn (s : Int) : List Int → Int
  | [] => s
  | a :: l => sgn (inn a s l) l
abbrev VecI (H : AHeap) (b : Nat) (v : Value) (l : List Int) : Prop := Vec H b v l.length 1 (l.map vi)

/-- so many numbers, one after another -/
def iota (k : Int) (n : Nat) : List Int := (List.range n).map fun (i : Nat) => k + (i : Int)
theorem iota_length (k : Int) (n : Nat) : (iota k n).length = n := by simp [iota]
theorem iota_get (k : Int) (n i : Nat) (h : i < n) : (iota k n)[i]? = some (k + (i : Int)) := by simp [iota, h]

theorem markIntS_ok (lim : Nat) (b : Nat) (s : Value) (l : List Int) (k : Int) (H : AHeap) (hl : lim ≤ b) (hs : VecI H b s l) (hn : l.length ≤ 1000000000) (h0 : 0 ≤ k) (hk : k ≤ 1000000000) :
    ACalls Tryz.prog lim n_laws_markIntS [s, .int .i64 k] H fun v H' => v = .int .i64 (k + l.length) ∧ VecI H' b s (iota k l.length) ∧ Chg b H H' ∧ H'.next = H.next := by
  refine is_laws_markIntS.go rfl ?_
  unfold c_laws_markIntS
  refine s_reg ?_
  simp only [o_pure, o_nil, POp.ev, Opd.ev, env0, gu, setD, List.set, Option.some.injEq, exists_eq_left']
  refine s_assoc (s_reg ?_)
  simp only [o_pure, o_nil, POp.ev, Opd.ev, setD, List.set, Option.some.injEq, exists_eq_left']
  refine s_block ?_
  refine s_loop1 (fun j e' H' => ∃ (i : Nat), i + j = l.length ∧ VecI H' b s ((iota k l.length).take i ++ l.drop i) ∧ Chg b H H' ∧ H'.next = H.next ∧ e' = [s, .int .i64 (k + i), .int .i64 0, .int .i64 i]) l.length ⟨0, by omega, by simpa using hs, Chg.refl _ _, rfl, by simp⟩ ?_
  rintro j e' H' ⟨i, hij, hv, hc, hnx, rfl⟩
  have hlen : ((iota k l.length).take i ++ l.drop i).length = l.length := by simp [iota_length]; omega
  refine s_test ?_
  simp only [o_pure, o_nil, POp.ev, Opd.ev, gv, setD, Option.some.injEq, exists_eq_left', binV, ne_eq, not_true_eq_false, if_false, hv.lenV, hlen]
  refine Test.split (fun hlt => ?_) (fun hlt => ?_)
  · have hlt' : i < l.length := by simpa using hlt
    refine s_skip1 ?_
    simp +decide only [p_seq_normal]
    refine s_block ?_
    obtain ⟨cs, h1, h2⟩ := hv.put1 (lim := lim) (i := i) hl (cells_int .i64 (k + i)) (by omega)
    have hset : ((iota k l.length).take i ++ l.drop i).set i (k + i) = (iota k l.length).take (i + 1) ++ l.drop (i + 1) := by
      have e0 : i - ((iota k l.length).take i).length = 0 := by simp [iota_length]; omega
      rw [List.set_append_right _ _ (by simp [iota_length]; omega), e0, List.drop_eq_getElem_cons hlt', List.set_cons_zero, List.take_add_one, iota_get k _ _ hlt']
      simp
    have hv2 : VecI (H'.put b cs) b s ((iota k l.length).take (i + 1) ++ l.drop (i + 1)) := by
      unfold VecI
      rw [← hset, List.length_set, List.map_set]
      exact h2
    have hw : IntKind.i64.wrap (k + i + 1) = k + ((i + 1 : Nat) : Int) := by rw [IntKind.wrap_i64]; omega
    refine s_reg ?_
    simp only [o_pure, o_eff, o_nil, POp.ev, Opd.ev, EOp.ev, gv, setD, Option.some.injEq, exists_eq_left', hv.iad .i64 (show i < _ by omega), Nat.mul_one, h1]
    refine s_reg1 ?_
    simp only [o_pure, o_nil, POp.ev, Opd.ev, gv, setD, List.set, Option.some.injEq, exists_eq_left', binV, ne_eq, not_true_eq_false, if_false, hw]
    simp +decide only [p_seq_normal, p_block_normal]
    refine s_reg1 ?_
    simp only [o_pure, o_nil, POp.ev, Opd.ev, gv, setD, List.set, Option.some.injEq, exists_eq_left', binV, ne_eq, not_true_eq_false, if_false, add1 (i := i) (by omega)]
    simp +decide only [p_seq_normal]
    exact Round.mk (j - 1) (by omega) ⟨i + 1, by omega, hv2, hc.trans (Chg.put _ _ _), hnx, rfl⟩
  · have hge : i = l.length := by simp at hlt; omega
    subst hge
    refine s_exit1 ?_
    simp +decide only [p_seq_normal, p_seq_exit, p_block_exit, reduceIte]
    refine s_reg ?_
    simp only [o_pure, o_nil, POp.ev, Opd.ev, gv, setD, List.set, Option.some.injEq, exists_eq_left']
    refine s_ret1 ?_
    simp +decide only [p_fin_ret, resV, resOne, gv, Option.some.injEq, exists_eq_left']
    refine ⟨trivial, ?_, hc, hnx⟩
    rw [List.drop_length, List.append_nil, List.take_of_length_le (by rw [iota_length]; exact Nat.le_refl _)] at hv
    exact hv

def Laid (H : AHeap) (b : Nat) (v : Value) (l : List Int) : Prop := v = .slice (some ⟨b, 0, some 0⟩) l.length (l.length + roomN l.length) ∧ b < H.next ∧ H.blk b = some (laid l)
theorem Laid.vec {H : AHeap} {b : Nat} {v : Value} {l : List Int} (h : Laid H b v l) : VecI H b v l := by
  obtain ⟨rfl, h1, h2⟩ := h
  exact .inr ⟨_, _, List.replicate (roomN l.length) fil, rfl, .inl rfl, h1, h2, by simp, by omega, by simp⟩
theorem Laid.ext {H H' : AHeap} {b : Nat} {v : Value} {l : List Int} (h : Laid H b v l) (hx : Ext H H') : Laid H' b v l := ⟨h.1, Nat.lt_of_lt_of_le h.2.1 hx.next, by rw [hx.blk _ h.2.1]; exact h.2.2⟩

def CopyI (H : AHeap) (b : Nat) (v : Value) (l : List Int) (bare : Bool) : Prop := (bare = true ∧ l = [] ∧ v = .slice none 0 0) ∨ Laid H b v l
theorem CopyI.ext {H H' : AHeap} {b : Nat} {v : Value} {l : List Int} {bare : Bool} (h : CopyI H b v l bare) (hx : Ext H H') : CopyI H' b v l bare := h.imp id fun h => h.ext hx
theorem CopyI.sl {H : AHeap} {b : Nat} {v : Value} {l : List Int} {bare : Bool} (h : CopyI H b v l bare) : SlI H v l := by
  rcases h with ⟨_, rfl, rfl⟩ | h
  · exact Sl.nil _ _
  · exact h.vec.sl
end Go.Proofs.YtldpdjpchcoigaaGreat.Ints

/- Boxes: round 1's contracts, for this seat; no condition beyond stated lengths. -/
namespace Go.Proofs.YtldpdjpchcoigaaGreat.Ints
open Go.Ab
set_option linter.unusedSimpArgs false
set_option linter.unusedVariables false
theorem clone_ok (lim : Nat) (s : Value) (l : List Int) (H : AHeap) (hl : lim ≤ H.next) (hs : SlI H s l) (hn : l.length ≤ 1000000000) :
    ACalls Tryz.prog lim n_slices_Clone_S_int_int [s] H fun v H' => ∃ b, H.next ≤ b ∧ (b < H'.next ∨ v = .slice none 0 0) ∧ VecI H' b v l ∧ Ext H H' := by
  refine is_slices_Clone_S_int_int.go rfl ?_
  unfold c_slices_Clone_S_int_int
  refine s_reg ?_
  simp only [o_pure, o_nil, POp.ev, Opd.ev, env0, gu, setD, List.set, Option.some.injEq, exists_eq_left']
  refine s_test ?_
  have hs2 := hs
  obtain ⟨_, a, cap, rfl, hc, hc0, _⟩ := hs2
  cases a with
  | none =>
    have := hc0 rfl
    have hl0 : l = [] := List.length_eq_zero_iff.1 (by omega)
    subst hl0
    simp only [o_pure, o_nil, POp.ev, Opd.ev, gv, setD, Option.map_some, Option.some.injEq, exists_eq_left', isNilV, if_false, Bool.false_eq_true]
    refine Test.true_ (s_reg ?_)
    simp only [o_pure, o_nil, POp.ev, Opd.ev, setD, List.set, Option.some.injEq, exists_eq_left']
    refine s_ret1 ?_
    simp +decide only [p_seq_ret, p_fin_ret, resV, resOne, gv, Option.some.injEq, exists_eq_left']
    exact ⟨H.next, Nat.le_refl _, .inr trivial, Vec.nil _ _ _, Ext.refl _⟩
  | some ad =>
    simp only [o_pure, o_nil, POp.ev, Opd.ev, gv, setD, Option.map_some, Option.some.injEq, exists_eq_left', isNilV, if_false, Bool.false_eq_true]
    refine Test.false_ (s_skip1 ?_)
    simp +decide only [p_seq_normal]
    refine s_reg ?_
    have h0 : Vec (H.alloc []) H.next (.slice (some ⟨H.next, 0, some 0⟩) 0 0) 0 1 [] := Vec.lit rfl
    obtain ⟨v', H', b', h1, h2, h3, h4, h5⟩ := h0.append (lim := lim) hl (hs.keep (Keep.alloc H [] (Nat.le_refl _)) (Nat.le_refl _)) (by decide) (bytes := 8) (by omega)
    simp only [o_pure, o_eff, o_nil, POp.ev, Opd.ev, EOp.ev, gv, setD, List.set, List.map, Option.map_some, Option.some.injEq, exists_eq_left', bsliceH, fillV, h1]
    refine s_ret1 ?_
    simp +decide only [p_fin_ret, resV, resOne, gv, Option.some.injEq, exists_eq_left']
    have hx : Ext H H' := Chg.ext (Ext.alloc H []) h4 (Nat.le_refl _)
    refine ⟨b', by rcases h3 with rfl | ⟨rfl, _⟩ <;> simp [alloc_next], .inl ?_, by simpa using h2, hx⟩
    rcases h3 with rfl | ⟨rfl, h6⟩
    · exact Nat.lt_of_lt_of_le (Nat.lt_succ_self _) h4.next
    · exact h6

theorem power_ok (lim : Nat) (k : Nat) (H : AHeap) (hk : k ≤ 60) : ACalls Tryz.prog lim n_spec_dyPower [.int .i64 k] H fun v H' => v = .int .i64 (2 ^ k) ∧ H' = H := by
  refine is_spec_dyPower.go rfl ?_
  unfold c_spec_dyPower
  refine s_reg ?_
  simp only [o_pure, o_nil, POp.ev, Opd.ev, env0, gu, setD, List.set, Option.some.injEq, exists_eq_left']
  refine s_reg ?_
  have h1 : IntKind.u64.wrap (k : Int) = k := by simp [IntKind.wrap, IntKind.signed, IntKind.bits]; omega
  have h2 : ¬ ((k : Int) < 0) := by omega
  have h3 : IntKind.i64.wrap (1 * 2 ^ min (k : Int).toNat IntKind.i64.bits) = 2 ^ k := by
    have hb : IntKind.i64.bits = 64 := rfl
    have : min (k : Int).toNat IntKind.i64.bits = k := by rw [hb]; omega
    rw [this, Int.one_mul]
    have h5 := two_pow hk
    exact wrap_small (by omega) (by omega)
  simp only [o_pure, o_nil, POp.ev, Opd.ev, gv, setD, List.set, Option.some.injEq, exists_eq_left', binV, convV, h1, if_neg h2, h3]
  refine s_ret1 ?_
  simp +decide only [p_fin_ret, resV, resOne, gv, Option.some.injEq, exists_eq_left']

/-- a box's value -/
def BoxV (H : AHeap) (v : Value) (k : Int) (low high : List Int) : Prop := ∃ s t, v = .agg #[.int .i64 k, s, t] ∧ SlI H s low ∧ SlI H t high
theorem BoxV.keep {H H' : AHeap} {v : Value} {k : Int} {low high : List Int} (h : BoxV H v k low high) (hx : Ext H H') : BoxV H' v k low high := by
  obtain ⟨s, t, h1, h2, h3⟩ := h
  exact ⟨s, t, h1, h2.keep (Keep.of_ext hx (Nat.le_refl _)) (Nat.le_refl _), h3.keep (Keep.of_ext hx (Nat.le_refl _)) (Nat.le_refl _)⟩

/-- a box in a block of its own -/
structure BoxP (H : AHeap) (p : Nat) (k : Int) (s t : Value) (low high : List Int) : Prop where
  blk : H.blk p = some [.int .i64 k, s, t]
  low : SlI H s low
  high : SlI H t high
theorem BoxP.c0 {H : AHeap} {p : Nat} {k : Int} {s t : Value} {low high : List Int} (h : BoxP H p k s t low high) : H.cell p 0 = some (.int .i64 k) := cell_blk h.blk 0
theorem BoxP.c1 {H : AHeap} {p : Nat} {k : Int} {s t : Value} {low high : List Int} (h : BoxP H p k s t low high) : H.cell p 1 = some s := cell_blk h.blk 1
theorem BoxP.c2 {H : AHeap} {p : Nat} {k : Int} {s t : Value} {low high : List Int} (h : BoxP H p k s t low high) : H.cell p 2 = some t := cell_blk h.blk 2

/-- a function on a box has been entered: the box's block and the result's block -/
structure BxE (H H1 : AHeap) (p r : Nat) (k : Int) (s t : Value) (low high : List Int) : Prop where
  ext : Ext H H1
  ge : H.next ≤ p ∧ H.next ≤ r ∧ p ≠ r
  lt : p < H1.next ∧ r < H1.next
  bp : H1.blk p = some [.int .i64 k, s, t]
  br : H1.blk r = some [.int .i64 0, .slice none 0 0, .slice none 0 0]
  sl : SlI H1 s low
  sh : SlI H1 t high
theorem BxE.mono {H H1 H2 : AHeap} {p r : Nat} {k : Int} {s t : Value} {low high : List Int} (h : BxE H H1 p r k s t low high) (hx : Ext H1 H2) : BxE H H2 p r k s t low high := by
  obtain ⟨h1, h2, h3, h4, h5, h6, h7⟩ := h
  have hn := hx.next
  exact ⟨h1.trans hx, h2, by omega, by rw [hx.blk _ h3.1]; exact h4, by rw [hx.blk _ h3.2]; exact h5, h6.keep (Keep.of_ext hx (Nat.le_refl _)) (Nat.le_refl _), h7.keep (Keep.of_ext hx (Nat.le_refl _)) (Nat.le_refl _)⟩
theorem BxE.mk' {H : AHeap} {k : Int} {s t : Value} {low high : List Int} (hs : SlI H s low) (ht : SlI H t high) :
    BxE H ((H.alloc [.int .i64 k, s, t]).alloc [.int .i64 0, .slice none 0 0, .slice none 0 0]) H.next (H.next + 1) k s t low high := by
  have hx : Ext H ((H.alloc [.int .i64 k, s, t]).alloc [.int .i64 0, .slice none 0 0, .slice none 0 0]) := (Ext.alloc _ _).trans (Ext.alloc _ _)
  refine ⟨hx, by omega, by simp only [alloc_next]; omega, ?_, alloc_new _ _, hs.keep (Keep.of_ext hx (Nat.le_refl _)) (Nat.le_refl _), ht.keep (Keep.of_ext hx (Nat.le_refl _)) (Nat.le_refl _)⟩
  rw [alloc_old _ _ (Nat.lt_succ_self _)]
  exact alloc_new _ _
theorem BxE.chg {H H1 H2 : AHeap} {p r b : Nat} {k : Int} {s t : Value} {low high : List Int} (h : BxE H H1 p r k s t low high) (hs : SlI H s low) (ht : SlI H t high) (hc : Chg b H1 H2) (hb : H.next ≤ b) (hp : p ≠ b) (hr : r ≠ b) :
    BxE H H2 p r k s t low high := by
  have hx := hc.ext h.ext hb
  have hn := hc.next
  have hl := h.lt
  exact ⟨hx, h.ge, by omega, by rw [hc.blk _ hl.1 hp]; exact h.bp, by rw [hc.blk _ hl.2 hr]; exact h.br, hs.keep (Keep.of_ext hx (Nat.le_refl _)) (Nat.le_refl _), ht.keep (Keep.of_ext hx (Nat.le_refl _)) (Nat.le_refl _)⟩
theorem CopyI.put {H : AHeap} {b r : Nat} {v : Value} {l : List Int} {bare : Bool} (h : CopyI H b v l bare) (cs : List Value) (hb : b ≠ r) : CopyI (H.put r cs) b v l bare :=
  h.imp id fun h => ⟨h.1, h.2.1, by rw [put_ne _ _ hb]; exact h.2.2⟩
theorem toIntC_ok (lim : Nat) (s : Value) (l : List Int) (bare : Bool) (H : AHeap) (hl : lim ≤ H.next) (hs : SlI H s l) (hn : l.length ≤ 1000000) :
    ACalls Tryz.prog lim n_laws_toIntS [s, .bool bare] H fun v H' => CopyI H' H.next v l bare ∧ Ext H H' := by
  refine (toIntS_ok lim s l bare H hl hs hn).mono ?_
  intro v H' h
  by_cases h0 : bare = true ∧ l.length = 0
  · rw [if_pos h0] at h
    obtain ⟨rfl, rfl⟩ := h
    exact ⟨.inl ⟨h0.1, List.length_eq_zero_iff.1 h0.2, rfl⟩, Ext.refl _⟩
  · rw [if_neg h0] at h
    obtain ⟨rfl, rfl⟩ := h
    exact ⟨.inr ⟨rfl, Nat.lt_succ_self _, alloc_new _ _⟩, Ext.alloc _ _⟩

end Go.Proofs.YtldpdjpchcoigaaGreat.Ints

/- Plain laws for families of polynomials: values, normal forms of dyadic numbers, products of coefficient lists; no condition. -/
namespace Go.Proofs.YtldpdjpchcoigaaGreat
set_option linter.unusedSimpArgs false
set_option linter.unusedVariables false

/-! ### values -/
/-- the value at n / b, times b to the degree -/
def hv (n b : Int) : List Int → Int
  | [] => 0
  | a :: p => a * b ^ p.length + n * hv n b p
theorem hv_snoc (n b a : Int) : ∀ p : List Int, hv n b (p ++ [a]) = hv n b p * b + a * n ^ p.length
  | [] => by simp [hv]
  | x :: p => by
    simp only [List.cons_append, hv, hv_snoc n b a p, List.length_append, List.length_cons, List.length_nil, Nat.zero_add, Int.pow_succ]
    grind
theorem hv_zeros (n b : Int) (p : List Int) : ∀ m : Nat, hv n b (p ++ List.replicate m 0) = hv n b p * b ^ m
  | 0 => by simp
  | m + 1 => by
    rw [List.replicate_succ', ← List.append_assoc, hv_snoc, hv_zeros n b p m, Int.pow_succ]
    grind

/-! ### lists without zeros at the end -/
def strip : List Int → List Int
  | [] => []
  | a :: t => if strip t = [] ∧ a = 0 then [] else a :: strip t
theorem strip_snoc0 : ∀ p : List Int, strip (p ++ [0]) = strip p
  | [] => by simp [strip]
  | a :: p => by simp only [List.cons_append, strip, strip_snoc0 p]
theorem strip_snoc {a : Int} (h : a ≠ 0) : ∀ p : List Int, strip (p ++ [a]) = p ++ [a]
  | [] => by simp [strip, h]
  | x :: p => by
    rw [List.cons_append, strip, strip_snoc h p, if_neg (by simp)]
theorem strip_zeros (p : List Int) : ∀ m : Nat, strip (p ++ List.replicate m 0) = strip p
  | 0 => by simp
  | m + 1 => by rw [List.replicate_succ', ← List.append_assoc, strip_snoc0, strip_zeros p m]
theorem strip_eq : ∀ p : List Int, p = strip p ++ List.replicate (p.length - (strip p).length) 0 ∧ (strip p).length ≤ p.length
  | [] => by simp [strip]
  | a :: p => by
    obtain ⟨h1, h2⟩ := strip_eq p
    rw [strip]
    by_cases h : strip p = [] ∧ a = 0
    · rw [if_pos h]
      rw [h.1] at h1
      refine ⟨?_, by simp⟩
      rw [h1, h.2]
      simp [List.replicate_succ]
    · rw [if_neg h]
      refine ⟨?_, by simpa using h2⟩
      have e : (a :: p).length - (a :: strip p).length = p.length - (strip p).length := by simp
      rw [e, List.cons_append, ← h1]
theorem strip_len (p : List Int) : (strip p).length ≤ p.length := (strip_eq p).2
theorem strip_get (p : List Int) (m : Nat) : (strip p).getD m 0 = p.getD m 0 := by
  obtain ⟨h1, h2⟩ := strip_eq p
  by_cases h : m < (strip p).length
  · conv => rhs; rw [h1]
    simp [List.getD, List.getElem?_append, h]
  · conv => rhs; rw [h1]
    rw [List.getD_eq_getElem?_getD, List.getD_eq_getElem?_getD, List.getElem?_append, if_neg h, List.getElem?_eq_none (by omega), List.getElem?_replicate]
    split <;> rfl
theorem strip_all {P : Int → Prop} {p : List Int} (h : ∀ x ∈ p, P x) : ∀ x ∈ strip p, P x := by
  intro x hx
  rw [(strip_eq p).1] at h
  exact h x (List.mem_append_left _ hx)
/-- lists with the same coefficients have the same stripped form -/
theorem strip_congr {p q : List Int} (h : ∀ m, p.getD m 0 = q.getD m 0) : strip p = strip q := by
  have key : ∀ (p q : List Int), q.length ≤ p.length → (∀ m, p.getD m 0 = q.getD m 0) → strip p = strip q := by
    intro p q hl h
    have : p = q ++ List.replicate (p.length - q.length) 0 := by
      apply List.ext_getElem?
      intro i
      have hi := h i
      rw [List.getD_eq_getElem?_getD, List.getD_eq_getElem?_getD] at hi
      rw [List.getElem?_append]
      by_cases h1 : i < q.length
      · rw [if_pos h1]
        have h2 : i < p.length := by omega
        simp only [List.getElem?_eq_getElem h1, List.getElem?_eq_getElem h2, Option.getD_some] at hi ⊢
        rw [hi]
      · rw [if_neg h1, List.getElem?_replicate]
        rw [List.getElem?_eq_none (Nat.le_of_not_lt h1)] at hi
        by_cases h2 : i < p.length
        · rw [if_pos (by omega), List.getElem?_eq_getElem h2] at *
          simpa using hi
        · rw [if_neg (by omega), List.getElem?_eq_none (by omega)]
    rw [this, strip_zeros]
  rcases Nat.le_total q.length p.length with hl | hl
  · exact key p q hl h
  · exact (key q p hl fun m => (h m).symm).symm
/-- a stripped list and its zeros, told by its coefficients -/
theorem strip_pad {p q : List Int} (h : ∀ m, p.getD m 0 = q.getD m 0) : q = strip p ++ List.replicate (q.length - (strip p).length) 0 ∧ (strip p).length ≤ q.length := by
  rw [strip_congr h]
  exact strip_eq q
theorem hv_strip (n b : Int) {p q : List Int} (h : ∀ m, p.getD m 0 = q.getD m 0) : hv n b q = hv n b (strip p) * b ^ (q.length - (strip p).length) := by
  have := (strip_pad h).1
  conv => lhs; rw [this]
  rw [hv_zeros]

/-! ### normal forms -/
def dnorm : Int → Nat → Int × Nat
  | n, 0 => (n, 0)
  | n, k + 1 => if n % 2 = 0 then dnorm (n / 2) k else (n, k + 1)
theorem dnorm_val : ∀ (n : Int) (k : Nat), (dnorm n k).2 ≤ k ∧ n = (dnorm n k).1 * 2 ^ (k - (dnorm n k).2)
  | n, 0 => by simp [dnorm]
  | n, k + 1 => by
    rw [dnorm]
    by_cases h : n % 2 = 0
    · rw [if_pos h]
      obtain ⟨h1, h2⟩ := dnorm_val (n / 2) k
      refine ⟨by omega, ?_⟩
      rw [show k + 1 - (dnorm (n / 2) k).2 = (k - (dnorm (n / 2) k).2) + 1 by omega, Int.pow_succ, ← Int.mul_assoc, ← h2]
      omega
    · rw [if_neg h]
      simp
theorem dnorm_odd : ∀ (n : Int) (k : Nat), (dnorm n k).2 = 0 ∨ (dnorm n k).1 % 2 = 1
  | n, 0 => by simp [dnorm]
  | n, k + 1 => by
    rw [dnorm]
    by_cases h : n % 2 = 0
    · rw [if_pos h]; exact dnorm_odd _ _
    · rw [if_neg h]; right; simp only; omega
theorem dnorm_dbl (n : Int) (k : Nat) : dnorm (n * 2) (k + 1) = dnorm n k := by
  rw [dnorm, if_pos (by omega), show n * 2 / 2 = n by omega]
theorem dnorm_pow (n : Int) (k : Nat) : ∀ j : Nat, dnorm (n * 2 ^ j) (k + j) = dnorm n k
  | 0 => by simp
  | j + 1 => by rw [Int.pow_succ, ← Int.mul_assoc, ← Nat.add_assoc, dnorm_dbl, dnorm_pow n k j]
theorem dnorm_self {n : Int} {k : Nat} (h : k = 0 ∨ n % 2 = 1) : dnorm n k = (n, k) := by
  cases k with
  | zero => rfl
  | succ k => rw [dnorm, if_neg (by omega)]
theorem dnorm_abs (n : Int) (k : Nat) : (dnorm n k).1.natAbs ≤ n.natAbs := by
  have h := (dnorm_val n k).2
  have h1 : 1 ≤ ((2 : Int) ^ (k - (dnorm n k).2)).natAbs := by
    rw [Int.natAbs_pow]
    exact Nat.one_le_two_pow
  have h2 : n.natAbs = (dnorm n k).1.natAbs * ((2 : Int) ^ (k - (dnorm n k).2)).natAbs := by rw [← Int.natAbs_mul, ← h]
  rw [h2]
  exact Nat.le_mul_of_pos_right _ h1
/-- scaled up to a common power and normed again -/
theorem dnorm_up {n m : Int} {k d : Nat} (h : k ≤ d) (e : m = n * 2 ^ (d - k)) : dnorm m d = dnorm n k := by
  rw [e]
  have := dnorm_pow n k (d - k)
  rwa [show k + (d - k) = d by omega] at this

/-! ### products -/
/-- the first rows of a product -/
def convN (p q : List Int) : Nat → Nat → Int
  | 0, _ => 0
  | n + 1, m => convN p q n m + (if n ≤ m then p.getD n 0 * q.getD (m - n) 0 else 0)
/-- a row of which k entries are in -/
def rowK (p q : List Int) (n k m : Nat) : Int := convN p q n m + (if n ≤ m ∧ m - n < k then p.getD n 0 * q.getD (m - n) 0 else 0)
theorem rowK_zero (p q : List Int) (n m : Nat) : rowK p q n 0 m = convN p q n m := by simp [rowK]
theorem rowK_all (p q : List Int) (n m : Nat) : rowK p q n q.length m = convN p q (n + 1) m := by
  rw [rowK, convN]
  congr 1
  by_cases h : n ≤ m
  · by_cases h2 : m - n < q.length
    · rw [if_pos ⟨h, h2⟩, if_pos h]
    · rw [if_neg (fun hh => h2 hh.2), if_pos h, List.getD_eq_getElem?_getD (l := q), List.getElem?_eq_none (by omega)]
      simp
  · rw [if_neg (fun hh => h hh.1), if_neg h]
theorem rowK_step (p q : List Int) (n k m : Nat) : rowK p q n (k + 1) m = if m = n + k then rowK p q n k m + p.getD n 0 * q.getD k 0 else rowK p q n k m := by
  unfold rowK
  by_cases h : m = n + k
  · subst h
    rw [if_pos rfl, if_pos ⟨by omega, by omega⟩, if_neg (by omega), show n + k - n = k by omega]
    omega
  · rw [if_neg h]
    congr 1
    by_cases h2 : n ≤ m ∧ m - n < k
    · rw [if_pos h2, if_pos ⟨h2.1, by omega⟩]
    · rw [if_neg h2, if_neg (by omega)]
theorem getD_abs {l : List Int} {A : Nat} (h : ∀ x ∈ l, x.natAbs ≤ A) (i : Nat) : (l.getD i 0).natAbs ≤ A := by
  rw [List.getD_eq_getElem?_getD]
  by_cases hi : i < l.length
  · rw [List.getElem?_eq_getElem hi]; exact h _ (List.getElem_mem hi)
  · rw [List.getElem?_eq_none (by omega)]; simp
theorem convN_abs {p q : List Int} {A B : Nat} (hp : ∀ x ∈ p, x.natAbs ≤ A) (hq : ∀ x ∈ q, x.natAbs ≤ B) : ∀ (n m : Nat), (convN p q n m).natAbs ≤ n * (A * B)
  | 0, m => by simp [convN]
  | n + 1, m => by
    rw [convN, Nat.add_mul, Nat.one_mul]
    have h1 := convN_abs hp hq n m
    have h2 : (if n ≤ m then p.getD n 0 * q.getD (m - n) 0 else 0 : Int).natAbs ≤ A * B := by
      split
      · rw [Int.natAbs_mul]; exact Nat.mul_le_mul (getD_abs hp n) (getD_abs hq _)
      · simp
    omega
theorem rowK_abs {p q : List Int} {A B : Nat} (hp : ∀ x ∈ p, x.natAbs ≤ A) (hq : ∀ x ∈ q, x.natAbs ≤ B) (n k m : Nat) : (rowK p q n k m).natAbs ≤ (n + 1) * (A * B) := by
  rw [rowK, Nat.add_mul, Nat.one_mul]
  have h1 := convN_abs hp hq n m
  have h2 : (if n ≤ m ∧ m - n < k then p.getD n 0 * q.getD (m - n) 0 else 0 : Int).natAbs ≤ A * B := by
    split
    · rw [Int.natAbs_mul]; exact Nat.mul_le_mul (getD_abs hp n) (getD_abs hq _)
    · simp
  omega
def conv (p q : List Int) (m : Nat) : Int := convN p q p.length m
theorem convN_zero {p q : List Int} {m : Nat} : ∀ n : Nat, n + q.length ≤ m + 1 → n ≤ m → convN p q n m = 0
  | 0, _, _ => rfl
  | n + 1, h, h2 => by
    rw [convN, convN_zero n (by omega) (by omega), if_pos (by omega), List.getD_eq_getElem?_getD (l := q), List.getElem?_eq_none (by omega)]
    simp
theorem conv_zero {p q : List Int} {m : Nat} (h : p.length + q.length ≤ m + 1) (h0 : p.length ≤ m) : conv p q m = 0 := convN_zero _ h h0
theorem convN_congr {p p' q q' : List Int} (hp : ∀ m, p.getD m 0 = p'.getD m 0) (hq : ∀ m, q.getD m 0 = q'.getD m 0) : ∀ n m, convN p q n m = convN p' q' n m
  | 0, _ => rfl
  | n + 1, m => by rw [convN, convN, convN_congr hp hq n m, hp, hq]
theorem convN_more {p q : List Int} {n : Nat} (h : p.length ≤ n) (m : Nat) : convN p q n m = conv p q m := by
  induction n with
  | zero => rw [conv, show p.length = 0 by omega]
  | succ n ih =>
    by_cases hn : p.length = n + 1
    · rw [conv, hn]
    · rw [convN, ih (by omega), List.getD_eq_getElem?_getD (l := p), List.getElem?_eq_none (by omega)]
      simp
theorem conv_congr {p p' q q' : List Int} (hp : ∀ m, p.getD m 0 = p'.getD m 0) (hq : ∀ m, q.getD m 0 = q'.getD m 0) (m : Nat) : conv p q m = conv p' q' m := by
  rw [← convN_more (Nat.le_max_left p.length p'.length) m, ← convN_more (Nat.le_max_right p.length p'.length) m]
  exact convN_congr hp hq _ m
/-- times a linear factor -/
def lin (u v : Int) (f : Nat → Int) (m : Nat) : Int := u * f m + (match m with | 0 => 0 | k + 1 => v * f k)
theorem conv_lin {q g : List Int} {u v : Int} (hg : ∀ m, g.getD m 0 = lin u v (fun k => q.getD k 0) m) (p : List Int) : ∀ (n m : Nat), convN p g n m = lin u v (fun k => convN p q n k) m
  | 0, m => by cases m <;> simp [convN, lin]
  | n + 1, m => by
    rw [convN, conv_lin hg p n m, hg]
    cases m with
    | zero =>
      simp only [lin, convN]
      by_cases h : n = 0
      · subst h; simp; grind
      · rw [if_neg (by omega), if_neg (by omega)]; simp
    | succ m =>
      simp only [lin, convN]
      by_cases h : n ≤ m
      · rw [if_pos (by omega), if_pos (by omega), if_pos h, show m + 1 - n = (m - n) + 1 by omega]
        simp only
        grind
      · by_cases h2 : n = m + 1
        · subst h2
          rw [if_pos (Nat.le_refl _), if_pos (Nat.le_refl _), if_neg (by omega), Nat.sub_self]
          simp only
          grind
        · rw [if_neg (by omega), if_neg (by omega), if_neg h]
          grind
theorem conv_unit (p : List Int) (m : Nat) : conv p [1] m = p.getD m 0 := by
  have one : ∀ (n m : Nat), convN p [1] n m = if m < n then p.getD m 0 else 0 := by
    intro n
    induction n with
    | zero => intro m; simp [convN]
    | succ n ih =>
      intro m
      rw [convN, ih]
      rcases Nat.lt_trichotomy n m with h | h | h
      · rw [if_neg (by omega), if_pos (by omega), if_neg (by omega), List.getD_eq_getElem?_getD (l := [1]), List.getElem?_eq_none (by simp; omega)]
        simp
      · subst h
        rw [if_neg (by omega), if_pos (by omega), if_pos (by omega), Nat.sub_self]
        simp
      · rw [if_pos (by omega), if_neg (by omega), if_pos (by omega)]
        simp
  rw [conv, one]
  split
  · rfl
  · rw [List.getD_eq_getElem?_getD, List.getElem?_eq_none (by omega)]; rfl
theorem conv_two (p : List Int) (u v : Int) (m : Nat) : conv p [u, v] m = lin u v (fun k => p.getD k 0) m := by
  have h : ∀ m, [u, v].getD m 0 = lin u v (fun k => [1].getD k 0) m := by
    intro m
    match m with
    | 0 => simp [lin]
    | 1 => simp [lin]
    | m + 2 => simp [lin]
  rw [conv, conv_lin h]
  have e : (fun k => convN p [1] p.length k) = fun k => p.getD k 0 := funext fun k => conv_unit p k
  rw [e]
theorem conv_one (p : List Int) (c : Int) (m : Nat) : conv p [c] m = p.getD m 0 * c := by
  have : ∀ j, [c].getD j 0 = [c, 0].getD j 0 := by
    intro j
    match j with
    | 0 => rfl
    | 1 => rfl
    | j + 2 => rfl
  rw [conv_congr (p' := p) (q' := [c, 0]) (fun _ => rfl) this, conv_two]
  cases m <;> simp [lin, Int.mul_comm]
end Go.Proofs.YtldpdjpchcoigaaGreat

/- Plain laws: coefficients of a polynomial over an interval; no condition. -/
namespace Go.Proofs.YtldpdjpchcoigaaGreat
set_option linter.unusedSimpArgs false
set_option linter.unusedVariables false

def linP (u v : Int) : Nat → (Nat → Int) → Nat → Int
  | 0, f => f
  | n + 1, f => lin u v (linP u v n f)
def delta (m : Nat) : Int := if m = 0 then 1 else 0
theorem lin_mul (u v a : Int) (f : Nat → Int) (m : Nat) : lin u v (fun k => a * f k) m = a * lin u v f m := by
  cases m <;> simp only [lin] <;> grind
theorem lin_supp {u v : Int} {f : Nat → Int} {n : Nat} (h : ∀ m, n ≤ m → f m = 0) (m : Nat) (hm : n + 1 ≤ m) : lin u v f m = 0 := by
  cases m with
  | zero => omega
  | succ m => simp [lin, h (m + 1) (by omega), h m (by omega)]
theorem linP_supp {u v : Int} {f : Nat → Int} {d : Nat} (h : ∀ m, d ≤ m → f m = 0) : ∀ n m, d + n ≤ m → linP u v n f m = 0
  | 0, m, hm => h m hm
  | n + 1, m, hm => lin_supp (linP_supp h n) m hm
theorem lin_abs {u v : Int} {f : Nat → Int} {B : Nat} (h : ∀ m, (f m).natAbs ≤ B) (m : Nat) : (lin u v f m).natAbs ≤ (u.natAbs + v.natAbs) * B := by
  have h1 : ∀ (x : Int) (k : Nat), (x * f k).natAbs ≤ x.natAbs * B := fun x k => by rw [Int.natAbs_mul]; exact Nat.mul_le_mul_left _ (h k)
  rw [Nat.add_mul]
  cases m with
  | zero =>
    simp only [lin]
    have := h1 u 0
    omega
  | succ m =>
    simp only [lin]
    have := h1 u (m + 1)
    have := h1 v m
    omega
theorem linP_abs {u v : Int} {f : Nat → Int} {B : Nat} (h : ∀ m, (f m).natAbs ≤ B) : ∀ n m, (linP u v n f m).natAbs ≤ (u.natAbs + v.natAbs) ^ n * B
  | 0, m => by simpa [linP] using h m
  | n + 1, m => by
    have := lin_abs (u := u) (v := v) (linP_abs (u := u) (v := v) h n) m
    rw [Nat.pow_succ, Nat.mul_comm ((u.natAbs + v.natAbs) ^ n), Nat.mul_assoc]
    exact this
theorem delta_get : (fun k => ([1] : List Int).getD k 0) = delta := by
  funext k
  match k with
  | 0 => rfl
  | k + 1 => simp [delta]
theorem delta_abs (m : Nat) : (delta m).natAbs ≤ 1 := by
  unfold delta; split <;> simp
theorem delta_supp (m : Nat) (h : 1 ≤ m) : delta m = 0 := by unfold delta; rw [if_neg (by omega)]
/-- a product with a power of a linear factor -/
theorem conv_linP (u v : Int) (p : List Int) : ∀ (n : Nat) (g : List Int), (∀ m, g.getD m 0 = linP u v n delta m) → ∀ m, conv p g m = linP u v n (fun k => p.getD k 0) m
  | 0, g, hg, m => by
    have : conv p g m = conv p [1] m := conv_congr (fun _ => rfl) (fun k => by rw [hg, ← delta_get]; rfl) m
    rw [this, conv_unit]; rfl
  | n + 1, g, hg, m => by
    have hq : ∀ k, ((List.range (n + 1)).map (linP u v n delta)).getD k 0 = linP u v n delta k := by
      intro k
      rw [List.getD_eq_getElem?_getD, List.getElem?_map]
      by_cases hk : k < n + 1
      · rw [List.getElem?_range hk]; rfl
      · rw [List.getElem?_eq_none (by simpa using hk)]
        exact (linP_supp delta_supp n k (by omega)).symm
    have hg2 : ∀ k, g.getD k 0 = lin u v (fun j => ((List.range (n + 1)).map (linP u v n delta)).getD j 0) k := by
      intro k
      rw [hg]
      have : (fun j => ((List.range (n + 1)).map (linP u v n delta)).getD j 0) = linP u v n delta := funext hq
      rw [this]
      rfl
    rw [conv, conv_lin hg2]
    have e : (fun k => convN p ((List.range (n + 1)).map (linP u v n delta)) p.length k) = linP u v n (fun k => p.getD k 0) := by
      funext k
      exact conv_linP u v p n _ hq k
    rw [e]
    rfl

/-- a basis polynomial's coefficients -/
def bq (lo hi one : Int) (n e m : Nat) : Int := linP one one (n - e) (linP lo hi e delta) m
theorem bq_supp {lo hi one : Int} {n e m : Nat} (he : e ≤ n) (hm : n < m) : bq lo hi one n e m = 0 := by
  unfold bq
  exact linP_supp (d := e + 1) (fun k hk => linP_supp delta_supp e k (by omega)) (n - e) m (by omega)
theorem bq_abs {lo hi one : Int} {n e m : Nat} (he : e ≤ n) (h1 : lo.natAbs + hi.natAbs ≤ 512) (h2 : one.natAbs ≤ 256) : (bq lo hi one n e m).natAbs ≤ 512 ^ n := by
  unfold bq
  have h3 := linP_abs (u := one) (v := one) (f := linP lo hi e delta) (B := 512 ^ e) (fun k => by
    have := linP_abs (u := lo) (v := hi) delta_abs e k
    have h4 : (lo.natAbs + hi.natAbs) ^ e ≤ 512 ^ e := Nat.pow_le_pow_left h1 e
    omega) (n - e) m
  have h5 : (one.natAbs + one.natAbs) ^ (n - e) ≤ 512 ^ (n - e) := Nat.pow_le_pow_left (by omega) _
  have h6 : (512 : Nat) ^ (n - e) * 512 ^ e = 512 ^ n := by rw [← Nat.pow_add]; congr 1; omega
  have h7 : (one.natAbs + one.natAbs) ^ (n - e) * 512 ^ e ≤ 512 ^ (n - e) * 512 ^ e := Nat.mul_le_mul_right _ h5
  omega
/-- the first e summands of the coefficients over an interval, for n + 1 coefficients -/
def ovN (p : List Int) (lo hi one : Int) (n : Nat) : Nat → Nat → Int
  | 0, _ => 0
  | e + 1, m => ovN p lo hi one n e m + p.getD e 0 * bq lo hi one n e m
theorem ovN_supp {p : List Int} {lo hi one : Int} {n m : Nat} (hm : n < m) : ∀ e, e ≤ n + 1 → ovN p lo hi one n e m = 0
  | 0, _ => rfl
  | e + 1, h => by
    rw [ovN, ovN_supp hm e (by omega)]
    have : bq lo hi one n e m = 0 := bq_supp (by omega) hm
    rw [this]; simp
theorem ovN_abs {p : List Int} {lo hi one : Int} {n A : Nat} (h1 : lo.natAbs + hi.natAbs ≤ 512) (h2 : one.natAbs ≤ 256) (hp : ∀ x ∈ p, x.natAbs ≤ A) (m : Nat) : ∀ e, e ≤ n + 1 → (ovN p lo hi one n e m).natAbs ≤ e * (A * 512 ^ n)
  | 0, _ => by simp [ovN]
  | e + 1, h => by
    rw [ovN, Nat.add_mul, Nat.one_mul]
    have h3 := ovN_abs (n := n) h1 h2 hp m e (by omega)
    have h4 : (p.getD e 0 * bq lo hi one n e m).natAbs ≤ A * 512 ^ n := by
      rw [Int.natAbs_mul]
      exact Nat.mul_le_mul (getD_abs hp e) (bq_abs (show e ≤ n by omega) h1 h2)
    omega
/-- the coefficients over an interval -/
def over (p : List Int) (lo hi one : Int) : List Int := (List.range p.length).map (ovN p lo hi one (p.length - 1) p.length)
theorem over_len (p : List Int) (lo hi one : Int) : (over p lo hi one).length = p.length := by simp [over]
end Go.Proofs.YtldpdjpchcoigaaGreat

/- Base: words and whole numbers, lists of ints that are written, both sides' common sign; no condition beyond stated lengths. -/
namespace Go.Ab
/-- a test at a piece's end that turns no variable -/
theorem s_test1_I {P : Program} {lim : Nat} {Q : Post} {e : List Value} {H : AHeap} {ops : List AOper} (g : Bool) (I : AHeap → Prop) {o : Opd} {x y : ACode} (h : awpOps P lim ops (fun e' t' H' => o.ev e' t' = .bool g ∧ e' = e ∧ I H') e [] H)
    (h1 : ∀ H', I H' → g = true → awp P lim x Q e H') (h2 : ∀ H', I H' → g = false → awp P lim y Q e H') : awp P lim (.test ops o x y) Q e H := by
  refine s_test1 (awpOps.mono ?_ h)
  rintro e' t' H' ⟨h3, rfl, h4⟩
  rw [h3]
  exact Test.split (h1 H' h4) (h2 H' h4)
theorem awp.mono {P : Program} {lim : Nat} : ∀ (c : ACode) {Q Q' : Post} {e : List Value} {H : AHeap}, (∀ ex e H, Q ex e H → Q' ex e H) → awp P lim c Q e H → awp P lim c Q' e H
  | .skip, _, _, _, _, hq, h => hq _ _ _ h
  | .reg ops, _, _, _, _, hq, h => awpOps.mono (fun _ _ _ h => hq _ _ _ h) h
  | .regT T, _, _, _, _, hq, h => awpT.mono (fun _ _ _ h => hq _ _ _ h) h
  | .test ops c a b, _, _, _, _, hq, h => by
    refine awpOps.mono ?_ h
    rintro e t H ⟨g, h1, h2⟩
    refine ⟨g, h1, ?_⟩
    cases g with
    | true => exact awp.mono a hq h2
    | false => exact awp.mono b hq h2
  | .seq a b, _, _, _, _, hq, h => by
    refine awp.mono a ?_ h
    intro ex e H h
    cases ex <;> first | exact awp.mono b hq h | exact hq _ _ _ h
  | .cond c a b, _, _, _, _, hq, ⟨g, h1, h2⟩ => by
    refine ⟨g, h1, ?_⟩
    cases g with
    | true => exact awp.mono a hq h2
    | false => exact awp.mono b hq h2
  | .block id c, _, _, _, _, hq, h => by
    refine awp.mono c ?_ h
    intro ex e H h
    cases ex with
    | exit i =>
      simp only [Post.block] at h ⊢
      split <;> rename_i hi
      · rw [if_pos hi] at h; exact hq _ _ _ h
      · rw [if_neg hi] at h; exact hq _ _ _ h
    | _ => exact hq _ _ _ h
  | .loop c, _, _, _, _, hq, ⟨I, k, h1, h2⟩ => by
    refine ⟨I, k, h1, fun k e H hI => awp.mono c ?_ (h2 k e H hI)⟩
    intro ex e H h
    cases ex <;> first | exact h | exact hq _ _ _ h
  | .exit id, _, _, _, _, hq, h => hq _ _ _ h
  | .ret, _, _, _, _, hq, h => hq _ _ _ h
  | .fail, _, _, _, _, _, h => h.elim
/-- what stands behind a piece is told first -/
theorem s_cut1 {P : Program} {lim : Nat} {K : List Value → AHeap → Prop} {Q : Post} {e : List Value} {H : AHeap} {a : ACode} (I : List Value → AHeap → Prop) (h : awp P lim a (Post.seq I (fun _ _ _ => False)) e H) (h1 : ∀ e' H', I e' H' → K e' H') : awp P lim a (Post.seq K Q) e H := by
  refine awp.mono a ?_ h
  intro ex e H h
  cases ex <;> first | exact h1 _ _ h | exact h.elim
theorem s_cut {P : Program} {lim : Nat} {Q : Post} {e : List Value} {H : AHeap} {a b : ACode} (I : List Value → AHeap → Prop) (h : awp P lim a (Post.seq I (fun _ _ _ => False)) e H) (h1 : ∀ e' H', I e' H' → awp P lim b Q e' H') : awp P lim (.seq a b) Q e H :=
  s_cut1 I h h1
end Go.Ab
namespace Go.Proofs.YtldpdjpchcoigaaGreat
open Go.Ab Ints
set_option linter.unusedSimpArgs false
set_option linter.unusedVariables false
abbrev wr (a : Int) : Int := IntKind.i64.wrap a
theorem wr_id {a : Int} (h0 : -9223372036854775808 ≤ a) (h1 : a ≤ 9223372036854775807) : wr a = a := by
  show IntKind.i64.wrap a = a
  rw [IntKind.wrap_i64]; omega
theorem wr_ex (a : Int) : ∃ q : Int, wr a = a + 18446744073709551616 * q := by
  refine ⟨-((a + 9223372036854775808) / 18446744073709551616), ?_⟩
  show IntKind.i64.wrap a = _
  rw [IntKind.wrap_i64]; omega
theorem wr_shift (a q : Int) : wr (a + 18446744073709551616 * q) = wr a := by
  show IntKind.i64.wrap _ = IntKind.i64.wrap _
  rw [IntKind.wrap_i64, IntKind.wrap_i64]; omega
theorem wr_add_l (a b : Int) : wr (wr a + b) = wr (a + b) := by
  obtain ⟨q, h⟩ := wr_ex a
  rw [h, show a + 18446744073709551616 * q + b = a + b + 18446744073709551616 * q by omega, wr_shift]
theorem wr_add_r (a b : Int) : wr (a + wr b) = wr (a + b) := by rw [Int.add_comm, wr_add_l, Int.add_comm]
theorem wr_mul_l (a b : Int) : wr (wr a * b) = wr (a * b) := by
  obtain ⟨q, h⟩ := wr_ex a
  rw [h, Int.add_mul, Int.mul_assoc, wr_shift]
theorem wr_mul_r (a b : Int) : wr (a * wr b) = wr (a * b) := by rw [Int.mul_comm, wr_mul_l, Int.mul_comm]
theorem wr_add (a b : Int) : wr (wr a + wr b) = wr (a + b) := by rw [wr_add_l, wr_add_r]
def sg (l : List Int) : Int := if ∀ v ∈ l, 0 < v then 1 else if ∀ v ∈ l, v < 0 then -1 else 0
theorem wr_nat {n : Nat} (h : n ≤ 9000000000000000000) : IntKind.i64.wrap (n : Int) = (n : Int) := wr_id (by omega) (by omega)
def sgn3 (n : Int) : Int := if n > 0 then 1 else if n < 0 then -1 else 0
theorem l1Sign_ok (lim : Nat) (n : Int) (H : AHeap) : ACalls Tryz.prog lim n_spec_l1Sign [.int .i64 n] H fun v H' => v = .int .i64 (sgn3 n) ∧ H' = H := by
  refine is_spec_l1Sign.go rfl ?_
  unfold c_spec_l1Sign sgn3
  refine s_reg ?_
  simp only [o_pure, o_nil, POp.ev, Opd.ev, env0, gu, setD, List.set, Option.some.injEq, exists_eq_left']
  refine s_block ?_
  refine s_test1 ?_
  simp only [o_pure, o_nil, POp.ev, Opd.ev, gv, setD, Option.some.injEq, exists_eq_left', binV, ne_eq, not_true_eq_false, if_false]
  refine Test.split (fun h => ?_) (fun h => ?_)
  · refine s_reg ?_
    simp only [o_pure, o_nil, POp.ev, Opd.ev, setD, List.set, Option.some.injEq, exists_eq_left']
    refine s_ret1 ?_
    simp +decide only [p_seq_ret, p_block_ret, p_fin_ret, resV, resOne, gv, Option.some.injEq, exists_eq_left']
    rw [if_pos (by simpa using h)]
    trivial
  · refine s_test1 ?_
    simp only [o_pure, o_nil, POp.ev, Opd.ev, gv, setD, Option.some.injEq, exists_eq_left', binV, ne_eq, not_true_eq_false, if_false]
    refine Test.split (fun h2 => ?_) (fun h2 => ?_)
    · refine s_reg ?_
      simp only [o_pure, o_nil, POp.ev, Opd.ev, setD, List.set, Option.some.injEq, exists_eq_left']
      refine s_ret1 ?_
      simp +decide only [p_seq_ret, p_block_ret, p_fin_ret, resV, resOne, gv, Option.some.injEq, exists_eq_left']
      rw [if_neg (by simpa using h), if_pos (by simpa using h2)]
      trivial
    · refine s_skip1 ?_
      simp +decide only [p_seq_normal, p_block_normal]
      refine s_reg ?_
      simp only [o_pure, o_nil, POp.ev, Opd.ev, setD, List.set, Option.some.injEq, exists_eq_left']
      refine s_ret1 ?_
      simp +decide only [p_fin_ret, resV, resOne, gv, Option.some.injEq, exists_eq_left']
      rw [if_neg (by simpa using h), if_neg (by simpa using h2)]
      trivial
theorem l1Most_ok (lim : Nat) (a b : Int) (H : AHeap) : ACalls Tryz.prog lim n_spec_l1Most [.int .i64 a, .int .i64 b] H fun v H' => v = .int .i64 (if a > b then a else b) ∧ H' = H := by
  refine is_spec_l1Most.go rfl ?_
  unfold c_spec_l1Most
  refine s_reg ?_
  simp only [o_pure, o_nil, POp.ev, Opd.ev, env0, gu, setD, List.set, Option.some.injEq, exists_eq_left']
  refine s_test ?_
  simp only [o_pure, o_nil, POp.ev, Opd.ev, gv, setD, Option.some.injEq, exists_eq_left', binV, ne_eq, not_true_eq_false, if_false]
  refine Test.split (fun h => ?_) (fun h => ?_)
  · refine s_reg ?_
    simp only [o_pure, o_nil, POp.ev, Opd.ev, gv, setD, List.set, Option.some.injEq, exists_eq_left']
    refine s_ret1 ?_
    simp +decide only [p_seq_ret, p_fin_ret, resV, resOne, gv, Option.some.injEq, exists_eq_left']
    rw [if_pos (by simpa using h)]
    trivial
  · refine s_skip1 ?_
    simp +decide only [p_seq_normal]
    refine s_reg ?_
    simp only [o_pure, o_nil, POp.ev, Opd.ev, gv, setD, List.set, Option.some.injEq, exists_eq_left']
    refine s_ret1 ?_
    simp +decide only [p_fin_ret, resV, resOne, gv, Option.some.injEq, exists_eq_left']
    rw [if_neg (by simpa using h)]
    trivial
theorem l1Least_ok (lim : Nat) (a b : Int) (H : AHeap) : ACalls Tryz.prog lim n_spec_l1Least [.int .i64 a, .int .i64 b] H fun v H' => v = .int .i64 (if a < b then a else b) ∧ H' = H := by
  refine is_spec_l1Least.go rfl ?_
  unfold c_spec_l1Least
  refine s_reg ?_
  simp only [o_pure, o_nil, POp.ev, Opd.ev, env0, gu, setD, List.set, Option.some.injEq, exists_eq_left']
  refine s_test ?_
  simp only [o_pure, o_nil, POp.ev, Opd.ev, gv, setD, Option.some.injEq, exists_eq_left', binV, ne_eq, not_true_eq_false, if_false]
  refine Test.split (fun h => ?_) (fun h => ?_)
  · have h' : a < b := by simpa using h
    refine s_reg ?_
    simp only [o_pure, o_nil, POp.ev, Opd.ev, gv, setD, List.set, Option.some.injEq, exists_eq_left']
    refine s_ret1 ?_
    simp +decide only [p_seq_ret, p_fin_ret, resV, resOne, gv, Option.some.injEq, exists_eq_left']
    rw [if_pos h']
    exact ⟨rfl, trivial⟩
  · have h' : ¬ a < b := by simpa using h
    refine s_skip1 ?_
    simp +decide only [p_seq_normal]
    refine s_reg ?_
    simp only [o_pure, o_nil, POp.ev, Opd.ev, gv, setD, List.set, Option.some.injEq, exists_eq_left']
    refine s_ret1 ?_
    simp +decide only [p_fin_ret, resV, resOne, gv, Option.some.injEq, exists_eq_left']
    rw [if_neg h']
    exact ⟨rfl, trivial⟩
theorem sgn3_cases (n : Int) : (0 < n ∧ sgn3 n = 1) ∨ (n < 0 ∧ sgn3 n = -1) ∨ (n = 0 ∧ sgn3 n = 0) := by
  unfold sgn3
  rcases Int.lt_trichotomy n 0 with h | h | h
  · right; left; exact ⟨h, by rw [if_neg (by omega), if_pos h]⟩
  · right; right; exact ⟨h, by rw [if_neg (by omega), if_neg (by omega)]⟩
  · left; exact ⟨h, by rw [if_pos h]⟩
theorem sg_all {A : List Int} {σ : Int} (hne : A ≠ []) (h : ∀ v ∈ A, sgn3 v = σ) : sg A = σ := by
  obtain ⟨a, l, rfl⟩ : ∃ a l, A = a :: l := by cases A with
    | nil => exact absurd rfl hne
    | cons a l => exact ⟨a, l, rfl⟩
  have ha := h a (by simp)
  unfold sg
  by_cases h1 : ∀ v ∈ a :: l, 0 < v
  · rw [if_pos h1, ← ha]
    have := h1 a (by simp)
    rcases sgn3_cases a with h | h | h <;> omega
  · rw [if_neg h1]
    by_cases h2 : ∀ v ∈ a :: l, v < 0
    · rw [if_pos h2, ← ha]
      have := h2 a (by simp)
      rcases sgn3_cases a with h | h | h <;> omega
    · rw [if_neg h2]
      rcases sgn3_cases a with h3 | h3 | h3
      · exfalso
        refine h1 fun v hv => ?_
        have := h v hv
        rcases sgn3_cases v with h | h | h <;> omega
      · exfalso
        refine h2 fun v hv => ?_
        have := h v hv
        rcases sgn3_cases v with h | h | h <;> omega
      · omega
theorem sg_mixed {A : List Int} {u v : Int} (hu : u ∈ A) (hv : v ∈ A) (h : sgn3 u ≠ sgn3 v) : sg A = 0 := by
  unfold sg
  rw [if_neg, if_neg]
  · intro hn
    have h1 := hn u hu
    have h2 := hn v hv
    rcases sgn3_cases u with h3 | h3 | h3 <;> rcases sgn3_cases v with h4 | h4 | h4 <;> omega
  · intro hn
    have h1 := hn u hu
    have h2 := hn v hv
    rcases sgn3_cases u with h3 | h3 | h3 <;> rcases sgn3_cases v with h4 | h4 | h4 <;> omega
theorem beSign_ok (lim : Nat) (s : Value) (A : List Int) (H : AHeap) (hs : SlI H s A) (hne : A ≠ []) (hn : A.length ≤ 1000000) :
    ACalls Tryz.prog lim n_spec_beSign [s] H fun v H' => v = .int .i64 (sg A) ∧ H' = H := by
  refine is_spec_beSign.go rfl ?_
  unfold c_spec_beSign
  have hpos : 0 < A.length := List.length_pos_iff.2 hne
  obtain ⟨b0, o0, u0, _, u0c⟩ := hs.get hpos
  have u0' : iadV 1 s (.int .i64 0) = some (.pointer (some ⟨b0, o0, none⟩)) := u0
  refine s_reg ?_
  simp only [o_pure, o_nil, POp.ev, Opd.ev, env0, gu, setD, List.set, Option.some.injEq, exists_eq_left']
  refine s_reg ?_
  simp only [o_pure, o_callF, POp.ev, Opd.ev, gv, setD, List.map, Option.some.injEq, exists_eq_left', load1V, u0', u0c]
  refine (l1Sign_ok _ _ _).eq ?_
  simp only [o_cont, o_pure, o_nil, POp.ev, Opd.ev, gv, setD, List.set, Option.some.injEq, exists_eq_left']
  refine s_assoc (s_reg ?_)
  simp only [o_pure, o_nil, POp.ev, Opd.ev, gv, setD, List.set, Option.some.injEq, exists_eq_left', hs.lenV]
  refine s_block ?_
  refine s_loop1 (fun j e' H' => ∃ (i : Nat) (y : Value), i + j = A.length ∧ (∀ v ∈ A.take i, sgn3 v = sgn3 A[0]) ∧ H' = H ∧ e' = [s, .int .i64 0, .int .i64 (sgn3 A[0]), y, s, .int .i64 A.length, .int .i64 i]) A.length ⟨0, _, by omega, by simp, rfl, rfl⟩ ?_
  rintro j e' H' ⟨i, y, hij, hall, rfl, rfl⟩
  refine s_test ?_
  simp only [o_pure, o_nil, POp.ev, Opd.ev, gv, setD, Option.some.injEq, exists_eq_left', binV, ne_eq, not_true_eq_false, if_false]
  refine Test.split (fun hlt => ?_) (fun hlt => ?_)
  · have hlt' : i < A.length := by simpa using hlt
    obtain ⟨b1, o1, w, _, wc⟩ := hs.get hlt'
    refine s_skip1 ?_
    simp +decide only [p_seq_normal]
    refine s_block1 ?_
    refine s_reg ?_
    simp only [o_pure, o_nil, POp.ev, Opd.ev, gv, setD, List.set, Option.some.injEq, exists_eq_left', load1V, w, wc]
    refine s_test1 ?_
    simp only [o_pure, o_callF, POp.ev, Opd.ev, gv, setD, List.map, Option.some.injEq, exists_eq_left']
    refine (l1Sign_ok _ _ _).eq ?_
    simp only [o_cont, o_pure, o_nil, POp.ev, Opd.ev, gv, setD, Option.some.injEq, exists_eq_left', binV, ne_eq, not_true_eq_false, if_false]
    refine Test.split (fun hd => ?_) (fun hd => ?_)
    · have hd' : sgn3 A[i] ≠ sgn3 A[0] := by simpa using hd
      refine s_reg ?_
      simp only [o_pure, o_nil, POp.ev, Opd.ev, setD, List.set, Option.some.injEq, exists_eq_left']
      refine s_ret1 ?_
      simp +decide only [p_seq_ret, p_block_ret, p_fin_ret, resV, resOne, gv, Option.some.injEq, exists_eq_left']
      rw [sg_mixed (List.getElem_mem hlt') (List.getElem_mem hpos) hd']
      exact ⟨rfl, trivial⟩
    · have hd' : sgn3 A[i] = sgn3 A[0] := by simpa using hd
      refine s_skip1 ?_
      simp +decide only [p_seq_normal, p_block_normal]
      refine s_reg1 ?_
      simp only [o_pure, o_nil, POp.ev, Opd.ev, gv, setD, List.set, Option.some.injEq, exists_eq_left', binV, ne_eq, not_true_eq_false, if_false, add1 (i := i) (by omega)]
      simp +decide only [p_seq_normal]
      refine Round.mk (j - 1) (by omega) ⟨i + 1, _, by omega, ?_, rfl, rfl⟩
      intro v hv
      rw [List.take_succ_eq_append_getElem hlt'] at hv
      rcases List.mem_append.1 hv with h | h
      · exact hall v h
      · rw [List.mem_singleton.1 h]; exact hd'
  · have hge : i = A.length := by simp at hlt; omega
    subst hge
    rw [List.take_length] at hall
    refine s_exit1 ?_
    simp +decide only [p_seq_normal, p_seq_exit, p_block_exit, reduceIte]
    refine s_reg ?_
    simp only [o_pure, o_nil, POp.ev, Opd.ev, gv, setD, List.set, Option.some.injEq, exists_eq_left']
    refine s_ret1 ?_
    simp +decide only [p_fin_ret, resV, resOne, gv, Option.some.injEq, exists_eq_left']
    rw [sg_all hne hall]
    exact ⟨rfl, trivial⟩
theorem min_ok (lim : Nat) (s : Value) (A : List Int) (H : AHeap) (hs : SlI H s A) (hne : A ≠ []) (hn : A.length ≤ 1000000) :
    ACalls Tryz.prog lim n_slices_Min_S_int_int [s] H fun v H' => (∃ m, v = .int .i64 m ∧ m ∈ A ∧ ∀ x ∈ A, m ≤ x) ∧ H' = H := by
  refine is_slices_Min_S_int_int.go rfl ?_
  unfold c_slices_Min_S_int_int
  have hpos : 0 < A.length := List.length_pos_iff.2 hne
  obtain ⟨b0, o0, u0, _, u0c⟩ := hs.get hpos
  have u0' : iadV 1 s (.int .i64 0) = some (.pointer (some ⟨b0, o0, none⟩)) := u0
  have d1 : decide ((A.length : Int) < 1) = false := by simp; omega
  refine s_reg ?_
  simp only [o_pure, o_nil, POp.ev, Opd.ev, env0, gu, setD, List.set, Option.some.injEq, exists_eq_left']
  refine s_test ?_
  simp only [o_pure, o_nil, POp.ev, Opd.ev, gv, setD, Option.some.injEq, exists_eq_left', binV, ne_eq, not_true_eq_false, if_false, hs.lenV, d1]
  refine Test.false_ (s_skip1 ?_)
  simp +decide only [p_seq_normal]
  refine s_reg ?_
  simp only [o_pure, o_nil, POp.ev, Opd.ev, gv, setD, List.set, Option.some.injEq, exists_eq_left', load1V, u0', u0c]
  refine s_assoc (s_reg ?_)
  simp only [o_pure, o_nil, POp.ev, Opd.ev, setD, List.set, Option.some.injEq, exists_eq_left']
  refine s_block ?_
  refine s_loop1 (fun j e' H' => ∃ (i : Nat) (m : Int), i + j = A.length ∧ m ∈ A ∧ (∀ x ∈ A.take i, m ≤ x) ∧ H' = H ∧ e' = [s, .int .i64 0, .int .i64 m, .int .i64 i]) (A.length - 1) ⟨1, A[0], by omega, List.getElem_mem hpos, ?_, rfl, rfl⟩ ?_
  · intro x hx
    rw [show (1 : Nat) = 0 + 1 from rfl, List.take_succ_eq_append_getElem hpos] at hx
    simp at hx
    omega
  rintro j e' H ⟨i, m, hij, hm, hall, rfl, rfl⟩
  refine s_test ?_
  simp only [o_pure, o_nil, POp.ev, Opd.ev, gv, setD, Option.some.injEq, exists_eq_left', binV, ne_eq, not_true_eq_false, if_false, hs.lenV]
  refine Test.split (fun hlt => ?_) (fun hlt => ?_)
  · have hlt' : i < A.length := by simpa using hlt
    obtain ⟨b1, o1, w, _, wc⟩ := hs.get hlt'
    refine s_skip1 ?_
    simp +decide only [p_seq_normal]
    refine s_block1 ?_
    refine s_reg1 ?_
    simp only [o_pure, o_nil, POp.ev, Opd.ev, gv, setD, List.set, Option.some.injEq, exists_eq_left', load1V, min2V, w, wc]
    simp +decide only [p_seq_normal, p_block_normal]
    refine s_reg1 ?_
    simp only [o_pure, o_nil, POp.ev, Opd.ev, gv, setD, List.set, Option.some.injEq, exists_eq_left', binV, ne_eq, not_true_eq_false, if_false, add1 (i := i) (by omega)]
    simp +decide only [p_seq_normal]
    refine Round.mk (j - 1) (by omega) ⟨i + 1, _, by omega, ?_, ?_, rfl, rfl⟩
    · split
      · exact List.getElem_mem hlt'
      · exact hm
    · intro x hx
      rw [List.take_succ_eq_append_getElem hlt'] at hx
      rcases List.mem_append.1 hx with h | h
      · have := hall x h
        split <;> omega
      · rw [List.mem_singleton.1 h]
        split <;> omega
  · have hge : A.length ≤ i := by simp at hlt; omega
    rw [List.take_of_length_le hge] at hall
    refine s_exit1 ?_
    simp +decide only [p_seq_normal, p_seq_exit, p_block_exit, reduceIte]
    refine s_reg ?_
    simp only [o_pure, o_nil, POp.ev, Opd.ev, gv, setD, List.set, Option.some.injEq, exists_eq_left']
    refine s_ret1 ?_
    simp +decide only [p_fin_ret, resV, resOne, gv, Option.some.injEq, exists_eq_left']
    exact ⟨⟨m, rfl, hm, hall⟩, trivial⟩
theorem max_ok (lim : Nat) (s : Value) (A : List Int) (H : AHeap) (hs : SlI H s A) (hne : A ≠ []) (hn : A.length ≤ 1000000) :
    ACalls Tryz.prog lim n_slices_Max_S_int_int [s] H fun v H' => (∃ m, v = .int .i64 m ∧ m ∈ A ∧ ∀ x ∈ A, x ≤ m) ∧ H' = H := by
  refine is_slices_Max_S_int_int.go rfl ?_
  unfold c_slices_Max_S_int_int
  have hpos : 0 < A.length := List.length_pos_iff.2 hne
  obtain ⟨b0, o0, u0, _, u0c⟩ := hs.get hpos
  have u0' : iadV 1 s (.int .i64 0) = some (.pointer (some ⟨b0, o0, none⟩)) := u0
  have d1 : decide ((A.length : Int) < 1) = false := by simp; omega
  refine s_reg ?_
  simp only [o_pure, o_nil, POp.ev, Opd.ev, env0, gu, setD, List.set, Option.some.injEq, exists_eq_left']
  refine s_test ?_
  simp only [o_pure, o_nil, POp.ev, Opd.ev, gv, setD, Option.some.injEq, exists_eq_left', binV, ne_eq, not_true_eq_false, if_false, hs.lenV, d1]
  refine Test.false_ (s_skip1 ?_)
  simp +decide only [p_seq_normal]
  refine s_reg ?_
  simp only [o_pure, o_nil, POp.ev, Opd.ev, gv, setD, List.set, Option.some.injEq, exists_eq_left', load1V, u0', u0c]
  refine s_assoc (s_reg ?_)
  simp only [o_pure, o_nil, POp.ev, Opd.ev, setD, List.set, Option.some.injEq, exists_eq_left']
  refine s_block ?_
  refine s_loop1 (fun j e' H' => ∃ (i : Nat) (m : Int), i + j = A.length ∧ m ∈ A ∧ (∀ x ∈ A.take i, x ≤ m) ∧ H' = H ∧ e' = [s, .int .i64 0, .int .i64 m, .int .i64 i]) (A.length - 1) ⟨1, A[0], by omega, List.getElem_mem hpos, ?_, rfl, rfl⟩ ?_
  · intro x hx
    rw [show (1 : Nat) = 0 + 1 from rfl, List.take_succ_eq_append_getElem hpos] at hx
    simp at hx
    omega
  rintro j e' H ⟨i, m, hij, hm, hall, rfl, rfl⟩
  refine s_test ?_
  simp only [o_pure, o_nil, POp.ev, Opd.ev, gv, setD, Option.some.injEq, exists_eq_left', binV, ne_eq, not_true_eq_false, if_false, hs.lenV]
  refine Test.split (fun hlt => ?_) (fun hlt => ?_)
  · have hlt' : i < A.length := by simpa using hlt
    obtain ⟨b1, o1, w, _, wc⟩ := hs.get hlt'
    refine s_skip1 ?_
    simp +decide only [p_seq_normal]
    refine s_block1 ?_
    refine s_reg1 ?_
    simp only [o_pure, o_nil, POp.ev, Opd.ev, gv, setD, List.set, Option.some.injEq, exists_eq_left', load1V, max2V, w, wc]
    simp +decide only [p_seq_normal, p_block_normal]
    refine s_reg1 ?_
    simp only [o_pure, o_nil, POp.ev, Opd.ev, gv, setD, List.set, Option.some.injEq, exists_eq_left', binV, ne_eq, not_true_eq_false, if_false, add1 (i := i) (by omega)]
    simp +decide only [p_seq_normal]
    refine Round.mk (j - 1) (by omega) ⟨i + 1, _, by omega, ?_, ?_, rfl, rfl⟩
    · split
      · exact List.getElem_mem hlt'
      · exact hm
    · intro x hx
      rw [List.take_succ_eq_append_getElem hlt'] at hx
      rcases List.mem_append.1 hx with h | h
      · have := hall x h
        split <;> omega
      · rw [List.mem_singleton.1 h]
        split <;> omega
  · have hge : A.length ≤ i := by simp at hlt; omega
    rw [List.take_of_length_le hge] at hall
    refine s_exit1 ?_
    simp +decide only [p_seq_normal, p_seq_exit, p_block_exit, reduceIte]
    refine s_reg ?_
    simp only [o_pure, o_nil, POp.ev, Opd.ev, gv, setD, List.set, Option.some.injEq, exists_eq_left']
    refine s_ret1 ?_
    simp +decide only [p_fin_ret, resV, resOne, gv, Option.some.injEq, exists_eq_left']
    exact ⟨⟨m, rfl, hm, hall⟩, trivial⟩
theorem commonSign_ok (lim : Nat) (s : Value) (A : List Int) (H : AHeap) (hs : SlI H s A) (hne : A ≠ []) (hn : A.length ≤ 1000000) :
    ACalls Tryz.prog lim n_impl_commonSign [s] H fun v H' => v = .int .i64 (sg A) ∧ H' = H := by
  refine is_impl_commonSign.go rfl ?_
  unfold c_impl_commonSign
  refine s_reg ?_
  simp only [o_pure, o_nil, POp.ev, Opd.ev, env0, gu, setD, List.set, Option.some.injEq, exists_eq_left']
  refine s_block ?_
  refine s_test1 ?_
  simp only [o_pure, o_callF, POp.ev, Opd.ev, gv, setD, List.map, Option.some.injEq, exists_eq_left']
  refine (min_ok _ s A H hs hne hn).mono ?_
  rintro _ H' ⟨⟨m, rfl, hm, hmn⟩, rfl⟩
  simp only [o_cont, o_pure, o_nil, POp.ev, Opd.ev, gv, setD, Option.some.injEq, exists_eq_left', binV, ne_eq, not_true_eq_false, if_false]
  refine Test.split (fun h => ?_) (fun h => ?_)
  · have h' : 0 < m := by simpa using h
    refine s_reg ?_
    simp only [o_pure, o_nil, POp.ev, Opd.ev, setD, List.set, Option.some.injEq, exists_eq_left']
    refine s_ret1 ?_
    simp +decide only [p_seq_ret, p_block_ret, p_fin_ret, resV, resOne, gv, Option.some.injEq, exists_eq_left']
    unfold sg
    rw [if_pos (fun v hv => by have := hmn v hv; omega)]
    exact ⟨rfl, trivial⟩
  · have h' : ¬ 0 < m := by simpa using h
    have c1 : ¬ ∀ v ∈ A, 0 < v := fun hh => h' (hh m hm)
    refine s_test1 ?_
    simp only [o_pure, o_callF, POp.ev, Opd.ev, gv, setD, List.map, Option.some.injEq, exists_eq_left']
    refine (max_ok _ s A H' hs hne hn).mono ?_
    rintro _ H2 ⟨⟨M, rfl, hM, hmx⟩, rfl⟩
    simp only [o_cont, o_pure, o_nil, POp.ev, Opd.ev, gv, setD, Option.some.injEq, exists_eq_left', binV, ne_eq, not_true_eq_false, if_false]
    refine Test.split (fun h2 => ?_) (fun h2 => ?_)
    · have h2' : M < 0 := by simpa using h2
      refine s_reg ?_
      simp only [o_pure, o_nil, POp.ev, Opd.ev, setD, List.set, Option.some.injEq, exists_eq_left']
      refine s_ret1 ?_
      simp +decide only [p_seq_ret, p_block_ret, p_fin_ret, resV, resOne, gv, Option.some.injEq, exists_eq_left']
      unfold sg
      rw [if_neg c1, if_pos (fun v hv => by have := hmx v hv; omega)]
      exact ⟨rfl, trivial⟩
    · have h2' : ¬ M < 0 := by simpa using h2
      refine s_skip1 ?_
      simp +decide only [p_seq_normal, p_block_normal]
      refine s_reg ?_
      simp only [o_pure, o_nil, POp.ev, Opd.ev, setD, List.set, Option.some.injEq, exists_eq_left']
      refine s_ret1 ?_
      simp +decide only [p_fin_ret, resV, resOne, gv, Option.some.injEq, exists_eq_left']
      unfold sg
      rw [if_neg c1, if_neg (fun hh => h2' (hh M hM))]
      exact ⟨rfl, trivial⟩
theorem Ints.SlI.ext {H H' : AHeap} {v : Value} {l : List Int} (h : SlI H v l) (hx : Ext H H') : SlI H' v l := Sl.keep h (Keep.of_ext hx (Nat.le_refl _)) (Nat.le_refl _)
theorem VecI.at {H : AHeap} {b : Nat} {v : Value} {l : List Int} (h : VecI H b v l) {i : Nat} (hi : i < l.length) : iadV 1 v (.int .i64 i) = some (.pointer (some ⟨b, i, none⟩)) ∧ H.cell b i = some (.int .i64 (l.getD i 0)) := by
  have hiad := Vec.iad h .i64 (i := i) (by omega)
  rw [Nat.mul_one] at hiad
  refine ⟨hiad, Vec.cell h ?_⟩
  rw [List.getElem?_map, List.getElem?_eq_getElem hi, show l.getD i 0 = l[i] from by simp [hi]]
  rfl
theorem VecI.put {lim : Nat} {H : AHeap} {b : Nat} {v : Value} {l : List Int} (h : VecI H b v l) (hl : lim ≤ b) {i : Nat} (hi : i < l.length) (x : Int) :
    ∃ cs, storeH lim H 1 (.pointer (some ⟨b, i, none⟩)) (.int .i64 x) = some (undef, H.put b cs) ∧ VecI (H.put b cs) b v (l.set i x) := by
  obtain ⟨cs, hst, hv'⟩ := Vec.put1 (lim := lim) h hl (i := i) (x := .int .i64 x) rfl (by omega)
  refine ⟨cs, hst, ?_⟩
  show Vec _ b v (l.set i x).length 1 ((l.set i x).map vi)
  rw [List.length_set, List.map_set]
  exact hv'
theorem getD_set (l : List Int) (i k : Nat) (x : Int) (hi : i < l.length) : (l.set i x).getD k 0 = if k = i then x else l.getD k 0 := by
  rw [List.getD_eq_getElem?_getD, List.getD_eq_getElem?_getD, List.getElem?_set]
  by_cases h : i = k
  · subst h
    simp [hi]
  · rw [if_neg h, if_neg (fun e => h e.symm)]
theorem VecI.mk' (H : AHeap) (n : Nat) : VecI (H.alloc (List.replicate n (.int .i64 0))) H.next (.slice (some ⟨H.next, 0, some 0⟩) n n) (List.replicate n 0) := by
  show Vec _ _ _ (List.replicate n (0 : Int)).length 1 ((List.replicate n (0 : Int)).map vi)
  rw [List.length_replicate, List.map_replicate]
  exact Vec.lit (by simp)
theorem set_map_range {n u : Nat} (f g : Nat → Int) (hu : u < n) (h : ∀ k, k < n → k ≠ u → g k = f k) : ((List.range n).map f).set u (g u) = (List.range n).map g := by
  refine List.ext_getElem (by simp) fun k h1 h2 => ?_
  rw [List.getElem_set]
  simp only [List.getElem_map, List.getElem_range]
  simp only [List.length_set, List.length_map, List.length_range] at h1
  split
  · rename_i e; rw [e]
  · rename_i e; exact (h k h1 (fun e' => e e'.symm)).symm
theorem bslice1 (H : AHeap) (k : IntKind) (x : Int) (z : Value) : bsliceH H 1 [z] [(0, 1, .int k x)] = some (.slice (some ⟨H.next, 0, some 0⟩) 1 1, H.alloc [.int k x]) := by
  simp [bsliceH, fillV, cellsV]
theorem VecI.nil (H : AHeap) (b : Nat) : VecI H b (.slice none 0 0) [] := Vec.nil _ _ _
/-- one number put behind a list of one's own -/
theorem VecI.push {lim : Nat} {H : AHeap} {b : Nat} {v : Value} {l : List Int} (h : VecI H b v l) (x : Int) (hl : lim ≤ b) (hn : l.length ≤ 1000000000) :
    ∃ v' H' b', appendH lim (H.alloc [vi x]) 1 8 v (.slice (some ⟨H.next, 0, some 0⟩) 1 1) = some (v', H') ∧ VecI H' b' v' (l ++ [x]) ∧ (b' = b ∨ H.next ≤ b') ∧ b' < H'.next ∧ Chg b H H' := by
  have hx : Vec (H.alloc [vi x]) H.next (.slice (some ⟨H.next, 0, some 0⟩) 1 1) 1 1 [vi x] := Vec.lit rfl
  obtain ⟨v', H', b', h1, h2, h3, h4, h5⟩ := (h.ext (Ext.alloc H [vi x])).append (lim := lim) hl hx.sl (by decide) (bytes := 8) (by omega)
  refine ⟨v', H', b', h1, by simpa [VecI] using h2, ?_, (h2.blk (by omega)).elim fun _ h => h.2, (Chg.of_ext (Ext.alloc H [vi x])).trans h4⟩
  rcases h3 with rfl | ⟨rfl, _⟩
  · exact .inl rfl
  · exact .inr (Nat.le_succ _)
end Go.Proofs.YtldpdjpchcoigaaGreat

/- Dyadic numbers, the reference: made, compared; no condition beyond stated ranges. -/
namespace Go.Proofs.YtldpdjpchcoigaaGreat
open Go.Ab Ints
set_option linter.unusedSimpArgs false
set_option linter.unusedVariables false

theorem load2 {b : Nat} {H : AHeap} {x y : Value} (h : H.blk b = some [x, y]) : loadNV H 2 (.pointer (some ⟨b, 0, none⟩)) = some (.agg #[x, y]) := loadNV_blk h
theorem store2 {lim b : Nat} {H : AHeap} {p q x y : Value} (hl : lim ≤ b) (h : H.blk b = some [p, q]) : storeH lim H 2 (.pointer (some ⟨b, 0, none⟩)) (.agg #[x, y]) = some (undef, H.put b [x, y]) :=
  store_all (xs := [x, y]) hl h rfl
theorem fill2 (a b : Value) (k l : Int) : fillV [a, b] [(0, 1, .int .i64 k), (1, 1, .int .i64 l)] = some [vi k, vi l] := by simp [fillV, cellsV]
def dyV (n : Int) (k : Nat) : Value := .agg #[.int .i64 n, .int .i64 (k : Int)]
theorem pow_nat (k : Nat) : ((2 ^ k : Nat) : Int) = (2 : Int) ^ k := by push_cast; rfl
theorem pow_pos2 (k : Nat) : (1 : Int) ≤ 2 ^ k := by rw [← pow_nat]; have := Nat.one_le_two_pow (n := k); omega
theorem pow_le2 {k m : Nat} (h : k ≤ m) : (2 : Int) ^ k ≤ 2 ^ m := by
  rw [← pow_nat, ← pow_nat]
  have := Nat.pow_le_pow_right (n := 2) (by decide) h
  omega
theorem dyDown_ok (lim : Nat) (a b : Int) (H : AHeap) (hb : 1 ≤ b) (ha : a.natAbs ≤ 1000000000000000) : ACalls Tryz.prog lim n_spec_dyDown [.int .i64 a, .int .i64 b] H fun v H' => (∃ q, v = .int .i64 q ∧ q * b ≤ a ∧ a < (q + 1) * b ∧ q.natAbs ≤ 1000000000000001) ∧ H' = H := by
  refine is_spec_dyDown.go rfl ?_
  unfold c_spec_dyDown
  have hb0 : ¬ b = 0 := by omega
  have t1 := Int.mul_tdiv_add_tmod a b
  have t2 := Int.tmod_lt_of_pos a (show 0 < b by omega)
  have t3 := Int.lt_tmod_of_pos a (show 0 < b by omega)
  have t4 : (a.tdiv b).natAbs ≤ a.natAbs := by
    rw [Int.natAbs_tdiv]
    exact Nat.div_le_self _ _
  have w1 : IntKind.i64.wrap (a.tdiv b) = a.tdiv b := wr_id (by omega) (by omega)
  have w2 : IntKind.i64.wrap (a.tdiv b - 1) = a.tdiv b - 1 := wr_id (by omega) (by omega)
  have e1 : b * a.tdiv b = a.tdiv b * b := Int.mul_comm _ _
  obtain ⟨q, hq⟩ : ∃ q, a.tdiv b = q := ⟨_, rfl⟩
  obtain ⟨r, hr⟩ : ∃ r, a.tmod b = r := ⟨_, rfl⟩
  rw [hq] at t1 t4 w1 w2 e1
  rw [hr] at t1 t2 t3
  have e2 : (q + 1) * b = q * b + b := by rw [Int.add_mul, Int.one_mul]
  have e3 : (q - 1) * b = q * b - b := by rw [Int.sub_mul, Int.one_mul]
  refine s_reg ?_
  simp only [o_pure, o_nil, POp.ev, Opd.ev, env0, gu, setD, List.set, Option.some.injEq, exists_eq_left']
  refine s_reg ?_
  simp only [o_pure, o_nil, POp.ev, Opd.ev, gv, setD, List.set, Option.some.injEq, exists_eq_left', binV, ne_eq, not_true_eq_false, if_false, hb0, hq, w1]
  refine s_cut (fun e' H' => ∃ q', q' * b ≤ a ∧ a < (q' + 1) * b ∧ q'.natAbs ≤ 1000000000000001 ∧ H' = H ∧ e' = [.int .i64 a, .int .i64 b, .int .i64 0, .int .i64 q']) ?_ ?_
  · refine s_test1 ?_
    simp only [o_pure, o_nil, POp.ev, Opd.ev, gv, setD, Option.some.injEq, exists_eq_left', binV, ne_eq, not_true_eq_false, if_false, hb0, hr]
    refine Test.split (fun h => ?_) (fun h => ?_)
    · have h' := of_decide_eq_true h
      refine s_reg1 ?_
      simp only [o_pure, o_nil, POp.ev, Opd.ev, gv, setD, List.set, Option.some.injEq, exists_eq_left', binV, ne_eq, not_true_eq_false, if_false, w2]
      simp +decide only [p_seq_normal]
      refine ⟨q - 1, by omega, ?_, by omega, trivial, rfl⟩
      rw [Int.sub_add_cancel]
      omega
    · have h' := of_decide_eq_false h
      refine s_skip1 ?_
      simp +decide only [p_seq_normal]
      exact ⟨q, by omega, by omega, by omega, trivial, rfl⟩
  · rintro e' H' ⟨q', g1, g2, g3, rfl, rfl⟩
    refine s_reg ?_
    simp only [o_pure, o_nil, POp.ev, Opd.ev, gv, setD, List.set, Option.some.injEq, exists_eq_left']
    refine s_ret1 ?_
    simp +decide only [p_fin_ret, resV, resOne, gv, Option.some.injEq, exists_eq_left']
    exact ⟨⟨q', rfl, g1, g2, g3⟩, trivial⟩
theorem dyFloor_ok (lim : Nat) (n : Int) (k : Nat) (H : AHeap) (hk : k ≤ 24) (hn : n.natAbs ≤ 1099511627776) : ACalls Tryz.prog lim n_spec_dyFloor [dyV n k] H fun v H' => (∃ p, v = .int .i64 p ∧ p * 2 ^ k ≤ n ∧ n < (p + 1) * 2 ^ k ∧ p.natAbs ≤ 1000000000000001) ∧ Ext H H' := by
  refine is_spec_dyFloor.go rfl ?_
  unfold c_spec_dyFloor dyV
  refine s_reg ?_
  simp only [o_pure, o_eff, o_nil, POp.ev, Opd.ev, EOp.ev, env0, gu, gv, setD, List.set, Option.map_some, Option.some.injEq, exists_eq_left', boxH, cellsV]
  have hx := Ext.alloc H [.int .i64 n, .int .i64 (k : Int)]
  have hb : (H.alloc [.int .i64 n, .int .i64 (k : Int)]).blk H.next = some [.int .i64 n, .int .i64 (k : Int)] := alloc_new _ _
  generalize H.alloc [.int .i64 n, .int .i64 (k : Int)] = H1 at hx hb ⊢
  refine s_reg ?_
  simp only [o_pure, o_callN, POp.ev, Opd.ev, gv, setD, List.map, Option.some.injEq, exists_eq_left', load1V, fadV, List.getElem?_cons_zero, List.getElem?_cons_succ, Nat.zero_add, cell_blk hb]
  refine (Ints.power_ok _ k H1 (by omega)).use ?_
  rintro _ HH ⟨rfl, hh⟩ _
  subst HH
  simp only [o_cont, o_callF, Opd.ev, gv, setD, List.map]
  refine (dyDown_ok _ n (2 ^ k) H1 (pow_pos2 k) (by omega)).mono ?_
  rintro _ HH ⟨⟨p, rfl, g1, g2, g3⟩, hh⟩
  subst HH
  simp only [o_cont, o_pure, o_nil, POp.ev, Opd.ev, gv, setD, List.set, Option.some.injEq, exists_eq_left']
  refine s_ret1 ?_
  simp +decide only [p_fin_ret, resV, resOne, gv, Option.some.injEq, exists_eq_left']
  exact ⟨⟨p, rfl, g1, g2, g3⟩, hx⟩
theorem dyAt_ok (lim : Nat) (n : Int) (k : Nat) (H : AHeap) (hl : lim ≤ H.next) (hk : k ≤ 24) (h0 : 0 ≤ n) (hn : n ≤ 2 ^ k) : ACalls Tryz.prog lim n_spec_dyAt [dyV n k, .int .i64 24] H fun v H' => v = .tuple #[.int .i64 (n * 2 ^ (24 - k)), .bool true] ∧ Ext H H' := by
  refine is_spec_dyAt.go rfl ?_
  unfold c_spec_dyAt dyV
  refine s_reg ?_
  simp only [o_pure, o_eff, o_nil, POp.ev, Opd.ev, EOp.ev, env0, gu, gv, setD, List.set, Option.map_some, Option.some.injEq, exists_eq_left', boxH, cellsV]
  have hx := Ext.alloc H [.int .i64 n, .int .i64 (k : Int)]
  have hb : (H.alloc [.int .i64 n, .int .i64 (k : Int)]).blk H.next = some [.int .i64 n, .int .i64 (k : Int)] := alloc_new _ _
  have hbl : H.next < (H.alloc [.int .i64 n, .int .i64 (k : Int)]).next := Nat.lt_succ_self _
  generalize H.alloc [.int .i64 n, .int .i64 (k : Int)] = H1 at hx hb hbl ⊢
  generalize hq : H.next = q at *
  refine s_test ?_
  simp only [o_pure, o_nil, POp.ev, Opd.ev, gv, setD, Option.some.injEq, exists_eq_left', binV, load1V, fadV, ne_eq, not_true_eq_false, if_false, List.getElem?_cons_zero, Nat.zero_add, cell_blk hb]
  refine Test.split (fun h => ?_) (fun h => ?_)
  · have h' : n = 0 := by simpa using h
    subst h'
    refine s_reg ?_
    simp only [o_pure, o_nil, POp.ev, Opd.ev, setD, List.set, Option.some.injEq, exists_eq_left']
    refine s_ret1 ?_
    simp +decide only [p_seq_ret, p_fin_ret, resV, resOne, resL, gv, Option.some.injEq, exists_eq_left', Option.bind_some, Option.map_some]
    exact ⟨by simp, hx⟩
  refine s_skip1 ?_
  simp +decide only [p_seq_normal]
  refine s_assoc (s_reg ?_)
  simp only [o_pure, o_nil, POp.ev, Opd.ev, gv, setD, List.set, Option.some.injEq, exists_eq_left', load1V, fadV, List.getElem?_cons_zero, List.getElem?_cons_succ, Nat.zero_add, cell_blk hb]
  refine s_block ?_
  have hp24 := pow_le2 hk
  refine s_loop1 (fun j e' H' => ∃ m : Nat, k + m + j = 24 ∧ H'.blk q = some [.int .i64 (n * 2 ^ m), .int .i64 (k : Int)] ∧ q < H'.next ∧ Ext H H' ∧ e' = [.agg #[.int .i64 n, .int .i64 (k : Int)], .int .i64 24, .pointer (some ⟨q, 0, none⟩), .int .i64 0, .bool false, .int .i64 ((k + m : Nat) : Int)]) (24 - k) ⟨0, by omega, by rw [Int.pow_zero, Int.mul_one]; exact hb, hbl, hx, rfl⟩ ?_
  rintro j e' H2 ⟨m, hmj, hb2, hbl2, hx2, rfl⟩
  refine s_test ?_
  simp only [o_pure, o_nil, POp.ev, Opd.ev, gv, setD, Option.some.injEq, exists_eq_left', binV, ne_eq, not_true_eq_false, if_false]
  refine Test.split (fun hlt => ?_) (fun hlt => ?_)
  · have hlt' : k + m < 24 := by have := of_decide_eq_true hlt; omega
    have b1 : n * 2 ^ m ≤ 16777216 := by
      have h1 : n * 2 ^ m ≤ 2 ^ k * 2 ^ m := Int.mul_le_mul_of_nonneg_right hn (by have := pow_pos2 m; omega)
      rw [← Int.pow_add] at h1
      have h2 := pow_le2 (show k + m ≤ 24 by omega)
      have h3 : (2 : Int) ^ 24 = 16777216 := by decide
      omega
    have b0 : 0 ≤ n * 2 ^ m := Int.mul_nonneg h0 (by have := pow_pos2 m; omega)
    have p60 : (2 : Int) ^ 60 = 1152921504606846976 := by decide
    have w60 : IntKind.i64.wrap (0 - (2 : Int) ^ 60) = -1152921504606846976 := by rw [p60]; decide
    have hin : (decide (-1152921504606846976 ≤ n * 2 ^ m) && decide (n * 2 ^ m ≤ 2 ^ 60)) = true := by
      rw [p60]
      simp
      omega
    have w2 : IntKind.i64.wrap (n * 2 ^ m * 2) = n * 2 ^ (m + 1) := by
      rw [Int.pow_succ, ← Int.mul_assoc]
      exact wr_id (by omega) (by omega)
    refine s_skip1 ?_
    simp +decide only [p_seq_normal]
    refine s_block1 ?_
    refine s_test ?_
    simp only [o_pure, o_callN, POp.ev, Opd.ev, gv, setD, List.map, Option.some.injEq, exists_eq_left', load1V, fadV, List.getElem?_cons_zero, Nat.zero_add, cell_blk hb2]
    refine (Ints.power_ok _ 60 H2 (by omega)).use ?_
    rintro _ HH ⟨rfl, hh⟩ _
    subst HH
    simp only [o_cont, o_pure, o_callN, POp.ev, Opd.ev, gv, setD, List.map, Option.some.injEq, exists_eq_left', unV, w60]
    refine (Ints.power_ok _ 60 H2 (by omega)).use ?_
    rintro _ HH ⟨rfl, hh⟩ _
    subst HH
    simp only [o_cont, o_callF, Opd.ev, gv, setD, List.map]
    refine (Ints.l1In_ok _ _ _ _ _).eq ?_
    rw [hin]
    simp only [o_cont, o_pure, o_nil, POp.ev, Opd.ev, gv, setD, Option.some.injEq, exists_eq_left', unV, Bool.not_true]
    refine Test.false_ (s_skip1 ?_)
    simp +decide only [p_seq_normal]
    have hst : storeH lim H2 1 (.pointer (some ⟨q, 0, none⟩)) (.int .i64 (n * 2 ^ (m + 1))) = some (undef, H2.put q [.int .i64 (n * 2 ^ (m + 1)), .int .i64 (k : Int)]) := store_cell rfl (by omega) hb2 (by simp)
    refine s_reg1 ?_
    simp only [o_pure, o_eff, o_nil, POp.ev, Opd.ev, EOp.ev, gv, setD, Option.some.injEq, exists_eq_left', binV, load1V, fadV, ne_eq, not_true_eq_false, if_false, List.getElem?_cons_zero, Nat.zero_add, cell_blk hb2, w2, hst]
    simp +decide only [p_seq_normal, p_block_normal]
    refine s_reg1 ?_
    simp only [o_pure, o_nil, POp.ev, Opd.ev, gv, setD, List.set, Option.some.injEq, exists_eq_left', binV, ne_eq, not_true_eq_false, if_false, add1 (i := k + m) (by omega)]
    simp +decide only [p_seq_normal]
    exact Round.mk (j - 1) (by omega) ⟨m + 1, by omega, put_same _ _ _, hbl2, Chg.ext hx2 (Chg.put _ _ _) (by omega), rfl⟩
  · have hge : m = 24 - k := by have := of_decide_eq_false hlt; omega
    subst hge
    refine s_exit1 ?_
    simp +decide only [p_seq_normal, p_seq_exit, p_block_exit, reduceIte]
    refine s_reg ?_
    simp only [o_pure, o_nil, POp.ev, Opd.ev, gv, setD, List.set, Option.some.injEq, exists_eq_left', load1V, fadV, List.getElem?_cons_zero, Nat.zero_add, cell_blk hb2]
    refine s_ret1 ?_
    simp +decide only [p_fin_ret, resV, resOne, resL, gv, Option.some.injEq, exists_eq_left', Option.bind_some, Option.map_some]
    exact ⟨trivial, hx2⟩
theorem sg3p {n : Int} (h : 0 < n) : sgn3 n = 1 := by unfold sgn3; rw [if_pos h]
theorem sg3n {n : Int} (h : n < 0) : sgn3 n = -1 := by unfold sgn3; rw [if_neg (by omega), if_pos h]
theorem sgn3_mul {c : Int} (hc : 0 < c) (n : Int) : sgn3 (c * n) = sgn3 n := by
  rcases Int.lt_trichotomy n 0 with h | h | h
  · rw [sg3n h, sg3n (Int.mul_neg_of_pos_of_neg hc h)]
  · subst h; simp
  · rw [sg3p h, sg3p (Int.mul_pos hc h)]
theorem floor_lt {n1 n2 p q : Int} {k1 k2 : Nat} (h1 : n1 < (p + 1) * 2 ^ k1) (h2 : q * 2 ^ k2 ≤ n2) (h : p < q) : n1 * 2 ^ k2 - n2 * 2 ^ k1 < 0 := by
  have a1 := pow_pos2 k1
  have a2 := pow_pos2 k2
  have g1 : n1 * 2 ^ k2 < (p + 1) * 2 ^ k1 * 2 ^ k2 := Int.mul_lt_mul_of_pos_right h1 (by omega)
  have g2 : q * 2 ^ k2 * 2 ^ k1 ≤ n2 * 2 ^ k1 := Int.mul_le_mul_of_nonneg_right h2 (by omega)
  have g3 : (p + 1) * (2 ^ k1 * 2 ^ k2) ≤ q * (2 ^ k1 * 2 ^ k2) := Int.mul_le_mul_of_nonneg_right (by omega) (Int.mul_nonneg (by omega) (by omega))
  rw [Int.mul_assoc] at g1
  rw [Int.mul_assoc, Int.mul_comm (2 ^ k2) (2 ^ k1)] at g2
  omega
theorem dyCmp_ok (lim : Nat) (n1 n2 : Int) (k1 k2 : Nat) (H : AHeap) (hl : lim ≤ H.next) (hk1 : k1 ≤ 24) (hk2 : k2 ≤ 24) (hn1 : n1.natAbs ≤ 1099511627776) (hn2 : n2.natAbs ≤ 1099511627776) :
    ACalls Tryz.prog lim n_spec_dyCmp [dyV n1 k1, dyV n2 k2] H fun v H' => v = .int .i64 (sgn3 (n1 * 2 ^ k2 - n2 * 2 ^ k1)) ∧ Ext H H' := by
  refine is_spec_dyCmp.go rfl ?_
  unfold c_spec_dyCmp dyV
  refine s_reg ?_
  simp only [o_pure, o_eff, o_nil, POp.ev, Opd.ev, EOp.ev, env0, gu, gv, setD, List.set, Option.map_some, Option.some.injEq, exists_eq_left', boxH, cellsV]
  have hx0 : Ext H ((H.alloc [.int .i64 n1, .int .i64 (k1 : Int)]).alloc [.int .i64 n2, .int .i64 (k2 : Int)]) := (Ext.alloc _ _).trans (Ext.alloc _ _)
  have hb1 : ((H.alloc [.int .i64 n1, .int .i64 (k1 : Int)]).alloc [.int .i64 n2, .int .i64 (k2 : Int)]).blk H.next = some [.int .i64 n1, .int .i64 (k1 : Int)] := by
    rw [alloc_old _ _ (Nat.lt_succ_self _)]
    exact alloc_new _ _
  have hb2 : ((H.alloc [.int .i64 n1, .int .i64 (k1 : Int)]).alloc [.int .i64 n2, .int .i64 (k2 : Int)]).blk (H.alloc [.int .i64 n1, .int .i64 (k1 : Int)]).next = some [.int .i64 n2, .int .i64 (k2 : Int)] := alloc_new _ _
  have hlt : H.next < ((H.alloc [.int .i64 n1, .int .i64 (k1 : Int)]).alloc [.int .i64 n2, .int .i64 (k2 : Int)]).next := by simp only [alloc_next]; omega
  have hlt2 : (H.alloc [.int .i64 n1, .int .i64 (k1 : Int)]).next < ((H.alloc [.int .i64 n1, .int .i64 (k1 : Int)]).alloc [.int .i64 n2, .int .i64 (k2 : Int)]).next := Nat.lt_succ_self _
  generalize (H.alloc [.int .i64 n1, .int .i64 (k1 : Int)]).alloc [.int .i64 n2, .int .i64 (k2 : Int)] = H1 at hx0 hb1 hb2 hlt hlt2 ⊢
  generalize (H.alloc [.int .i64 n1, .int .i64 (k1 : Int)]).next = r at hb2 hlt2 ⊢
  have hnx := hx0.next
  refine s_reg ?_
  simp only [o_pure, o_callN, POp.ev, Opd.ev, gv, setD, List.map, Option.some.injEq, exists_eq_left', load2 hb1, load2 hb2]
  refine (dyFloor_ok _ n1 k1 H1 hk1 hn1).use ?_
  rintro _ H2 ⟨⟨p, rfl, p1, p2, p3⟩, hx2⟩ _
  simp only [o_cont, o_callF, Opd.ev, gv, setD, List.map]
  refine (dyFloor_ok _ n2 k2 H2 hk2 hn2).mono ?_
  rintro _ H3 ⟨⟨q, rfl, q1, q2, q3⟩, hx3⟩
  have hx13 := hx2.trans hx3
  have hn13 := hx13.next
  simp only [o_cont, o_pure, o_nil, POp.ev, Opd.ev, gv, setD, List.set, Option.some.injEq, exists_eq_left']
  refine s_test ?_
  simp only [o_pure, o_nil, POp.ev, Opd.ev, gv, setD, Option.some.injEq, exists_eq_left', binV, ne_eq, not_true_eq_false, if_false]
  have wpq : IntKind.i64.wrap (p - q) = p - q := wr_id (by omega) (by omega)
  refine Test.split (fun h => ?_) (fun h => ?_)
  · have h' : p ≠ q := by simpa using h
    refine s_reg ?_
    simp only [o_pure, o_callF, POp.ev, Opd.ev, gv, setD, List.map, Option.some.injEq, exists_eq_left', binV, ne_eq, not_true_eq_false, if_false, wpq]
    refine (l1Sign_ok _ _ _).eq ?_
    simp only [o_cont, o_pure, o_nil, POp.ev, Opd.ev, gv, setD, List.set, Option.some.injEq, exists_eq_left']
    refine s_ret1 ?_
    simp +decide only [p_seq_ret, p_fin_ret, resV, resOne, gv, Option.some.injEq, exists_eq_left']
    refine ⟨?_, hx0.trans hx13⟩
    rcases Int.lt_or_lt_of_ne h' with hlt | hlt
    · rw [sg3n (show p - q < 0 by omega), sg3n (floor_lt p2 q1 hlt)]
    · have := floor_lt q2 p1 hlt
      rw [sg3p (show 0 < p - q by omega), sg3p (by omega)]
  have h' : p = q := by simpa using h
  subst h'
  have one : ∀ (n : Int) (k : Nat), k ≤ 24 → n.natAbs ≤ 1099511627776 → p * 2 ^ k ≤ n → n < (p + 1) * 2 ^ k → IntKind.i64.wrap (p * 2 ^ k) = p * 2 ^ k ∧ IntKind.i64.wrap (n - p * 2 ^ k) = n - p * 2 ^ k ∧ 0 ≤ n - p * 2 ^ k ∧ n - p * 2 ^ k ≤ 2 ^ k := by
    intro n k hk hn g1 g2
    have a1 := pow_le2 hk
    have a2 : (2 : Int) ^ 24 = 16777216 := by decide
    have a3 := pow_pos2 k
    rw [Int.add_mul, Int.one_mul] at g2
    exact ⟨wr_id (by omega) (by omega), wr_id (by omega) (by omega), by omega, by omega⟩
  obtain ⟨r1, r2, r3, r4⟩ := one n1 k1 hk1 hn1 p1 p2
  obtain ⟨s1, s2, s3, s4⟩ := one n2 k2 hk2 hn2 q1 q2
  have hb1' : H3.blk H.next = some [.int .i64 n1, .int .i64 (k1 : Int)] := by rw [hx13.blk _ hlt]; exact hb1
  have hb2' : H3.blk r = some [.int .i64 n2, .int .i64 (k2 : Int)] := by rw [hx13.blk _ hlt2]; exact hb2
  refine s_skip1 ?_
  simp +decide only [p_seq_normal]
  refine s_reg ?_
  simp only [o_pure, o_callN, POp.ev, Opd.ev, gv, setD, List.map, Option.some.injEq, exists_eq_left', load1V, fadV, List.getElem?_cons_zero, List.getElem?_cons_succ, Nat.zero_add, cell_blk hb1']
  refine (Ints.power_ok _ k1 H3 (by omega)).use ?_
  rintro _ HH ⟨rfl, hh⟩ _
  subst HH
  simp only [o_cont, o_pure, o_callF, POp.ev, Opd.ev, gv, setD, List.map, Option.map_some, Option.some.injEq, exists_eq_left', binV, ne_eq, not_true_eq_false, if_false, r1, r2, fill2]
  refine (dyAt_ok lim (n1 - p * 2 ^ k1) k1 H3 (by omega) hk1 r3 r4).mono ?_
  rintro _ H4 ⟨rfl, hx4⟩
  have hn4 := hx4.next
  have hb2'' : H4.blk r = some [.int .i64 n2, .int .i64 (k2 : Int)] := by rw [hx4.blk _ (by omega)]; exact hb2'
  simp only [o_cont, o_pure, o_nil, POp.ev, Opd.ev, gv, setD, List.set, Option.some.injEq, exists_eq_left', extV, List.getElem?_toArray, List.getElem?_cons_zero, List.getElem?_cons_succ]
  refine s_reg ?_
  simp only [o_pure, o_callN, POp.ev, Opd.ev, gv, setD, List.map, Option.some.injEq, exists_eq_left', load1V, fadV, List.getElem?_cons_zero, List.getElem?_cons_succ, Nat.zero_add, cell_blk hb2'']
  refine (Ints.power_ok _ k2 H4 (by omega)).use ?_
  rintro _ HH ⟨rfl, hh⟩ _
  subst HH
  simp only [o_cont, o_pure, o_callF, POp.ev, Opd.ev, gv, setD, List.map, Option.map_some, Option.some.injEq, exists_eq_left', binV, ne_eq, not_true_eq_false, if_false, s1, s2, fill2]
  refine (dyAt_ok lim (n2 - p * 2 ^ k2) k2 H4 (by omega) hk2 s3 s4).mono ?_
  rintro _ H5 ⟨rfl, hx5⟩
  simp only [o_cont, o_pure, o_nil, POp.ev, Opd.ev, gv, setD, List.set, Option.some.injEq, exists_eq_left', extV, List.getElem?_toArray, List.getElem?_cons_zero, List.getElem?_cons_succ]
  have big : ∀ (n : Int) (k : Nat), k ≤ 24 → 0 ≤ n → n ≤ 2 ^ k → 0 ≤ n * 2 ^ (24 - k) ∧ n * 2 ^ (24 - k) ≤ 16777216 := by
    intro n k hk g0 g1
    have a1 := pow_pos2 (24 - k)
    have a2 : n * 2 ^ (24 - k) ≤ 2 ^ k * 2 ^ (24 - k) := Int.mul_le_mul_of_nonneg_right g1 (by omega)
    rw [← Int.pow_add, show k + (24 - k) = 24 by omega] at a2
    have a3 : (2 : Int) ^ 24 = 16777216 := by decide
    exact ⟨Int.mul_nonneg g0 (by omega), by omega⟩
  obtain ⟨b1, b2⟩ := big _ k1 hk1 r3 r4
  obtain ⟨c1, c2⟩ := big _ k2 hk2 s3 s4
  have wxy : IntKind.i64.wrap ((n1 - p * 2 ^ k1) * 2 ^ (24 - k1) - (n2 - p * 2 ^ k2) * 2 ^ (24 - k2)) = (n1 - p * 2 ^ k1) * 2 ^ (24 - k1) - (n2 - p * 2 ^ k2) * 2 ^ (24 - k2) := wr_id (by omega) (by omega)
  refine s_reg ?_
  simp only [o_pure, o_callF, POp.ev, Opd.ev, gv, setD, List.map, Option.some.injEq, exists_eq_left', binV, ne_eq, not_true_eq_false, if_false, wxy]
  refine (l1Sign_ok _ _ _).eq ?_
  simp only [o_cont, o_pure, o_nil, POp.ev, Opd.ev, gv, setD, List.set, Option.some.injEq, exists_eq_left']
  refine s_ret1 ?_
  simp +decide only [p_fin_ret, resV, resOne, gv, Option.some.injEq, exists_eq_left']
  refine ⟨?_, ((hx0.trans hx13).trans hx4).trans hx5⟩
  have hc : (0 : Int) < 2 ^ k1 * 2 ^ k2 := Int.mul_pos (by have := pow_pos2 k1; omega) (by have := pow_pos2 k2; omega)
  have hd : (0 : Int) < 2 ^ 24 := by decide
  have e1 : (2 : Int) ^ k1 * 2 ^ (24 - k1) = 2 ^ 24 := by rw [← Int.pow_add, show k1 + (24 - k1) = 24 by omega]
  have e2 : (2 : Int) ^ k2 * 2 ^ (24 - k2) = 2 ^ 24 := by rw [← Int.pow_add, show k2 + (24 - k2) = 24 by omega]
  rw [← sgn3_mul hc ((n1 - p * 2 ^ k1) * 2 ^ (24 - k1) - (n2 - p * 2 ^ k2) * 2 ^ (24 - k2)), ← sgn3_mul hd (n1 * 2 ^ k2 - n2 * 2 ^ k1)]
  have key : (2 : Int) ^ k1 * 2 ^ k2 * ((n1 - p * 2 ^ k1) * 2 ^ (24 - k1) - (n2 - p * 2 ^ k2) * 2 ^ (24 - k2)) = 2 ^ 24 * (n1 * 2 ^ k2 - n2 * 2 ^ k1) := by
    have f1 : (2 : Int) ^ k1 * 2 ^ k2 * ((n1 - p * 2 ^ k1) * 2 ^ (24 - k1)) = 2 ^ 24 * ((n1 - p * 2 ^ k1) * 2 ^ k2) := by
      rw [← e1]
      simp only [Int.mul_assoc, Int.mul_comm, Int.mul_left_comm]
    have f2 : (2 : Int) ^ k1 * 2 ^ k2 * ((n2 - p * 2 ^ k2) * 2 ^ (24 - k2)) = 2 ^ 24 * ((n2 - p * 2 ^ k2) * 2 ^ k1) := by
      rw [← e2]
      simp only [Int.mul_assoc, Int.mul_comm, Int.mul_left_comm]
    rw [Int.mul_sub, f1, f2, ← Int.mul_sub]
    congr 1
    rw [Int.sub_mul, Int.sub_mul, Int.mul_assoc, Int.mul_assoc, Int.mul_comm (2 ^ k1) (2 ^ k2)]
    omega
  rw [key]
theorem dyGood_ok (lim : Nat) (n : Int) (k : Nat) (H : AHeap) (hk : k ≤ 24) (hn : n.natAbs ≤ 1099511627776) (ho : k = 0 ∨ n.tmod 2 ≠ 0) :
    ACalls Tryz.prog lim n_spec_dyGood [dyV n k] H fun v H' => v = .bool true ∧ Ext H H' := by
  refine is_spec_dyGood.go rfl ?_
  unfold c_spec_dyGood dyV
  refine s_reg ?_
  simp only [o_pure, o_eff, o_nil, POp.ev, Opd.ev, EOp.ev, env0, gu, gv, setD, List.set, Option.map_some, Option.some.injEq, exists_eq_left', boxH, cellsV]
  have hx := Ext.alloc H [.int .i64 n, .int .i64 (k : Int)]
  have hb : (H.alloc [.int .i64 n, .int .i64 (k : Int)]).blk H.next = some [.int .i64 n, .int .i64 (k : Int)] := alloc_new _ _
  generalize H.alloc [.int .i64 n, .int .i64 (k : Int)] = H1 at hx hb ⊢
  have i1 : (decide ((0 : Int) ≤ (k : Int)) && decide ((k : Int) ≤ 24)) = true := by simp; omega
  have i2 : (decide (-1099511627776 ≤ n) && decide (n ≤ 1099511627776)) = true := by simp; omega
  have e2 : ¬ ((2 : Int) = 0) := by decide
  refine s_reg ?_
  simp only [o_pure, o_callF, POp.ev, Opd.ev, gv, setD, List.map, Option.some.injEq, exists_eq_left', load1V, fadV, List.getElem?_cons_zero, List.getElem?_cons_succ, Nat.zero_add, cell_blk hb]
  refine (Ints.l1In_ok _ _ _ _ _).eq ?_
  rw [i1]
  simp only [o_cont, o_pure, o_callF, o_guard, gk_tt, POp.ev, Opd.ev, gv, setD, List.map, Option.some.injEq, exists_eq_left', load1V, fadV, List.getElem?_cons_zero, Nat.zero_add, cell_blk hb]
  refine (Ints.l1In_ok _ _ _ _ _).eq ?_
  rw [i2]
  by_cases h0 : k = 0
  · have d0 : ((k : Int) == 0) = true := by simp; omega
    simp only [o_cont, o_pure, o_guard, gk_tt, gk_tf, o_nil, POp.ev, Opd.ev, gv, setD, List.set, Option.some.injEq, exists_eq_left', pickV, binV, load1V, fadV, ne_eq, not_true_eq_false, if_false, List.getElem?_cons_zero, List.getElem?_cons_succ, Nat.zero_add, cell_blk hb, d0]
    refine s_ret1 ?_
    simp +decide only [p_fin_ret, resV, resOne, gv, Option.some.injEq, exists_eq_left']
    exact ⟨trivial, hx⟩
  · have d0 : ((k : Int) == 0) = false := by simp; omega
    have d1 : (n.tmod 2 != 0) = true := by simpa using ho.resolve_left h0
    simp only [o_cont, o_pure, o_guard, gk_tt, gk_ff, o_nil, POp.ev, Opd.ev, gv, setD, List.set, Option.some.injEq, exists_eq_left', pickV, binV, load1V, fadV, ne_eq, not_true_eq_false, if_false, List.getElem?_cons_zero, List.getElem?_cons_succ, Nat.zero_add, cell_blk hb, d0, e2, d1]
    refine s_ret1 ?_
    simp +decide only [p_fin_ret, resV, resOne, gv, Option.some.injEq, exists_eq_left']
    exact ⟨trivial, hx⟩
theorem odd_of {n : Int} (hn : n.tmod 2 ≠ 0) : n % 2 = 1 := by
  rcases Int.emod_two_eq n with h | h
  · exact absurd (Int.tmod_eq_zero_of_dvd (Int.dvd_of_emod_eq_zero h)) hn
  · exact h
/-- a number in lowest terms -/
def Low (n : Int) (k : Nat) (N : Int) (K : Nat) : Prop := n * 2 ^ K = N * 2 ^ k ∧ K ≤ k ∧ N.natAbs ≤ n.natAbs
theorem low_norm {n N : Int} {k K : Nat} (h : Low n k N K) (ho : K = 0 ∨ N.tmod 2 ≠ 0) : dnorm n k = (N, K) := by
  obtain ⟨h1, h2, _⟩ := h
  have e : N * 2 ^ k = N * 2 ^ (k - K) * 2 ^ K := by rw [Int.mul_assoc, ← Int.pow_add, show k - K + K = k by omega]
  rw [e] at h1
  have := pow_pos2 K
  rw [dnorm_up h2 (Int.eq_of_mul_eq_mul_right (by omega) h1)]
  exact dnorm_self (ho.imp id odd_of)
theorem dyMake_ok (lim : Nat) (n : Int) (k : Nat) (H : AHeap) (hl : lim ≤ H.next) (hk : k ≤ 24) (hn : n.natAbs ≤ 1099511627776) :
    ACalls Tryz.prog lim n_spec_dyMake [.int .i64 n, .int .i64 k] H fun v H' => (∃ N K, v = .tuple #[dyV N K, .bool true] ∧ dnorm n k = (N, K)) ∧ Ext H H' := by
  refine is_spec_dyMake.go rfl ?_
  unfold c_spec_dyMake
  refine s_reg ?_
  simp only [o_pure, o_eff, o_nil, POp.ev, Opd.ev, EOp.ev, env0, gu, setD, List.set, Option.some.injEq, exists_eq_left']
  have hx := Ext.alloc H [.int .i64 0, .int .i64 0]
  have hr : (H.alloc [.int .i64 0, .int .i64 0]).blk H.next = some [.int .i64 0, .int .i64 0] := alloc_new _ _
  have hrl : H.next < (H.alloc [.int .i64 0, .int .i64 0]).next := Nat.lt_succ_self _
  generalize H.alloc [.int .i64 0, .int .i64 0] = H1 at hx hr hrl ⊢
  generalize hre : H.next = r at *
  have e2 : ¬ ((2 : Int) = 0) := by decide
  refine s_cut (fun e' H' => ∃ K : Nat, Low n k n K ∧ (n = 0 → K = 0) ∧ H' = H1 ∧ e' = [.int .i64 n, .int .i64 (K : Int), .pointer (some ⟨r, 0, none⟩), .bool false, undef]) ?_ ?_
  · refine s_test1_same (decide (n = 0) && decide (0 < (k : Int))) ?_ (fun hg => ?_) (fun hg => ?_)
    · by_cases h0 : n = 0
      · have d0 : (n == 0) = true := by simpa using h0
        simp only [o_pure, o_guard, gk_tt, o_nil, POp.ev, Opd.ev, gv, setD, Option.some.injEq, exists_eq_left', pickV, binV, ne_eq, not_true_eq_false, if_false, d0]
        simp [h0]
      · have d0 : (n == 0) = false := by simpa using h0
        simp only [o_pure, o_guard, gk_ft, o_nil, POp.ev, Opd.ev, gv, setD, Option.some.injEq, exists_eq_left', pickV, binV, ne_eq, not_true_eq_false, if_false, d0]
        simp [h0]
    · simp only [Bool.and_eq_true, decide_eq_true_eq] at hg
      refine s_reg1 ?_
      simp only [o_pure, o_nil, POp.ev, Opd.ev, setD, List.set, Option.some.injEq, exists_eq_left']
      simp +decide only [p_seq_normal]
      refine ⟨0, ⟨by rw [hg.1]; simp, by omega, Nat.le_refl _⟩, fun _ => rfl, trivial, rfl⟩
    · refine s_skip1 ?_
      simp +decide only [p_seq_normal]
      refine ⟨k, ⟨rfl, Nat.le_refl _, Nat.le_refl _⟩, fun h0 => ?_, trivial, rfl⟩
      subst h0
      simp at hg
      omega
  rintro e' H2 ⟨K0, hK0, hz0, rfl, rfl⟩
  refine s_block ?_
  refine s_loop1 (fun j e' H' => ∃ (N : Int) (K : Nat), K = j ∧ Low n k N K ∧ H' = H2 ∧ e' = [.int .i64 N, .int .i64 (K : Int), .pointer (some ⟨r, 0, none⟩), .bool false, undef]) K0 ⟨n, K0, rfl, hK0, rfl, rfl⟩ ?_
  clear hK0 hz0
  rintro j e' H2 ⟨N, K, rfl, hK, rfl, rfl⟩
  obtain ⟨h1, h2, h3⟩ := hK
  refine s_test_same (decide (0 < (K : Int)) && (N.tmod 2 == 0)) ?_ (fun hg => ?_) (fun hg => ?_)
  · by_cases h0 : 0 < (K : Int)
    · have d0 : decide ((K : Int) > 0) = true := by simpa using h0
      simp only [o_pure, o_guard, gk_tt, o_nil, POp.ev, Opd.ev, gv, setD, Option.some.injEq, exists_eq_left', pickV, binV, ne_eq, not_true_eq_false, if_false, d0, e2]
      simp [h0]
    · have d0 : decide ((K : Int) > 0) = false := by simpa using h0
      simp only [o_pure, o_guard, gk_ft, o_nil, POp.ev, Opd.ev, gv, setD, Option.some.injEq, exists_eq_left', pickV, binV, ne_eq, not_true_eq_false, if_false, d0]
      simp [h0]
  · simp only [Bool.and_eq_true, decide_eq_true_eq, beq_iff_eq] at hg
    obtain ⟨K', rfl⟩ : ∃ K', K = K' + 1 := ⟨K - 1, by omega⟩
    have t1 := Int.mul_tdiv_add_tmod N 2
    have t4 : (N.tdiv 2).natAbs ≤ N.natAbs := by
      rw [Int.natAbs_tdiv]
      exact Nat.div_le_self _ _
    obtain ⟨M, hM⟩ : ∃ M, N.tdiv 2 = M := ⟨_, rfl⟩
    rw [hM] at t1 t4
    have w1 : IntKind.i64.wrap M = M := wr_id (by omega) (by omega)
    have w2 : IntKind.i64.wrap (((K' + 1 : Nat) : Int) - 1) = (K' : Int) := by rw [show ((K' + 1 : Nat) : Int) - 1 = (K' : Int) by omega]; exact wr_nat (by omega)
    refine s_skip1 ?_
    simp +decide only [p_seq_normal]
    refine s_block1 ?_
    refine s_reg ?_
    simp only [o_pure, o_nil, POp.ev, Opd.ev, gv, setD, List.set, Option.some.injEq, exists_eq_left', binV, ne_eq, not_true_eq_false, if_false, e2, hM, w1]
    refine s_reg1 ?_
    simp only [o_pure, o_nil, POp.ev, Opd.ev, gv, setD, List.set, Option.some.injEq, exists_eq_left', binV, ne_eq, not_true_eq_false, if_false, w2]
    simp +decide only [p_seq_normal, p_block_normal]
    refine Round.mk K' (by omega) ⟨M, K', rfl, ⟨?_, by omega, by omega⟩, rfl, rfl⟩
    have e : N = 2 * M := by omega
    have e3 : n * 2 ^ (K' + 1) = 2 * (n * 2 ^ K') := by rw [Int.pow_succ, Int.mul_comm (2 ^ K') 2, Int.mul_left_comm]
    have e4 : 2 * M * 2 ^ k = 2 * (M * 2 ^ k) := Int.mul_assoc _ _ _
    rw [e, e3, e4] at h1
    omega
  · refine s_exit1 ?_
    simp +decide only [p_seq_normal, p_seq_exit, p_block_exit, reduceIte]
    have ho : K = 0 ∨ N.tmod 2 ≠ 0 := by
      simp only [Bool.and_eq_false_iff, decide_eq_false_iff_not, beq_eq_false_iff_ne] at hg
      rcases hg with hg | hg
      · left; omega
      · right; simpa using hg
    have hnx := hx.next
    refine s_reg ?_
    simp only [o_pure, o_eff, o_nil, POp.ev, Opd.ev, EOp.ev, gv, setD, List.set, List.map, Option.map_some, Option.some.injEq, exists_eq_left', fill2]
    have hst : storeH lim (H2.alloc [.int .i64 0, .int .i64 0]) 2 (.pointer (some ⟨H2.next, 0, none⟩)) (.agg #[vi N, vi (K : Int)]) = some (undef, (H2.alloc [.int .i64 0, .int .i64 0]).put H2.next [vi N, vi (K : Int)]) := store2 (by omega) (alloc_new _ _)
    simp only [Option.some.injEq, exists_eq_left', hst]
    have hx2 : Ext H2 ((H2.alloc [.int .i64 0, .int .i64 0]).put H2.next [vi N, vi (K : Int)]) := Chg.ext (Ext.alloc _ _) (Chg.put _ _ _) (Nat.le_refl _)
    have ho4 : ((H2.alloc [.int .i64 0, .int .i64 0]).put H2.next [vi N, vi (K : Int)]).blk H2.next = some [vi N, vi (K : Int)] := put_same _ _ _
    have hl4 : H2.next < ((H2.alloc [.int .i64 0, .int .i64 0]).put H2.next [vi N, vi (K : Int)]).next := Nat.lt_succ_self _
    generalize (H2.alloc [.int .i64 0, .int .i64 0]).put H2.next [vi N, vi (K : Int)] = H3 at hx2 ho4 hl4 ⊢
    refine s_test ?_
    simp only [o_pure, o_callF, POp.ev, Opd.ev, gv, setD, List.map, Option.some.injEq, exists_eq_left', load2 ho4]
    refine (dyGood_ok lim N K H3 (by omega) (by omega) ho).mono ?_
    rintro _ H4 ⟨rfl, hx4⟩
    have ho5 : H4.blk H2.next = some [vi N, vi (K : Int)] := by rw [hx4.blk _ hl4]; exact ho4
    have hr4 : H4.blk r = some [.int .i64 0, .int .i64 0] := by rw [(hx2.trans hx4).blk _ hrl]; exact hr
    simp only [o_cont, o_pure, o_nil, POp.ev, Opd.ev, gv, setD, Option.some.injEq, exists_eq_left', unV, Bool.not_true]
    refine Test.false_ (s_skip1 ?_)
    simp +decide only [p_seq_normal]
    refine s_reg ?_
    simp only [o_pure, o_eff, o_nil, POp.ev, Opd.ev, EOp.ev, gv, setD, List.set, Option.some.injEq, exists_eq_left', load2 ho5, store2 (lim := lim) (show lim ≤ r by omega) hr4]
    refine s_ret1 ?_
    simp +decide only [p_fin_ret, resV, resOne, resL, gv, Option.some.injEq, exists_eq_left', Option.bind_some, Option.map_some, load2 (put_same _ _ _)]
    exact ⟨⟨N, K, rfl, low_norm ⟨h1, h2, h3⟩ ho⟩, Chg.ext ((hx.trans hx2).trans hx4) (Chg.put _ _ _) (by omega)⟩
/-- what bxNumber answers: the same number in lowest terms -/
theorem bxNumber_ok (lim : Nat) (n : Int) (k : Nat) (H : AHeap) (hl : lim ≤ H.next) (hk : k ≤ 24) (hn : n.natAbs ≤ 1099511627776) :
    ACalls Tryz.prog lim n_spec_bxNumber [.int .i64 n, .int .i64 k] H fun v H' => (∃ N K, v = dyV N K ∧ dnorm n k = (N, K)) ∧ Ext H H' := by
  refine is_spec_bxNumber.go rfl ?_
  unfold c_spec_bxNumber
  refine s_reg ?_
  simp only [o_eff, o_nil, EOp.ev, env0, gu, setD, List.set, Option.some.injEq, exists_eq_left']
  have hx := Ext.alloc H [.int .i64 0, .int .i64 0]
  have hr : (H.alloc [.int .i64 0, .int .i64 0]).blk H.next = some [.int .i64 0, .int .i64 0] := alloc_new _ _
  have hrl : H.next < (H.alloc [.int .i64 0, .int .i64 0]).next := Nat.lt_succ_self _
  generalize H.alloc [.int .i64 0, .int .i64 0] = H1 at hx hr hrl ⊢
  have hnx := hx.next
  refine s_reg ?_
  simp only [o_pure, o_callF, POp.ev, Opd.ev, gv, setD, List.map, Option.some.injEq, exists_eq_left']
  refine (dyMake_ok lim n k H1 (by omega) hk hn).mono ?_
  rintro _ H2 ⟨⟨N, K, rfl, hlow⟩, hx2⟩
  have hnx2 := hx2.next
  have hst : storeH lim (H2.alloc [.int .i64 0, .int .i64 0]) 2 (.pointer (some ⟨H2.next, 0, none⟩)) (dyV N K) = some (undef, (H2.alloc [.int .i64 0, .int .i64 0]).put H2.next [vi N, vi (K : Int)]) := store2 (by omega) (alloc_new _ _)
  simp only [o_cont, o_pure, o_eff, o_nil, POp.ev, Opd.ev, EOp.ev, gv, setD, List.set, Option.some.injEq, exists_eq_left', extV, List.getElem?_toArray, List.getElem?_cons_zero, List.getElem?_cons_succ, hst]
  have hx3 : Ext H2 ((H2.alloc [.int .i64 0, .int .i64 0]).put H2.next [vi N, vi (K : Int)]) := Chg.ext (Ext.alloc _ _) (Chg.put _ _ _) (Nat.le_refl _)
  have ho4 : ((H2.alloc [.int .i64 0, .int .i64 0]).put H2.next [vi N, vi (K : Int)]).blk H2.next = some [vi N, vi (K : Int)] := put_same _ _ _
  generalize (H2.alloc [.int .i64 0, .int .i64 0]).put H2.next [vi N, vi (K : Int)] = H3 at hx3 ho4 ⊢
  have hr3 : H3.blk H.next = some [.int .i64 0, .int .i64 0] := by rw [(hx2.trans hx3).blk _ hrl]; exact hr
  refine s_reg ?_
  simp only [o_pure, o_eff, o_nil, POp.ev, Opd.ev, EOp.ev, gv, setD, Option.some.injEq, exists_eq_left', load2 ho4, store2 (lim := lim) hl hr3]
  refine s_ret1 ?_
  simp +decide only [p_fin_ret, resV, resOne, gv, Option.some.injEq, exists_eq_left', load2 (put_same _ _ _)]
  exact ⟨⟨N, K, rfl, hlow⟩, Chg.ext ((hx.trans hx2).trans hx3) (Chg.put _ _ _) (Nat.le_refl _)⟩
end Go.Proofs.YtldpdjpchcoigaaGreat
