/- MixEquations: what both sides compute (plain law) and the walk of the specification's side; no condition beyond stated lengths. -/
import Derived.Test.YtaimceodhhgnnaaT32
namespace Go.Proofs.Ytaimceodhhgnnaa
open Go.Ab
set_option linter.unusedSimpArgs false
set_option linter.unusedVariables false

def sc (n : Int) (t : Tm) : Tm := { t with c := W (t.c * n) }
def mixF (n : Int) (p q : List Tm) : List Tm := q.foldl (fun acc t => if n = 0 then acc else putF (sc n t) acc) p
theorem mixF_take {n : Int} {p q : List Tm} {j : Nat} (h : j < q.length) : mixF n p (q.take (j + 1)) = if n = 0 then mixF n p (q.take j) else putF (sc n q[j]) (mixF n p (q.take j)) := by
  unfold mixF
  rw [List.take_succ_eq_append_getElem h, List.foldl_append]
  rfl
theorem mixF_length (n : Int) : ∀ (q p : List Tm), (mixF n p q).length ≤ p.length + q.length
  | [], p => by simp [mixF]
  | t :: q, p => by
    have h := mixF_length n q (if n = 0 then p else putF (sc n t) p)
    have h2 := putF_length (sc n t) p
    unfold mixF at h ⊢
    rw [List.foldl_cons, List.length_cons]
    split at h <;> simp_all <;> omega
theorem mixF_ex {n : Int} : ∀ {q p : List Tm}, (∀ t ∈ p, exB t) → (∀ t ∈ q, exB t) → ∀ t ∈ mixF n p q, exB t
  | [], p, hp, _ => hp
  | u :: q, p, hp, hq => by
    have : mixF n p (u :: q) = mixF n (if n = 0 then p else putF (sc n u) p) q := rfl
    rw [this]
    refine mixF_ex (fun t ht => ?_) (fun t ht => hq t (by simp [ht]))
    split at ht
    · exact hp t ht
    · rcases mem_putF ht with ht | ht
      · exact hp t ht
      · have h1 := hq u (by simp)
        rw [ordT_zero] at ht
        unfold exB at h1 ⊢
        simp only [sc] at ht
        omega
theorem mixF_can {n : Int} : ∀ {q p : List Tm}, Can p → Can (mixF n p q)
  | [], p, h => h
  | u :: q, p, h => by
    have : mixF n p (u :: q) = mixF n (if n = 0 then p else putF (sc n u) p) q := rfl
    rw [this]
    refine mixF_can ?_
    split
    · exact h
    · exact h.put (W_in _)
theorem cs_sc0 (k : Tm) : ∀ q : List Tm, cs k (q.map (sc 0)) = 0
  | [] => rfl
  | t :: q => by
    have : (sc 0 t).c = 0 := by simp [sc, W, IntKind.wrap_i64]
    rw [List.map_cons, cs, cs_sc0 k q, this]
    split <;> rfl
theorem cs_mixF (n : Int) (k : Tm) : ∀ q p : List Tm, cg (cs k (mixF n p q)) (cs k p + cs k (q.map (sc n)))
  | [], p => cg.of_eq (by simp [mixF, cs])
  | u :: q, p => by
    have e : mixF n p (u :: q) = mixF n (if n = 0 then p else putF (sc n u) p) q := rfl
    rw [e]
    refine (cs_mixF n k q _).trans ?_
    by_cases hn : n = 0
    · subst hn
      rw [if_pos rfl, cs_sc0, cs_sc0]
      exact cg.refl _
    · rw [if_neg hn]
      refine ((cs_putF k (sc n u) p).add (cg.refl (cs k (q.map (sc n))))).trans (cg.of_eq ?_)
      rw [List.map_cons]
      simp only [cs]
      omega
/-- what the implementation computes -/
def mixI (n : Int) (p q : List Tm) : List Tm := coll (p ++ coll (prodL q [⟨n, 0, 0, 0⟩]))
theorem prodL_sc (n : Int) (q : List Tm) : prodL q [⟨n, 0, 0, 0⟩] = q.map (sc n) := by
  induction q with
  | nil => rfl
  | cons t q ih =>
    have : prodL (t :: q) [⟨n, 0, 0, 0⟩] = mulT t ⟨n, 0, 0, 0⟩ :: prodL q [⟨n, 0, 0, 0⟩] := rfl
    rw [this, ih, List.map_cons]
    congr 1
    simp [mulT, sc]
theorem mix_same {n : Int} {p q : List Tm} (hp : Can p) : mixI n p q = mixF n p q := by
  have hq : Can (coll (prodL q [⟨n, 0, 0, 0⟩])) := can_coll (fun t ht => by
    rw [prodL_sc] at ht
    obtain ⟨u, _, rfl⟩ := List.mem_map.1 ht
    exact W_in _)
  refine Can.uniq (can_coll fun t ht => ?_) (mixF_can hp) fun k => ?_
  · rcases List.mem_append.1 ht with ht | ht
    · exact (hp.nz t ht).2
    · exact (hq.nz t ht).2
  · unfold mixI
    refine (cs_coll k _).trans ?_
    rw [cs_append]
    refine ((cg.refl _).add (cs_coll k _)).trans ?_
    rw [prodL_sc]
    exact (cs_mixF n k q p).symm

def mixL (ss : List (List Tm)) (i k : Nat) (n : Int) : List (List Tm) := ss.set i (mixF n (ss.getD i []) (ss.getD k []))
theorem mixL_get {ss : List (List Tm)} {i k j : Nat} {n : Int} (hi : i < ss.length) (hk : k < ss.length) (hj : j < ss.length) : (mixL ss i k n)[j]? = some (if j = i then mixF n ss[i] ss[k] else ss[j]) := by
  unfold mixL
  rw [List.getElem?_set, List.getD_eq_getElem?_getD, List.getD_eq_getElem?_getD, List.getElem?_eq_getElem hi, List.getElem?_eq_getElem hk, List.getElem?_eq_getElem hj]
  by_cases h : j = i
  · subst h
    simp [hj]
  · rw [if_neg (fun e => h e.symm), if_neg h]
theorem mixL_length (ss : List (List Tm)) (i k : Nat) (n : Int) : (mixL ss i k n).length = ss.length := by simp [mixL]
def mixA (ss : List (List Tm)) (i k n : Int) : Bool := goodSS ss && inU ss.length i && inU ss.length k && !(i == k) && (decide (-100 ≤ n) && decide (n ≤ 100))
def mixR (ss : List (List Tm)) (i k n : Int) : Option (List (List Tm)) := if mixA ss i k n && goodSS (mixL ss i.toNat k.toNat n) then some (mixL ss i.toNat k.toNat n) else none
theorem good_can {p : List Tm} (h1 : ∀ t ∈ p, okTm t = true ∧ t.c ≠ 0) (h2 : Sorted p) : Can p :=
  ⟨h2.sor, fun t ht => ⟨(h1 t ht).2, by have := okTm_b (h1 t ht).1; unfold inR; omega⟩⟩
theorem ok_exS {t : Tm} (h : okTm t = true) : exS t := by have := okTm_b h; unfold exS; omega
theorem ok_exB {t : Tm} (h : okTm t = true) : exB t := by have := okTm_b h; unfold exB; omega
theorem mixR_small {ss : List (List Tm)} {i k n : Int} {l : List (List Tm)} (h : mixR ss i k n = some l) : l.length ≤ 3 ∧ ∀ p ∈ l, p.length ≤ 20 := by
  unfold mixR at h
  split at h
  · rename_i hg
    simp only [Bool.and_eq_true] at hg
    cases h
    obtain ⟨g0, g1, g2⟩ := goodSS_all hg.2
    exact ⟨g1, fun p hp => (g2 p hp).1⟩
  · cases h

theorem sMix_ok (lim : Nat) (s : Value) (ss : List (List Tm)) (i k n : Int) (H : AHeap) (hl : lim ≤ H.next) (hs : SlSS H s ss) (hn : ss.length ≤ 1000000) (hn2 : ∀ p ∈ ss, p.length ≤ 1000000) :
    ACalls Try.prog lim n_spec_MixEquations [s, .int .i64 i, .int .i64 k, .int .i64 n] H fun v H' => ResSS H' H.next v (mixR ss i k n) ∧ Ext H H' := by
  refine is_spec_MixEquations.go rfl ?_
  unfold c_spec_MixEquations
  refine s_reg ?_
  simp only [o_cont, o_callT, callV_fn, o_pure, o_eff, o_callF, o_callN, o_guard, gk_tt, gk_ff, gk_tf, gk_ft, gk_u, t_op, t_alt, t_nil, o_nil, POp.ev, Opd.ev, EOp.ev, env0, gu, gv, setD, resV, List.set, List.map, List.map_nil, List.map_cons, Option.map_none, Option.map_some, Option.some.injEq, exists_eq_left', pickV, binV, convV, load1V, max2V, min2V, nilchkV, unV, boolEq, isNilV, fadV, extV, slenV, ne_eq, not_true_eq_false, if_false, if_true, ite_true, ite_false, Bool.false_eq_true, Bool.true_eq_false, beq_true, beq_false, beq_self_eq_true, Bool.not_true, Bool.not_false, reduceCtorEq, List.getElem?_toArray, List.getElem?_cons_zero, List.getElem?_cons_succ]
  refine s_test_I (!mixA ss i k n) (Ext H) ?_ (fun H1 hx hg => ?_) (fun H1 hx hg => ?_)
  · simp only [o_cont, o_callT, callV_fn, o_pure, o_eff, o_callF, o_callN, o_guard, gk_tt, gk_ff, gk_tf, gk_ft, gk_u, t_op, t_alt, t_nil, o_nil, POp.ev, Opd.ev, EOp.ev, env0, gu, gv, setD, resV, List.set, List.map, List.map_nil, List.map_cons, Option.map_none, Option.map_some, Option.some.injEq, exists_eq_left', pickV, binV, convV, load1V, max2V, min2V, nilchkV, unV, boolEq, isNilV, fadV, extV, slenV, ne_eq, not_true_eq_false, if_false, if_true, ite_true, ite_false, Bool.false_eq_true, Bool.true_eq_false, beq_true, beq_false, beq_self_eq_true, Bool.not_true, Bool.not_false, reduceCtorEq, List.getElem?_toArray, List.getElem?_cons_zero, List.getElem?_cons_succ]
    refine (tfAsked_ok lim _ _ _ _ hl hs hn hn2).mono ?_
    rintro _ H1 ⟨rfl, hx⟩
    have hnx := hx.next
    unfold mixA
    cases hgi : goodSS ss && inU ss.length i
    · simp only [o_cont, o_callT, callV_fn, o_pure, o_eff, o_callF, o_callN, o_guard, gk_tt, gk_ff, gk_tf, gk_ft, gk_u, t_op, t_alt, t_nil, o_nil, POp.ev, Opd.ev, EOp.ev, env0, gu, gv, setD, resV, List.set, List.map, List.map_nil, List.map_cons, Option.map_none, Option.map_some, Option.some.injEq, exists_eq_left', pickV, binV, convV, load1V, max2V, min2V, nilchkV, unV, boolEq, isNilV, fadV, extV, slenV, ne_eq, not_true_eq_false, if_false, if_true, ite_true, ite_false, Bool.false_eq_true, Bool.true_eq_false, beq_true, beq_false, beq_self_eq_true, Bool.not_true, Bool.not_false, reduceCtorEq, List.getElem?_toArray, List.getElem?_cons_zero, List.getElem?_cons_succ]
      simp [hx]
    · simp only [o_cont, o_callT, callV_fn, o_pure, o_eff, o_callF, o_callN, o_guard, gk_tt, gk_ff, gk_tf, gk_ft, gk_u, t_op, t_alt, t_nil, o_nil, POp.ev, Opd.ev, EOp.ev, env0, gu, gv, setD, resV, List.set, List.map, List.map_nil, List.map_cons, Option.map_none, Option.map_some, Option.some.injEq, exists_eq_left', pickV, binV, convV, load1V, max2V, min2V, nilchkV, unV, boolEq, isNilV, fadV, extV, slenV, ne_eq, not_true_eq_false, if_false, if_true, ite_true, ite_false, Bool.false_eq_true, Bool.true_eq_false, beq_true, beq_false, beq_self_eq_true, Bool.not_true, Bool.not_false, reduceCtorEq, List.getElem?_toArray, List.getElem?_cons_zero, List.getElem?_cons_succ]
      refine (tfAsked_ok lim _ _ _ _ (by omega) (hs.ext hx) hn hn2).mono ?_
      rintro _ H2 ⟨rfl, hx2⟩
      have hx12 := hx.trans hx2
      simp only [Bool.and_eq_true] at hgi
      simp only [hgi.1, Bool.true_and]
      cases hgk : inU ss.length k
      · simp only [o_cont, o_callT, callV_fn, o_pure, o_eff, o_callF, o_callN, o_guard, gk_tt, gk_ff, gk_tf, gk_ft, gk_u, t_op, t_alt, t_nil, o_nil, POp.ev, Opd.ev, EOp.ev, env0, gu, gv, setD, resV, List.set, List.map, List.map_nil, List.map_cons, Option.map_none, Option.map_some, Option.some.injEq, exists_eq_left', pickV, binV, convV, load1V, max2V, min2V, nilchkV, unV, boolEq, isNilV, fadV, extV, slenV, ne_eq, not_true_eq_false, if_false, if_true, ite_true, ite_false, Bool.false_eq_true, Bool.true_eq_false, beq_true, beq_false, beq_self_eq_true, Bool.not_true, Bool.not_false, reduceCtorEq, List.getElem?_toArray, List.getElem?_cons_zero, List.getElem?_cons_succ]
        simp [hx12]
      · simp only [o_cont, o_callT, callV_fn, o_pure, o_eff, o_callF, o_callN, o_guard, gk_tt, gk_ff, gk_tf, gk_ft, gk_u, t_op, t_alt, t_nil, o_nil, POp.ev, Opd.ev, EOp.ev, env0, gu, gv, setD, resV, List.set, List.map, List.map_nil, List.map_cons, Option.map_none, Option.map_some, Option.some.injEq, exists_eq_left', pickV, binV, convV, load1V, max2V, min2V, nilchkV, unV, boolEq, isNilV, fadV, extV, slenV, ne_eq, not_true_eq_false, if_false, if_true, ite_true, ite_false, Bool.false_eq_true, Bool.true_eq_false, beq_true, beq_false, beq_self_eq_true, Bool.not_true, Bool.not_false, reduceCtorEq, List.getElem?_toArray, List.getElem?_cons_zero, List.getElem?_cons_succ]
        cases hik : (i == k)
        · simp only [o_cont, o_callT, callV_fn, o_pure, o_eff, o_callF, o_callN, o_guard, gk_tt, gk_ff, gk_tf, gk_ft, gk_u, t_op, t_alt, t_nil, o_nil, POp.ev, Opd.ev, EOp.ev, env0, gu, gv, setD, resV, List.set, List.map, List.map_nil, List.map_cons, Option.map_none, Option.map_some, Option.some.injEq, exists_eq_left', pickV, binV, convV, load1V, max2V, min2V, nilchkV, unV, boolEq, isNilV, fadV, extV, slenV, ne_eq, not_true_eq_false, if_false, if_true, ite_true, ite_false, Bool.false_eq_true, Bool.true_eq_false, beq_true, beq_false, beq_self_eq_true, Bool.not_true, Bool.not_false, reduceCtorEq, List.getElem?_toArray, List.getElem?_cons_zero, List.getElem?_cons_succ]
          refine (l1In_ok _ _ _ _ _).eq ?_
          simp only [o_cont, o_callT, callV_fn, o_pure, o_eff, o_callF, o_callN, o_guard, gk_tt, gk_ff, gk_tf, gk_ft, gk_u, t_op, t_alt, t_nil, o_nil, POp.ev, Opd.ev, EOp.ev, env0, gu, gv, setD, resV, List.set, List.map, List.map_nil, List.map_cons, Option.map_none, Option.map_some, Option.some.injEq, exists_eq_left', pickV, binV, convV, load1V, max2V, min2V, nilchkV, unV, boolEq, isNilV, fadV, extV, slenV, ne_eq, not_true_eq_false, if_false, if_true, ite_true, ite_false, Bool.false_eq_true, Bool.true_eq_false, beq_true, beq_false, beq_self_eq_true, Bool.not_true, Bool.not_false, reduceCtorEq, List.getElem?_toArray, List.getElem?_cons_zero, List.getElem?_cons_succ]
          simp [hx12]
        · simp only [o_cont, o_callT, callV_fn, o_pure, o_eff, o_callF, o_callN, o_guard, gk_tt, gk_ff, gk_tf, gk_ft, gk_u, t_op, t_alt, t_nil, o_nil, POp.ev, Opd.ev, EOp.ev, env0, gu, gv, setD, resV, List.set, List.map, List.map_nil, List.map_cons, Option.map_none, Option.map_some, Option.some.injEq, exists_eq_left', pickV, binV, convV, load1V, max2V, min2V, nilchkV, unV, boolEq, isNilV, fadV, extV, slenV, ne_eq, not_true_eq_false, if_false, if_true, ite_true, ite_false, Bool.false_eq_true, Bool.true_eq_false, beq_true, beq_false, beq_self_eq_true, Bool.not_true, Bool.not_false, reduceCtorEq, List.getElem?_toArray, List.getElem?_cons_zero, List.getElem?_cons_succ]
          simp [hx12]
  · simp only [Bool.not_eq_true'] at hg
    refine s_reg ?_
    simp only [o_cont, o_callT, callV_fn, o_pure, o_eff, o_callF, o_callN, o_guard, gk_tt, gk_ff, gk_tf, gk_ft, gk_u, t_op, t_alt, t_nil, o_nil, POp.ev, Opd.ev, EOp.ev, env0, gu, gv, setD, resV, List.set, List.map, List.map_nil, List.map_cons, Option.map_none, Option.map_some, Option.some.injEq, exists_eq_left', pickV, binV, convV, load1V, max2V, min2V, nilchkV, unV, boolEq, isNilV, fadV, extV, slenV, ne_eq, not_true_eq_false, if_false, if_true, ite_true, ite_false, Bool.false_eq_true, Bool.true_eq_false, beq_true, beq_false, beq_self_eq_true, Bool.not_true, Bool.not_false, reduceCtorEq, List.getElem?_toArray, List.getElem?_cons_zero, List.getElem?_cons_succ]
    refine s_ret1 ?_
    simp +decide only [p_seq_normal, p_seq_ret, p_seq_exit, p_block_normal, p_block_ret, p_block_exit, p_fin_ret, p_fin_normal, reduceIte, Nat.reduceEqDiff, resV, resOne, resL, gv, Option.some.injEq, exists_eq_left', Option.bind_some, Option.map_some, List.getD_cons_zero, List.getD_cons_succ]
    refine ⟨⟨.slice none 0 0, ?_, ?_⟩, hx⟩
    · simp [mixR, hg]
    · simp [mixR, hg]
      exact .inl ⟨rfl, rfl⟩
  · simp only [Bool.not_eq_false'] at hg
    have hgi := hg
    simp only [mixA, inU, Bool.and_eq_true, decide_eq_true_eq, Bool.not_eq_true', beq_eq_false_iff_ne] at hgi
    obtain ⟨⟨⟨⟨hgd, hi1, hi2⟩, hk1, hk2⟩, hik⟩, hn1, hn100⟩ := hgi
    obtain ⟨i, rfl⟩ : ∃ n : Nat, i = n := ⟨i.toNat, by omega⟩
    obtain ⟨k, rfl⟩ : ∃ n : Nat, k = n := ⟨k.toNat, by omega⟩
    have hiL : i < ss.length := by omega
    have hkL : k < ss.length := by omega
    obtain ⟨_, hl3, hall⟩ := goodSS_all hgd
    have hRl := mixL_length ss i k n
    have hs1 := hs.ext hx
    have hnx1 := hx.next
    refine s_skip1 ?_
    simp +decide only [p_seq_normal, p_seq_ret, p_seq_exit, p_block_normal, p_block_ret, p_block_exit, p_fin_ret, p_fin_normal, reduceIte, Nat.reduceEqDiff, resV, resOne, resL, gv, Option.some.injEq, exists_eq_left', Option.bind_some, Option.map_some, List.getD_cons_zero, List.getD_cons_succ]
    refine s_reg ?_
    simp only [o_cont, o_callT, callV_fn, o_pure, o_eff, o_callF, o_callN, o_guard, gk_tt, gk_ff, gk_tf, gk_ft, gk_u, t_op, t_alt, t_nil, o_nil, POp.ev, Opd.ev, EOp.ev, env0, gu, gv, setD, resV, List.set, List.map, List.map_nil, List.map_cons, Option.map_none, Option.map_some, Option.some.injEq, exists_eq_left', pickV, binV, convV, load1V, max2V, min2V, nilchkV, unV, boolEq, isNilV, fadV, extV, slenV, ne_eq, not_true_eq_false, if_false, if_true, ite_true, ite_false, Bool.false_eq_true, Bool.true_eq_false, beq_true, beq_false, beq_self_eq_true, Bool.not_true, Bool.not_false, reduceCtorEq, List.getElem?_toArray, List.getElem?_cons_zero, List.getElem?_cons_succ]
    refine s_assoc (s_reg ?_)
    simp only [o_cont, o_callT, callV_fn, o_pure, o_eff, o_callF, o_callN, o_guard, gk_tt, gk_ff, gk_tf, gk_ft, gk_u, t_op, t_alt, t_nil, o_nil, POp.ev, Opd.ev, EOp.ev, env0, gu, gv, setD, resV, List.set, List.map, List.map_nil, List.map_cons, Option.map_none, Option.map_some, Option.some.injEq, exists_eq_left', pickV, binV, convV, load1V, max2V, min2V, nilchkV, unV, boolEq, isNilV, fadV, extV, slenV, ne_eq, not_true_eq_false, if_false, if_true, ite_true, ite_false, Bool.false_eq_true, Bool.true_eq_false, beq_true, beq_false, beq_self_eq_true, Bool.not_true, Bool.not_false, reduceCtorEq, List.getElem?_toArray, List.getElem?_cons_zero, List.getElem?_cons_succ, hs.lenV]
    refine s_block ?_
    refine s_loop1 (fun j e' H' => ∃ (m b : Nat) (vs : List Value) (bs : List Nat) (v x7 x8 x9 x10 x14 x15 x16 : Value), m + j = ss.length ∧ GrowX H' H1.next b vs bs v ((mixL ss i k n).take m) ∧ Ext H1 H' ∧ e' = [s, .int .i64 i, .int .i64 k, .int .i64 n, .slice none 0 0, .bool false, v, x7, x8, x9, x10, s, .int .i64 ss.length, .int .i64 m, x14, x15, x16]) ss.length ⟨0, H1.next, [], [], _, _, _, _, _, _, _, _, by omega, GrowX.nil' _, Ext.refl _, rfl⟩ ?_
    rintro j e' H' ⟨m, b, vs, bs, v, x7, x8, x9, x10, x14, x15, x16, hmj, hG, hx', rfl⟩
    have hnx2 := hx'.next
    refine s_test ?_
    simp only [o_cont, o_callT, callV_fn, o_pure, o_eff, o_callF, o_callN, o_guard, gk_tt, gk_ff, gk_tf, gk_ft, gk_u, t_op, t_alt, t_nil, o_nil, POp.ev, Opd.ev, EOp.ev, env0, gu, gv, setD, resV, List.set, List.map, List.map_nil, List.map_cons, Option.map_none, Option.map_some, Option.some.injEq, exists_eq_left', pickV, binV, convV, load1V, max2V, min2V, nilchkV, unV, boolEq, isNilV, fadV, extV, slenV, ne_eq, not_true_eq_false, if_false, if_true, ite_true, ite_false, Bool.false_eq_true, Bool.true_eq_false, beq_true, beq_false, beq_self_eq_true, Bool.not_true, Bool.not_false, reduceCtorEq, List.getElem?_toArray, List.getElem?_cons_zero, List.getElem?_cons_succ]
    refine Test.split (fun hlt => ?_) (fun hlt => ?_)
    · have hlt' : m < ss.length := by simpa using hlt
      obtain ⟨b1, o1, s1, u1, u2, u3⟩ := (hs1.ext hx').at hlt'
      have hget := mixL_get (n := n) hiL hkL hlt'
      have hp20 := hall _ (List.getElem_mem hlt')
      have hq20 := hall _ (List.getElem_mem hkL)
      refine s_skip1 ?_
      simp +decide only [p_seq_normal, p_seq_ret, p_seq_exit, p_block_normal, p_block_ret, p_block_exit, p_fin_ret, p_fin_normal, reduceIte, Nat.reduceEqDiff, resV, resOne, resL, gv, Option.some.injEq, exists_eq_left', Option.bind_some, Option.map_some, List.getD_cons_zero, List.getD_cons_succ]
      refine s_block ?_
      refine s_reg ?_
      simp only [o_cont, o_callT, callV_fn, o_pure, o_eff, o_callF, o_callN, o_guard, gk_tt, gk_ff, gk_tf, gk_ft, gk_u, t_op, t_alt, t_nil, o_nil, POp.ev, Opd.ev, EOp.ev, env0, gu, gv, setD, resV, List.set, List.map, List.map_nil, List.map_cons, Option.map_none, Option.map_some, Option.some.injEq, exists_eq_left', pickV, binV, convV, load1V, max2V, min2V, nilchkV, unV, boolEq, isNilV, fadV, extV, slenV, ne_eq, not_true_eq_false, if_false, if_true, ite_true, ite_false, Bool.false_eq_true, Bool.true_eq_false, beq_true, beq_false, beq_self_eq_true, Bool.not_true, Bool.not_false, reduceCtorEq, List.getElem?_toArray, List.getElem?_cons_zero, List.getElem?_cons_succ, u1, u2]
      refine s_reg ?_
      simp only [o_cont, o_callT, callV_fn, o_pure, o_eff, o_callF, o_callN, o_guard, gk_tt, gk_ff, gk_tf, gk_ft, gk_u, t_op, t_alt, t_nil, o_nil, POp.ev, Opd.ev, EOp.ev, env0, gu, gv, setD, resV, List.set, List.map, List.map_nil, List.map_cons, Option.map_none, Option.map_some, Option.some.injEq, exists_eq_left', pickV, binV, convV, load1V, max2V, min2V, nilchkV, unV, boolEq, isNilV, fadV, extV, slenV, ne_eq, not_true_eq_false, if_false, if_true, ite_true, ite_false, Bool.false_eq_true, Bool.true_eq_false, beq_true, beq_false, beq_self_eq_true, Bool.not_true, Bool.not_false, reduceCtorEq, List.getElem?_toArray, List.getElem?_cons_zero, List.getElem?_cons_succ]
      refine (tfOwn_ok lim _ _ _ (by omega) u3 (by omega)).mono ?_
      rintro v9 H2 ⟨c0, hc1, hc2, hv9, hx2⟩
      have hnx3 := hx2.next
      simp only [o_cont, o_callT, callV_fn, o_pure, o_eff, o_callF, o_callN, o_guard, gk_tt, gk_ff, gk_tf, gk_ft, gk_u, t_op, t_alt, t_nil, o_nil, POp.ev, Opd.ev, EOp.ev, env0, gu, gv, setD, resV, List.set, List.map, List.map_nil, List.map_cons, Option.map_none, Option.map_some, Option.some.injEq, exists_eq_left', pickV, binV, convV, load1V, max2V, min2V, nilchkV, unV, boolEq, isNilV, fadV, extV, slenV, ne_eq, not_true_eq_false, if_false, if_true, ite_true, ite_false, Bool.false_eq_true, Bool.true_eq_false, beq_true, beq_false, beq_self_eq_true, Bool.not_true, Bool.not_false, reduceCtorEq, List.getElem?_toArray, List.getElem?_cons_zero, List.getElem?_cons_succ]
      refine s_cut1 (fun e' H'' => ∃ (c : Nat) (v9 x10 x14 x15 x16 : Value), VecT H'' c v9 (if m = i then mixF n ss[i] ss[k] else ss[m]) ∧ H'.next ≤ c ∧ c ≤ H''.next ∧ Ext H' H'' ∧ e' = [s, .int .i64 i, .int .i64 k, .int .i64 n, .slice none 0 0, .bool false, v, .int .i64 m, s1, v9, x10, s, .int .i64 ss.length, .int .i64 m, x14, x15, x16]) ?_ ?_
      · by_cases e1 : m = i
        · have d1 : ((m : Int) == (i : Int)) = true := by simp [e1]
          obtain ⟨b2, o2, s2, k1, k2, k3⟩ := ((hs1.ext hx').ext hx2).at hkL
          refine s_test1 ?_
          simp only [o_cont, o_callT, callV_fn, o_pure, o_eff, o_callF, o_callN, o_guard, gk_tt, gk_ff, gk_tf, gk_ft, gk_u, t_op, t_alt, t_nil, o_nil, POp.ev, Opd.ev, EOp.ev, env0, gu, gv, setD, resV, List.set, List.map, List.map_nil, List.map_cons, Option.map_none, Option.map_some, Option.some.injEq, exists_eq_left', pickV, binV, convV, load1V, max2V, min2V, nilchkV, unV, boolEq, isNilV, fadV, extV, slenV, ne_eq, not_true_eq_false, if_false, if_true, ite_true, ite_false, Bool.false_eq_true, Bool.true_eq_false, beq_true, beq_false, beq_self_eq_true, Bool.not_true, Bool.not_false, reduceCtorEq, List.getElem?_toArray, List.getElem?_cons_zero, List.getElem?_cons_succ, d1]
          refine Test.true_ (s_reg ?_)
          simp only [o_cont, o_callT, callV_fn, o_pure, o_eff, o_callF, o_callN, o_guard, gk_tt, gk_ff, gk_tf, gk_ft, gk_u, t_op, t_alt, t_nil, o_nil, POp.ev, Opd.ev, EOp.ev, env0, gu, gv, setD, resV, List.set, List.map, List.map_nil, List.map_cons, Option.map_none, Option.map_some, Option.some.injEq, exists_eq_left', pickV, binV, convV, load1V, max2V, min2V, nilchkV, unV, boolEq, isNilV, fadV, extV, slenV, ne_eq, not_true_eq_false, if_false, if_true, ite_true, ite_false, Bool.false_eq_true, Bool.true_eq_false, beq_true, beq_false, beq_self_eq_true, Bool.not_true, Bool.not_false, reduceCtorEq, List.getElem?_toArray, List.getElem?_cons_zero, List.getElem?_cons_succ, k1, k2, k3.lenV]
          refine s_block1 ?_
          refine s_loop1 (fun kk e' H3 => ∃ (j2 c : Nat) (v9 x10 : Value), j2 + kk = ss[k].length ∧ VecT H3 c v9 (mixF n ss[m] (ss[k].take j2)) ∧ H'.next ≤ c ∧ c ≤ H3.next ∧ Ext H2 H3 ∧ e' = [s, .int .i64 i, .int .i64 k, .int .i64 n, .slice none 0 0, .bool false, v, .int .i64 m, s1, v9, x10, s, .int .i64 ss.length, .int .i64 m, s2, .int .i64 ss[k].length, .int .i64 j2]) ss[k].length ⟨0, c0, v9, _, by omega, hv9, hc1, hc2, Ext.refl _, rfl⟩ ?_
          clear hv9 hc1 hc2 k1 k2
          rintro kk e' H3 ⟨j2, c, v9', x10', hjk, hv, hc1, hc2, hx3, rfl⟩
          have hnx4 := hx3.next
          refine s_test ?_
          simp only [o_cont, o_callT, callV_fn, o_pure, o_eff, o_callF, o_callN, o_guard, gk_tt, gk_ff, gk_tf, gk_ft, gk_u, t_op, t_alt, t_nil, o_nil, POp.ev, Opd.ev, EOp.ev, env0, gu, gv, setD, resV, List.set, List.map, List.map_nil, List.map_cons, Option.map_none, Option.map_some, Option.some.injEq, exists_eq_left', pickV, binV, convV, load1V, max2V, min2V, nilchkV, unV, boolEq, isNilV, fadV, extV, slenV, ne_eq, not_true_eq_false, if_false, if_true, ite_true, ite_false, Bool.false_eq_true, Bool.true_eq_false, beq_true, beq_false, beq_self_eq_true, Bool.not_true, Bool.not_false, reduceCtorEq, List.getElem?_toArray, List.getElem?_cons_zero, List.getElem?_cons_succ]
          refine Test.split (fun hlt2 => ?_) (fun hlt2 => ?_)
          · have hlt3 : j2 < ss[k].length := by simpa using hlt2
            obtain ⟨b5, o5, h5, a5⟩ := (k3.ext hx3).at hlt3
            refine s_skip1 ?_
            simp +decide only [p_seq_normal, p_seq_ret, p_seq_exit, p_block_normal, p_block_ret, p_block_exit, p_fin_ret, p_fin_normal, reduceIte, Nat.reduceEqDiff, resV, resOne, resL, gv, Option.some.injEq, exists_eq_left', Option.bind_some, Option.map_some, List.getD_cons_zero, List.getD_cons_succ]
            refine s_block ?_
            refine s_reg ?_
            simp only [o_cont, o_callT, callV_fn, o_pure, o_eff, o_callF, o_callN, o_guard, gk_tt, gk_ff, gk_tf, gk_ft, gk_u, t_op, t_alt, t_nil, o_nil, POp.ev, Opd.ev, EOp.ev, env0, gu, gv, setD, resV, List.set, List.map, List.map_nil, List.map_cons, Option.map_none, Option.map_some, Option.some.injEq, exists_eq_left', pickV, binV, convV, load1V, max2V, min2V, nilchkV, unV, boolEq, isNilV, fadV, extV, slenV, ne_eq, not_true_eq_false, if_false, if_true, ite_true, ite_false, Bool.false_eq_true, Bool.true_eq_false, beq_true, beq_false, beq_self_eq_true, Bool.not_true, Bool.not_false, reduceCtorEq, List.getElem?_toArray, List.getElem?_cons_zero, List.getElem?_cons_succ, h5, a5.all, store4_new (lim := lim) (H := H3) (by omega)]
            have hB := BoxT.mk' H3 ss[k][j2]
            generalize H3.alloc (tc ss[k][j2]) = H4 at hB ⊢
            generalize H3.next = q at hB hnx4 hc2 ⊢
            obtain ⟨cs4, t4, hB5⟩ := hB.put0 (lim := lim) (by have := hB.ge; omega) (W (ss[k][j2].c * n))
            refine s_reg ?_
            simp only [o_cont, o_callT, callV_fn, o_pure, o_eff, o_callF, o_callN, o_guard, gk_tt, gk_ff, gk_tf, gk_ft, gk_u, t_op, t_alt, t_nil, o_nil, POp.ev, Opd.ev, EOp.ev, env0, gu, gv, setD, resV, List.set, List.map, List.map_nil, List.map_cons, Option.map_none, Option.map_some, Option.some.injEq, exists_eq_left', pickV, binV, convV, load1V, max2V, min2V, nilchkV, unV, boolEq, isNilV, fadV, extV, slenV, ne_eq, not_true_eq_false, if_false, if_true, ite_true, ite_false, Bool.false_eq_true, Bool.true_eq_false, beq_true, beq_false, beq_self_eq_true, Bool.not_true, Bool.not_false, reduceCtorEq, List.getElem?_toArray, List.getElem?_cons_zero, List.getElem?_cons_succ, Nat.add_zero, Nat.zero_add, hB.c0, t4]
            generalize H4.put q cs4 = H5 at hB5 ⊢
            clear t4 hB cs4 H4
            have hx5 := hB5.ext
            have hq5 := hB5.lt
            have hq6 := hB5.ge
            replace hv := VecT.ext hv hx5
            have hmt := mixF_take (n := n) (p := ss[m]) hlt3
            refine s_cut0 (fun e' H6 => ∃ (c : Nat) (v9 : Value), VecT H6 c v9 (mixF n ss[m] (ss[k].take (j2 + 1))) ∧ H'.next ≤ c ∧ c ≤ H6.next ∧ Ext H2 H6 ∧ e' = [s, .int .i64 i, .int .i64 k, .int .i64 n, .slice none 0 0, .bool false, v, .int .i64 m, s1, v9, .pointer (some ⟨q, 0, none⟩), s, .int .i64 ss.length, .int .i64 m, s2, .int .i64 ss[k].length, .int .i64 j2]) ?_ ?_
            · refine s_test1 ?_
              simp only [o_cont, o_callT, callV_fn, o_pure, o_eff, o_callF, o_callN, o_guard, gk_tt, gk_ff, gk_tf, gk_ft, gk_u, t_op, t_alt, t_nil, o_nil, POp.ev, Opd.ev, EOp.ev, env0, gu, gv, setD, resV, List.set, List.map, List.map_nil, List.map_cons, Option.map_none, Option.map_some, Option.some.injEq, exists_eq_left', pickV, binV, convV, load1V, max2V, min2V, nilchkV, unV, boolEq, isNilV, fadV, extV, slenV, ne_eq, not_true_eq_false, if_false, if_true, ite_true, ite_false, Bool.false_eq_true, Bool.true_eq_false, beq_true, beq_false, beq_self_eq_true, Bool.not_true, Bool.not_false, reduceCtorEq, List.getElem?_toArray, List.getElem?_cons_zero, List.getElem?_cons_succ]
              refine Test.split (fun hg0 => ?_) (fun hg0 => ?_)
              · have hn0 : n ≠ 0 := by simpa using hg0
                rw [if_neg hn0] at hmt
                have hlm := mixF_length n (ss[k].take j2) ss[m]
                have hexP : ∀ t ∈ mixF n ss[m] (ss[k].take j2), exB t := mixF_ex (fun t ht => ok_exB (hp20.2.1 t ht).1) (fun t ht => ok_exB (hq20.2.1 t (List.mem_of_mem_take ht)).1)
                have hexQ : exB (sc n ss[k][j2]) := ok_exB (t := ss[k][j2]) (hq20.2.1 _ (List.getElem_mem hlt3)).1
                refine s_reg1 ?_
                have hall5 : loadNV H5 4 (.pointer (some ⟨q, 0, none⟩)) = some (tv (sc n ss[k][j2])) := hB5.all
                simp only [o_cont, o_callT, callV_fn, o_pure, o_eff, o_callF, o_callN, o_guard, gk_tt, gk_ff, gk_tf, gk_ft, gk_u, t_op, t_alt, t_nil, o_nil, POp.ev, Opd.ev, EOp.ev, env0, gu, gv, setD, resV, List.set, List.map, List.map_nil, List.map_cons, Option.map_none, Option.map_some, Option.some.injEq, exists_eq_left', pickV, binV, convV, load1V, max2V, min2V, nilchkV, unV, boolEq, isNilV, fadV, extV, slenV, ne_eq, not_true_eq_false, if_false, if_true, ite_true, ite_false, Bool.false_eq_true, Bool.true_eq_false, beq_true, beq_false, beq_self_eq_true, Bool.not_true, Bool.not_false, reduceCtorEq, List.getElem?_toArray, List.getElem?_cons_zero, List.getElem?_cons_succ, hall5]
                refine (putG_ok lim v9' _ _ _ (by omega) (Vec.sl hv) (by rw [List.length_take] at hlm; omega) hexP hexQ).mono ?_
                rintro v10 H6 ⟨c6, g1, g2, g3, g4⟩
                simp only [o_cont, o_callT, callV_fn, o_pure, o_eff, o_callF, o_callN, o_guard, gk_tt, gk_ff, gk_tf, gk_ft, gk_u, t_op, t_alt, t_nil, o_nil, POp.ev, Opd.ev, EOp.ev, env0, gu, gv, setD, resV, List.set, List.map, List.map_nil, List.map_cons, Option.map_none, Option.map_some, Option.some.injEq, exists_eq_left', pickV, binV, convV, load1V, max2V, min2V, nilchkV, unV, boolEq, isNilV, fadV, extV, slenV, ne_eq, not_true_eq_false, if_false, if_true, ite_true, ite_false, Bool.false_eq_true, Bool.true_eq_false, beq_true, beq_false, beq_self_eq_true, Bool.not_true, Bool.not_false, reduceCtorEq, List.getElem?_toArray, List.getElem?_cons_zero, List.getElem?_cons_succ]
                simp +decide only [p_seq_normal, p_seq_ret, p_seq_exit, p_block_normal, p_block_ret, p_block_exit, p_fin_ret, p_fin_normal, reduceIte, Nat.reduceEqDiff, resV, resOne, resL, gv, Option.some.injEq, exists_eq_left', Option.bind_some, Option.map_some, List.getD_cons_zero, List.getD_cons_succ]
                rw [hmt]
                exact ⟨c6, v10, g3, by omega, g2, (hx3.trans hx5).trans g4, rfl⟩
              · have hn0 : n = 0 := by simpa using hg0
                rw [if_pos hn0] at hmt
                refine s_skip1 ?_
                simp +decide only [p_seq_normal, p_seq_ret, p_seq_exit, p_block_normal, p_block_ret, p_block_exit, p_fin_ret, p_fin_normal, reduceIte, Nat.reduceEqDiff, resV, resOne, resL, gv, Option.some.injEq, exists_eq_left', Option.bind_some, Option.map_some, List.getD_cons_zero, List.getD_cons_succ]
                rw [hmt]
                exact ⟨c, v9', hv, hc1, by omega, hx3.trans hx5, rfl⟩
            rintro e6 H6 ⟨c6, v6, g1, g2, g3, g4, rfl⟩
            simp +decide only [p_seq_normal, p_seq_ret, p_seq_exit, p_block_normal, p_block_ret, p_block_exit, p_fin_ret, p_fin_normal, reduceIte, Nat.reduceEqDiff, resV, resOne, resL, gv, Option.some.injEq, exists_eq_left', Option.bind_some, Option.map_some, List.getD_cons_zero, List.getD_cons_succ]
            refine s_reg1 ?_
            simp only [o_cont, o_callT, callV_fn, o_pure, o_eff, o_callF, o_callN, o_guard, gk_tt, gk_ff, gk_tf, gk_ft, gk_u, t_op, t_alt, t_nil, o_nil, POp.ev, Opd.ev, EOp.ev, env0, gu, gv, setD, resV, List.set, List.map, List.map_nil, List.map_cons, Option.map_none, Option.map_some, Option.some.injEq, exists_eq_left', pickV, binV, convV, load1V, max2V, min2V, nilchkV, unV, boolEq, isNilV, fadV, extV, slenV, ne_eq, not_true_eq_false, if_false, if_true, ite_true, ite_false, Bool.false_eq_true, Bool.true_eq_false, beq_true, beq_false, beq_self_eq_true, Bool.not_true, Bool.not_false, reduceCtorEq, List.getElem?_toArray, List.getElem?_cons_zero, List.getElem?_cons_succ, add1 (i := j2) (by omega)]
            simp +decide only [p_seq_normal, p_seq_ret, p_seq_exit, p_block_normal, p_block_ret, p_block_exit, p_fin_ret, p_fin_normal, reduceIte, Nat.reduceEqDiff, resV, resOne, resL, gv, Option.some.injEq, exists_eq_left', Option.bind_some, Option.map_some, List.getD_cons_zero, List.getD_cons_succ]
            exact Round.mk (kk - 1) (by omega) ⟨j2 + 1, c6, v6, _, by omega, g1, g2, g3, g4, rfl⟩
          · have hge : j2 = ss[k].length := by simp at hlt2; omega
            subst hge
            rw [List.take_length] at hv
            refine s_exit1 ?_
            simp +decide only [p_seq_normal, p_seq_ret, p_seq_exit, p_block_normal, p_block_ret, p_block_exit, p_fin_ret, p_fin_normal, reduceIte, Nat.reduceEqDiff, resV, resOne, resL, gv, Option.some.injEq, exists_eq_left', Option.bind_some, Option.map_some, List.getD_cons_zero, List.getD_cons_succ]
            subst e1
            rw [if_pos rfl]
            exact ⟨c, v9', _, _, _, _, hv, hc1, hc2, hx2.trans hx3, rfl⟩
        · have d1 : ((m : Int) == (i : Int)) = false := by simp; omega
          refine s_test1 ?_
          simp only [o_cont, o_callT, callV_fn, o_pure, o_eff, o_callF, o_callN, o_guard, gk_tt, gk_ff, gk_tf, gk_ft, gk_u, t_op, t_alt, t_nil, o_nil, POp.ev, Opd.ev, EOp.ev, env0, gu, gv, setD, resV, List.set, List.map, List.map_nil, List.map_cons, Option.map_none, Option.map_some, Option.some.injEq, exists_eq_left', pickV, binV, convV, load1V, max2V, min2V, nilchkV, unV, boolEq, isNilV, fadV, extV, slenV, ne_eq, not_true_eq_false, if_false, if_true, ite_true, ite_false, Bool.false_eq_true, Bool.true_eq_false, beq_true, beq_false, beq_self_eq_true, Bool.not_true, Bool.not_false, reduceCtorEq, List.getElem?_toArray, List.getElem?_cons_zero, List.getElem?_cons_succ, d1]
          refine Test.false_ (s_skip1 ?_)
          simp +decide only [p_seq_normal, p_seq_ret, p_seq_exit, p_block_normal, p_block_ret, p_block_exit, p_fin_ret, p_fin_normal, reduceIte, Nat.reduceEqDiff, resV, resOne, resL, gv, Option.some.injEq, exists_eq_left', Option.bind_some, Option.map_some, List.getD_cons_zero, List.getD_cons_succ]
          rw [if_neg e1]
          exact ⟨c0, v9, _, _, _, _, hv9, hc1, hc2, hx2, rfl⟩
      rintro e'' H'' ⟨c, v9', x10', x14', x15', x16', hv4, hc1', hc2', hx4, rfl⟩
      have hcv : cellsV v9' = some [v9'] := Vec.cellsV hv4
      obtain ⟨v', H3, b', g1, g2, g3⟩ := hG.push (lim := lim) (by omega) hx' (Nat.le_refl _) (by omega) hx4 hc1' hc2' hv4 (by rw [List.length_take]; omega)
      refine s_reg1 ?_
      simp only [o_cont, o_callT, callV_fn, o_pure, o_eff, o_callF, o_callN, o_guard, gk_tt, gk_ff, gk_tf, gk_ft, gk_u, t_op, t_alt, t_nil, o_nil, POp.ev, Opd.ev, EOp.ev, env0, gu, gv, setD, resV, List.set, List.map, List.map_nil, List.map_cons, Option.map_none, Option.map_some, Option.some.injEq, exists_eq_left', pickV, binV, convV, load1V, max2V, min2V, nilchkV, unV, boolEq, isNilV, fadV, extV, slenV, ne_eq, not_true_eq_false, if_false, if_true, ite_true, ite_false, Bool.false_eq_true, Bool.true_eq_false, beq_true, beq_false, beq_self_eq_true, Bool.not_true, Bool.not_false, reduceCtorEq, List.getElem?_toArray, List.getElem?_cons_zero, List.getElem?_cons_succ, bsliceV _ _ hcv, g1]
      simp +decide only [p_seq_normal, p_seq_ret, p_seq_exit, p_block_normal, p_block_ret, p_block_exit, p_fin_ret, p_fin_normal, reduceIte, Nat.reduceEqDiff, resV, resOne, resL, gv, Option.some.injEq, exists_eq_left', Option.bind_some, Option.map_some, List.getD_cons_zero, List.getD_cons_succ]
      refine s_reg1 ?_
      simp only [o_cont, o_callT, callV_fn, o_pure, o_eff, o_callF, o_callN, o_guard, gk_tt, gk_ff, gk_tf, gk_ft, gk_u, t_op, t_alt, t_nil, o_nil, POp.ev, Opd.ev, EOp.ev, env0, gu, gv, setD, resV, List.set, List.map, List.map_nil, List.map_cons, Option.map_none, Option.map_some, Option.some.injEq, exists_eq_left', pickV, binV, convV, load1V, max2V, min2V, nilchkV, unV, boolEq, isNilV, fadV, extV, slenV, ne_eq, not_true_eq_false, if_false, if_true, ite_true, ite_false, Bool.false_eq_true, Bool.true_eq_false, beq_true, beq_false, beq_self_eq_true, Bool.not_true, Bool.not_false, reduceCtorEq, List.getElem?_toArray, List.getElem?_cons_zero, List.getElem?_cons_succ, add1 (i := m) (by omega)]
      simp +decide only [p_seq_normal, p_seq_ret, p_seq_exit, p_block_normal, p_block_ret, p_block_exit, p_fin_ret, p_fin_normal, reduceIte, Nat.reduceEqDiff, resV, resOne, resL, gv, Option.some.injEq, exists_eq_left', Option.bind_some, Option.map_some, List.getD_cons_zero, List.getD_cons_succ]
      refine Round.mk (j - 1) (by omega) ⟨m + 1, b', vs ++ [v9'], bs ++ [c], v', _, _, _, _, _, _, _, by omega, ?_, g3, rfl⟩
      rw [List.take_add_one, hget]
      exact g2
    · have hge : m = ss.length := by simp at hlt; omega
      subst hge
      rw [List.take_of_length_le (by omega)] at hG
      refine s_exit1 ?_
      simp +decide only [p_seq_normal, p_seq_ret, p_seq_exit, p_block_normal, p_block_ret, p_block_exit, p_fin_ret, p_fin_normal, reduceIte, Nat.reduceEqDiff, resV, resOne, resL, gv, Option.some.injEq, exists_eq_left', Option.bind_some, Option.map_some, List.getD_cons_zero, List.getD_cons_succ]
      have hmem : ∀ p ∈ mixL ss i k n, p.length ≤ 1000000 := by
        intro p hp
        obtain ⟨j, hj, rfl⟩ := List.getElem_of_mem hp
        rw [hRl] at hj
        have := mixL_get (n := n) hiL hkL hj
        rw [List.getElem?_eq_getElem (by omega)] at this
        rw [Option.some.inj this]
        split
        · have := mixF_length n ss[k] ss[i]
          have := (hall _ (List.getElem_mem hiL)).1
          have := (hall _ (List.getElem_mem hkL)).1
          omega
        · have := (hall _ (List.getElem_mem hj)).1
          omega
      have hOwn := hG.own
      have hmR : mixR ss i k n = if goodSS (mixL ss i k n) then some (mixL ss i k n) else none := by
        unfold mixR
        rw [hg]
        simp
      rw [hmR]
      refine s_test ?_
      simp only [o_cont, o_callT, callV_fn, o_pure, o_eff, o_callF, o_callN, o_guard, gk_tt, gk_ff, gk_tf, gk_ft, gk_u, t_op, t_alt, t_nil, o_nil, POp.ev, Opd.ev, EOp.ev, env0, gu, gv, setD, resV, List.set, List.map, List.map_nil, List.map_cons, Option.map_none, Option.map_some, Option.some.injEq, exists_eq_left', pickV, binV, convV, load1V, max2V, min2V, nilchkV, unV, boolEq, isNilV, fadV, extV, slenV, ne_eq, not_true_eq_false, if_false, if_true, ite_true, ite_false, Bool.false_eq_true, Bool.true_eq_false, beq_true, beq_false, beq_self_eq_true, Bool.not_true, Bool.not_false, reduceCtorEq, List.getElem?_toArray, List.getElem?_cons_zero, List.getElem?_cons_succ]
      refine (poSystem_ok lim _ _ _ (by omega) hOwn.slss (by omega) hmem).mono ?_
      rintro _ H3 ⟨rfl, hx3⟩
      have hnx3 := hx3.next
      simp only [o_cont, o_callT, callV_fn, o_pure, o_eff, o_callF, o_callN, o_guard, gk_tt, gk_ff, gk_tf, gk_ft, gk_u, t_op, t_alt, t_nil, o_nil, POp.ev, Opd.ev, EOp.ev, env0, gu, gv, setD, resV, List.set, List.map, List.map_nil, List.map_cons, Option.map_none, Option.map_some, Option.some.injEq, exists_eq_left', pickV, binV, convV, load1V, max2V, min2V, nilchkV, unV, boolEq, isNilV, fadV, extV, slenV, ne_eq, not_true_eq_false, if_false, if_true, ite_true, ite_false, Bool.false_eq_true, Bool.true_eq_false, beq_true, beq_false, beq_self_eq_true, Bool.not_true, Bool.not_false, reduceCtorEq, List.getElem?_toArray, List.getElem?_cons_zero, List.getElem?_cons_succ]
      cases hgg : goodSS (mixL ss i k n)
      · refine Test.true_ (s_reg ?_)
        simp only [o_cont, o_callT, callV_fn, o_pure, o_eff, o_callF, o_callN, o_guard, gk_tt, gk_ff, gk_tf, gk_ft, gk_u, t_op, t_alt, t_nil, o_nil, POp.ev, Opd.ev, EOp.ev, env0, gu, gv, setD, resV, List.set, List.map, List.map_nil, List.map_cons, Option.map_none, Option.map_some, Option.some.injEq, exists_eq_left', pickV, binV, convV, load1V, max2V, min2V, nilchkV, unV, boolEq, isNilV, fadV, extV, slenV, ne_eq, not_true_eq_false, if_false, if_true, ite_true, ite_false, Bool.false_eq_true, Bool.true_eq_false, beq_true, beq_false, beq_self_eq_true, Bool.not_true, Bool.not_false, reduceCtorEq, List.getElem?_toArray, List.getElem?_cons_zero, List.getElem?_cons_succ]
        refine s_ret1 ?_
        simp +decide only [p_seq_normal, p_seq_ret, p_seq_exit, p_block_normal, p_block_ret, p_block_exit, p_fin_ret, p_fin_normal, reduceIte, Nat.reduceEqDiff, resV, resOne, resL, gv, Option.some.injEq, exists_eq_left', Option.bind_some, Option.map_some, List.getD_cons_zero, List.getD_cons_succ]
        exact ⟨⟨_, rfl, .inl ⟨rfl, rfl⟩⟩, (hx.trans hx').trans hx3⟩
      · refine Test.false_ (s_skip1 ?_)
        simp +decide only [p_seq_normal, p_seq_ret, p_seq_exit, p_block_normal, p_block_ret, p_block_exit, p_fin_ret, p_fin_normal, reduceIte, Nat.reduceEqDiff, resV, resOne, resL, gv, Option.some.injEq, exists_eq_left', Option.bind_some, Option.map_some, List.getD_cons_zero, List.getD_cons_succ]
        refine s_reg ?_
        simp only [o_cont, o_callT, callV_fn, o_pure, o_eff, o_callF, o_callN, o_guard, gk_tt, gk_ff, gk_tf, gk_ft, gk_u, t_op, t_alt, t_nil, o_nil, POp.ev, Opd.ev, EOp.ev, env0, gu, gv, setD, resV, List.set, List.map, List.map_nil, List.map_cons, Option.map_none, Option.map_some, Option.some.injEq, exists_eq_left', pickV, binV, convV, load1V, max2V, min2V, nilchkV, unV, boolEq, isNilV, fadV, extV, slenV, ne_eq, not_true_eq_false, if_false, if_true, ite_true, ite_false, Bool.false_eq_true, Bool.true_eq_false, beq_true, beq_false, beq_self_eq_true, Bool.not_true, Bool.not_false, reduceCtorEq, List.getElem?_toArray, List.getElem?_cons_zero, List.getElem?_cons_succ]
        refine s_ret1 ?_
        simp +decide only [p_seq_normal, p_seq_ret, p_seq_exit, p_block_normal, p_block_ret, p_block_exit, p_fin_ret, p_fin_normal, reduceIte, Nat.reduceEqDiff, resV, resOne, resL, gv, Option.some.injEq, exists_eq_left', Option.bind_some, Option.map_some, List.getD_cons_zero, List.getD_cons_succ]
        exact ⟨⟨v, rfl, (hOwn.ext hx3).wide hnx1 hnx3⟩, (hx.trans hx').trans hx3⟩
end Go.Proofs.Ytaimceodhhgnnaa
