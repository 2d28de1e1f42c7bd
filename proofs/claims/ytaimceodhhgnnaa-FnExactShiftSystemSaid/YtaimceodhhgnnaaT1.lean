/- Systems of polynomials, part 1 of the walk: lists of terms in the abstract heap, and the laws' helpers on one term; no condition. -/
import Derived.Test.YtaimceodhhgnnaaC
import Derived.Test.YtaimceodhhgnnaaAbVec
namespace Go.Proofs.Ytaimceodhhgnnaa
open Go.Ab
set_option linter.unusedSimpArgs false
set_option linter.unusedVariables false

abbrev vi (n : Int) : Value := .int .i64 n
def roomN (n : Nat) : Nat := if n % 6 = 5 then 0 else if n % 3 = 0 then 1 else n
theorem roomN_le (n : Nat) : roomN n ≤ n + 1 := by
  unfold roomN
  split
  · omega
  · split <;> omega
theorem roomBehind_ok (lim n : Nat) (H : AHeap) : ACalls Try.prog lim n_laws_roomBehind [.int .i64 n] H fun v H' => v = .int .i64 (roomN n) ∧ H' = H := by
  refine is_laws_roomBehind.go rfl ?_
  unfold c_laws_roomBehind
  refine s_reg ?_
  simp only [o_cont, o_callT, callV_fn, o_pure, o_eff, o_callF, o_callN, o_guard, gk_tt, gk_ff, gk_tf, gk_ft, gk_u, t_op, t_alt, t_nil, o_nil, POp.ev, Opd.ev, EOp.ev, env0, gu, gv, setD, resV, List.set, List.map, List.map_nil, List.map_cons, Option.map_none, Option.map_some, Option.some.injEq, exists_eq_left', pickV, binV, convV, load1V, max2V, min2V, nilchkV, unV, boolEq, isNilV, fadV, extV, slenV, ne_eq, not_true_eq_false, if_false, if_true, ite_true, ite_false, Bool.false_eq_true, Bool.true_eq_false, beq_true, beq_false, beq_self_eq_true, Bool.not_true, Bool.not_false, reduceCtorEq, List.getElem?_toArray, List.getElem?_cons_zero, List.getElem?_cons_succ]
  refine s_test ?_
  have e6 : ¬ (6 : Int) = 0 := by decide
  have e3 : ¬ (3 : Int) = 0 := by decide
  have t6 : (n : Int).tmod 6 = ((n % 6 : Nat) : Int) := rfl
  have t3 : (n : Int).tmod 3 = ((n % 3 : Nat) : Int) := rfl
  simp only [o_cont, o_callT, callV_fn, o_pure, o_eff, o_callF, o_callN, o_guard, gk_tt, gk_ff, gk_tf, gk_ft, gk_u, t_op, t_alt, t_nil, o_nil, POp.ev, Opd.ev, EOp.ev, env0, gu, gv, setD, resV, List.set, List.map, List.map_nil, List.map_cons, Option.map_none, Option.map_some, Option.some.injEq, exists_eq_left', pickV, binV, convV, load1V, max2V, min2V, nilchkV, unV, boolEq, isNilV, fadV, extV, slenV, ne_eq, not_true_eq_false, if_false, if_true, ite_true, ite_false, Bool.false_eq_true, Bool.true_eq_false, beq_true, beq_false, beq_self_eq_true, Bool.not_true, Bool.not_false, reduceCtorEq, List.getElem?_toArray, List.getElem?_cons_zero, List.getElem?_cons_succ, if_neg e6, t6]
  refine Test.split (fun h => ?_) (fun h => ?_)
  · refine s_reg ?_
    simp only [o_cont, o_callT, callV_fn, o_pure, o_eff, o_callF, o_callN, o_guard, gk_tt, gk_ff, gk_tf, gk_ft, gk_u, t_op, t_alt, t_nil, o_nil, POp.ev, Opd.ev, EOp.ev, env0, gu, gv, setD, resV, List.set, List.map, List.map_nil, List.map_cons, Option.map_none, Option.map_some, Option.some.injEq, exists_eq_left', pickV, binV, convV, load1V, max2V, min2V, nilchkV, unV, boolEq, isNilV, fadV, extV, slenV, ne_eq, not_true_eq_false, if_false, if_true, ite_true, ite_false, Bool.false_eq_true, Bool.true_eq_false, beq_true, beq_false, beq_self_eq_true, Bool.not_true, Bool.not_false, reduceCtorEq, List.getElem?_toArray, List.getElem?_cons_zero, List.getElem?_cons_succ]
    refine s_ret1 ?_
    simp +decide only [p_seq_normal, p_seq_ret, p_seq_exit, p_block_normal, p_block_ret, p_block_exit, p_fin_ret, p_fin_normal, reduceIte, Nat.reduceEqDiff, resV, resOne, resL, gv, Option.some.injEq, exists_eq_left', Option.bind_some, Option.map_some, List.getD_cons_zero, List.getD_cons_succ]
    have : roomN n = 0 := by unfold roomN; rw [if_pos]; simp at h; omega
    simp [this]
  · refine s_skip1 ?_
    simp +decide only [p_seq_normal, p_seq_ret, p_seq_exit, p_block_normal, p_block_ret, p_block_exit, p_fin_ret, p_fin_normal, reduceIte, Nat.reduceEqDiff, resV, resOne, resL, gv, Option.some.injEq, exists_eq_left', Option.bind_some, Option.map_some, List.getD_cons_zero, List.getD_cons_succ]
    refine s_test ?_
    simp only [o_cont, o_callT, callV_fn, o_pure, o_eff, o_callF, o_callN, o_guard, gk_tt, gk_ff, gk_tf, gk_ft, gk_u, t_op, t_alt, t_nil, o_nil, POp.ev, Opd.ev, EOp.ev, env0, gu, gv, setD, resV, List.set, List.map, List.map_nil, List.map_cons, Option.map_none, Option.map_some, Option.some.injEq, exists_eq_left', pickV, binV, convV, load1V, max2V, min2V, nilchkV, unV, boolEq, isNilV, fadV, extV, slenV, ne_eq, not_true_eq_false, if_false, if_true, ite_true, ite_false, Bool.false_eq_true, Bool.true_eq_false, beq_true, beq_false, beq_self_eq_true, Bool.not_true, Bool.not_false, reduceCtorEq, List.getElem?_toArray, List.getElem?_cons_zero, List.getElem?_cons_succ, if_neg e3, t3]
    refine Test.split (fun h2 => ?_) (fun h2 => ?_)
    · refine s_reg ?_
      simp only [o_cont, o_callT, callV_fn, o_pure, o_eff, o_callF, o_callN, o_guard, gk_tt, gk_ff, gk_tf, gk_ft, gk_u, t_op, t_alt, t_nil, o_nil, POp.ev, Opd.ev, EOp.ev, env0, gu, gv, setD, resV, List.set, List.map, List.map_nil, List.map_cons, Option.map_none, Option.map_some, Option.some.injEq, exists_eq_left', pickV, binV, convV, load1V, max2V, min2V, nilchkV, unV, boolEq, isNilV, fadV, extV, slenV, ne_eq, not_true_eq_false, if_false, if_true, ite_true, ite_false, Bool.false_eq_true, Bool.true_eq_false, beq_true, beq_false, beq_self_eq_true, Bool.not_true, Bool.not_false, reduceCtorEq, List.getElem?_toArray, List.getElem?_cons_zero, List.getElem?_cons_succ]
      refine s_ret1 ?_
      simp +decide only [p_seq_normal, p_seq_ret, p_seq_exit, p_block_normal, p_block_ret, p_block_exit, p_fin_ret, p_fin_normal, reduceIte, Nat.reduceEqDiff, resV, resOne, resL, gv, Option.some.injEq, exists_eq_left', Option.bind_some, Option.map_some, List.getD_cons_zero, List.getD_cons_succ]
      have : roomN n = 1 := by unfold roomN; rw [if_neg, if_pos]; simp at h2; omega; simp at h; omega
      simp [this]
    · refine s_skip1 ?_
      simp +decide only [p_seq_normal, p_seq_ret, p_seq_exit, p_block_normal, p_block_ret, p_block_exit, p_fin_ret, p_fin_normal, reduceIte, Nat.reduceEqDiff, resV, resOne, resL, gv, Option.some.injEq, exists_eq_left', Option.bind_some, Option.map_some, List.getD_cons_zero, List.getD_cons_succ]
      refine s_reg ?_
      simp only [o_cont, o_callT, callV_fn, o_pure, o_eff, o_callF, o_callN, o_guard, gk_tt, gk_ff, gk_tf, gk_ft, gk_u, t_op, t_alt, t_nil, o_nil, POp.ev, Opd.ev, EOp.ev, env0, gu, gv, setD, resV, List.set, List.map, List.map_nil, List.map_cons, Option.map_none, Option.map_some, Option.some.injEq, exists_eq_left', pickV, binV, convV, load1V, max2V, min2V, nilchkV, unV, boolEq, isNilV, fadV, extV, slenV, ne_eq, not_true_eq_false, if_false, if_true, ite_true, ite_false, Bool.false_eq_true, Bool.true_eq_false, beq_true, beq_false, beq_self_eq_true, Bool.not_true, Bool.not_false, reduceCtorEq, List.getElem?_toArray, List.getElem?_cons_zero, List.getElem?_cons_succ]
      refine s_ret1 ?_
      simp +decide only [p_seq_normal, p_seq_ret, p_seq_exit, p_block_normal, p_block_ret, p_block_exit, p_fin_ret, p_fin_normal, reduceIte, Nat.reduceEqDiff, resV, resOne, resL, gv, Option.some.injEq, exists_eq_left', Option.bind_some, Option.map_some, List.getD_cons_zero, List.getD_cons_succ]
      have : roomN n = n := by unfold roomN; rw [if_neg, if_neg]; simp at h2; omega; simp at h; omega
      simp [this]

structure Tm where
  c : Int
  x : Int
  y : Int
  z : Int
  deriving DecidableEq
def tc (t : Tm) : List Value := [vi t.c, vi t.x, vi t.y, vi t.z]
def tv (t : Tm) : Value := .agg #[vi t.c, vi t.x, vi t.y, vi t.z]
theorem cells_tv (t : Tm) : cellsV (tv t) = some (tc t) := rfl
def tcs (l : List Tm) : List Value := l.flatMap tc
theorem tcs_cons (t : Tm) (l : List Tm) : tcs (t :: l) = tc t ++ tcs l := rfl
theorem tcs_append (l m : List Tm) : tcs (l ++ m) = tcs l ++ tcs m := by simp [tcs]
theorem tcs_length (l : List Tm) : (tcs l).length = l.length * 4 := by
  induction l with
  | nil => rfl
  | cons t l ih => rw [tcs_cons, List.length_append, ih, List.length_cons]; simp [tc]; omega
theorem tcs_at : ∀ {l : List Tm} {i : Nat} {t : Tm}, l[i]? = some t → ((tcs l).drop (i * 4)).take 4 = tc t
  | [], i, t, h => by simp at h
  | a :: l, 0, t, h => by
    simp only [List.getElem?_cons_zero, Option.some.injEq] at h
    subst h
    rw [tcs_cons]
    rfl
  | a :: l, i + 1, t, h => by
    have e : (tcs (a :: l)).drop ((i + 1) * 4) = (tcs l).drop (i * 4) := by
      rw [tcs_cons, List.drop_append, List.drop_of_length_le (by simp [tc]; omega), List.nil_append]
      congr 1
      simp [tc]; omega
    rw [e]
    exact tcs_at (by simpa using h)
theorem putL_shift (a l x : List Value) (o : Nat) : putL (a ++ l) (a.length + o) x = a ++ putL l o x := by
  simp only [putL, List.take_append, List.drop_append, List.append_assoc]
  rw [List.take_of_length_le (by omega), List.drop_of_length_le (by omega)]
  simp [Nat.add_sub_cancel_left, Nat.add_assoc]
theorem tcs_set : ∀ {l : List Tm} {i : Nat} (t : Tm), i < l.length → putL (tcs l) (i * 4) (tc t) = tcs (l.set i t)
  | [], i, t, h => by simp at h
  | a :: l, 0, t, h => by simp [putL, tcs_cons, tc]
  | a :: l, i + 1, t, h => by
    rw [List.set_cons_succ, tcs_cons, tcs_cons, show (i + 1) * 4 = (tc a).length + i * 4 by simp [tc]; omega, putL_shift, tcs_set t (by simpa using h)]
/-- a term with one field turned -/
def Tm.upd (t : Tm) : Nat → Int → Tm
  | 0, v => { t with c := v }
  | 1, v => { t with x := v }
  | 2, v => { t with y := v }
  | _, v => { t with z := v }
theorem tcs_put : ∀ {l : List Tm} {i j : Nat} {t : Tm} (v : Int), l[i]? = some t → j < 4 → putL (tcs l) (i * 4 + j) [vi v] = tcs (l.set i (t.upd j v))
  | [], i, j, t, v, h, hj => by simp at h
  | a :: l, 0, j, t, v, h, hj => by
    simp only [List.getElem?_cons_zero, Option.some.injEq] at h
    subst h
    match j, hj with
    | 0, _ => simp [putL, tcs_cons, tc, Tm.upd]
    | 1, _ => simp [putL, tcs_cons, tc, Tm.upd]
    | 2, _ => simp [putL, tcs_cons, tc, Tm.upd]
    | 3, _ => simp [putL, tcs_cons, tc, Tm.upd]
  | a :: l, i + 1, j, t, v, h, hj => by
    rw [List.set_cons_succ, tcs_cons, tcs_cons, show (i + 1) * 4 + j = (tc a).length + (i * 4 + j) by simp [tc]; omega, putL_shift, tcs_put v (by simpa using h) hj]

abbrev SlT (H : AHeap) (v : Value) (l : List Tm) : Prop := Sl H v l.length 4 (tcs l)
abbrev VecT (H : AHeap) (b : Nat) (v : Value) (l : List Tm) : Prop := Vec H b v l.length 4 (tcs l)

/-- a term's place: its address, the whole, its fields -/
structure At (H : AHeap) (b o : Nat) (t : Tm) : Prop where
  lt : b < H.next
  all : loadNV H 4 (.pointer (some ⟨b, o, none⟩)) = some (tv t)
  c : H.cell b o = some (vi t.c)
  x : H.cell b (o + 1) = some (vi t.x)
  y : H.cell b (o + 2) = some (vi t.y)
  z : H.cell b (o + 3) = some (vi t.z)
theorem At.of_load {H : AHeap} {b o : Nat} {t : Tm} (hb : b < H.next) (h : loadNH H b o 4 = some (tc t)) : At H b o t := by
  have hc : ∀ j, j < 4 → H.cell b (o + j) = (tc t)[j]? := by
    intro j hj
    unfold loadNH at h
    unfold AHeap.cell
    cases hbk : H.blk b with
    | none => rw [hbk] at h; cases h
    | some cs =>
      rw [hbk] at h
      simp only [Option.bind_some] at h ⊢
      split at h
      · simp only [Option.some.injEq] at h
        have h4 := congrArg (fun z => z[j]?) h
        simp only [List.getElem?_take, List.getElem?_drop, if_pos hj] at h4
        exact h4
      · cases h
  exact ⟨hb, by simp only [loadNV, h, Option.map_some]; rfl, hc 0 (by omega), hc 1 (by omega), hc 2 (by omega), hc 3 (by omega)⟩
theorem SlT.at {H : AHeap} {s : Value} {l : List Tm} (h : SlT H s l) {i : Nat} (hi : i < l.length) : ∃ b o, iadV 4 s (.int .i64 i) = some (.pointer (some ⟨b, o, none⟩)) ∧ At H b o l[i] := by
  obtain ⟨b, o, h1, h2, h3⟩ := Sl.iad h .i64 (i := (i : Int)) (by omega) (by omega)
  have e : (i : Int).toNat = i := by omega
  rw [e, tcs_at (List.getElem?_eq_getElem hi)] at h3
  exact ⟨b, o, h1, At.of_load h2 h3⟩
theorem VecT.at {H : AHeap} {b : Nat} {v : Value} {l : List Tm} (h : VecT H b v l) {i : Nat} (hi : i < l.length) : iadV 4 v (.int .i64 i) = some (.pointer (some ⟨b, i * 4, none⟩)) ∧ At H b (i * 4) l[i] := by
  refine ⟨Vec.iad h .i64 hi, At.of_load ((h.blk (by omega)).elim fun _ h => h.2) ?_⟩
  have := h.loadN hi
  rw [tcs_at (List.getElem?_eq_getElem hi)] at this
  exact this
theorem VecT.putT {lim : Nat} {H : AHeap} {b : Nat} {v : Value} {l : List Tm} (h : VecT H b v l) (hl : lim ≤ b) {i : Nat} (hi : i < l.length) (t : Tm) :
    ∃ cs, storeH lim H 4 (.pointer (some ⟨b, i * 4, none⟩)) (tv t) = some (undef, H.put b cs) ∧ VecT (H.put b cs) b v (l.set i t) := by
  obtain ⟨cs, h1, h2⟩ := h.put (lim := lim) hl (cells_tv t) rfl (by simp [tc]) (o := i * 4) (by simp [tc]; omega)
  rw [tcs_set t hi] at h2
  exact ⟨cs, h1, by unfold VecT; rw [List.length_set]; exact h2⟩
theorem VecT.putf {lim : Nat} {H : AHeap} {b : Nat} {v : Value} {l : List Tm} (h : VecT H b v l) (hl : lim ≤ b) {i : Nat} {t : Tm} (hi : l[i]? = some t) (x : Int) {j : Nat} (hj : j < 4) :
    ∃ cs, storeH lim H 1 (.pointer (some ⟨b, i * 4 + j, none⟩)) (.int .i64 x) = some (undef, H.put b cs) ∧ VecT (H.put b cs) b v (l.set i (t.upd j x)) := by
  have hlt := (List.getElem?_eq_some_iff.1 hi).1
  obtain ⟨cs, h1, h2⟩ := h.put (lim := lim) hl (cells_int .i64 x) rfl (by simp) (o := i * 4 + j) (by simp; omega)
  rw [tcs_put x hi hj] at h2
  exact ⟨cs, h1, by unfold VecT; rw [List.length_set]; exact h2⟩

theorem load4 {b : Nat} {H : AHeap} {x y z u : Value} (h : H.blk b = some [x, y, z, u]) : loadNV H 4 (.pointer (some ⟨b, 0, none⟩)) = some (.agg #[x, y, z, u]) := loadNV_blk h
theorem store4 {lim b : Nat} {H : AHeap} {p q r s x y z u : Value} (hl : lim ≤ b) (h : H.blk b = some [p, q, r, s]) : storeH lim H 4 (.pointer (some ⟨b, 0, none⟩)) (.agg #[x, y, z, u]) = some (undef, H.put b [x, y, z, u]) :=
  store_all (xs := [x, y, z, u]) hl h rfl
theorem fill4 (a b c d : Value) (k l m n : Int) : fillV [a, b, c, d] [(0, 1, .int .i64 k), (1, 1, .int .i64 l), (2, 1, .int .i64 m), (3, 1, .int .i64 n)] = some [vi k, vi l, vi m, vi n] := by
  simp [fillV, cellsV]

def filT : Tm := ⟨-7000000000000000101, -7000000000000000101, -7000000000000000101, -7000000000000000101⟩
theorem filler_ok (lim : Nat) (H : AHeap) (hl : lim ≤ H.next) : ACalls Try.prog lim n_laws_fillerTerm [] H fun v H' => v = tv filT ∧ Ext H H' := by
  refine is_laws_fillerTerm.go rfl ?_
  unfold c_laws_fillerTerm
  refine s_reg ?_
  simp only [o_cont, o_callT, callV_fn, o_pure, o_eff, o_callF, o_callN, o_guard, gk_tt, gk_ff, gk_tf, gk_ft, gk_u, t_op, t_alt, t_nil, o_nil, POp.ev, Opd.ev, EOp.ev, env0, gu, gv, setD, resV, List.set, List.map, List.map_nil, List.map_cons, Option.map_none, Option.map_some, Option.some.injEq, exists_eq_left', pickV, binV, convV, load1V, max2V, min2V, nilchkV, unV, boolEq, isNilV, fadV, extV, slenV, ne_eq, not_true_eq_false, if_false, if_true, ite_true, ite_false, Bool.false_eq_true, Bool.true_eq_false, beq_true, beq_false, beq_self_eq_true, Bool.not_true, Bool.not_false, reduceCtorEq, List.getElem?_toArray, List.getElem?_cons_zero, List.getElem?_cons_succ]
  refine s_reg ?_
  simp only [o_cont, o_callT, callV_fn, o_pure, o_eff, o_callF, o_callN, o_guard, gk_tt, gk_ff, gk_tf, gk_ft, gk_u, t_op, t_alt, t_nil, o_nil, POp.ev, Opd.ev, EOp.ev, env0, gu, gv, setD, resV, List.set, List.map, List.map_nil, List.map_cons, Option.map_none, Option.map_some, Option.some.injEq, exists_eq_left', pickV, binV, convV, load1V, max2V, min2V, nilchkV, unV, boolEq, isNilV, fadV, extV, slenV, ne_eq, not_true_eq_false, if_false, if_true, ite_true, ite_false, Bool.false_eq_true, Bool.true_eq_false, beq_true, beq_false, beq_self_eq_true, Bool.not_true, Bool.not_false, reduceCtorEq, List.getElem?_toArray, List.getElem?_cons_zero, List.getElem?_cons_succ, fill4, store4 hl (alloc_new _ _)]
  refine s_ret1 ?_
  simp +decide only [p_seq_normal, p_seq_ret, p_seq_exit, p_block_normal, p_block_ret, p_block_exit, p_fin_ret, p_fin_normal, reduceIte, Nat.reduceEqDiff, resV, resOne, resL, gv, Option.some.injEq, exists_eq_left', Option.bind_some, Option.map_some, List.getD_cons_zero, List.getD_cons_succ, load4 (put_same _ _ _)]
  exact ⟨rfl, Chg.ext (Ext.alloc _ _) (Chg.put _ _ _) (Nat.le_refl _)⟩

theorem toTerm_ok (lim : Nat) (t : Tm) (H : AHeap) (hl : lim ≤ H.next) : ACalls Try.prog lim n_laws_toTerm [tv t] H fun v H' => v = tv t ∧ Ext H H' := by
  refine is_laws_toTerm.go rfl ?_
  unfold c_laws_toTerm
  refine s_reg ?_
  simp only [o_cont, o_callT, callV_fn, o_pure, o_eff, o_callF, o_callN, o_guard, gk_tt, gk_ff, gk_tf, gk_ft, gk_u, t_op, t_alt, t_nil, o_nil, POp.ev, Opd.ev, EOp.ev, env0, gu, gv, setD, resV, List.set, List.map, List.map_nil, List.map_cons, Option.map_none, Option.map_some, Option.some.injEq, exists_eq_left', pickV, binV, convV, load1V, max2V, min2V, nilchkV, unV, boolEq, isNilV, fadV, extV, slenV, ne_eq, not_true_eq_false, if_false, if_true, ite_true, ite_false, Bool.false_eq_true, Bool.true_eq_false, beq_true, beq_false, beq_self_eq_true, Bool.not_true, Bool.not_false, reduceCtorEq, List.getElem?_toArray, List.getElem?_cons_zero, List.getElem?_cons_succ, boxH, cells_tv, tc]
  have hx1 := Ext.alloc H [vi t.c, vi t.x, vi t.y, vi t.z]
  have hp : (H.alloc [vi t.c, vi t.x, vi t.y, vi t.z]).blk H.next = some [vi t.c, vi t.x, vi t.y, vi t.z] := alloc_new _ _
  have hnp : (H.alloc [vi t.c, vi t.x, vi t.y, vi t.z]).next = H.next + 1 := rfl
  generalize H.alloc [vi t.c, vi t.x, vi t.y, vi t.z] = H1 at hx1 hp hnp ⊢
  have hx2 := Ext.alloc H1 [.int .i64 0, .int .i64 0, .int .i64 0, .int .i64 0]
  have hr : (H1.alloc [.int .i64 0, .int .i64 0, .int .i64 0, .int .i64 0]).blk H1.next = some [.int .i64 0, .int .i64 0, .int .i64 0, .int .i64 0] := alloc_new _ _
  have hnr : (H1.alloc [.int .i64 0, .int .i64 0, .int .i64 0, .int .i64 0]).next = H1.next + 1 := rfl
  rw [← hx2.blk _ (by omega)] at hp
  replace hx1 := hx1.trans hx2
  generalize H1.alloc [.int .i64 0, .int .i64 0, .int .i64 0, .int .i64 0] = H2 at hx1 hx2 hp hr hnr ⊢
  refine s_reg ?_
  simp only [o_cont, o_callT, callV_fn, o_pure, o_eff, o_callF, o_callN, o_guard, gk_tt, gk_ff, gk_tf, gk_ft, gk_u, t_op, t_alt, t_nil, o_nil, POp.ev, Opd.ev, EOp.ev, env0, gu, gv, setD, resV, List.set, List.map, List.map_nil, List.map_cons, Option.map_none, Option.map_some, Option.some.injEq, exists_eq_left', pickV, binV, convV, load1V, max2V, min2V, nilchkV, unV, boolEq, isNilV, fadV, extV, slenV, ne_eq, not_true_eq_false, if_false, if_true, ite_true, ite_false, Bool.false_eq_true, Bool.true_eq_false, beq_true, beq_false, beq_self_eq_true, Bool.not_true, Bool.not_false, reduceCtorEq, List.getElem?_toArray, List.getElem?_cons_zero, List.getElem?_cons_succ]
  have hx3 := Ext.alloc H2 [.int .i64 0, .int .i64 0, .int .i64 0, .int .i64 0]
  have ho : (H2.alloc [.int .i64 0, .int .i64 0, .int .i64 0, .int .i64 0]).blk H2.next = some [.int .i64 0, .int .i64 0, .int .i64 0, .int .i64 0] := alloc_new _ _
  have hno : (H2.alloc [.int .i64 0, .int .i64 0, .int .i64 0, .int .i64 0]).next = H2.next + 1 := rfl
  rw [← hx3.blk _ (by omega)] at hp hr
  replace hx1 := hx1.trans hx3
  generalize H2.alloc [.int .i64 0, .int .i64 0, .int .i64 0, .int .i64 0] = H3 at hx1 hx3 hp hr ho hno ⊢
  generalize hpe : H.next = p at *
  generalize hre : H1.next = r at *
  generalize hoe : H2.next = o at *
  have key : ∀ (G : AHeap) (cs : List Value) (j : Nat) (x : Int), G.blk p = some [vi t.c, vi t.x, vi t.y, vi t.z] → G.blk r = some [.int .i64 0, .int .i64 0, .int .i64 0, .int .i64 0] → G.blk o = some cs → Ext H G → j < cs.length →
      ∃ G', storeH lim G 1 (.pointer (some ⟨o, j, none⟩)) (.int .i64 x) = some (undef, G') ∧ G'.blk p = some [vi t.c, vi t.x, vi t.y, vi t.z] ∧ G'.blk r = some [.int .i64 0, .int .i64 0, .int .i64 0, .int .i64 0] ∧ G'.blk o = some (cs.set j (vi x)) ∧ Ext H G' := by
    intro G cs j x h1 h2 h3 h4 h5
    refine ⟨_, store_int .i64 x (by omega) h3 h5, ?_, ?_, put_same _ _ _, Chg.ext h4 (Chg.put _ _ _) (by omega)⟩
    · rw [put_ne _ _ (by omega)]; exact h1
    · rw [put_ne _ _ (by omega)]; exact h2
  obtain ⟨H4, g1, g2, g3, g4, g5⟩ := key _ _ 0 t.c hp hr ho hx1 (by simp)
  refine s_reg ?_
  simp only [o_cont, o_callT, callV_fn, o_pure, o_eff, o_callF, o_callN, o_guard, gk_tt, gk_ff, gk_tf, gk_ft, gk_u, t_op, t_alt, t_nil, o_nil, POp.ev, Opd.ev, EOp.ev, env0, gu, gv, setD, resV, List.set, List.map, List.map_nil, List.map_cons, Option.map_none, Option.map_some, Option.some.injEq, exists_eq_left', pickV, binV, convV, load1V, max2V, min2V, nilchkV, unV, boolEq, isNilV, fadV, extV, slenV, ne_eq, not_true_eq_false, if_false, if_true, ite_true, ite_false, Bool.false_eq_true, Bool.true_eq_false, beq_true, beq_false, beq_self_eq_true, Bool.not_true, Bool.not_false, reduceCtorEq, List.getElem?_toArray, List.getElem?_cons_zero, List.getElem?_cons_succ, Nat.zero_add, cell_blk hp, g1]
  obtain ⟨H5, q1, q2, q3, q4, q5⟩ := key _ _ 1 t.x g2 g3 g4 g5 (by simp)
  refine s_reg ?_
  simp only [o_cont, o_callT, callV_fn, o_pure, o_eff, o_callF, o_callN, o_guard, gk_tt, gk_ff, gk_tf, gk_ft, gk_u, t_op, t_alt, t_nil, o_nil, POp.ev, Opd.ev, EOp.ev, env0, gu, gv, setD, resV, List.set, List.map, List.map_nil, List.map_cons, Option.map_none, Option.map_some, Option.some.injEq, exists_eq_left', pickV, binV, convV, load1V, max2V, min2V, nilchkV, unV, boolEq, isNilV, fadV, extV, slenV, ne_eq, not_true_eq_false, if_false, if_true, ite_true, ite_false, Bool.false_eq_true, Bool.true_eq_false, beq_true, beq_false, beq_self_eq_true, Bool.not_true, Bool.not_false, reduceCtorEq, List.getElem?_toArray, List.getElem?_cons_zero, List.getElem?_cons_succ, Nat.zero_add, cell_blk g2, q1]
  obtain ⟨H6, g1, g2, g3, g4, g5⟩ := key _ _ 2 t.y q2 q3 q4 q5 (by simp)
  refine s_reg ?_
  simp only [o_cont, o_callT, callV_fn, o_pure, o_eff, o_callF, o_callN, o_guard, gk_tt, gk_ff, gk_tf, gk_ft, gk_u, t_op, t_alt, t_nil, o_nil, POp.ev, Opd.ev, EOp.ev, env0, gu, gv, setD, resV, List.set, List.map, List.map_nil, List.map_cons, Option.map_none, Option.map_some, Option.some.injEq, exists_eq_left', pickV, binV, convV, load1V, max2V, min2V, nilchkV, unV, boolEq, isNilV, fadV, extV, slenV, ne_eq, not_true_eq_false, if_false, if_true, ite_true, ite_false, Bool.false_eq_true, Bool.true_eq_false, beq_true, beq_false, beq_self_eq_true, Bool.not_true, Bool.not_false, reduceCtorEq, List.getElem?_toArray, List.getElem?_cons_zero, List.getElem?_cons_succ, Nat.zero_add, cell_blk q2, g1]
  obtain ⟨H7, q1, q2, q3, q4, q5⟩ := key _ _ 3 t.z g2 g3 g4 g5 (by simp)
  refine s_reg ?_
  simp only [o_cont, o_callT, callV_fn, o_pure, o_eff, o_callF, o_callN, o_guard, gk_tt, gk_ff, gk_tf, gk_ft, gk_u, t_op, t_alt, t_nil, o_nil, POp.ev, Opd.ev, EOp.ev, env0, gu, gv, setD, resV, List.set, List.map, List.map_nil, List.map_cons, Option.map_none, Option.map_some, Option.some.injEq, exists_eq_left', pickV, binV, convV, load1V, max2V, min2V, nilchkV, unV, boolEq, isNilV, fadV, extV, slenV, ne_eq, not_true_eq_false, if_false, if_true, ite_true, ite_false, Bool.false_eq_true, Bool.true_eq_false, beq_true, beq_false, beq_self_eq_true, Bool.not_true, Bool.not_false, reduceCtorEq, List.getElem?_toArray, List.getElem?_cons_zero, List.getElem?_cons_succ, Nat.zero_add, cell_blk g2, q1]
  simp only [List.set] at q4
  refine s_reg ?_
  simp only [o_cont, o_callT, callV_fn, o_pure, o_eff, o_callF, o_callN, o_guard, gk_tt, gk_ff, gk_tf, gk_ft, gk_u, t_op, t_alt, t_nil, o_nil, POp.ev, Opd.ev, EOp.ev, env0, gu, gv, setD, resV, List.set, List.map, List.map_nil, List.map_cons, Option.map_none, Option.map_some, Option.some.injEq, exists_eq_left', pickV, binV, convV, load1V, max2V, min2V, nilchkV, unV, boolEq, isNilV, fadV, extV, slenV, ne_eq, not_true_eq_false, if_false, if_true, ite_true, ite_false, Bool.false_eq_true, Bool.true_eq_false, beq_true, beq_false, beq_self_eq_true, Bool.not_true, Bool.not_false, reduceCtorEq, List.getElem?_toArray, List.getElem?_cons_zero, List.getElem?_cons_succ, load4 q4, store4 (show lim ≤ r by omega) q3]
  refine s_ret1 ?_
  simp +decide only [p_seq_normal, p_seq_ret, p_seq_exit, p_block_normal, p_block_ret, p_block_exit, p_fin_ret, p_fin_normal, reduceIte, Nat.reduceEqDiff, resV, resOne, resL, gv, Option.some.injEq, exists_eq_left', Option.bind_some, Option.map_some, List.getD_cons_zero, List.getD_cons_succ, load4 (put_same _ _ _)]
  exact ⟨rfl, Chg.ext q5 (Chg.put _ _ _) (by omega)⟩

theorem eqTerm_ok (lim : Nat) (t u : Tm) (H : AHeap) : ACalls Try.prog lim n_laws_eqTerm [tv t, tv u] H fun v H' => v = .bool (decide (t = u)) ∧ Ext H H' := by
  refine is_laws_eqTerm.go rfl ?_
  unfold c_laws_eqTerm
  refine s_reg ?_
  simp only [o_cont, o_callT, callV_fn, o_pure, o_eff, o_callF, o_callN, o_guard, gk_tt, gk_ff, gk_tf, gk_ft, gk_u, t_op, t_alt, t_nil, o_nil, POp.ev, Opd.ev, EOp.ev, env0, gu, gv, setD, resV, List.set, List.map, List.map_nil, List.map_cons, Option.map_none, Option.map_some, Option.some.injEq, exists_eq_left', pickV, binV, convV, load1V, max2V, min2V, nilchkV, unV, boolEq, isNilV, fadV, extV, slenV, ne_eq, not_true_eq_false, if_false, if_true, ite_true, ite_false, Bool.false_eq_true, Bool.true_eq_false, beq_true, beq_false, beq_self_eq_true, Bool.not_true, Bool.not_false, reduceCtorEq, List.getElem?_toArray, List.getElem?_cons_zero, List.getElem?_cons_succ, boxH, cells_tv, tc]
  have hx1 := Ext.alloc H [vi t.c, vi t.x, vi t.y, vi t.z]
  have hp : (H.alloc [vi t.c, vi t.x, vi t.y, vi t.z]).blk H.next = some [vi t.c, vi t.x, vi t.y, vi t.z] := alloc_new _ _
  have hnp : (H.alloc [vi t.c, vi t.x, vi t.y, vi t.z]).next = H.next + 1 := rfl
  generalize H.alloc [vi t.c, vi t.x, vi t.y, vi t.z] = H1 at hx1 hp hnp ⊢
  have hx2 := Ext.alloc H1 [vi u.c, vi u.x, vi u.y, vi u.z]
  have hq : (H1.alloc [vi u.c, vi u.x, vi u.y, vi u.z]).blk H1.next = some [vi u.c, vi u.x, vi u.y, vi u.z] := alloc_new _ _
  rw [← hx2.blk _ (by omega)] at hp
  replace hx1 := hx1.trans hx2
  generalize H1.alloc [vi u.c, vi u.x, vi u.y, vi u.z] = H2 at hx1 hx2 hp hq ⊢
  obtain ⟨tc, tx, ty, tz⟩ := t
  obtain ⟨uc, ux, uy, uz⟩ := u
  have step : ∀ a b : Int, (a != b) = !decide (a = b) := by
    intro a b
    by_cases h : a = b <;> simp [h]
  simp only [Tm.mk.injEq]
  refine s_test ?_
  simp only [o_cont, o_callT, callV_fn, o_pure, o_eff, o_callF, o_callN, o_guard, gk_tt, gk_ff, gk_tf, gk_ft, gk_u, t_op, t_alt, t_nil, o_nil, POp.ev, Opd.ev, EOp.ev, env0, gu, gv, setD, resV, List.set, List.map, List.map_nil, List.map_cons, Option.map_none, Option.map_some, Option.some.injEq, exists_eq_left', pickV, binV, convV, load1V, max2V, min2V, nilchkV, unV, boolEq, isNilV, fadV, extV, slenV, ne_eq, not_true_eq_false, if_false, if_true, ite_true, ite_false, Bool.false_eq_true, Bool.true_eq_false, beq_true, beq_false, beq_self_eq_true, Bool.not_true, Bool.not_false, reduceCtorEq, List.getElem?_toArray, List.getElem?_cons_zero, List.getElem?_cons_succ, Nat.zero_add, cell_blk hp, cell_blk hq, step]
  by_cases e1 : tc = uc
  case neg =>
    rw [decide_eq_false e1]
    refine Test.true_ (s_reg ?_)
    simp only [o_cont, o_callT, callV_fn, o_pure, o_eff, o_callF, o_callN, o_guard, gk_tt, gk_ff, gk_tf, gk_ft, gk_u, t_op, t_alt, t_nil, o_nil, POp.ev, Opd.ev, EOp.ev, env0, gu, gv, setD, resV, List.set, List.map, List.map_nil, List.map_cons, Option.map_none, Option.map_some, Option.some.injEq, exists_eq_left', pickV, binV, convV, load1V, max2V, min2V, nilchkV, unV, boolEq, isNilV, fadV, extV, slenV, ne_eq, not_true_eq_false, if_false, if_true, ite_true, ite_false, Bool.false_eq_true, Bool.true_eq_false, beq_true, beq_false, beq_self_eq_true, Bool.not_true, Bool.not_false, reduceCtorEq, List.getElem?_toArray, List.getElem?_cons_zero, List.getElem?_cons_succ]
    refine s_ret1 ?_
    simp +decide only [p_seq_normal, p_seq_ret, p_seq_exit, p_block_normal, p_block_ret, p_block_exit, p_fin_ret, p_fin_normal, reduceIte, Nat.reduceEqDiff, resV, resOne, resL, gv, Option.some.injEq, exists_eq_left', Option.bind_some, Option.map_some, List.getD_cons_zero, List.getD_cons_succ]
    exact ⟨by simp [e1], hx1⟩
  rw [decide_eq_true e1]
  refine Test.false_ (s_skip1 ?_)
  simp +decide only [p_seq_normal, p_seq_ret, p_seq_exit, p_block_normal, p_block_ret, p_block_exit, p_fin_ret, p_fin_normal, reduceIte, Nat.reduceEqDiff, resV, resOne, resL, gv, Option.some.injEq, exists_eq_left', Option.bind_some, Option.map_some, List.getD_cons_zero, List.getD_cons_succ]
  refine s_test ?_
  simp only [o_cont, o_callT, callV_fn, o_pure, o_eff, o_callF, o_callN, o_guard, gk_tt, gk_ff, gk_tf, gk_ft, gk_u, t_op, t_alt, t_nil, o_nil, POp.ev, Opd.ev, EOp.ev, env0, gu, gv, setD, resV, List.set, List.map, List.map_nil, List.map_cons, Option.map_none, Option.map_some, Option.some.injEq, exists_eq_left', pickV, binV, convV, load1V, max2V, min2V, nilchkV, unV, boolEq, isNilV, fadV, extV, slenV, ne_eq, not_true_eq_false, if_false, if_true, ite_true, ite_false, Bool.false_eq_true, Bool.true_eq_false, beq_true, beq_false, beq_self_eq_true, Bool.not_true, Bool.not_false, reduceCtorEq, List.getElem?_toArray, List.getElem?_cons_zero, List.getElem?_cons_succ, Nat.zero_add, cell_blk hp, cell_blk hq, step]
  by_cases e2 : tx = ux
  case neg =>
    rw [decide_eq_false e2]
    refine Test.true_ (s_reg ?_)
    simp only [o_cont, o_callT, callV_fn, o_pure, o_eff, o_callF, o_callN, o_guard, gk_tt, gk_ff, gk_tf, gk_ft, gk_u, t_op, t_alt, t_nil, o_nil, POp.ev, Opd.ev, EOp.ev, env0, gu, gv, setD, resV, List.set, List.map, List.map_nil, List.map_cons, Option.map_none, Option.map_some, Option.some.injEq, exists_eq_left', pickV, binV, convV, load1V, max2V, min2V, nilchkV, unV, boolEq, isNilV, fadV, extV, slenV, ne_eq, not_true_eq_false, if_false, if_true, ite_true, ite_false, Bool.false_eq_true, Bool.true_eq_false, beq_true, beq_false, beq_self_eq_true, Bool.not_true, Bool.not_false, reduceCtorEq, List.getElem?_toArray, List.getElem?_cons_zero, List.getElem?_cons_succ]
    refine s_ret1 ?_
    simp +decide only [p_seq_normal, p_seq_ret, p_seq_exit, p_block_normal, p_block_ret, p_block_exit, p_fin_ret, p_fin_normal, reduceIte, Nat.reduceEqDiff, resV, resOne, resL, gv, Option.some.injEq, exists_eq_left', Option.bind_some, Option.map_some, List.getD_cons_zero, List.getD_cons_succ]
    exact ⟨by simp [e2], hx1⟩
  rw [decide_eq_true e2]
  refine Test.false_ (s_skip1 ?_)
  simp +decide only [p_seq_normal, p_seq_ret, p_seq_exit, p_block_normal, p_block_ret, p_block_exit, p_fin_ret, p_fin_normal, reduceIte, Nat.reduceEqDiff, resV, resOne, resL, gv, Option.some.injEq, exists_eq_left', Option.bind_some, Option.map_some, List.getD_cons_zero, List.getD_cons_succ]
  refine s_test ?_
  simp only [o_cont, o_callT, callV_fn, o_pure, o_eff, o_callF, o_callN, o_guard, gk_tt, gk_ff, gk_tf, gk_ft, gk_u, t_op, t_alt, t_nil, o_nil, POp.ev, Opd.ev, EOp.ev, env0, gu, gv, setD, resV, List.set, List.map, List.map_nil, List.map_cons, Option.map_none, Option.map_some, Option.some.injEq, exists_eq_left', pickV, binV, convV, load1V, max2V, min2V, nilchkV, unV, boolEq, isNilV, fadV, extV, slenV, ne_eq, not_true_eq_false, if_false, if_true, ite_true, ite_false, Bool.false_eq_true, Bool.true_eq_false, beq_true, beq_false, beq_self_eq_true, Bool.not_true, Bool.not_false, reduceCtorEq, List.getElem?_toArray, List.getElem?_cons_zero, List.getElem?_cons_succ, Nat.zero_add, cell_blk hp, cell_blk hq, step]
  by_cases e3 : ty = uy
  case neg =>
    rw [decide_eq_false e3]
    refine Test.true_ (s_reg ?_)
    simp only [o_cont, o_callT, callV_fn, o_pure, o_eff, o_callF, o_callN, o_guard, gk_tt, gk_ff, gk_tf, gk_ft, gk_u, t_op, t_alt, t_nil, o_nil, POp.ev, Opd.ev, EOp.ev, env0, gu, gv, setD, resV, List.set, List.map, List.map_nil, List.map_cons, Option.map_none, Option.map_some, Option.some.injEq, exists_eq_left', pickV, binV, convV, load1V, max2V, min2V, nilchkV, unV, boolEq, isNilV, fadV, extV, slenV, ne_eq, not_true_eq_false, if_false, if_true, ite_true, ite_false, Bool.false_eq_true, Bool.true_eq_false, beq_true, beq_false, beq_self_eq_true, Bool.not_true, Bool.not_false, reduceCtorEq, List.getElem?_toArray, List.getElem?_cons_zero, List.getElem?_cons_succ]
    refine s_ret1 ?_
    simp +decide only [p_seq_normal, p_seq_ret, p_seq_exit, p_block_normal, p_block_ret, p_block_exit, p_fin_ret, p_fin_normal, reduceIte, Nat.reduceEqDiff, resV, resOne, resL, gv, Option.some.injEq, exists_eq_left', Option.bind_some, Option.map_some, List.getD_cons_zero, List.getD_cons_succ]
    exact ⟨by simp [e3], hx1⟩
  rw [decide_eq_true e3]
  refine Test.false_ (s_skip1 ?_)
  simp +decide only [p_seq_normal, p_seq_ret, p_seq_exit, p_block_normal, p_block_ret, p_block_exit, p_fin_ret, p_fin_normal, reduceIte, Nat.reduceEqDiff, resV, resOne, resL, gv, Option.some.injEq, exists_eq_left', Option.bind_some, Option.map_some, List.getD_cons_zero, List.getD_cons_succ]
  refine s_test ?_
  simp only [o_cont, o_callT, callV_fn, o_pure, o_eff, o_callF, o_callN, o_guard, gk_tt, gk_ff, gk_tf, gk_ft, gk_u, t_op, t_alt, t_nil, o_nil, POp.ev, Opd.ev, EOp.ev, env0, gu, gv, setD, resV, List.set, List.map, List.map_nil, List.map_cons, Option.map_none, Option.map_some, Option.some.injEq, exists_eq_left', pickV, binV, convV, load1V, max2V, min2V, nilchkV, unV, boolEq, isNilV, fadV, extV, slenV, ne_eq, not_true_eq_false, if_false, if_true, ite_true, ite_false, Bool.false_eq_true, Bool.true_eq_false, beq_true, beq_false, beq_self_eq_true, Bool.not_true, Bool.not_false, reduceCtorEq, List.getElem?_toArray, List.getElem?_cons_zero, List.getElem?_cons_succ, Nat.zero_add, cell_blk hp, cell_blk hq, step]
  by_cases e4 : tz = uz
  case neg =>
    rw [decide_eq_false e4]
    refine Test.true_ (s_reg ?_)
    simp only [o_cont, o_callT, callV_fn, o_pure, o_eff, o_callF, o_callN, o_guard, gk_tt, gk_ff, gk_tf, gk_ft, gk_u, t_op, t_alt, t_nil, o_nil, POp.ev, Opd.ev, EOp.ev, env0, gu, gv, setD, resV, List.set, List.map, List.map_nil, List.map_cons, Option.map_none, Option.map_some, Option.some.injEq, exists_eq_left', pickV, binV, convV, load1V, max2V, min2V, nilchkV, unV, boolEq, isNilV, fadV, extV, slenV, ne_eq, not_true_eq_false, if_false, if_true, ite_true, ite_false, Bool.false_eq_true, Bool.true_eq_false, beq_true, beq_false, beq_self_eq_true, Bool.not_true, Bool.not_false, reduceCtorEq, List.getElem?_toArray, List.getElem?_cons_zero, List.getElem?_cons_succ]
    refine s_ret1 ?_
    simp +decide only [p_seq_normal, p_seq_ret, p_seq_exit, p_block_normal, p_block_ret, p_block_exit, p_fin_ret, p_fin_normal, reduceIte, Nat.reduceEqDiff, resV, resOne, resL, gv, Option.some.injEq, exists_eq_left', Option.bind_some, Option.map_some, List.getD_cons_zero, List.getD_cons_succ]
    exact ⟨by simp [e4], hx1⟩
  rw [decide_eq_true e4]
  refine Test.false_ (s_skip1 ?_)
  simp +decide only [p_seq_normal, p_seq_ret, p_seq_exit, p_block_normal, p_block_ret, p_block_exit, p_fin_ret, p_fin_normal, reduceIte, Nat.reduceEqDiff, resV, resOne, resL, gv, Option.some.injEq, exists_eq_left', Option.bind_some, Option.map_some, List.getD_cons_zero, List.getD_cons_succ]
  refine s_reg ?_
  simp only [o_cont, o_callT, callV_fn, o_pure, o_eff, o_callF, o_callN, o_guard, gk_tt, gk_ff, gk_tf, gk_ft, gk_u, t_op, t_alt, t_nil, o_nil, POp.ev, Opd.ev, EOp.ev, env0, gu, gv, setD, resV, List.set, List.map, List.map_nil, List.map_cons, Option.map_none, Option.map_some, Option.some.injEq, exists_eq_left', pickV, binV, convV, load1V, max2V, min2V, nilchkV, unV, boolEq, isNilV, fadV, extV, slenV, ne_eq, not_true_eq_false, if_false, if_true, ite_true, ite_false, Bool.false_eq_true, Bool.true_eq_false, beq_true, beq_false, beq_self_eq_true, Bool.not_true, Bool.not_false, reduceCtorEq, List.getElem?_toArray, List.getElem?_cons_zero, List.getElem?_cons_succ]
  refine s_ret1 ?_
  simp +decide only [p_seq_normal, p_seq_ret, p_seq_exit, p_block_normal, p_block_ret, p_block_exit, p_fin_ret, p_fin_normal, reduceIte, Nat.reduceEqDiff, resV, resOne, resL, gv, Option.some.injEq, exists_eq_left', Option.bind_some, Option.map_some, List.getD_cons_zero, List.getD_cons_succ]
  exact ⟨by simp [e1, e2, e3, e4], hx1⟩
end Go.Proofs.Ytaimceodhhgnnaa
