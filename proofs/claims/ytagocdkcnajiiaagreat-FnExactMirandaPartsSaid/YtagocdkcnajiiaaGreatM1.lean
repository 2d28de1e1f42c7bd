/- Parts of the proof of a statement of this seat: contracts of functions that the law calls, or the law's own row; no condition. -/
import Derived.Test.YtagocdkcnajiiaaGreatC
import Derived.Test.YtagocdkcnajiiaaGreatAbVec
import Derived.Test.YtagocdkcnajiiaaGreatAbBase
import Derived.Test.YtagocdkcnajiiaaGreatAbOps
import Derived.Test.YtagocdkcnajiiaaGreatAbTr
import Derived.Test.YtagocdkcnajiiaaGreatAbEff
import Derived.Test.YtagocdkcnajiiaaGreatAbCode
import Derived.Test.YtagocdkcnajiiaaGreatAbDraw
import Derived.Test.YtagocdkcnajiiaaGreatAbFun
import Derived.Test.YtagocdkcnajiiaaGreatAbUse
import Derived.Test.YtagocdkcnajiiaaGreatAbStep
import Derived.Test.YtagocdkcnajiiaaGreatAbMore
import Derived.Test.YtagocdkcnajiiaaGreatAbArg
/- Parts of the proof of a statement of this seat: contracts of functions that the law calls, or the law's own row; no condition. -/
/- Systems of polynomials, part 1 of the walk: lists of terms in the abstract heap, and the laws' helpers on one term; no condition. -/
namespace Go.Proofs.YtagocdkcnajiiaaGreat
open Go.Ab
set_option linter.unusedSimpArgs false
set_option linter.unusedVariables false
abbrev vi (n : Int) : Value := .int .i64 n
def roomN (n : Nat) : Nat := if n % 6 = 5 then 0 else if n % 3 = 0 then 1 else n
theorem roomN_le (n : Nat) : roomN n ≤ n + 1 := by
 unfold roomN
 split
 · omega
 · split <;> omega
theorem roomBehind_ok (lim n : Nat) (H : AHeap) : ACalls Tryz.prog lim n_laws_roomBehind [.int .i64 n] H fun v H' => v = .int .i64 (roomN n) ∧ H' = H := by
 refine is_laws_roomBehind.go rfl ?_
 unfold c_laws_roomBehind
 refine s_reg ?_
 simp only [o_pure, o_nil, POp.ev, Opd.ev, env0, gu, setD, List.set, xsj, xel]
 refine s_test ?_
 have e6 : ¬ (6 : Int) = 0 := by decide
 have e3 : ¬ (3 : Int) = 0 := by decide
 have t6 : (n : Int).tmod 6 = ((n % 6 : Nat) : Int) := rfl
 have t3 : (n : Int).tmod 3 = ((n % 3 : Nat) : Int) := rfl
 simp only [o_pure, o_nil, POp.ev, Opd.ev, gv, setD, xsj, xel, binV, ne_eq, xnt, if_false, if_neg e6, t6]
 refine Test.split (fun h => ?_) (fun h => ?_)
 · refine s_reg ?_
   simp only [o_pure, o_nil, POp.ev, Opd.ev, setD, List.set, xsj, xel]
   refine s_ret1 ?_
   simp +decide only [pqr, pfr, resV, resOne, gv, xsj, xel]
   have : roomN n = 0 := by unfold roomN; rw [if_pos]; simp at h; omega
   simp [this]
 · refine s_skip1 ?_
   simp +decide only [pqn]
   refine s_test ?_
   simp only [o_pure, o_nil, POp.ev, Opd.ev, gv, setD, xsj, xel, binV, ne_eq, xnt, if_false, if_neg e3, t3]
   refine Test.split (fun h2 => ?_) (fun h2 => ?_)
   · refine s_reg ?_
     simp only [o_pure, o_nil, POp.ev, Opd.ev, setD, List.set, xsj, xel]
     refine s_ret1 ?_
     simp +decide only [pqr, pfr, resV, resOne, gv, xsj, xel]
     have : roomN n = 1 := by unfold roomN; rw [if_neg, if_pos]; simp at h2; omega; simp at h; omega
     simp [this]
   · refine s_skip1 ?_
     simp +decide only [pqn]
     refine s_reg ?_
     simp only [o_pure, o_nil, POp.ev, Opd.ev, gv, setD, List.set, xsj, xel]
     refine s_ret1 ?_
     simp +decide only [pfr, resV, resOne, gv, xsj, xel]
     have : roomN n = n := by unfold roomN; rw [if_neg, if_neg]; simp at h2; omega; simp at h; omega
     simp [this]
structure Tm where
 c : Int
 x : Int
 y : Int
 z : Int
 deriving DecidableEq
def tc (t : Tm) : List Value := [vi t.c, vi t.x, vi t.y, vi t.z]
def tv (t : Tm) : Value := .agg #[vi t.c, vi t.x, vi t.y, vi t.z]
theorem cells_tv (t : Tm) : cellsV (tv t) = some (tc t) := rfl
def tcs (l : List Tm) : List Value := l.flatMap tc
theorem tcs_cons (t : Tm) (l : List Tm) : tcs (t :: l) = tc t ++ tcs l := rfl
theorem tcs_append (l m : List Tm) : tcs (l ++ m) = tcs l ++ tcs m := by simp [tcs]
theorem tcs_length (l : List Tm) : (tcs l).length = l.length * 4 := by
 induction l with
 | nil => rfl
 | cons t l ih => rw [tcs_cons, List.length_append, ih, List.length_cons]; simp [tc]; omega
theorem tcs_at : ∀ {l : List Tm} {i : Nat} {t : Tm}, l[i]? = some t → ((tcs l).drop (i * 4)).take 4 = tc t
 | [], i, t, h => by simp at h
 | a :: l, 0, t, h => by
   simp only [xgz, xsj] at h
   subst h
   rw [tcs_cons]
   rfl
 | a :: l, i + 1, t, h => by
   have e : (tcs (a :: l)).drop ((i + 1) * 4) = (tcs l).drop (i * 4) := by
     rw [tcs_cons, List.drop_append, List.drop_of_length_le (by simp [tc]; omega), List.nil_append]
     congr 1
     simp [tc]; omega
   rw [e]
   exact tcs_at (by simpa using h)
theorem putL_shift (a l x : List Value) (o : Nat) : putL (a ++ l) (a.length + o) x = a ++ putL l o x := by
 simp only [putL, List.take_append, List.drop_append, List.append_assoc]
 rw [List.take_of_length_le (by omega), List.drop_of_length_le (by omega)]
 simp [Nat.add_sub_cancel_left, Nat.add_assoc]
theorem tcs_set : ∀ {l : List Tm} {i : Nat} (t : Tm), i < l.length → putL (tcs l) (i * 4) (tc t) = tcs (l.set i t)
 | [], i, t, h => by simp at h
 | a :: l, 0, t, h => by simp [putL, tcs_cons, tc]
 | a :: l, i + 1, t, h => by
   rw [List.set_cons_succ, tcs_cons, tcs_cons, show (i + 1) * 4 = (tc a).length + i * 4 by simp [tc]; omega, putL_shift, tcs_set t (by simpa using h)]
def Tm.upd (t : Tm) : Nat → Int → Tm
 | 0, v => { t with c := v }
 | 1, v => { t with x := v }
 | 2, v => { t with y := v }
 | _, v => { t with z := v }
theorem tcs_put : ∀ {l : List Tm} {i j : Nat} {t : Tm} (v : Int), l[i]? = some t → j < 4 → putL (tcs l) (i * 4 + j) [vi v] = tcs (l.set i (t.upd j v))
 | [], i, j, t, v, h, hj => by simp at h
 | a :: l, 0, j, t, v, h, hj => by
   simp only [xgz, xsj] at h
   subst h
   match j, hj with
   | 0, _ => simp [putL, tcs_cons, tc, Tm.upd]
   | 1, _ => simp [putL, tcs_cons, tc, Tm.upd]
   | 2, _ => simp [putL, tcs_cons, tc, Tm.upd]
   | 3, _ => simp [putL, tcs_cons, tc, Tm.upd]
 | a :: l, i + 1, j, t, v, h, hj => by
   rw [List.set_cons_succ, tcs_cons, tcs_cons, show (i + 1) * 4 + j = (tc a).length + (i * 4 + j) by simp [tc]; omega, putL_shift, tcs_put v (by simpa using h) hj]
abbrev SlT (H : AHeap) (v : Value) (l : List Tm) : Prop := Sl H v l.length 4 (tcs l)
abbrev VecT (H : AHeap) (b : Nat) (v : Value) (l : List Tm) : Prop := Vec H b v l.length 4 (tcs l)
structure At (H : AHeap) (b o : Nat) (t : Tm) : Prop where
 lt : b < H.next
 all : loadNV H 4 (.pointer (some ⟨b, o, none⟩)) = some (tv t)
 c : H.cell b o = some (vi t.c)
 x : H.cell b (o + 1) = some (vi t.x)
 y : H.cell b (o + 2) = some (vi t.y)
 z : H.cell b (o + 3) = some (vi t.z)
theorem At.of_load {H : AHeap} {b o : Nat} {t : Tm} (hb : b < H.next) (h : loadNH H b o 4 = some (tc t)) : At H b o t := by
 have hc : ∀ j, j < 4 → H.cell b (o + j) = (tc t)[j]? := by
   intro j hj
   unfold loadNH at h
   unfold AHeap.cell
   cases hbk : H.blk b with
   | none => rw [hbk] at h; cases h
   | some cs =>
     rw [hbk] at h
     simp only [Option.bind_some] at h ⊢
     split at h
     · simp only [xsj] at h
       have h4 := congrArg (fun z => z[j]?) h
       simp only [List.getElem?_take, List.getElem?_drop, if_pos hj] at h4
       exact h4
     · cases h
 exact ⟨hb, by simp only [loadNV, h, xms]; rfl, hc 0 (by omega), hc 1 (by omega), hc 2 (by omega), hc 3 (by omega)⟩
theorem SlT.at {H : AHeap} {s : Value} {l : List Tm} (h : SlT H s l) {i : Nat} (hi : i < l.length) : ∃ b o, iadV 4 s (.int .i64 i) = some (.pointer (some ⟨b, o, none⟩)) ∧ At H b o l[i] := by
 obtain ⟨b, o, h1, h2, h3⟩ := Sl.iad h .i64 (i := (i : Int)) (by omega) (by omega)
 have e : (i : Int).toNat = i := by omega
 rw [e, tcs_at (List.getElem?_eq_getElem hi)] at h3
 exact ⟨b, o, h1, At.of_load h2 h3⟩
theorem VecT.at {H : AHeap} {b : Nat} {v : Value} {l : List Tm} (h : VecT H b v l) {i : Nat} (hi : i < l.length) : iadV 4 v (.int .i64 i) = some (.pointer (some ⟨b, i * 4, none⟩)) ∧ At H b (i * 4) l[i] := by
 refine ⟨Vec.iad h .i64 hi, At.of_load ((h.blk (by omega)).elim fun _ h => h.2) ?_⟩
 have := h.loadN hi
 rw [tcs_at (List.getElem?_eq_getElem hi)] at this
 exact this
theorem VecT.putT {lim : Nat} {H : AHeap} {b : Nat} {v : Value} {l : List Tm} (h : VecT H b v l) (hl : lim ≤ b) {i : Nat} (hi : i < l.length) (t : Tm) :
   ∃ cs, storeH lim H 4 (.pointer (some ⟨b, i * 4, none⟩)) (tv t) = some (undef, H.put b cs) ∧ VecT (H.put b cs) b v (l.set i t) := by
 obtain ⟨cs, h1, h2⟩ := h.put (lim := lim) hl (cells_tv t) rfl (by simp [tc]) (o := i * 4) (by simp [tc]; omega)
 rw [tcs_set t hi] at h2
 exact ⟨cs, h1, by unfold VecT; rw [List.length_set]; exact h2⟩
theorem VecT.putf {lim : Nat} {H : AHeap} {b : Nat} {v : Value} {l : List Tm} (h : VecT H b v l) (hl : lim ≤ b) {i : Nat} {t : Tm} (hi : l[i]? = some t) (x : Int) {j : Nat} (hj : j < 4) :
   ∃ cs, storeH lim H 1 (.pointer (some ⟨b, i * 4 + j, none⟩)) (.int .i64 x) = some (undef, H.put b cs) ∧ VecT (H.put b cs) b v (l.set i (t.upd j x)) := by
 have hlt := (List.getElem?_eq_some_iff.1 hi).1
 obtain ⟨cs, h1, h2⟩ := h.put (lim := lim) hl (cells_int .i64 x) rfl (by simp) (o := i * 4 + j) (by simp; omega)
 rw [tcs_put x hi hj] at h2
 exact ⟨cs, h1, by unfold VecT; rw [List.length_set]; exact h2⟩
theorem load4 {b : Nat} {H : AHeap} {x y z u : Value} (h : H.blk b = some [x, y, z, u]) : loadNV H 4 (.pointer (some ⟨b, 0, none⟩)) = some (.agg #[x, y, z, u]) := loadNV_blk h
theorem store4 {lim b : Nat} {H : AHeap} {p q r s x y z u : Value} (hl : lim ≤ b) (h : H.blk b = some [p, q, r, s]) : storeH lim H 4 (.pointer (some ⟨b, 0, none⟩)) (.agg #[x, y, z, u]) = some (undef, H.put b [x, y, z, u]) :=
 store_all (xs := [x, y, z, u]) hl h rfl
theorem fill4 (a b c d : Value) (k l m n : Int) : fillV [a, b, c, d] [(0, 1, .int .i64 k), (1, 1, .int .i64 l), (2, 1, .int .i64 m), (3, 1, .int .i64 n)] = some [vi k, vi l, vi m, vi n] := by
 simp [fillV, cellsV]
def filT : Tm := ⟨-7000000000000000101, -7000000000000000101, -7000000000000000101, -7000000000000000101⟩
theorem filler_ok (lim : Nat) (H : AHeap) (hl : lim ≤ H.next) : ACalls Tryz.prog lim n_laws_fillerTerm [] H fun v H' => v = tv filT ∧ Ext H H' := by
 refine is_laws_fillerTerm.go rfl ?_
 unfold c_laws_fillerTerm
 refine s_reg ?_
 simp only [o_eff, o_nil, EOp.ev, env0, gu, setD, List.set, xsj, xel]
 refine s_reg ?_
 simp only [o_pure, o_eff, o_nil, POp.ev, Opd.ev, EOp.ev, gv, setD, List.map, xms, xsj, xel, fill4, store4 hl (alloc_new _ _)]
 refine s_ret1 ?_
 simp +decide only [pfr, resV, resOne, gv, xsj, xel, load4 (put_same _ _ _)]
 exact ⟨rfl, Chg.ext (Ext.alloc _ _) (Chg.put _ _ _) (Nat.le_refl _)⟩
theorem toTerm_ok (lim : Nat) (t : Tm) (H : AHeap) (hl : lim ≤ H.next) : ACalls Tryz.prog lim n_laws_toTerm [tv t] H fun v H' => v = tv t ∧ Ext H H' := by
 refine is_laws_toTerm.go rfl ?_
 unfold c_laws_toTerm
 refine s_reg ?_
 simp only [o_eff, o_nil, Opd.ev, EOp.ev, env0, gu, gv, setD, List.set, xms, xsj, xel, boxH, cells_tv, tc]
 have hx1 := Ext.alloc H [vi t.c, vi t.x, vi t.y, vi t.z]
 have hp : (H.alloc [vi t.c, vi t.x, vi t.y, vi t.z]).blk H.next = some [vi t.c, vi t.x, vi t.y, vi t.z] := alloc_new _ _
 have hnp : (H.alloc [vi t.c, vi t.x, vi t.y, vi t.z]).next = H.next + 1 := rfl
 generalize H.alloc [vi t.c, vi t.x, vi t.y, vi t.z] = H1 at hx1 hp hnp ⊢
 have hx2 := Ext.alloc H1 [.int .i64 0, .int .i64 0, .int .i64 0, .int .i64 0]
 have hr : (H1.alloc [.int .i64 0, .int .i64 0, .int .i64 0, .int .i64 0]).blk H1.next = some [.int .i64 0, .int .i64 0, .int .i64 0, .int .i64 0] := alloc_new _ _
 have hnr : (H1.alloc [.int .i64 0, .int .i64 0, .int .i64 0, .int .i64 0]).next = H1.next + 1 := rfl
 rw [← hx2.blk _ (by omega)] at hp
 replace hx1 := hx1.trans hx2
 generalize H1.alloc [.int .i64 0, .int .i64 0, .int .i64 0, .int .i64 0] = H2 at hx1 hx2 hp hr hnr ⊢
 refine s_reg ?_
 simp only [o_eff, o_nil, EOp.ev, setD, List.set, xsj, xel]
 have hx3 := Ext.alloc H2 [.int .i64 0, .int .i64 0, .int .i64 0, .int .i64 0]
 have ho : (H2.alloc [.int .i64 0, .int .i64 0, .int .i64 0, .int .i64 0]).blk H2.next = some [.int .i64 0, .int .i64 0, .int .i64 0, .int .i64 0] := alloc_new _ _
 have hno : (H2.alloc [.int .i64 0, .int .i64 0, .int .i64 0, .int .i64 0]).next = H2.next + 1 := rfl
 rw [← hx3.blk _ (by omega)] at hp hr
 replace hx1 := hx1.trans hx3
 generalize H2.alloc [.int .i64 0, .int .i64 0, .int .i64 0, .int .i64 0] = H3 at hx1 hx3 hp hr ho hno ⊢
 generalize hpe : H.next = p at *
 generalize hre : H1.next = r at *
 generalize hoe : H2.next = o at *
 have key : ∀ (G : AHeap) (cs : List Value) (j : Nat) (x : Int), G.blk p = some [vi t.c, vi t.x, vi t.y, vi t.z] → G.blk r = some [.int .i64 0, .int .i64 0, .int .i64 0, .int .i64 0] → G.blk o = some cs → Ext H G → j < cs.length →
     ∃ G', storeH lim G 1 (.pointer (some ⟨o, j, none⟩)) (.int .i64 x) = some (undef, G') ∧ G'.blk p = some [vi t.c, vi t.x, vi t.y, vi t.z] ∧ G'.blk r = some [.int .i64 0, .int .i64 0, .int .i64 0, .int .i64 0] ∧ G'.blk o = some (cs.set j (vi x)) ∧ Ext H G' := by
   intro G cs j x h1 h2 h3 h4 h5
   refine ⟨_, store_int .i64 x (by omega) h3 h5, ?_, ?_, put_same _ _ _, Chg.ext h4 (Chg.put _ _ _) (by omega)⟩
   · rw [put_ne _ _ (by omega)]; exact h1
   · rw [put_ne _ _ (by omega)]; exact h2
 obtain ⟨H4, g1, g2, g3, g4, g5⟩ := key _ _ 0 t.c hp hr ho hx1 (by simp)
 refine s_reg ?_
 simp only [o_pure, o_eff, o_nil, POp.ev, Opd.ev, EOp.ev, gv, setD, xsj, xel, load1V, fadV, xgz, Nat.zero_add, cell_blk hp, g1]
 obtain ⟨H5, q1, q2, q3, q4, q5⟩ := key _ _ 1 t.x g2 g3 g4 g5 (by simp)
 refine s_reg ?_
 simp only [o_pure, o_eff, o_nil, POp.ev, Opd.ev, EOp.ev, gv, setD, xsj, xel, load1V, fadV, xgz, xgs, Nat.zero_add, cell_blk g2, q1]
 obtain ⟨H6, g1, g2, g3, g4, g5⟩ := key _ _ 2 t.y q2 q3 q4 q5 (by simp)
 refine s_reg ?_
 simp only [o_pure, o_eff, o_nil, POp.ev, Opd.ev, EOp.ev, gv, setD, xsj, xel, load1V, fadV, xgz, xgs, Nat.zero_add, cell_blk q2, g1]
 obtain ⟨H7, q1, q2, q3, q4, q5⟩ := key _ _ 3 t.z g2 g3 g4 g5 (by simp)
 refine s_reg ?_
 simp only [o_pure, o_eff, o_nil, POp.ev, Opd.ev, EOp.ev, gv, setD, xsj, xel, load1V, fadV, xgz, xgs, Nat.zero_add, cell_blk g2, q1]
 simp only [List.set] at q4
 refine s_reg ?_
 simp only [o_pure, o_eff, o_nil, POp.ev, Opd.ev, EOp.ev, gv, setD, xsj, xel, load4 q4, store4 (show lim ≤ r by omega) q3]
 refine s_ret1 ?_
 simp +decide only [pfr, resV, resOne, gv, xsj, xel, load4 (put_same _ _ _)]
 exact ⟨rfl, Chg.ext q5 (Chg.put _ _ _) (by omega)⟩
theorem eqTerm_ok (lim : Nat) (t u : Tm) (H : AHeap) : ACalls Tryz.prog lim n_laws_eqTerm [tv t, tv u] H fun v H' => v = .bool (decide (t = u)) ∧ Ext H H' := by
 refine is_laws_eqTerm.go rfl ?_
 unfold c_laws_eqTerm
 refine s_reg ?_
 simp only [o_pure, o_eff, o_nil, POp.ev, Opd.ev, EOp.ev, env0, gu, gv, setD, List.set, xms, xsj, xel, boxH, cells_tv, tc]
 have hx1 := Ext.alloc H [vi t.c, vi t.x, vi t.y, vi t.z]
 have hp : (H.alloc [vi t.c, vi t.x, vi t.y, vi t.z]).blk H.next = some [vi t.c, vi t.x, vi t.y, vi t.z] := alloc_new _ _
 have hnp : (H.alloc [vi t.c, vi t.x, vi t.y, vi t.z]).next = H.next + 1 := rfl
 generalize H.alloc [vi t.c, vi t.x, vi t.y, vi t.z] = H1 at hx1 hp hnp ⊢
 have hx2 := Ext.alloc H1 [vi u.c, vi u.x, vi u.y, vi u.z]
 have hq : (H1.alloc [vi u.c, vi u.x, vi u.y, vi u.z]).blk H1.next = some [vi u.c, vi u.x, vi u.y, vi u.z] := alloc_new _ _
 rw [← hx2.blk _ (by omega)] at hp
 replace hx1 := hx1.trans hx2
 generalize H1.alloc [vi u.c, vi u.x, vi u.y, vi u.z] = H2 at hx1 hx2 hp hq ⊢
 obtain ⟨tc, tx, ty, tz⟩ := t
 obtain ⟨uc, ux, uy, uz⟩ := u
 have step : ∀ a b : Int, (a != b) = !decide (a = b) := by
   intro a b
   by_cases h : a = b <;> simp [h]
 simp only [Tm.mk.injEq]
 refine s_test ?_
 simp only [o_pure, o_nil, POp.ev, Opd.ev, gv, setD, xsj, xel, binV, load1V, fadV, ne_eq, xnt, if_false, xgz, Nat.zero_add, cell_blk hp, cell_blk hq, step]
 by_cases e1 : tc = uc
 case neg =>
   rw [decide_eq_false e1]
   refine Test.true_ (s_reg ?_)
   simp only [o_pure, o_nil, POp.ev, Opd.ev, setD, List.set, xsj, xel]
   refine s_ret1 ?_
   simp +decide only [pqr, pfr, resV, resOne, gv, xsj, xel]
   exact ⟨by simp [e1], hx1⟩
 rw [decide_eq_true e1]
 refine Test.false_ (s_skip1 ?_)
 simp +decide only [pqn]
 refine s_test ?_
 simp only [o_pure, o_nil, POp.ev, Opd.ev, gv, setD, xsj, xel, binV, load1V, fadV, ne_eq, xnt, if_false, xgz, xgs, Nat.zero_add, cell_blk hp, cell_blk hq, step]
 by_cases e2 : tx = ux
 case neg =>
   rw [decide_eq_false e2]
   refine Test.true_ (s_reg ?_)
   simp only [o_pure, o_nil, POp.ev, Opd.ev, setD, List.set, xsj, xel]
   refine s_ret1 ?_
   simp +decide only [pqr, pfr, resV, resOne, gv, xsj, xel]
   exact ⟨by simp [e2], hx1⟩
 rw [decide_eq_true e2]
 refine Test.false_ (s_skip1 ?_)
 simp +decide only [pqn]
 refine s_test ?_
 simp only [o_pure, o_nil, POp.ev, Opd.ev, gv, setD, xsj, xel, binV, load1V, fadV, ne_eq, xnt, if_false, xgz, xgs, Nat.zero_add, cell_blk hp, cell_blk hq, step]
 by_cases e3 : ty = uy
 case neg =>
   rw [decide_eq_false e3]
   refine Test.true_ (s_reg ?_)
   simp only [o_pure, o_nil, POp.ev, Opd.ev, setD, List.set, xsj, xel]
   refine s_ret1 ?_
   simp +decide only [pqr, pfr, resV, resOne, gv, xsj, xel]
   exact ⟨by simp [e3], hx1⟩
 rw [decide_eq_true e3]
 refine Test.false_ (s_skip1 ?_)
 simp +decide only [pqn]
 refine s_test ?_
 simp only [o_pure, o_nil, POp.ev, Opd.ev, gv, setD, xsj, xel, binV, load1V, fadV, ne_eq, xnt, if_false, xgz, xgs, Nat.zero_add, cell_blk hp, cell_blk hq, step]
 by_cases e4 : tz = uz
 case neg =>
   rw [decide_eq_false e4]
   refine Test.true_ (s_reg ?_)
   simp only [o_pure, o_nil, POp.ev, Opd.ev, setD, List.set, xsj, xel]
   refine s_ret1 ?_
   simp +decide only [pqr, pfr, resV, resOne, gv, xsj, xel]
   exact ⟨by simp [e4], hx1⟩
 rw [decide_eq_true e4]
 refine Test.false_ (s_skip1 ?_)
 simp +decide only [pqn]
 refine s_reg ?_
 simp only [o_pure, o_nil, POp.ev, Opd.ev, setD, List.set, xsj, xel]
 refine s_ret1 ?_
 simp +decide only [pfr, resV, resOne, gv, xsj, xel]
 exact ⟨by simp [e1, e2, e3, e4], hx1⟩
theorem SlT.ext {H H' : AHeap} {v : Value} {l : List Tm} (h : SlT H v l) (hx : Ext H H') : SlT H' v l := Sl.keep h (Keep.of_ext hx (Nat.le_refl _)) (Nat.le_refl _)
theorem VecT.ext {H H' : AHeap} {b : Nat} {v : Value} {l : List Tm} (h : VecT H b v l) (hx : Ext H H') : VecT H' b v l := Vec.ext h hx
theorem VecT.chg {H H' : AHeap} {b b' : Nat} {v : Value} {l : List Tm} (h : VecT H b v l) (hx : Chg b' H H') (hne : b ≠ b') : VecT H' b v l := Vec.chg h hx hne
theorem szTermS_ok (lim : Nat) (s : Value) (n : Nat) (left : Int) (H : AHeap) (hs : lenV s = some (.int .i64 n)) (h0 : -20000000000000 ≤ left) (h1 : left ≤ 1000000000) (hn : n ≤ 20000000000000) :
   ACalls Tryz.prog lim n_laws_szTermS [s, .int .i64 left] H fun v H' => v = .int .i64 (if left - n < 0 then -1 else left - n) ∧ H' = H := by
 refine is_laws_szTermS.go rfl ?_
 unfold c_laws_szTermS
 have hw : IntKind.i64.wrap (left - n) = left - n := by rw [IntKind.wrap_i64]; omega
 refine s_reg ?_
 simp only [o_pure, o_nil, POp.ev, Opd.ev, env0, gu, setD, List.set, xsj, xel]
 refine s_reg ?_
 simp only [o_pure, o_nil, POp.ev, Opd.ev, gv, setD, List.set, xsj, xel, binV, ne_eq, xnt, if_false, hs, hw]
 refine s_test ?_
 simp only [o_pure, o_nil, POp.ev, Opd.ev, gv, setD, xsj, xel, binV, ne_eq, xnt, if_false]
 refine Test.split (fun h => ?_) (fun h => ?_)
 · refine s_reg ?_
   simp only [o_pure, o_nil, POp.ev, Opd.ev, setD, List.set, xsj, xel]
   refine s_ret1 ?_
   simp +decide only [pqr, pfr, resV, resOne, gv, xsj, xel]
   rw [if_pos (by simpa using h)]
   trivial
 · refine s_skip1 ?_
   simp +decide only [pqn]
   refine s_reg ?_
   simp only [o_pure, o_nil, POp.ev, Opd.ev, gv, setD, List.set, xsj, xel]
   refine s_ret1 ?_
   simp +decide only [pfr, resV, resOne, gv, xsj, xel]
   rw [if_neg (by simpa using h)]
   trivial
def zT : Tm := ⟨0, 0, 0, 0⟩
def laidT (l : List Tm) : List Tm := l ++ List.replicate (roomN l.length) filT
theorem laidT_length (l : List Tm) : (laidT l).length = l.length + roomN l.length := by simp [laidT]
structure LaidT (H : AHeap) (b : Nat) (v : Value) (l : List Tm) : Prop where
 v : v = .slice (some ⟨b, 0, some 0⟩) l.length (l.length + roomN l.length)
 all : VecT H b (.slice (some ⟨b, 0, some 0⟩) (l.length + roomN l.length) (l.length + roomN l.length)) (laidT l)
theorem LaidT.lt {H : AHeap} {b : Nat} {v : Value} {l : List Tm} (h : LaidT H b v l) : b < H.next := by
 rcases h.all with ⟨h1, _⟩ | ⟨c, sp, rest, h1, h2, h3, _⟩
 · cases h1
 · exact h3
theorem LaidT.vec {H : AHeap} {b : Nat} {v : Value} {l : List Tm} (h : LaidT H b v l) : VecT H b v l := by
 obtain ⟨rfl, h⟩ := h
 rcases h with ⟨h1, _⟩ | ⟨c, sp, rest, h1, h2, h3, h4, h5, h6, h7⟩
 · cases h1
 · simp only [Value.slice.injEq, xsj, Addr.mk.injEq, true_and] at h1
   obtain ⟨rfl, h1l, rfl⟩ := h1
   have e := laidT_length l
   refine .inr ⟨_, _, tcs (List.replicate (roomN l.length) filT) ++ rest, rfl, .inl rfl, h3, ?_, tcs_length l, by omega, ?_⟩
   · rw [h4, laidT, tcs_append, List.append_assoc]
   · rw [List.length_append, tcs_length]
     simp; omega
theorem LaidT.ext {H H' : AHeap} {b : Nat} {v : Value} {l : List Tm} (h : LaidT H b v l) (hx : Ext H H') : LaidT H' b v l := ⟨h.v, VecT.ext h.all hx⟩
theorem LaidT.chg {H H' : AHeap} {b b' : Nat} {v : Value} {l : List Tm} (h : LaidT H b v l) (hx : Chg b' H H') (hne : b ≠ b') : LaidT H' b v l := ⟨h.v, VecT.chg h.all hx hne⟩
def CopyT (H : AHeap) (b : Nat) (v : Value) (l : List Tm) (bare : Bool) : Prop := (bare = true ∧ l = [] ∧ v = .slice none 0 0) ∨ LaidT H b v l
theorem CopyT.ext {H H' : AHeap} {b : Nat} {v : Value} {l : List Tm} {bare : Bool} (h : CopyT H b v l bare) (hx : Ext H H') : CopyT H' b v l bare := h.imp id fun h => h.ext hx
theorem CopyT.chg {H H' : AHeap} {b b' : Nat} {v : Value} {l : List Tm} {bare : Bool} (h : CopyT H b v l bare) (hx : Chg b' H H') (hne : b ≠ b') : CopyT H' b v l bare := h.imp id fun h => h.chg hx hne
theorem CopyT.vec {H : AHeap} {b : Nat} {v : Value} {l : List Tm} {bare : Bool} (h : CopyT H b v l bare) : VecT H b v l := by
 rcases h with ⟨_, rfl, rfl⟩ | h
 · exact Vec.nil _ _ _
 · exact h.vec
theorem fillA {α : Type} {A : List α} {i m : Nat} {z x : α} (h : A[i]? = some x) (hm : A.length = m) : (A.take i ++ List.replicate (m - i) z).set i x = A.take (i + 1) ++ List.replicate (m - (i + 1)) z := by
 have hi : i < A.length := (List.getElem?_eq_some_iff.1 h).1
 have e1 : m - i = (m - (i + 1)) + 1 := by omega
 rw [e1, List.replicate_succ, List.set_append_right _ _ (by simp; omega)]
 have e2 : i - (A.take i).length = 0 := by simp; omega
 rw [e2, List.set_cons_zero, List.take_add_one, h]
 simp
theorem fillA_length {α : Type} {A : List α} {i m : Nat} {z : α} (hm : A.length = m) (hi : i ≤ m) : (A.take i ++ List.replicate (m - i) z).length = m := by simp; omega
theorem zerosT : ∀ n, zerosL n [vi 0, vi 0, vi 0, vi 0] = tcs (List.replicate n zT)
 | 0 => rfl
 | n + 1 => by rw [List.replicate_succ, tcs_cons, ← zerosT n]; rfl
theorem vecT_mk (H : AHeap) (n : Nat) : VecT (H.alloc (tcs (List.replicate n zT))) H.next (.slice (some ⟨H.next, 0, some 0⟩) n n) (List.replicate n zT) := by
 have := Vec.lit (H := H) (n := n) (sz := 4) (cells := tcs (List.replicate n zT)) (by rw [tcs_length]; simp)
 unfold VecT
 simpa using this
theorem toTermS_ok (lim : Nat) (s : Value) (l : List Tm) (bare : Bool) (H : AHeap) (hl : lim ≤ H.next) (hs : SlT H s l) (hn : l.length ≤ 1000000) :
   ACalls Tryz.prog lim n_laws_toTermS [s, .bool bare] H fun v H' => (∃ b, H.next ≤ b ∧ b ≤ H'.next ∧ CopyT H' b v l bare) ∧ Ext H H' := by
 refine is_laws_toTermS.go rfl ?_
 unfold c_laws_toTermS
 refine s_reg ?_
 simp only [o_pure, o_nil, POp.ev, Opd.ev, env0, gu, setD, List.set, xsj, xel]
 have hR := roomN_le l.length
 refine s_test_cut (decide (bare = true ∧ l.length = 0)) [s, .bool bare, .slice none 0 0, undef, undef, undef] H ?_ (fun h => ?_) (fun h => ?_)
 · cases bare
   · simp only [o_pure, o_guard, gk_ft, o_nil, POp.ev, Opd.ev, gv, setD, xsj, xel, pickV, Bool.false_eq_true]
     simp
   · simp only [o_pure, o_guard, gk_tt, o_nil, POp.ev, Opd.ev, gv, setD, xsj, xel, pickV, binV, ne_eq, xnt, if_false, hs.lenV]
     simp [nat_eq0]
 · refine s_reg ?_
   simp only [o_pure, o_nil, POp.ev, Opd.ev, setD, List.set, xsj, xel]
   refine s_ret1 ?_
   simp +decide only [pqr, pfr, resV, resOne, gv, xsj, xel]
   simp only [decide_eq_true_eq] at h
   exact ⟨⟨H.next, Nat.le_refl _, Nat.le_refl _, .inl ⟨h.1, List.length_eq_zero_iff.1 h.2, rfl⟩⟩, Ext.refl _⟩
 · refine s_skip1 ?_
   simp +decide only [pqn]
   refine s_reg ?_
   simp only [o_pure, o_callF, POp.ev, Opd.ev, gv, setD, List.map, xsj, xel, hs.lenV]
   refine (roomBehind_ok _ _ _).eq ?_
   have w1 := addN (i := l.length) (j := roomN l.length) (by omega)
   simp only [o_cont, o_pure, o_eff, o_nil, POp.ev, Opd.ev, EOp.ev, gv, setD, List.set, xsj, xel, binV, ne_eq, xnt, if_false, w1, mkslice_int 32 (l.length + roomN l.length) (l.length + roomN l.length) [.int .i64 0, .int .i64 0, .int .i64 0, .int .i64 0] (Nat.le_refl _) (by omega) (by omega), zerosT]
   have hv0 := vecT_mk H (l.length + roomN l.length)
   have hx0 := Ext.alloc H (tcs (List.replicate (l.length + roomN l.length) zT))
   have hn0 : (H.alloc (tcs (List.replicate (l.length + roomN l.length) zT))).next = H.next + 1 := rfl
   have hlaid := laidT_length l
   have hlg : ∀ i, i < l.length → (laidT l)[i]? = l[i]? := fun i hi => List.getElem?_append_left hi
   have hlg2 : ∀ i, l.length ≤ i → i < l.length + roomN l.length → (laidT l)[i]? = some filT := fun i hi hj => by
     unfold laidT
     rw [List.getElem?_append_right hi, List.getElem?_replicate, if_pos (by omega)]
   generalize H.alloc (tcs (List.replicate (l.length + roomN l.length) zT)) = H1 at hv0 hx0 hn0 ⊢
   generalize hN : l.length + roomN l.length = N at *
   refine s_assoc (s_reg ?_)
   simp only [o_pure, o_nil, POp.ev, Opd.ev, setD, List.set, xsj, xel]
   refine s_block ?_
   refine s_loop1 (fun k e' H' => ∃ i, i + k = l.length ∧ VecT H' H.next (.slice (some ⟨H.next, 0, some 0⟩) N N) ((laidT l).take i ++ List.replicate (N - i) zT) ∧ Ext H H' ∧ H.next < H'.next ∧ e' = [s, .bool bare, .slice none 0 0, .slice (some ⟨H.next, 0, some 0⟩) N N, .int .i64 i, undef]) l.length ⟨0, by omega, by simpa using hv0, hx0, by omega, rfl⟩ ?_
   rintro k e' H' ⟨i, hik, hv, hx, hlt0, rfl⟩
   refine s_test ?_
   simp only [o_pure, o_nil, POp.ev, Opd.ev, gv, setD, xsj, xel, binV, ne_eq, xnt, if_false, hs.lenV]
   refine Test.split (fun hlt => ?_) (fun hlt => ?_)
   · have hlt' : i < l.length := by simpa using hlt
     have hLl := fillA_length (z := zT) hlaid (show i ≤ N by omega)
     refine s_skip1 ?_
     simp +decide only [pqn]
     refine s_block ?_
     refine s_reg1 ?_
     obtain ⟨bb, o, h1, hat⟩ := (hs.ext hx).at hlt'
     simp only [o_pure, o_callF, POp.ev, Opd.ev, gv, setD, List.map, xsj, xel, h1, hat.all]
     refine (toTerm_ok _ _ _ (by omega)).mono ?_
     rintro _ H2 ⟨rfl, hx2⟩
     replace hv := VecT.ext hv hx2
     obtain ⟨cs, g1, g2⟩ := VecT.putT (lim := lim) hv (by omega) (i := i) (by omega) l[i]
     rw [fillA (by rw [hlg i hlt']; simp [hlt']) hlaid] at g2
     simp only [o_cont, o_pure, o_eff, o_nil, POp.ev, Opd.ev, EOp.ev, gv, setD, xsj, xel, Vec.iad hv .i64 (show i < _ by omega), g1]
     simp +decide only [pqn, pbn]
     refine s_reg1 ?_
     simp only [o_pure, o_nil, POp.ev, Opd.ev, gv, setD, List.set, xsj, xel, binV, ne_eq, xnt, if_false, add1 (i := i) (by omega)]
     simp +decide only [pqn]
     have hn2 := hx2.next
     exact Round.mk (k - 1) (by omega) ⟨i + 1, by omega, g2, Chg.ext (hx.trans hx2) (Chg.put _ _ _) (Nat.le_refl _), (show H.next < H2.next by omega), rfl⟩
   · have hge : i = l.length := by simp at hlt; omega
     subst hge
     refine s_exit1 ?_
     simp +decide only [pqn, pqe, pbe, reduceIte]
     refine s_assoc (s_reg ?_)
     simp only [o_pure, o_nil, POp.ev, Opd.ev, gv, setD, List.set, xsj, xel, hs.lenV]
     refine s_block ?_
     refine s_loop1 (fun k e' H' => ∃ i, l.length ≤ i ∧ i + k = N ∧ VecT H' H.next (.slice (some ⟨H.next, 0, some 0⟩) N N) ((laidT l).take i ++ List.replicate (N - i) zT) ∧ Ext H H' ∧ H.next < H'.next ∧ e' = [s, .bool bare, .slice none 0 0, .slice (some ⟨H.next, 0, some 0⟩) N N, .int .i64 l.length, .int .i64 i]) (N - l.length) ⟨l.length, by omega, by omega, hv, hx, hlt0, rfl⟩ ?_
     clear hv hx hlt0
     rintro k e' H' ⟨i, hli, hik, hv, hx, hlt0, rfl⟩
     refine s_test ?_
     simp only [o_pure, o_nil, POp.ev, Opd.ev, gv, setD, xsj, xel, binV, ne_eq, xnt, if_false, lenV]
     refine Test.split (fun hlt => ?_) (fun hlt => ?_)
     · have hlt' : i < N := by simp at hlt; omega
       have hLl := fillA_length (z := zT) hlaid (show i ≤ N by omega)
       refine s_skip1 ?_
       simp +decide only [pqn]
       refine s_block ?_
       refine s_reg1 ?_
       simp only [o_pure, o_callF, POp.ev, Opd.ev, gv, setD, List.map, xsj, xel]
       refine (filler_ok _ _ (by omega)).mono ?_
       rintro _ H2 ⟨rfl, hx2⟩
       replace hv := VecT.ext hv hx2
       obtain ⟨cs, g1, g2⟩ := VecT.putT (lim := lim) hv (by omega) (i := i) (by omega) filT
       rw [fillA (hlg2 i hli hlt') hlaid] at g2
       simp only [o_cont, o_pure, o_eff, o_nil, POp.ev, Opd.ev, EOp.ev, gv, setD, xsj, xel, Vec.iad hv .i64 (show i < _ by omega), g1]
       simp +decide only [pqn, pbn]
       refine s_reg1 ?_
       simp only [o_pure, o_nil, POp.ev, Opd.ev, gv, setD, List.set, xsj, xel, binV, ne_eq, xnt, if_false, add1 (i := i) (by omega)]
       simp +decide only [pqn]
       have hn2 := hx2.next
       exact Round.mk (k - 1) (by omega) ⟨i + 1, by omega, by omega, g2, Chg.ext (hx.trans hx2) (Chg.put _ _ _) (Nat.le_refl _), (show H.next < H2.next by omega), rfl⟩
     · have hge : i = N := by simp at hlt; omega
       subst hge
       refine s_exit1 ?_
       simp +decide only [pqn, pqe, pbe, reduceIte]
       refine s_reg ?_
       simp only [o_pure, o_nil, POp.ev, Opd.ev, gv, setD, List.set, Option.map_none, xms, xsj, xel, hs.lenV, slc_to .i64 (show l.length ≤ i by omega)]
       refine s_ret1 ?_
       simp +decide only [pfr, resV, resOne, gv, xsj, xel]
       rw [Nat.sub_self, List.replicate_zero, List.append_nil, List.take_of_length_le (by omega)] at hv
       refine ⟨⟨H.next, Nat.le_refl _, by omega, .inr ⟨by rw [hN], by rw [hN]; exact hv⟩⟩, hx⟩
theorem eqTermS_ok (lim : Nat) (s t : Value) (l : List Tm) (H : AHeap) (hs : SlT H s l) (ht : SlT H t l) (hn : l.length ≤ 1000000000) :
   ACalls Tryz.prog lim n_laws_eqTermS [s, t] H fun v H' => v = .bool true ∧ Ext H H' := by
 refine is_laws_eqTermS.go rfl ?_
 unfold c_laws_eqTermS
 refine s_reg ?_
 simp only [o_pure, o_nil, POp.ev, Opd.ev, env0, gu, setD, List.set, xsj, xel]
 have hne : ((l.length : Int) != (l.length : Int)) = false := by simp
 refine s_test ?_
 simp only [o_pure, o_nil, POp.ev, Opd.ev, gv, setD, xsj, xel, binV, ne_eq, xnt, if_false, hs.lenV, ht.lenV, hne]
 refine Test.false_ (s_skip1 ?_)
 simp +decide only [pqn]
 refine s_assoc (s_reg ?_)
 simp only [o_pure, o_nil, POp.ev, Opd.ev, setD, List.set, xsj, xel]
 refine s_block ?_
 refine s_loop1 (fun k e' H' => ∃ i, i + k = l.length ∧ Ext H H' ∧ e' = [s, t, .bool false, .int .i64 i]) l.length ⟨0, by omega, Ext.refl _, rfl⟩ ?_
 rintro k e' H' ⟨i, hik, hx, rfl⟩
 refine s_test ?_
 simp only [o_pure, o_nil, POp.ev, Opd.ev, gv, setD, xsj, xel, binV, ne_eq, xnt, if_false, hs.lenV]
 refine Test.split (fun hlt => ?_) (fun hlt => ?_)
 · have hlt' : i < l.length := by simpa using hlt
   obtain ⟨b1, o1, h1, k1⟩ := (hs.ext hx).at hlt'
   obtain ⟨b2, o2, h2, k2⟩ := (ht.ext hx).at hlt'
   refine s_skip1 ?_
   simp +decide only [pqn]
   refine s_block ?_
   refine s_test1 ?_
   simp only [o_pure, o_callF, POp.ev, Opd.ev, gv, setD, List.map, xsj, xel, h1, k1.all, h2, k2.all]
   refine (eqTerm_ok _ _ _ _).mono ?_
   rintro _ H2 ⟨rfl, hx2⟩
   rw [decide_eq_true rfl]
   simp only [o_cont, o_pure, o_nil, POp.ev, Opd.ev, gv, setD, xsj, xel, unV, Bool.not_true]
   refine Test.false_ (s_skip1 ?_)
   simp +decide only [pqn, pbn]
   refine s_reg1 ?_
   simp only [o_pure, o_nil, POp.ev, Opd.ev, gv, setD, List.set, xsj, xel, binV, ne_eq, xnt, if_false, add1 (i := i) (by omega)]
   simp +decide only [pqn]
   exact Round.mk (k - 1) (by omega) ⟨i + 1, by omega, hx.trans hx2, rfl⟩
 · refine s_exit1 ?_
   simp +decide only [pqn, pqe, pbe, reduceIte]
   refine s_reg ?_
   simp only [o_pure, o_nil, POp.ev, Opd.ev, setD, List.set, xsj, xel]
   refine s_ret1 ?_
   simp +decide only [pfr, resV, resOne, gv, xsj, xel]
   exact ⟨trivial, hx⟩
theorem intactTermS_ok (lim : Nat) (b c : Nat) (s t : Value) (l : List Tm) (H : AHeap) (hs : LaidT H b s l) (ht : LaidT H c t l) (hn : l.length ≤ 1000000) :
   ACalls Tryz.prog lim n_laws_intactTermS [s, t] H fun v H' => v = .bool true ∧ Ext H H' := by
 obtain ⟨rfl, hs⟩ := hs
 obtain ⟨rfl, ht⟩ := ht
 have hR := roomN_le l.length
 have hL := laidT_length l
 have w1 := addN (i := l.length) (j := roomN l.length) (by omega)
 have hq : ((l.length : Int) == (l.length : Int)) = true := by simp
 refine is_laws_intactTermS.go rfl ?_
 unfold c_laws_intactTermS
 refine s_reg ?_
 simp only [o_pure, o_nil, POp.ev, Opd.ev, env0, gu, setD, List.set, xsj, xel]
 refine s_reg ?_
 simp only [o_pure, o_callF, POp.ev, Opd.ev, gv, setD, List.map, xsj, xel, lenV]
 refine (roomBehind_ok _ _ _).eq ?_
 simp only [o_cont, o_pure, o_nil, POp.ev, Opd.ev, gv, setD, List.set, xsj, xel, binV, ne_eq, xnt, if_false, w1]
 refine s_reg ?_
 simp only [o_pure, o_callF, o_guard, gk_tt, POp.ev, Opd.ev, gv, setD, List.map, Option.map_none, xms, xsj, xel, binV, ne_eq, xnt, if_false, beq_self_eq_true, lenV, slc_to .i64 (show l.length + roomN l.length ≤ l.length + roomN l.length from Nat.le_refl _)]
 refine (eqTermS_ok _ _ _ (laidT l) _ ?_ ?_ (by omega)).mono ?_
 · exact Vec.sl hs
 · exact Vec.sl ht
 rintro _ H2 ⟨rfl, hx2⟩
 simp only [o_cont, o_pure, o_nil, POp.ev, Opd.ev, gv, setD, List.set, xsj, xel, pickV]
 refine s_ret1 ?_
 simp +decide only [pfr, resV, resOne, gv, xsj, xel]
 exact ⟨trivial, hx2⟩
def mkT (k : Int) (n : Nat) : List Tm := (List.range n).map fun (i : Nat) => ⟨k + 4 * i, k + 4 * i + 1, k + 4 * i + 2, k + 4 * i + 3⟩
theorem mkT_length (k : Int) (n : Nat) : (mkT k n).length = n := by simp [mkT]
theorem mkT_get (k : Int) (n i : Nat) (h : i < n) : (mkT k n)[i]? = some ⟨k + 4 * i, k + 4 * i + 1, k + 4 * i + 2, k + 4 * i + 3⟩ := by simp [mkT, h]
theorem markTermS_ok (lim : Nat) (b : Nat) (s : Value) (l : List Tm) (k : Int) (H : AHeap) (hl : lim ≤ b) (hs : VecT H b s l) (hn : l.length ≤ 1000000000) (h0 : 0 ≤ k) (hk : k ≤ 1000000000) :
   ACalls Tryz.prog lim n_laws_markTermS [s, .int .i64 k] H fun v H' => v = .int .i64 (k + 4 * l.length) ∧ VecT H' b s (mkT k l.length) ∧ Chg b H H' ∧ H'.next = H.next := by
 refine is_laws_markTermS.go rfl ?_
 unfold c_laws_markTermS
 have hlen := mkT_length k l.length
 refine s_reg ?_
 simp only [o_pure, o_nil, POp.ev, Opd.ev, env0, gu, setD, List.set, xsj, xel]
 refine s_assoc (s_reg ?_)
 simp only [o_pure, o_nil, POp.ev, Opd.ev, setD, List.set, xsj, xel]
 refine s_block ?_
 refine s_loop1 (fun j e' H' => ∃ (i : Nat), i + j = l.length ∧ VecT H' b s ((mkT k l.length).take i ++ l.drop i) ∧ Chg b H H' ∧ H'.next = H.next ∧ e' = [s, .int .i64 (k + 4 * i), .int .i64 0, .int .i64 i]) l.length ⟨0, by omega, by simpa using hs, Chg.refl _ _, rfl, by simp⟩ ?_
 rintro j e' H' ⟨i, hij, hv, hc, hnx, rfl⟩
 have hL : ((mkT k l.length).take i ++ l.drop i).length = l.length := by simp [hlen]; omega
 refine s_test ?_
 simp only [o_pure, o_nil, POp.ev, Opd.ev, gv, setD, xsj, xel, binV, ne_eq, xnt, if_false, Vec.lenV hv, hL]
 refine Test.split (fun hlt => ?_) (fun hlt => ?_)
 · have hlt' : i < l.length := by simpa using hlt
   have hget : ((mkT k l.length).take i ++ l.drop i)[i]? = some l[i] := by
     rw [List.getElem?_append_right (by simp; omega)]
     simp [hlen, Nat.min_eq_left (Nat.le_of_lt hlt')]
   have i1 := Vec.iad hv .i64 (show i < _ by omega)
   obtain ⟨cs1, s1, v1⟩ := VecT.putf (lim := lim) hv hl hget (k + 4 * i) (j := 0) (by omega)
   have n1 : (H'.put b cs1).next = H'.next := rfl
   have c1 := hc.trans (Chg.put b H' cs1)
   have w1 : IntKind.i64.wrap (k + 4 * i + 1) = k + 4 * i + 1 := by rw [IntKind.wrap_i64]; omega
   have w2 : IntKind.i64.wrap (k + 4 * i + 1 + 1) = k + 4 * i + 2 := by rw [IntKind.wrap_i64]; omega
   have w3 : IntKind.i64.wrap (k + 4 * i + 2 + 1) = k + 4 * i + 3 := by rw [IntKind.wrap_i64]; omega
   have w4 : IntKind.i64.wrap (k + 4 * i + 3 + 1) = k + 4 * ((i + 1 : Nat) : Int) := by rw [IntKind.wrap_i64]; omega
   refine s_skip1 ?_
   simp +decide only [pqn]
   refine s_block ?_
   refine s_reg ?_
   simp only [o_pure, o_eff, o_nil, POp.ev, Opd.ev, EOp.ev, gv, setD, xsj, xel, fadV, i1, s1]
   generalize H'.put b cs1 = H1 at n1 c1 v1 ⊢
   refine s_reg ?_
   simp only [o_pure, o_nil, POp.ev, Opd.ev, gv, setD, List.set, xsj, xel, binV, ne_eq, xnt, if_false, w1]
   obtain ⟨cs2, s2, v2⟩ := VecT.putf (lim := lim) v1 hl (List.getElem?_set_self (by omega)) (k + 4 * i + 1) (j := 1) (by omega)
   have n2 : (H1.put b cs2).next = H1.next := rfl
   have c2 := c1.trans (Chg.put b H1 cs2)
   rw [List.set_set] at v2
   refine s_reg ?_
   simp only [o_pure, o_eff, o_nil, POp.ev, Opd.ev, EOp.ev, gv, setD, xsj, xel, fadV, i1, s2]
   generalize H1.put b cs2 = H2 at n2 c2 v2 ⊢
   refine s_reg ?_
   simp only [o_pure, o_nil, POp.ev, Opd.ev, gv, setD, List.set, xsj, xel, binV, ne_eq, xnt, if_false, w2]
   obtain ⟨cs3, s3, v3⟩ := VecT.putf (lim := lim) v2 hl (List.getElem?_set_self (by omega)) (k + 4 * i + 2) (j := 2) (by omega)
   have n3 : (H2.put b cs3).next = H2.next := rfl
   have c3 := c2.trans (Chg.put b H2 cs3)
   rw [List.set_set] at v3
   refine s_reg ?_
   simp only [o_pure, o_eff, o_nil, POp.ev, Opd.ev, EOp.ev, gv, setD, xsj, xel, fadV, i1, s3]
   generalize H2.put b cs3 = H3 at n3 c3 v3 ⊢
   refine s_reg ?_
   simp only [o_pure, o_nil, POp.ev, Opd.ev, gv, setD, List.set, xsj, xel, binV, ne_eq, xnt, if_false, w3]
   obtain ⟨cs4, s4, v4⟩ := VecT.putf (lim := lim) v3 hl (List.getElem?_set_self (by omega)) (k + 4 * i + 3) (j := 3) (by omega)
   have n4 : (H3.put b cs4).next = H3.next := rfl
   have c4 := c3.trans (Chg.put b H3 cs4)
   rw [List.set_set] at v4
   refine s_reg ?_
   simp only [o_pure, o_eff, o_nil, POp.ev, Opd.ev, EOp.ev, gv, setD, xsj, xel, fadV, i1, s4]
   generalize H3.put b cs4 = H4 at n4 c4 v4 ⊢
   refine s_reg1 ?_
   simp only [o_pure, o_nil, POp.ev, Opd.ev, gv, setD, List.set, xsj, xel, binV, ne_eq, xnt, if_false, w4]
   simp +decide only [pqn, pbn]
   refine s_reg1 ?_
   simp only [o_pure, o_nil, POp.ev, Opd.ev, gv, setD, List.set, xsj, xel, binV, ne_eq, xnt, if_false, add1 (i := i) (by omega)]
   simp +decide only [pqn]
   refine Round.mk (j - 1) (by omega) ⟨i + 1, by omega, ?_, c4, by omega, rfl⟩
   have hset : ((mkT k l.length).take i ++ l.drop i).set i ⟨k + 4 * i, k + 4 * i + 1, k + 4 * i + 2, k + 4 * i + 3⟩ = (mkT k l.length).take (i + 1) ++ l.drop (i + 1) := by
     have e0 : i - ((mkT k l.length).take i).length = 0 := by simp [hlen]; omega
     rw [List.set_append_right _ _ (by simp [hlen]; omega), e0, List.drop_eq_getElem_cons hlt', List.set_cons_zero, List.take_add_one, mkT_get k _ _ hlt']
     simp
   rw [← hset]
   exact v4
 · have hge : i = l.length := by simp at hlt; omega
   subst hge
   refine s_exit1 ?_
   simp +decide only [pqn, pqe, pbe, reduceIte]
   refine s_reg ?_
   simp only [o_pure, o_nil, POp.ev, Opd.ev, gv, setD, List.set, xsj, xel]
   refine s_ret1 ?_
   simp +decide only [pfr, resV, resOne, gv, xsj, xel]
   refine ⟨trivial, ?_, hc, hnx⟩
   rw [List.drop_length, List.append_nil, List.take_of_length_le (by omega)] at hv
   exact hv
structure Out (lo hi : Nat) (H H' : AHeap) : Prop where
 next : H.next ≤ H'.next
 blk : ∀ b, b < H.next → (b < lo ∨ hi ≤ b) → H'.blk b = H.blk b
theorem Out.refl (lo hi : Nat) (H : AHeap) : Out lo hi H H := ⟨Nat.le_refl _, fun _ _ _ => rfl⟩
theorem Out.of_ext {lo hi : Nat} {H H' : AHeap} (h : Ext H H') : Out lo hi H H' := ⟨h.next, fun b hb _ => h.blk b hb⟩
theorem Out.trans {lo hi : Nat} {H H1 H2 : AHeap} (h : Out lo hi H H1) (k : Out lo hi H1 H2) : Out lo hi H H2 := ⟨Nat.le_trans h.next k.next, fun b hb hn => (k.blk b (Nat.lt_of_lt_of_le hb h.next) hn).trans (h.blk b hb hn)⟩
theorem Out.of_chg {lo hi b : Nat} {H H' : AHeap} (h : Chg b H H') (h1 : lo ≤ b) (h2 : b < hi) : Out lo hi H H' := ⟨h.next, fun b' hb hn => h.blk b' hb (by omega)⟩
theorem Out.ext {lo hi : Nat} {H0 H H' : AHeap} (hx : Ext H0 H) (h : Out lo hi H H') (hl : H0.next ≤ lo) : Ext H0 H' :=
 ⟨Nat.le_trans hx.next h.next, fun b hb => (h.blk b (Nat.lt_of_lt_of_le hb hx.next) (by omega)).trans (hx.blk b hb)⟩
def SlSS (H : AHeap) (v : Value) (ss : List (List Tm)) : Prop := ∃ vs : List Value, Sl H v ss.length 1 vs ∧ ∀ (i : Nat) (p : List Tm), ss[i]? = some p → ∃ s, vs[i]? = some s ∧ SlT H s p
theorem SlSS.ext {H H' : AHeap} {v : Value} {ss : List (List Tm)} (h : SlSS H v ss) (hx : Ext H H') : SlSS H' v ss := by
 obtain ⟨vs, h1, h2⟩ := h
 refine ⟨vs, h1.keep (Keep.of_ext hx (Nat.le_refl _)) (Nat.le_refl _), fun i p hp => ?_⟩
 obtain ⟨s, g1, g2⟩ := h2 i p hp
 exact ⟨s, g1, g2.ext hx⟩
theorem SlSS.lenV {H : AHeap} {v : Value} {ss : List (List Tm)} (h : SlSS H v ss) : lenV v = some (.int .i64 ss.length) := by
 obtain ⟨vs, h1, _⟩ := h
 exact h1.lenV
theorem SlSS.at {H : AHeap} {v : Value} {ss : List (List Tm)} (h : SlSS H v ss) {i : Nat} (hi : i < ss.length) : ∃ b o s, iadV 1 v (.int .i64 i) = some (.pointer (some ⟨b, o, none⟩)) ∧ H.cell b o = some s ∧ SlT H s ss[i] := by
 obtain ⟨vs, h1, h2⟩ := h
 obtain ⟨b, o, g1, g2, g3⟩ := h1.cell .i64 (i := (i : Int)) (by omega) (by omega)
 obtain ⟨s, k1, k2⟩ := h2 i _ (List.getElem?_eq_getElem hi)
 rw [show (i : Int).toNat = i by omega, k1] at g3
 exact ⟨b, o, s, g1, g3, k2⟩
theorem SlSS.nil (H : AHeap) : SlSS H (.slice none 0 0) [] := ⟨[], Sl.nil _ _, by intro i p h; simp at h⟩
structure OwnX (H : AHeap) (lo hi b : Nat) (vs : List Value) (bs : List Nat) (v : Value) (ss : List (List Tm)) : Prop where
 vec : Vec H b v ss.length 1 vs
 len : bs.length = ss.length
 rng : lo ≤ b ∧ b < hi
 nodup : bs.Nodup
 nin : b ∉ bs
 rngs : ∀ c ∈ bs, lo ≤ c ∧ c < hi
 el : ∀ (i : Nat) (p : List Tm), ss[i]? = some p → ∃ s c, vs[i]? = some s ∧ bs[i]? = some c ∧ VecT H c s p
def OwnSS (H : AHeap) (lo hi : Nat) (v : Value) (ss : List (List Tm)) : Prop := (v = .slice none 0 0 ∧ ss = []) ∨ ∃ b vs bs, OwnX H lo hi b vs bs v ss
theorem OwnX.keep {H H' : AHeap} {lo hi b : Nat} {vs : List Value} {bs : List Nat} {v : Value} {ss : List (List Tm)} (h : OwnX H lo hi b vs bs v ss) (hn : H.next ≤ H'.next) (hb : ∀ c, c < H.next → lo ≤ c → c < hi → H'.blk c = H.blk c) : OwnX H' lo hi b vs bs v ss := by
 obtain ⟨h1, h2, h3, h4, h5, h6, h7⟩ := h
 refine ⟨h1.keep hn (fun hlt => hb b hlt h3.1 h3.2), h2, h3, h4, h5, h6, fun i p hp => ?_⟩
 obtain ⟨s, c, g1, g2, g3⟩ := h7 i p hp
 obtain ⟨k1, k2⟩ := h6 c (List.mem_of_getElem? g2)
 exact ⟨s, c, g1, g2, Vec.keep g3 hn (fun hlt => hb c hlt k1 k2)⟩
theorem OwnSS.keep {H H' : AHeap} {lo hi : Nat} {v : Value} {ss : List (List Tm)} (h : OwnSS H lo hi v ss) (hn : H.next ≤ H'.next) (hb : ∀ c, c < H.next → lo ≤ c → c < hi → H'.blk c = H.blk c) : OwnSS H' lo hi v ss := by
 rcases h with h | ⟨b, vs, bs, h⟩
 · exact .inl h
 · exact .inr ⟨b, vs, bs, h.keep hn hb⟩
theorem OwnSS.ext {H H' : AHeap} {lo hi : Nat} {v : Value} {ss : List (List Tm)} (h : OwnSS H lo hi v ss) (hx : Ext H H') : OwnSS H' lo hi v ss := h.keep hx.next fun c hc _ _ => hx.blk c hc
theorem OwnSS.out {H H' : AHeap} {lo hi lo' hi' : Nat} {v : Value} {ss : List (List Tm)} (h : OwnSS H lo hi v ss) (hx : Out lo' hi' H H') (hd : hi ≤ lo' ∨ hi' ≤ lo) : OwnSS H' lo hi v ss :=
 h.keep hx.next fun c hc h1 h2 => hx.blk c hc (by omega)
theorem OwnSS.slss {H : AHeap} {lo hi : Nat} {v : Value} {ss : List (List Tm)} (h : OwnSS H lo hi v ss) : SlSS H v ss := by
 rcases h with ⟨rfl, rfl⟩ | ⟨b, vs, bs, h1, h2, h3, h4, h5, h6, h7⟩
 · exact SlSS.nil _
 · refine ⟨vs, h1.sl, fun i p hp => ?_⟩
   obtain ⟨s, c, g1, g2, g3⟩ := h7 i p hp
   exact ⟨s, g1, Vec.sl g3⟩
theorem OwnSS.wide {H : AHeap} {lo hi lo' hi' : Nat} {v : Value} {ss : List (List Tm)} (h : OwnSS H lo hi v ss) (h1 : lo' ≤ lo) (h2 : hi ≤ hi') : OwnSS H lo' hi' v ss := by
 rcases h with h | ⟨b, vs, bs, g1, g2, g3, g4, g5, g6, g7⟩
 · exact .inl h
 · exact .inr ⟨b, vs, bs, g1, g2, by omega, g4, g5, fun c hc => by have := g6 c hc; omega, g7⟩
theorem OwnX.upd {H H' : AHeap} {lo hi b : Nat} {vs : List Value} {bs : List Nat} {v : Value} {ss : List (List Tm)} (h : OwnX H lo hi b vs bs v ss) {i c : Nat} {s : Value} {p : List Tm} (hlt : i < ss.length) (hs : vs[i]? = some s) (hc : bs[i]? = some c) (hx : Chg c H H') (hp : VecT H' c s p) :
   OwnX H' lo hi b vs bs v (ss.set i p) := by
 obtain ⟨h1, h2, h3, h4, h5, h6, h7⟩ := h
 have hcm := List.mem_of_getElem? hc
 refine ⟨by rw [List.length_set]; exact h1.chg hx (fun e => h5 (e ▸ hcm)), by rw [List.length_set]; exact h2, h3, h4, h5, h6, fun j q hq => ?_⟩
 by_cases hji : i = j
 · subst hji
   rw [List.getElem?_set_self hlt] at hq
   cases hq
   exact ⟨s, c, hs, hc, hp⟩
 · rw [List.getElem?_set_ne hji] at hq
   obtain ⟨s', c', g1, g2, g3⟩ := h7 j q hq
   refine ⟨s', c', g1, g2, VecT.chg g3 hx (fun e => ?_)⟩
   subst e
   obtain ⟨l1, e1⟩ := List.getElem?_eq_some_iff.1 hc
   obtain ⟨l2, e2⟩ := List.getElem?_eq_some_iff.1 g2
   exact hji ((List.getElem_inj h4).1 (e1.trans e2.symm))
def tot (ss : List (List Tm)) : Nat := (ss.map (·.length)).sum
theorem tot_cons (p : List Tm) (ss : List (List Tm)) : tot (p :: ss) = p.length + tot ss := by simp [tot]
theorem tot_append (a b : List (List Tm)) : tot (a ++ b) = tot a + tot b := by simp [tot]
theorem tot_take_succ {ss : List (List Tm)} {i : Nat} (h : i < ss.length) : tot (ss.take (i + 1)) = tot (ss.take i) + ss[i].length := by
 rw [List.take_add_one, List.getElem?_eq_getElem h, tot_append]
 simp [tot]
theorem tot_take_le (ss : List (List Tm)) (i : Nat) : tot (ss.take i) ≤ tot ss := by
 have := tot_append (ss.take i) (ss.drop i)
 rw [List.take_append_drop] at this
 omega
theorem len_le_tot {ss : List (List Tm)} {i : Nat} (h : i < ss.length) : ss[i].length ≤ tot ss := by
 have h1 := tot_take_succ h
 have h2 := tot_take_le ss (i + 1)
 omega
theorem eqTermSS_ok (lim : Nat) (s t : Value) (ss : List (List Tm)) (H : AHeap) (hs : SlSS H s ss) (ht : SlSS H t ss) (hn : ss.length ≤ 1000000000) (hn2 : ∀ p ∈ ss, p.length ≤ 1000000000) :
   ACalls Tryz.prog lim n_laws_eqTermSS [s, t] H fun v H' => v = .bool true ∧ Ext H H' := by
 refine is_laws_eqTermSS.go rfl ?_
 unfold c_laws_eqTermSS
 refine s_reg ?_
 simp only [o_pure, o_nil, POp.ev, Opd.ev, env0, gu, setD, List.set, xsj, xel]
 have hne : ((ss.length : Int) != (ss.length : Int)) = false := by simp
 refine s_test ?_
 simp only [o_pure, o_nil, POp.ev, Opd.ev, gv, setD, xsj, xel, binV, ne_eq, xnt, if_false, hs.lenV, ht.lenV, hne]
 refine Test.false_ (s_skip1 ?_)
 simp +decide only [pqn]
 refine s_assoc (s_reg ?_)
 simp only [o_pure, o_nil, POp.ev, Opd.ev, setD, List.set, xsj, xel]
 refine s_block ?_
 refine s_loop1 (fun k e' H' => ∃ i, i + k = ss.length ∧ Ext H H' ∧ e' = [s, t, .bool false, .int .i64 i]) ss.length ⟨0, by omega, Ext.refl _, rfl⟩ ?_
 rintro k e' H' ⟨i, hik, hx, rfl⟩
 refine s_test ?_
 simp only [o_pure, o_nil, POp.ev, Opd.ev, gv, setD, xsj, xel, binV, ne_eq, xnt, if_false, hs.lenV]
 refine Test.split (fun hlt => ?_) (fun hlt => ?_)
 · have hlt' : i < ss.length := by simpa using hlt
   obtain ⟨b1, o1, s1, h1, k1, m1⟩ := (hs.ext hx).at hlt'
   obtain ⟨b2, o2, s2, h2, k2, m2⟩ := (ht.ext hx).at hlt'
   refine s_skip1 ?_
   simp +decide only [pqn]
   refine s_block ?_
   refine s_test1 ?_
   simp only [o_pure, o_callF, POp.ev, Opd.ev, gv, setD, List.map, xsj, xel, load1V, h1, k1, h2, k2]
   refine (eqTermS_ok _ _ _ _ _ m1 m2 (hn2 _ (List.getElem_mem hlt'))).mono ?_
   rintro _ H2 ⟨rfl, hx2⟩
   simp only [o_cont, o_pure, o_nil, POp.ev, Opd.ev, gv, setD, xsj, xel, unV, Bool.not_true]
   refine Test.false_ (s_skip1 ?_)
   simp +decide only [pqn, pbn]
   refine s_reg1 ?_
   simp only [o_pure, o_nil, POp.ev, Opd.ev, gv, setD, List.set, xsj, xel, binV, ne_eq, xnt, if_false, add1 (i := i) (by omega)]
   simp +decide only [pqn]
   exact Round.mk (k - 1) (by omega) ⟨i + 1, by omega, hx.trans hx2, rfl⟩
 · refine s_exit1 ?_
   simp +decide only [pqn, pqe, pbe, reduceIte]
   refine s_reg ?_
   simp only [o_pure, o_nil, POp.ev, Opd.ev, setD, List.set, xsj, xel]
   refine s_ret1 ?_
   simp +decide only [pfr, resV, resOne, gv, xsj, xel]
   exact ⟨trivial, hx⟩
def mkSS : Int → List (List Tm) → List (List Tm)
 | _, [] => []
 | k, p :: l => mkT k p.length :: mkSS (k + 4 * p.length) l
theorem mkSS_length : ∀ (k : Int) (ss : List (List Tm)), (mkSS k ss).length = ss.length
 | _, [] => rfl
 | k, p :: l => by simp [mkSS, mkSS_length]
theorem mkSS_get : ∀ (k : Int) (ss : List (List Tm)) (i : Nat) (h : i < ss.length), (mkSS k ss)[i]? = some (mkT (k + 4 * tot (ss.take i)) ss[i].length)
 | _, [], i, h => by simp at h
 | k, p :: l, 0, h => by simp [mkSS, tot]
 | k, p :: l, i + 1, h => by
   have := mkSS_get (k + 4 * p.length) l i (by simpa using h)
   simp only [mkSS, xgs, List.take_succ_cons, tot_cons, List.getElem_cons_succ]
   rw [this]
   congr 2
   push_cast
   omega
theorem markTermSS_ok (lim lo hi : Nat) (s : Value) (ss : List (List Tm)) (k : Int) (H : AHeap) (hl : lim ≤ lo) (hs : OwnSS H lo hi s ss) (hn : ss.length ≤ 1000000) (hn2 : tot ss ≤ 1000000) (h0 : 0 ≤ k) (hk : k ≤ 1000000) :
   ACalls Tryz.prog lim n_laws_markTermSS [s, .int .i64 k] H fun v H' => v = .int .i64 (k + 4 * tot ss) ∧ OwnSS H' lo hi s (mkSS k ss) ∧ Out lo hi H H' ∧ H'.next = H.next := by
 have hlen := mkSS_length k ss
 refine is_laws_markTermSS.go rfl ?_
 unfold c_laws_markTermSS
 have hlv := hs.slss.lenV
 refine s_reg ?_
 simp only [o_pure, o_nil, POp.ev, Opd.ev, env0, gu, setD, List.set, xsj, xel]
 refine s_assoc (s_reg ?_)
 simp only [o_pure, o_nil, POp.ev, Opd.ev, setD, List.set, xsj, xel]
 refine s_block ?_
 rcases hs with ⟨rfl, rfl⟩ | ⟨b, vs, bs, hX⟩
 · refine s_loop1 (fun j e' H' => H' = H ∧ e' = [.slice none 0 0, .int .i64 k, .int .i64 0, .int .i64 0]) 0 ⟨rfl, rfl⟩ ?_
   rintro j e' H ⟨rfl, rfl⟩
   have hz : decide ((0 : Int) < ((0 : Nat) : Int)) = false := by decide
   refine s_test ?_
   simp only [o_pure, o_nil, POp.ev, Opd.ev, gv, setD, xsj, xel, binV, ne_eq, xnt, if_false, lenV, hz]
   refine Test.false_ (s_exit1 ?_)
   simp +decide only [pqn, pqe, pbe, reduceIte]
   refine s_reg ?_
   simp only [o_pure, o_nil, POp.ev, Opd.ev, gv, setD, List.set, xsj, xel]
   refine s_ret1 ?_
   simp +decide only [pfr, resV, resOne, gv, xsj, xel]
   exact ⟨by simp [tot], .inl ⟨rfl, rfl⟩, Out.refl _ _ _, trivial⟩
 refine s_loop1 (fun j e' H' => ∃ (i : Nat), i + j = ss.length ∧ OwnX H' lo hi b vs bs s ((mkSS k ss).take i ++ ss.drop i) ∧ Out lo hi H H' ∧ H'.next = H.next ∧ e' = [s, .int .i64 (k + 4 * tot (ss.take i)), .int .i64 0, .int .i64 i]) ss.length ⟨0, by omega, by simpa using hX, Out.refl _ _ _, rfl, by simp [tot]⟩ ?_
 rintro j e' H' ⟨i, hij, hv, hc, hnx, rfl⟩
 have hL : ((mkSS k ss).take i ++ ss.drop i).length = ss.length := by simp [hlen]; omega
 have htl := tot_take_le ss i
 refine s_test ?_
 simp only [o_pure, o_nil, POp.ev, Opd.ev, gv, setD, xsj, xel, binV, ne_eq, xnt, if_false, hlv]
 refine Test.split (fun hlt => ?_) (fun hlt => ?_)
 · have hlt' : i < ss.length := by simpa using hlt
   have hget : ((mkSS k ss).take i ++ ss.drop i)[i]? = some ss[i] := by
     rw [List.getElem?_append_right (by simp; omega)]
     simp [hlen, Nat.min_eq_left (Nat.le_of_lt hlt')]
   have hle := len_le_tot hlt'
   have htk := tot_take_succ hlt'
   obtain ⟨s1, c, g1, g2, g3⟩ := hv.el i _ hget
   have hcr := hv.rngs c (List.mem_of_getElem? g2)
   have i1 := Vec.iad hv.vec .i64 (show i < _ by omega)
   rw [Nat.mul_one] at i1
   have i2 := Vec.cell hv.vec g1
   refine s_skip1 ?_
   simp +decide only [pqn]
   refine s_block ?_
   refine s_reg1 ?_
   simp only [o_pure, o_callF, POp.ev, Opd.ev, gv, setD, List.map, xsj, xel, load1V, i1, i2]
   refine (markTermS_ok lim c s1 _ _ H' (by omega) g3 (by omega) (by omega) (by omega)).mono ?_
   rintro _ H2 ⟨rfl, m1, m2, m3⟩
   simp only [o_cont, o_pure, o_nil, POp.ev, Opd.ev, gv, setD, List.set, xsj, xel]
   simp +decide only [pqn, pbn]
   refine s_reg1 ?_
   simp only [o_pure, o_nil, POp.ev, Opd.ev, gv, setD, List.set, xsj, xel, binV, ne_eq, xnt, if_false, add1 (i := i) (by omega)]
   simp +decide only [pqn]
   refine Round.mk (j - 1) (by omega) ⟨i + 1, by omega, ?_, hc.trans (Out.of_chg m2 hcr.1 hcr.2), by omega, by rw [htk]; congr 3; push_cast; omega⟩
   have := hv.upd (show i < _ by omega) g1 g2 m2 m1
   have hset : ((mkSS k ss).take i ++ ss.drop i).set i (mkT (k + 4 * tot (ss.take i)) ss[i].length) = (mkSS k ss).take (i + 1) ++ ss.drop (i + 1) := by
     have e0 : i - ((mkSS k ss).take i).length = 0 := by simp [hlen]; omega
     rw [List.set_append_right _ _ (by simp [hlen]; omega), e0, List.drop_eq_getElem_cons hlt', List.set_cons_zero, List.take_add_one, mkSS_get k _ _ hlt']
     simp
   rw [← hset]
   exact this
 · have hge : i = ss.length := by simp at hlt; omega
   subst hge
   refine s_exit1 ?_
   simp +decide only [pqn, pqe, pbe, reduceIte]
   refine s_reg ?_
   simp only [o_pure, o_nil, POp.ev, Opd.ev, gv, setD, List.set, xsj, xel]
   refine s_ret1 ?_
   simp +decide only [pfr, resV, resOne, gv, xsj, xel]
   rw [List.drop_length, List.append_nil, List.take_of_length_le (by omega)] at hv
   rw [List.take_length]
   exact ⟨rfl, .inr ⟨b, vs, bs, hv⟩, hc, hnx⟩
structure LaidX (H : AHeap) (lo hi b : Nat) (vs fs : List Value) (bs : List Nat) (v : Value) (ss : List (List Tm)) (bare : Bool) : Prop where
 v : v = .slice (some ⟨b, 0, some 0⟩) ss.length (ss.length + roomN ss.length)
 vec : Vec H b (.slice (some ⟨b, 0, some 0⟩) (ss.length + roomN ss.length) (ss.length + roomN ss.length)) (ss.length + roomN ss.length) 1 (vs ++ fs)
 vlen : vs.length = ss.length
 len : bs.length = ss.length
 rng : lo ≤ b ∧ b < hi
 nodup : bare = false → bs.Nodup
 nin : b ∉ bs
 rngs : bare = false → ∀ c ∈ bs, lo ≤ c ∧ c < hi
 el : ∀ (i : Nat) (p : List Tm), ss[i]? = some p → ∃ s c, vs[i]? = some s ∧ bs[i]? = some c ∧ CopyT H c s p bare
 fil : ∀ f ∈ fs, SlT H f [filT]
def LaidSS (H : AHeap) (lo hi : Nat) (v : Value) (ss : List (List Tm)) (bare : Bool) : Prop := (bare = true ∧ v = .slice none 0 0 ∧ ss = []) ∨ ∃ b vs fs bs, LaidX H lo hi b vs fs bs v ss bare
theorem LaidX.short {H : AHeap} {lo hi b : Nat} {vs fs : List Value} {bs : List Nat} {v : Value} {ss : List (List Tm)} {bare : Bool} (h : LaidX H lo hi b vs fs bs v ss bare) : Vec H b v ss.length 1 vs := by
 obtain ⟨rfl, hv, hl, _⟩ := h
 rcases hv with ⟨h1, _⟩ | ⟨c, sp, rest, h1, h2, h3, h4, h5, h6, h7⟩
 · cases h1
 · simp only [Value.slice.injEq, xsj, Addr.mk.injEq, true_and] at h1
   obtain ⟨rfl, rfl⟩ := h1
   exact .inr ⟨_, _, fs ++ rest, rfl, .inl rfl, h3, by rw [h4, List.append_assoc], by omega, by omega, by
     have e1 : (vs ++ fs).length = vs.length + fs.length := List.length_append
     rw [List.length_append]; omega⟩
theorem LaidX.slss {H : AHeap} {lo hi b : Nat} {vs fs : List Value} {bs : List Nat} {v : Value} {ss : List (List Tm)} {bare : Bool} (h : LaidX H lo hi b vs fs bs v ss bare) : SlSS H v ss := by
 refine ⟨vs, h.short.sl, fun i p hp => ?_⟩
 obtain ⟨s, c, g1, g2, g3⟩ := h.el i p hp
 exact ⟨s, g1, Vec.sl g3.vec⟩
theorem LaidX.own {H : AHeap} {lo hi b : Nat} {vs fs : List Value} {bs : List Nat} {v : Value} {ss : List (List Tm)} (h : LaidX H lo hi b vs fs bs v ss false) : OwnX H lo hi b vs bs v ss := by
 refine ⟨h.short, h.len, h.rng, h.nodup rfl, h.nin, h.rngs rfl, fun i p hp => ?_⟩
 obtain ⟨s, c, g1, g2, g3⟩ := h.el i p hp
 exact ⟨s, c, g1, g2, g3.vec⟩
theorem LaidX.ext {H H' : AHeap} {lo hi b : Nat} {vs fs : List Value} {bs : List Nat} {v : Value} {ss : List (List Tm)} {bare : Bool} (h : LaidX H lo hi b vs fs bs v ss bare) (hx : Ext H H') : LaidX H' lo hi b vs fs bs v ss bare := by
 refine ⟨h.v, h.vec.ext hx, h.vlen, h.len, h.rng, h.nodup, h.nin, h.rngs, fun i p hp => ?_, fun f hf => (h.fil f hf).ext hx⟩
 obtain ⟨s, c, g1, g2, g3⟩ := h.el i p hp
 exact ⟨s, c, g1, g2, g3.ext hx⟩
theorem LaidSS.slss {H : AHeap} {lo hi : Nat} {v : Value} {ss : List (List Tm)} {bare : Bool} (h : LaidSS H lo hi v ss bare) : SlSS H v ss := by
 rcases h with ⟨_, rfl, rfl⟩ | ⟨b, vs, fs, bs, h⟩
 · exact SlSS.nil _
 · exact h.slss
theorem LaidSS.ext {H H' : AHeap} {lo hi : Nat} {v : Value} {ss : List (List Tm)} {bare : Bool} (h : LaidSS H lo hi v ss bare) (hx : Ext H H') : LaidSS H' lo hi v ss bare := by
 rcases h with h | ⟨b, vs, fs, bs, h⟩
 · exact .inl h
 · exact .inr ⟨b, vs, fs, bs, h.ext hx⟩
theorem LaidSS.own {H : AHeap} {lo hi : Nat} {v : Value} {ss : List (List Tm)} (h : LaidSS H lo hi v ss false) : OwnSS H lo hi v ss := by
 rcases h with ⟨h, _⟩ | ⟨b, vs, fs, bs, h⟩
 · cases h
 · exact .inr ⟨b, vs, bs, h.own⟩
theorem bsliceT (H : AHeap) (t : Tm) : bsliceH H 1 [.int .i64 0, .int .i64 0, .int .i64 0, .int .i64 0] [(0, 4, tv t)] = some (.slice (some ⟨H.next, 0, some 0⟩) 1 1, H.alloc (tc t)) := by
 simp [bsliceH, fillV, cells_tv, tc]
theorem sl_one (H : AHeap) (t : Tm) : SlT (H.alloc (tc t)) (.slice (some ⟨H.next, 0, some 0⟩) 1 1) [t] := by
 have := Vec.lit (H := H) (n := 1) (sz := 4) (cells := tc t) rfl
 have h2 := Vec.sl this
 have e : tcs [t] = tc t := by simp [tcs]
 unfold SlT
 rw [e]
 exact h2
theorem setApp {α : Type} {vs : List α} {z x : α} {i m : Nat} (h : vs.length = i) (hi : i < m) : (vs ++ List.replicate (m - i) z).set i x = (vs ++ [x]) ++ List.replicate (m - (i + 1)) z := by
 have e1 : m - i = (m - (i + 1)) + 1 := by omega
 rw [e1, List.replicate_succ, List.set_append_right _ _ (by omega), h, Nat.sub_self, List.set_cons_zero]
 simp
theorem zerosN : ∀ n, zerosL n [.slice none 0 0] = List.replicate n (.slice none 0 0) := fun n => zerosL_one n _
theorem toTermSS_ok (lim : Nat) (s : Value) (ss : List (List Tm)) (bare : Bool) (H : AHeap) (hl : lim ≤ H.next) (hs : SlSS H s ss) (hn : ss.length ≤ 1000000) (hn2 : ∀ p ∈ ss, p.length ≤ 1000000) :
   ACalls Tryz.prog lim n_laws_toTermSS [s, .bool bare] H fun v H' => LaidSS H' H.next H'.next v ss bare ∧ Ext H H' := by
 refine is_laws_toTermSS.go rfl ?_
 unfold c_laws_toTermSS
 refine s_reg ?_
 simp only [o_pure, o_nil, POp.ev, Opd.ev, env0, gu, setD, List.set, xsj, xel]
 have hR := roomN_le ss.length
 refine s_test_cut (decide (bare = true ∧ ss.length = 0)) [s, .bool bare, .slice none 0 0, undef, undef, undef] H ?_ (fun h => ?_) (fun h => ?_)
 · cases bare
   · simp only [o_pure, o_guard, gk_ft, o_nil, POp.ev, Opd.ev, gv, setD, xsj, xel, pickV, Bool.false_eq_true]
     simp
   · simp only [o_pure, o_guard, gk_tt, o_nil, POp.ev, Opd.ev, gv, setD, xsj, xel, pickV, binV, ne_eq, xnt, if_false, hs.lenV]
     simp [nat_eq0]
 · refine s_reg ?_
   simp only [o_pure, o_nil, POp.ev, Opd.ev, setD, List.set, xsj, xel]
   refine s_ret1 ?_
   simp +decide only [pqr, pfr, resV, resOne, gv, xsj, xel]
   simp only [decide_eq_true_eq] at h
   exact ⟨.inl ⟨h.1, rfl, List.length_eq_zero_iff.1 h.2⟩, Ext.refl _⟩
 · refine s_skip1 ?_
   simp +decide only [pqn]
   refine s_reg ?_
   simp only [o_pure, o_callF, POp.ev, Opd.ev, gv, setD, List.map, xsj, xel, hs.lenV]
   refine (roomBehind_ok _ _ _).eq ?_
   have w1 := addN (i := ss.length) (j := roomN ss.length) (by omega)
   simp only [o_cont, o_pure, o_eff, o_nil, POp.ev, Opd.ev, EOp.ev, gv, setD, List.set, xsj, xel, binV, ne_eq, xnt, if_false, w1, mkslice_int 24 (ss.length + roomN ss.length) (ss.length + roomN ss.length) [.slice none 0 0] (Nat.le_refl _) (by omega) (by omega), zerosN]
   have hv0 : Vec (H.alloc (List.replicate (ss.length + roomN ss.length) (Value.slice none 0 0))) H.next (.slice (some ⟨H.next, 0, some 0⟩) (ss.length + roomN ss.length) (ss.length + roomN ss.length)) (ss.length + roomN ss.length) 1 (List.replicate (ss.length + roomN ss.length) (Value.slice none 0 0)) := Vec.lit (by simp)
   have hx0 := Ext.alloc H (List.replicate (ss.length + roomN ss.length) (Value.slice none 0 0))
   have hn0 : (H.alloc (List.replicate (ss.length + roomN ss.length) (Value.slice none 0 0))).next = H.next + 1 := rfl
   generalize H.alloc (List.replicate (ss.length + roomN ss.length) (Value.slice none 0 0)) = H1 at hv0 hx0 hn0 ⊢
   generalize hN : ss.length + roomN ss.length = N at *
   refine s_assoc (s_reg ?_)
   simp only [o_pure, o_nil, POp.ev, Opd.ev, setD, List.set, xsj, xel]
   refine s_block ?_
   refine s_loop1 (fun k e' H' => ∃ (i : Nat) (vs : List Value) (bs : List Nat), i + k = ss.length ∧ vs.length = i ∧ bs.length = i ∧ Vec H' H.next (.slice (some ⟨H.next, 0, some 0⟩) N N) N 1 (vs ++ List.replicate (N - i) (.slice none 0 0)) ∧
     (bare = false → bs.Nodup) ∧ (∀ c ∈ bs, H.next < c) ∧ (bare = false → ∀ c ∈ bs, c < H'.next) ∧ (∀ (j : Nat) (p : List Tm), (ss.take i)[j]? = some p → ∃ s c, vs[j]? = some s ∧ bs[j]? = some c ∧ CopyT H' c s p bare) ∧
     Ext H H' ∧ H.next < H'.next ∧ e' = [s, .bool bare, .slice none 0 0, .slice (some ⟨H.next, 0, some 0⟩) N N, .int .i64 i, undef]) ss.length
     ⟨0, [], [], by omega, rfl, rfl, by simpa using hv0, fun _ => List.nodup_nil, (by intro c hc; simp at hc), (by intro _ c hc; simp at hc), (by intro j p hp; simp at hp), hx0, by omega, rfl⟩ ?_
   clear hv0 hx0 hn0
   rintro k e' H' ⟨i, vs, bs, hik, hvl, hbl, hv, hnd, hgt, hltb, hel, hx, hlt0, rfl⟩
   refine s_test ?_
   simp only [o_pure, o_nil, POp.ev, Opd.ev, gv, setD, xsj, xel, binV, ne_eq, xnt, if_false, hs.lenV]
   refine Test.split (fun hlt => ?_) (fun hlt => ?_)
   · have hlt' : i < ss.length := by simpa using hlt
     refine s_skip1 ?_
     simp +decide only [pqn]
     refine s_block ?_
     refine s_reg1 ?_
     obtain ⟨bb, o, s1, h1, h2, h3⟩ := (hs.ext hx).at hlt'
     simp only [o_pure, o_callF, POp.ev, Opd.ev, gv, setD, List.map, xsj, xel, load1V, h1, h2]
     refine (toTermS_ok lim s1 _ bare _ (by omega) h3 (hn2 _ (List.getElem_mem hlt'))).mono ?_
     rintro s2 H2 ⟨⟨c, hc1, hc2, hcp⟩, hx2⟩
     replace hv := Vec.ext hv hx2
     have hcv : cellsV s2 = some [s2] := Vec.cellsV hcp.vec
     obtain ⟨cs, g1, g2⟩ := hv.put1 (lim := lim) (by omega) hcv (show i < N by omega)
     rw [setApp hvl (by omega)] at g2
     have i1 := Vec.iad hv .i64 (show i < N by omega)
     rw [Nat.mul_one] at i1
     have hn2' := hx2.next
     simp only [o_cont, o_pure, o_eff, o_nil, POp.ev, Opd.ev, EOp.ev, gv, setD, xsj, xel, i1, g1]
     simp +decide only [pqn, pbn]
     refine s_reg1 ?_
     simp only [o_pure, o_nil, POp.ev, Opd.ev, gv, setD, List.set, xsj, xel, binV, ne_eq, xnt, if_false, add1 (i := i) (by omega)]
     simp +decide only [pqn]
     have hnn : (H2.put H.next cs).next = H2.next := rfl
     have htk : ss.take (i + 1) = ss.take i ++ [ss[i]] := by rw [List.take_add_one, List.getElem?_eq_getElem hlt']; rfl
     refine Round.mk (k - 1) (by omega) ⟨i + 1, vs ++ [s2], bs ++ [c], by omega, by simp [hvl], by simp [hbl], g2, fun hb => ?_, fun c' hc' => ?_, fun hb c' hc' => ?_, fun j p hp => ?_, Chg.ext (hx.trans hx2) (Chg.put _ _ _) (Nat.le_refl _), by omega, rfl⟩
     · refine List.nodup_append.2 ⟨hnd hb, by simp, ?_⟩
       intro x hx' y hy
       simp at hy
       subst hy
       have := hltb hb x hx'
       omega
     · rcases List.mem_append.1 hc' with h | h
       · exact hgt c' h
       · simp at h; omega
     · rcases List.mem_append.1 hc' with h | h
       · have := hltb hb c' h; omega
       · simp at h
         subst h
         subst hb
         rcases hcp with ⟨h, _⟩ | h
         · cases h
         · rw [hnn]; exact h.lt
     · rw [htk] at hp
       by_cases hj : j < i
       · rw [List.getElem?_append_left (by simp; omega)] at hp
         obtain ⟨s', c', q1, q2, q3⟩ := hel j p hp
         have hm := hgt c' (List.mem_of_getElem? q2)
         exact ⟨s', c', by rw [List.getElem?_append_left (by omega)]; exact q1, by rw [List.getElem?_append_left (by omega)]; exact q2, (q3.ext hx2).chg (Chg.put _ _ _) (by omega)⟩
       · rw [List.getElem?_append_right (by simp; omega)] at hp
         have hji : j = i := by
           have := (List.getElem?_eq_some_iff.1 hp).1
           simp at this; omega
         subst hji
         simp [Nat.min_eq_left (Nat.le_of_lt hlt')] at hp
         subst hp
         exact ⟨s2, c, by rw [List.getElem?_append_right (by omega)]; simp [hvl], by rw [List.getElem?_append_right (by omega)]; simp [hbl], hcp.chg (Chg.put _ _ _) (by omega)⟩
   · have hge : i = ss.length := by simp at hlt; omega
     subst hge
     rw [List.take_length] at hel
     refine s_exit1 ?_
     simp +decide only [pqn, pqe, pbe, reduceIte]
     refine s_assoc (s_reg ?_)
     simp only [o_pure, o_nil, POp.ev, Opd.ev, gv, setD, List.set, xsj, xel, hs.lenV]
     refine s_block ?_
     refine s_loop1 (fun k e' H' => ∃ (i : Nat) (fs : List Value), ss.length ≤ i ∧ i + k = N ∧ ss.length + fs.length = i ∧ Vec H' H.next (.slice (some ⟨H.next, 0, some 0⟩) N N) N 1 ((vs ++ fs) ++ List.replicate (N - i) (.slice none 0 0)) ∧
       (bare = false → ∀ c ∈ bs, c < H'.next) ∧ (∀ (j : Nat) (p : List Tm), ss[j]? = some p → ∃ s c, vs[j]? = some s ∧ bs[j]? = some c ∧ CopyT H' c s p bare) ∧ (∀ f ∈ fs, SlT H' f [filT] ∧ ∃ c, H.next < c ∧ f = .slice (some ⟨c, 0, some 0⟩) 1 1) ∧
       Ext H H' ∧ H.next < H'.next ∧ e' = [s, .bool bare, .slice none 0 0, .slice (some ⟨H.next, 0, some 0⟩) N N, .int .i64 ss.length, .int .i64 i]) (N - ss.length)
       ⟨ss.length, [], by omega, by omega, by simp, by simpa using hv, hltb, hel, (by intro f hf; simp at hf), hx, hlt0, rfl⟩ ?_
     clear hv hx hlt0 hltb hel
     rintro k e' H' ⟨i, fs, hli, hik, hfl, hv, hltb, hel, hfil, hx, hlt0, rfl⟩
     refine s_test ?_
     simp only [o_pure, o_nil, POp.ev, Opd.ev, gv, setD, xsj, xel, binV, ne_eq, xnt, if_false, lenV]
     refine Test.split (fun hlt => ?_) (fun hlt => ?_)
     · have hlt' : i < N := by simp at hlt; omega
       refine s_skip1 ?_
       simp +decide only [pqn]
       refine s_block ?_
       refine s_reg1 ?_
       simp only [o_pure, o_callF, POp.ev, Opd.ev, gv, setD, List.map, xsj, xel]
       refine (filler_ok _ _ (by omega)).mono ?_
       rintro _ H2 ⟨rfl, hx2⟩
       have hx3 := Ext.alloc H2 (tc filT)
       have hsl := sl_one H2 filT
       have hn3 : (H2.alloc (tc filT)).next = H2.next + 1 := rfl
       have hn2' := hx2.next
       replace hx2 := hx2.trans hx3
       simp only [o_cont, o_pure, o_eff, o_nil, POp.ev, Opd.ev, EOp.ev, gv, setD, List.map, xsj, xel, bsliceT]
       generalize hq : H2.next = q at *
       generalize H2.alloc (tc filT) = H3 at hx2 hx3 hsl hn3 ⊢
       replace hv := Vec.ext hv hx2
       obtain ⟨cs, g1, g2⟩ := hv.put1 (lim := lim) (by omega) (x := .slice (some ⟨q, 0, some 0⟩) 1 1) rfl (show i < N by omega)
       rw [setApp (by simp; omega) (by omega)] at g2
       have i1 := Vec.iad hv .i64 (show i < N by omega)
       rw [Nat.mul_one] at i1
       simp only [xsj, xel, i1, g1]
       simp +decide only [pqn, pbn]
       refine s_reg1 ?_
       simp only [o_pure, o_nil, POp.ev, Opd.ev, gv, setD, List.set, xsj, xel, binV, ne_eq, xnt, if_false, add1 (i := i) (by omega)]
       simp +decide only [pqn]
       have hnn : (H3.put H.next cs).next = H3.next := rfl
       have keepF : ∀ f c, f = Value.slice (some ⟨c, 0, some 0⟩) 1 1 → H.next < c → SlT H3 f [filT] → SlT (H3.put H.next cs) f [filT] := by
         rintro f c rfl hc ⟨h0, a, cap, h1, h2, h3, h4, h5⟩
         refine ⟨h0, a, cap, h1, h2, h3, h4, fun hne => ?_⟩
         obtain ⟨b', o', sp', pre, post, e1, e2, e3⟩ := h5 hne
         subst e1
         cases h1
         exact ⟨_, _, _, pre, post, rfl, by rw [put_ne _ _ (by omega)]; exact e2, e3⟩
       refine Round.mk (k - 1) (by omega) ⟨i + 1, fs ++ [.slice (some ⟨q, 0, some 0⟩) 1 1], by omega, by omega, by simp; omega, by simpa using g2, fun hb c hc => by have := hltb hb c hc; omega, fun j p hp => ?_, fun f hf => ?_, Chg.ext (hx.trans hx2) (Chg.put _ _ _) (Nat.le_refl _), by omega, rfl⟩
       · obtain ⟨s', c', q1, q2, q3⟩ := hel j p hp
         have hm := hgt c' (List.mem_of_getElem? q2)
         exact ⟨s', c', q1, q2, (q3.ext hx2).chg (Chg.put _ _ _) (by omega)⟩
       · rcases List.mem_append.1 hf with h | h
         · obtain ⟨f1, c, f2, f3⟩ := hfil f h
           exact ⟨keepF f c f3 f2 (f1.ext hx2), c, f2, f3⟩
         · simp at h
           subst h
           exact ⟨keepF _ q rfl (by omega) hsl, q, by omega, rfl⟩
     · have hge : i = N := by simp at hlt; omega
       subst hge
       refine s_exit1 ?_
       simp +decide only [pqn, pqe, pbe, reduceIte]
       refine s_reg ?_
       simp only [o_pure, o_nil, POp.ev, Opd.ev, gv, setD, List.set, Option.map_none, xms, xsj, xel, hs.lenV, slc_to .i64 (show ss.length ≤ i by omega)]
       refine s_ret1 ?_
       simp +decide only [pfr, resV, resOne, gv, xsj, xel]
       rw [Nat.sub_self, List.replicate_zero, List.append_nil] at hv
       refine ⟨.inr ⟨H.next, vs, fs, bs, by rw [hN], by rw [hN]; exact hv, hvl, hbl, ⟨Nat.le_refl _, by omega⟩, hnd, fun h => Nat.lt_irrefl _ (hgt _ h), fun hb c hc => ⟨Nat.le_of_lt (hgt c hc), hltb hb c hc⟩, hel, fun f hf => (hfil f hf).1⟩, hx⟩
theorem intactTermSS_ok (lim lo hi lo' hi' b b' : Nat) (vs fs vs' fs' : List Value) (bs bs' : List Nat) (s t : Value) (ss : List (List Tm)) (H : AHeap) (hs : LaidX H lo hi b vs fs bs s ss false) (ht : LaidX H lo' hi' b' vs' fs' bs' t ss false) (hn : ss.length ≤ 1000000) (hn2 : ∀ p ∈ ss, p.length ≤ 1000000) :
   ACalls Tryz.prog lim n_laws_intactTermSS [s, t] H fun v H' => v = .bool true ∧ Ext H H' := by
 have hls := hs.slss.lenV
 have hlt0 := ht.slss.lenV
 have hR := roomN_le ss.length
 have w1 := addN (i := ss.length) (j := roomN ss.length) (by omega)
 have hne : ((ss.length : Int) != (ss.length : Int)) = false := by simp
 refine is_laws_intactTermSS.go rfl ?_
 unfold c_laws_intactTermSS
 refine s_reg ?_
 simp only [o_pure, o_nil, POp.ev, Opd.ev, env0, gu, setD, List.set, xsj, xel]
 refine s_reg ?_
 simp only [o_pure, o_callF, POp.ev, Opd.ev, gv, setD, List.map, xsj, xel, hlt0]
 refine (roomBehind_ok _ _ _).eq ?_
 simp only [o_cont, o_pure, o_nil, POp.ev, Opd.ev, gv, setD, List.set, xsj, xel, binV, ne_eq, xnt, if_false, w1]
 refine s_test ?_
 simp only [o_pure, o_nil, POp.ev, Opd.ev, gv, setD, xsj, xel, binV, ne_eq, xnt, if_false, hls, hlt0, hne]
 refine Test.false_ (s_skip1 ?_)
 simp +decide only [pqn]
 refine s_assoc (s_reg ?_)
 simp only [o_pure, o_nil, POp.ev, Opd.ev, setD, List.set, xsj, xel]
 refine s_block ?_
 refine s_loop1 (fun k e' H' => ∃ i, i + k = ss.length ∧ Ext H H' ∧ e' = [s, t, .bool false, .int .i64 ((ss.length + roomN ss.length : Nat) : Int), .int .i64 i]) ss.length ⟨0, by omega, Ext.refl _, rfl⟩ ?_
 rintro k e' H' ⟨i, hik, hx, rfl⟩
 have hs' := hs.ext hx
 have ht' := ht.ext hx
 refine s_test ?_
 simp only [o_pure, o_nil, POp.ev, Opd.ev, gv, setD, xsj, xel, binV, ne_eq, xnt, if_false, hlt0]
 refine Test.split (fun hlt => ?_) (fun hlt => ?_)
 · have hlt' : i < ss.length := by simpa using hlt
   obtain ⟨s1, c1, g1, g2, g3⟩ := hs'.el i _ (List.getElem?_eq_getElem hlt')
   obtain ⟨s2, c2, k1, k2, k3⟩ := ht'.el i _ (List.getElem?_eq_getElem hlt')
   have g4 : LaidT H' c1 s1 ss[i] := by
     rcases g3 with ⟨h, _⟩ | h
     · cases h
     · exact h
   have k4 : LaidT H' c2 s2 ss[i] := by
     rcases k3 with ⟨h, _⟩ | h
     · cases h
     · exact h
   have a1 := Vec.iad hs'.short .i64 hlt'
   have a2 := Vec.iad ht'.short .i64 hlt'
   rw [Nat.mul_one] at a1 a2
   have l1 := Vec.cell hs'.short g1
   have l2 := Vec.cell ht'.short k1
   refine s_skip1 ?_
   simp +decide only [pqn]
   refine s_block ?_
   refine s_test1 ?_
   simp only [o_pure, o_callF, POp.ev, Opd.ev, gv, setD, List.map, xsj, xel, load1V, a1, l1, a2, l2]
   refine (intactTermS_ok _ _ _ _ _ _ _ g4 k4 (hn2 _ (List.getElem_mem hlt'))).mono ?_
   rintro _ H2 ⟨rfl, hx2⟩
   simp only [o_cont, o_pure, o_nil, POp.ev, Opd.ev, gv, setD, xsj, xel, unV, Bool.not_true]
   refine Test.false_ (s_skip1 ?_)
   simp +decide only [pqn, pbn]
   refine s_reg1 ?_
   simp only [o_pure, o_nil, POp.ev, Opd.ev, gv, setD, List.set, xsj, xel, binV, ne_eq, xnt, if_false, add1 (i := i) (by omega)]
   simp +decide only [pqn]
   exact Round.mk (k - 1) (by omega) ⟨i + 1, by omega, hx.trans hx2, rfl⟩
 · refine s_exit1 ?_
   simp +decide only [pqn, pqe, pbe, reduceIte]
   have part : ∀ {lo hi b : Nat} {vs fs : List Value} {bs : List Nat} {v : Value}, LaidX H' lo hi b vs fs bs v ss false → ∃ u, slcV 1 v (some (.int .i64 ss.length)) (some (.int .i64 ((ss.length + roomN ss.length : Nat) : Int))) none = some u ∧ SlSS H' u (List.replicate (roomN ss.length) [filT]) := by
     intro lo hi b vs fs bs v h
     obtain ⟨rfl, hv, hvl, _, _, _, _, _, _, hf⟩ := h
     obtain ⟨u, u1, u2⟩ := hv.sl.slc (i := ss.length) (j := ss.length + roomN ss.length) (lo := some (.int .i64 ss.length)) (hi := some (.int .i64 ((ss.length + roomN ss.length : Nat) : Int))) (by omega) (Nat.le_refl _) (.inr ⟨.i64, rfl⟩) (.inr ⟨.i64, rfl⟩)
     have hfl : fs.length = roomN ss.length := by
       have := hv.clen
       rw [List.length_append] at this
       omega
     refine ⟨u, by rw [← u1]; rfl, fs, ?_, fun i p hp => ?_⟩
     · have e : ss.length + roomN ss.length - ss.length = roomN ss.length := by omega
       rw [e, Nat.mul_one, Nat.mul_one, List.drop_append, List.drop_of_length_le (by omega), List.nil_append, hvl, Nat.sub_self, List.drop_zero, List.take_of_length_le (by omega)] at u2
       simpa using u2
     · rw [List.getElem?_replicate] at hp
       split at hp
       · rename_i hi
         cases hp
         exact ⟨fs[i]'(by omega), List.getElem?_eq_getElem (by omega), hf _ (List.getElem_mem _)⟩
       · cases hp
   obtain ⟨u1, p1, p2⟩ := part hs'
   obtain ⟨u2, q1, q2⟩ := part ht'
   refine s_reg ?_
   simp only [o_pure, o_callF, POp.ev, Opd.ev, gv, setD, List.map, Option.map_none, xms, xsj, xel, hlt0, p1, q1]
   refine (eqTermSS_ok _ _ _ _ _ p2 q2 (by simp; omega) (by intro p hp; simp at hp; simp [hp.2])).mono ?_
   rintro _ H2 ⟨rfl, hx2⟩
   simp only [o_cont, o_pure, o_nil, POp.ev, Opd.ev, gv, setD, List.set, xsj, xel]
   refine s_ret1 ?_
   simp +decide only [pfr, resV, resOne, gv, xsj, xel]
   exact ⟨trivial, hx.trans hx2⟩
end Go.Proofs.YtagocdkcnajiiaaGreat
/- Systems of polynomials, part 5 of the walk: the specification's tests on terms, polynomials and systems; no condition beyond stated lengths. -/
namespace Go.Ab
theorem s_test1_I {P : Program} {lim : Nat} {Q : Post} {e : List Value} {H : AHeap} {ops : List AOper} (g : Bool) (I : AHeap → Prop) {o : Opd} {x y : ACode} (h : awpOps P lim ops (fun e' t' H' => o.ev e' t' = .bool g ∧ e' = e ∧ I H') e [] H)
   (h1 : ∀ H', I H' → g = true → awp P lim x Q e H') (h2 : ∀ H', I H' → g = false → awp P lim y Q e H') : awp P lim (.test ops o x y) Q e H := by
 refine s_test1 (awpOps.mono ?_ h)
 rintro e' t' H' ⟨h3, rfl, h4⟩
 rw [h3]
 exact Test.split (h1 H' h4) (h2 H' h4)
end Go.Ab
namespace Go.Proofs.YtagocdkcnajiiaaGreat
open Go.Ab
set_option linter.unusedSimpArgs false
set_option linter.unusedVariables false
theorem l1In_ok (lim : Nat) (a b c : Int) (H : AHeap) : ACalls Tryz.prog lim n_spec_l1In [.int .i64 a, .int .i64 b, .int .i64 c] H fun v H' => v = .bool (decide (b ≤ a) && decide (a ≤ c)) ∧ H' = H := by
 refine is_spec_l1In.go rfl ?_
 unfold c_spec_l1In
 refine s_reg ?_
 simp only [o_pure, o_nil, POp.ev, Opd.ev, env0, gu, setD, List.set, xsj, xel]
 refine s_reg ?_
 have e1 : (a ≥ b) = (b ≤ a) := rfl
 cases h1 : decide (b ≤ a)
 · simp only [o_pure, o_guard, gk_ft, o_nil, POp.ev, Opd.ev, gv, setD, List.set, xsj, xel, pickV, binV, ne_eq, xnt, if_false, e1, h1]
   refine s_ret1 ?_
   simp +decide only [pfr, resV, resOne, gv, xsj, xel]
   simp
 · simp only [o_pure, o_guard, gk_tt, o_nil, POp.ev, Opd.ev, gv, setD, List.set, xsj, xel, pickV, binV, ne_eq, xnt, if_false, e1, h1]
   refine s_ret1 ?_
   simp +decide only [pfr, resV, resOne, gv, xsj, xel]
   simp
structure BoxT (H H1 : AHeap) (p : Nat) (t : Tm) : Prop where
 ext : Ext H H1
 ge : H.next ≤ p
 lt : p < H1.next
 blk : H1.blk p = some (tc t)
theorem BoxT.mk' (H : AHeap) (t : Tm) : BoxT H (H.alloc (tc t)) H.next t := ⟨Ext.alloc _ _, Nat.le_refl _, Nat.lt_succ_self _, alloc_new _ _⟩
theorem BoxT.mono {H H1 H2 : AHeap} {p : Nat} {t : Tm} (h : BoxT H H1 p t) (hx : Ext H1 H2) : BoxT H H2 p t := ⟨h.ext.trans hx, h.ge, Nat.lt_of_lt_of_le h.lt hx.next, by rw [hx.blk _ h.lt]; exact h.blk⟩
theorem BoxT.c0 {H H1 : AHeap} {p : Nat} {t : Tm} (h : BoxT H H1 p t) : H1.cell p 0 = some (vi t.c) := cell_blk h.blk 0
theorem BoxT.c1 {H H1 : AHeap} {p : Nat} {t : Tm} (h : BoxT H H1 p t) : H1.cell p 1 = some (vi t.x) := cell_blk h.blk 1
theorem BoxT.c2 {H H1 : AHeap} {p : Nat} {t : Tm} (h : BoxT H H1 p t) : H1.cell p 2 = some (vi t.y) := cell_blk h.blk 2
theorem BoxT.c3 {H H1 : AHeap} {p : Nat} {t : Tm} (h : BoxT H H1 p t) : H1.cell p 3 = some (vi t.z) := cell_blk h.blk 3
theorem BoxT.all {H H1 : AHeap} {p : Nat} {t : Tm} (h : BoxT H H1 p t) : loadNV H1 4 (.pointer (some ⟨p, 0, none⟩)) = some (tv t) := load4 h.blk
theorem boxT (H : AHeap) (t : Tm) : boxH H (tv t) = some (.pointer (some ⟨H.next, 0, none⟩), H.alloc (tc t)) := rfl
theorem store4_new {lim : Nat} {H : AHeap} {p q r s : Value} {t : Tm} (hl : lim ≤ H.next) : storeH lim (H.alloc [p, q, r, s]) 4 (.pointer (some ⟨H.next, 0, none⟩)) (tv t) = some (undef, H.alloc (tc t)) := by
 unfold tv
 rw [store4 hl (alloc_new _ _), alloc_put]
 rfl
def okTm (t : Tm) : Bool := ((((decide (-1000 ≤ t.c) && decide (t.c ≤ 1000)) && (decide (0 ≤ t.x) && decide (t.x ≤ 4))) && (decide (0 ≤ t.y) && decide (t.y ≤ 4))) && (decide (0 ≤ t.z) && decide (t.z ≤ 4))) && decide (t.x + t.y + t.z ≤ 4)
theorem okTm_b {t : Tm} (h : okTm t = true) : -1000 ≤ t.c ∧ t.c ≤ 1000 ∧ 0 ≤ t.x ∧ t.x ≤ 4 ∧ 0 ≤ t.y ∧ t.y ≤ 4 ∧ 0 ≤ t.z ∧ t.z ≤ 4 := by
 simp only [okTm, Bool.and_eq_true, decide_eq_true_eq] at h
 omega
theorem poTerm_ok (lim : Nat) (t : Tm) (H : AHeap) : ACalls Tryz.prog lim n_spec_poTerm [tv t] H fun v H' => v = .bool (okTm t) ∧ Ext H H' := by
 refine is_spec_poTerm.go rfl ?_
 unfold c_spec_poTerm
 refine s_reg ?_
 simp only [o_pure, o_eff, o_nil, POp.ev, Opd.ev, EOp.ev, env0, gu, gv, setD, List.set, xsj, xel, boxT]
 have hB := BoxT.mk' H t
 generalize H.alloc (tc t) = H1 at hB ⊢
 generalize H.next = p at hB ⊢
 have hx := hB.ext
 refine s_reg ?_
 simp only [o_pure, o_callF, POp.ev, Opd.ev, gv, setD, List.map, xsj, xel, load1V, fadV, Nat.zero_add, hB.c0]
 refine (l1In_ok _ _ _ _ _).eq ?_
 unfold okTm
 cases h1 : decide (-1000 ≤ t.c) && decide (t.c ≤ 1000)
 · simp only [o_cont, o_pure, o_guard, gk_ft, o_nil, POp.ev, Opd.ev, gv, setD, List.set, xsj, xel, pickV]
   refine s_ret1 ?_
   simp +decide only [pfr, resV, resOne, gv, xsj, xel]
   exact ⟨by simp, hx⟩
 simp only [o_cont, o_pure, o_callF, o_guard, gk_tt, POp.ev, Opd.ev, gv, setD, List.map, xsj, xel, load1V, fadV, Nat.zero_add, hB.c1]
 refine (l1In_ok _ _ _ _ _).eq ?_
 cases h2 : decide (0 ≤ t.x) && decide (t.x ≤ 4)
 · simp only [o_cont, o_pure, o_guard, gk_ft, o_nil, POp.ev, Opd.ev, gv, setD, List.set, xsj, xel, pickV]
   refine s_ret1 ?_
   simp +decide only [pfr, resV, resOne, gv, xsj, xel]
   exact ⟨by simp, hx⟩
 simp only [o_cont, o_pure, o_callF, o_guard, gk_tt, POp.ev, Opd.ev, gv, setD, List.map, xsj, xel, pickV, load1V, fadV, Nat.zero_add, hB.c2]
 refine (l1In_ok _ _ _ _ _).eq ?_
 cases h3 : decide (0 ≤ t.y) && decide (t.y ≤ 4)
 · simp only [o_cont, o_pure, o_guard, gk_ft, o_nil, POp.ev, Opd.ev, gv, setD, List.set, xsj, xel, pickV]
   refine s_ret1 ?_
   simp +decide only [pfr, resV, resOne, gv, xsj, xel]
   exact ⟨by simp, hx⟩
 simp only [o_cont, o_pure, o_callF, o_guard, gk_tt, POp.ev, Opd.ev, gv, setD, List.map, xsj, xel, pickV, load1V, fadV, Nat.zero_add, hB.c3]
 refine (l1In_ok _ _ _ _ _).eq ?_
 cases h4 : decide (0 ≤ t.z) && decide (t.z ≤ 4)
 · simp only [o_cont, o_pure, o_guard, gk_ft, o_nil, POp.ev, Opd.ev, gv, setD, List.set, xsj, xel, pickV]
   refine s_ret1 ?_
   simp +decide only [pfr, resV, resOne, gv, xsj, xel]
   exact ⟨by simp, hx⟩
 simp only [Bool.and_eq_true, decide_eq_true_eq] at h2 h3 h4
 have w1 : IntKind.i64.wrap (t.x + t.y) = t.x + t.y := by rw [IntKind.wrap_i64]; omega
 have w2 : IntKind.i64.wrap (t.x + t.y + t.z) = t.x + t.y + t.z := by rw [IntKind.wrap_i64]; omega
 simp only [o_cont, o_pure, o_guard, gk_tt, o_nil, POp.ev, Opd.ev, gv, setD, List.set, xsj, xel, pickV, binV, load1V, fadV, ne_eq, xnt, if_false, Nat.zero_add, hB.c1, hB.c2, hB.c3, w1, w2]
 refine s_ret1 ?_
 simp +decide only [pfr, resV, resOne, gv, xsj, xel]
 exact ⟨by simp, hx⟩
def sgn3 (n : Int) : Int := if n > 0 then 1 else if n < 0 then -1 else 0
theorem l1Sign_ok (lim : Nat) (n : Int) (H : AHeap) : ACalls Tryz.prog lim n_spec_l1Sign [.int .i64 n] H fun v H' => v = .int .i64 (sgn3 n) ∧ H' = H := by
 refine is_spec_l1Sign.go rfl ?_
 unfold c_spec_l1Sign sgn3
 refine s_reg ?_
 simp only [o_pure, o_nil, POp.ev, Opd.ev, env0, gu, setD, List.set, xsj, xel]
 refine s_block ?_
 refine s_test1 ?_
 simp only [o_pure, o_nil, POp.ev, Opd.ev, gv, setD, xsj, xel, binV, ne_eq, xnt, if_false]
 refine Test.split (fun h => ?_) (fun h => ?_)
 · refine s_reg ?_
   simp only [o_pure, o_nil, POp.ev, Opd.ev, setD, List.set, xsj, xel]
   refine s_ret1 ?_
   simp +decide only [pqr, pbr, pfr, resV, resOne, gv, xsj, xel]
   rw [if_pos (by simpa using h)]
   trivial
 · refine s_test1 ?_
   simp only [o_pure, o_nil, POp.ev, Opd.ev, gv, setD, xsj, xel, binV, ne_eq, xnt, if_false]
   refine Test.split (fun h2 => ?_) (fun h2 => ?_)
   · refine s_reg ?_
     simp only [o_pure, o_nil, POp.ev, Opd.ev, setD, List.set, xsj, xel]
     refine s_ret1 ?_
     simp +decide only [pqr, pbr, pfr, resV, resOne, gv, xsj, xel]
     rw [if_neg (by simpa using h), if_pos (by simpa using h2)]
     trivial
   · refine s_skip1 ?_
     simp +decide only [pqn, pbn]
     refine s_reg ?_
     simp only [o_pure, o_nil, POp.ev, Opd.ev, setD, List.set, xsj, xel]
     refine s_ret1 ?_
     simp +decide only [pfr, resV, resOne, gv, xsj, xel]
     rw [if_neg (by simpa using h), if_neg (by simpa using h2)]
     trivial
def ordT (a b : Tm) : Int := if a.x ≠ b.x then sgn3 (a.x - b.x) else if a.y ≠ b.y then sgn3 (a.y - b.y) else sgn3 (a.z - b.z)
theorem poOrder_ok (lim : Nat) (a b : Tm) (H : AHeap) (ha : okTm a = true) (hb : okTm b = true) : ACalls Tryz.prog lim n_spec_poOrder [tv a, tv b] H fun v H' => v = .int .i64 (ordT a b) ∧ Ext H H' := by
 have b1 := okTm_b ha
 have b2 := okTm_b hb
 refine is_spec_poOrder.go rfl ?_
 unfold c_spec_poOrder ordT
 refine s_reg ?_
 simp only [o_pure, o_eff, o_nil, POp.ev, Opd.ev, EOp.ev, env0, gu, gv, setD, List.set, xsj, xel, ne_eq, boxT]
 have hA := BoxT.mk' H a
 have hB := BoxT.mk' (H.alloc (tc a)) b
 replace hA := hA.mono hB.ext
 generalize (H.alloc (tc a)).alloc (tc b) = H1 at hA hB ⊢
 generalize (H.alloc (tc a)).next = q at hB ⊢
 generalize H.next = p at hA ⊢
 have hx := hA.ext
 have w1 : IntKind.i64.wrap (a.x - b.x) = a.x - b.x := by rw [IntKind.wrap_i64]; omega
 have w2 : IntKind.i64.wrap (a.y - b.y) = a.y - b.y := by rw [IntKind.wrap_i64]; omega
 have w3 : IntKind.i64.wrap (a.z - b.z) = a.z - b.z := by rw [IntKind.wrap_i64]; omega
 refine s_block ?_
 refine s_test1 ?_
 simp only [o_pure, o_nil, POp.ev, Opd.ev, gv, setD, xsj, xel, binV, load1V, fadV, ne_eq, xnt, if_false, Nat.zero_add, hA.c1, hB.c1]
 refine Test.split (fun h => ?_) (fun h => ?_)
 · refine s_reg ?_
   simp only [o_pure, o_callF, POp.ev, Opd.ev, gv, setD, List.map, xsj, xel, binV, load1V, fadV, ne_eq, xnt, if_false, Nat.zero_add, hA.c1, hB.c1, w1]
   refine (l1Sign_ok _ _ _).eq ?_
   simp only [o_cont, o_pure, o_nil, POp.ev, Opd.ev, gv, setD, List.set, xsj, xel]
   refine s_ret1 ?_
   simp +decide only [pqr, pbr, pfr, resV, resOne, gv, xsj, xel]
   rw [if_pos (by simpa using h)]
   exact ⟨rfl, hx⟩
 · refine s_test1 ?_
   simp only [o_pure, o_nil, POp.ev, Opd.ev, gv, setD, xsj, xel, binV, load1V, fadV, ne_eq, xnt, if_false, Nat.zero_add, hA.c2, hB.c2]
   refine Test.split (fun h2 => ?_) (fun h2 => ?_)
   · refine s_reg ?_
     simp only [o_pure, o_callF, POp.ev, Opd.ev, gv, setD, List.map, xsj, xel, binV, load1V, fadV, ne_eq, xnt, if_false, Nat.zero_add, hA.c2, hB.c2, w2]
     refine (l1Sign_ok _ _ _).eq ?_
     simp only [o_cont, o_pure, o_nil, POp.ev, Opd.ev, gv, setD, List.set, xsj, xel]
     refine s_ret1 ?_
     simp +decide only [pqr, pbr, pfr, resV, resOne, gv, xsj, xel]
     rw [if_neg (by simpa using h), if_pos (by simpa using h2)]
     exact ⟨rfl, hx⟩
   · refine s_skip1 ?_
     simp +decide only [pqn, pbn]
     refine s_reg ?_
     simp only [o_pure, o_callF, POp.ev, Opd.ev, gv, setD, List.map, xsj, xel, binV, load1V, fadV, ne_eq, xnt, if_false, Nat.zero_add, hA.c3, hB.c3, w3]
     refine (l1Sign_ok _ _ _).eq ?_
     simp only [o_cont, o_pure, o_nil, POp.ev, Opd.ev, gv, setD, List.set, xsj, xel]
     refine s_ret1 ?_
     simp +decide only [pfr, resV, resOne, gv, xsj, xel]
     rw [if_neg (by simpa using h), if_neg (by simpa using h2)]
     exact ⟨rfl, hx⟩
def goodF : Option Tm → List Tm → Bool
 | _, [] => true
 | u, t :: l => okTm t && !decide (t.c = 0) && (match u with | none => true | some u => !decide (ordT u t ≥ 0)) && goodF (some t) l
def goodP (p : List Tm) : Bool := goodF none p && decide ((p.length : Int) ≤ 20)
def prevT (p : List Tm) : Nat → Option Tm
 | 0 => none
 | i + 1 => p[i]?
def stepT (p : List Tm) (i : Nat) (t : Tm) : Bool := okTm t && !decide (t.c = 0) && (match prevT p i with | none => true | some u => !decide (ordT u t ≥ 0))
theorem goodF_step {p : List Tm} {i : Nat} (h : i < p.length) : goodF (prevT p i) (p.drop i) = (stepT p i p[i] && goodF (prevT p (i + 1)) (p.drop (i + 1))) := by
 rw [List.drop_eq_getElem_cons h]
 simp only [goodF, stepT, prevT, List.getElem?_eq_getElem h]
theorem poGood_ok (lim : Nat) (s : Value) (p : List Tm) (H : AHeap) (hl : lim ≤ H.next) (hs : SlT H s p) (hn : p.length ≤ 1000000000) : ACalls Tryz.prog lim n_spec_poGood [s] H fun v H' => v = .bool (goodP p) ∧ Ext H H' := by
 refine is_spec_poGood.go rfl ?_
 unfold c_spec_poGood
 refine s_reg ?_
 simp only [o_pure, o_nil, POp.ev, Opd.ev, env0, gu, setD, List.set, xsj, xel]
 refine s_assoc (s_reg ?_)
 simp only [o_pure, o_nil, POp.ev, Opd.ev, gv, setD, List.set, xsj, xel, hs.lenV]
 refine s_block ?_
 refine s_loop1 (fun k e' H' => ∃ (i : Nat) (x y : Value), i + k = p.length ∧ goodF none p = goodF (prevT p i) (p.drop i) ∧ (∀ u, prevT p i = some u → okTm u = true) ∧ Ext H H' ∧ e' = [s, .bool false, x, y, s, .int .i64 p.length, .int .i64 i]) p.length ⟨0, _, _, by omega, rfl, (by intro u h; cases h), Ext.refl _, rfl⟩ ?_
 rintro k e' H' ⟨i, x, y, hik, hall, hprev, hx, rfl⟩
 have hnx := hx.next
 refine s_test ?_
 simp only [o_pure, o_nil, POp.ev, Opd.ev, gv, setD, xsj, xel, binV, ne_eq, xnt, if_false]
 refine Test.split (fun hlt => ?_) (fun hlt => ?_)
 · have hlt' : i < p.length := by simpa using hlt
   obtain ⟨b1, o1, h1, hat⟩ := (hs.ext hx).at hlt'
   rw [goodF_step hlt'] at hall
   refine s_skip1 ?_
   simp +decide only [pqn]
   refine s_block ?_
   refine s_reg ?_
   simp only [o_pure, o_eff, o_nil, POp.ev, Opd.ev, EOp.ev, gv, setD, List.set, xsj, xel, h1, hat.all, store4_new (lim := lim) (H := H') (by omega)]
   have hB := BoxT.mk' H' p[i]
   generalize H'.alloc (tc p[i]) = H1 at hB ⊢
   generalize H'.next = q at hB hnx ⊢
   have hx1 := hx.trans hB.ext
   refine s_test1_I (!stepT p i p[i]) (Ext H1) ?_ (fun H2 hx2 hg => ?_) (fun H2 hx2 hg => ?_)
   · simp only [o_pure, o_callF, POp.ev, Opd.ev, gv, setD, List.map, xsj, xel, hB.all]
     refine (poTerm_ok _ _ _).mono ?_
     rintro _ H2 ⟨rfl, hx2⟩
     have hB2 := hB.mono hx2
     unfold stepT
     cases h5 : okTm p[i]
     · simp only [o_cont, o_pure, o_guard, gk_tf, gk_u, o_nil, POp.ev, Opd.ev, gv, setD, xsj, xel, pickV, unV, Bool.not_false]
       simp [hx2]
     · cases h6 : decide (p[i].c = 0)
       · have h6' : (p[i].c == 0) = false := by simpa using h6
         cases i with
         | zero =>
           have d0 : decide (((0 : Nat) : Int) > 0) = false := by decide
           simp only [o_cont, o_pure, o_guard, gk_ff, gk_ft, o_nil, POp.ev, Opd.ev, gv, setD, xsj, xel, pickV, binV, load1V, unV, fadV, ne_eq, xnt, if_false, Bool.not_true, Bool.not_false, Nat.zero_add, hB2.c0, h6', d0]
           simp [prevT, hx2]
         | succ i =>
           have d0 : decide (((i + 1 : Nat) : Int) > 0) = true := decide_eq_true (by omega)
           have w1 : IntKind.i64.wrap (((i + 1 : Nat) : Int) - 1) = (i : Int) := by rw [IntKind.wrap_i64]; omega
           have hi : i < p.length := by omega
           obtain ⟨b2, o2, k1, hat2⟩ := ((hs.ext hx1).ext hx2).at hi
           have hpe : prevT p (i + 1) = some p[i] := List.getElem?_eq_getElem hi
           simp only [o_cont, o_pure, o_callF, o_guard, gk_tt, gk_ff, POp.ev, Opd.ev, gv, setD, List.map, xsj, xel, pickV, binV, load1V, unV, fadV, ne_eq, xnt, if_false, Bool.not_true, Bool.not_false, Nat.zero_add, hB2.c0, h6', d0, w1, k1, hat2.all, hB2.all]
           refine (poOrder_ok _ _ _ _ (hprev _ hpe) h5).mono ?_
           rintro _ H3 ⟨rfl, hx3⟩
           simp only [o_cont, o_pure, o_guard, gk_tt, gk_ff, o_nil, POp.ev, Opd.ev, gv, setD, xsj, xel, pickV, binV, ne_eq, xnt, if_false]
           simp [hpe, hx2.trans hx3]
       · have h6' : (p[i].c == 0) = true := by simpa using h6
         simp only [o_cont, o_pure, o_guard, gk_ff, gk_tf, gk_u, o_nil, POp.ev, Opd.ev, gv, setD, xsj, xel, pickV, binV, load1V, unV, fadV, ne_eq, xnt, if_false, Bool.not_true, Nat.zero_add, hB2.c0, h6']
         simp [hx2]
   · refine s_reg ?_
     simp only [o_pure, o_nil, POp.ev, Opd.ev, setD, List.set, xsj, xel]
     refine s_ret1 ?_
     simp +decide only [pqr, pbr, pfr, resV, resOne, gv, xsj, xel]
     simp only [Bool.not_eq_true'] at hg
     refine ⟨?_, hx1.trans hx2⟩
     simp [goodP, hall, hg]
   · refine s_skip1 ?_
     simp +decide only [pqn, pbn]
     refine s_reg1 ?_
     simp only [o_pure, o_nil, POp.ev, Opd.ev, gv, setD, List.set, xsj, xel, binV, ne_eq, xnt, if_false, add1 (i := i) (by omega)]
     simp +decide only [pqn]
     simp only [Bool.not_eq_false'] at hg
     rw [hg, Bool.true_and] at hall
     refine Round.mk (k - 1) (by omega) ⟨i + 1, _, _, by omega, hall, ?_, hx1.trans hx2, rfl⟩
     intro u hu
     simp only [prevT, List.getElem?_eq_getElem hlt', xsj] at hu
     subst hu
     simp only [stepT, Bool.and_eq_true] at hg
     exact hg.1.1
 · have hge : i = p.length := by simp at hlt; omega
   subst hge
   refine s_exit1 ?_
   simp +decide only [pqn, pqe, pbe, reduceIte]
   refine s_reg ?_
   simp only [o_pure, o_nil, POp.ev, Opd.ev, gv, setD, List.set, xsj, xel, binV, ne_eq, xnt, if_false, hs.lenV]
   refine s_ret1 ?_
   simp +decide only [pfr, resV, resOne, gv, xsj, xel]
   refine ⟨?_, hx⟩
   rw [List.drop_length] at hall
   simp [goodP, hall, goodF]
def pw (t : Tm) (k : Int) : Int := if k = 0 then t.x else if k = 1 then t.y else t.z
theorem poPower_ok (lim : Nat) (t : Tm) (k : Int) (H : AHeap) : ACalls Tryz.prog lim n_spec_poPower [tv t, .int .i64 k] H fun v H' => v = .int .i64 (pw t k) ∧ Ext H H' := by
 refine is_spec_poPower.go rfl ?_
 unfold c_spec_poPower pw
 refine s_reg ?_
 simp only [o_pure, o_eff, o_nil, POp.ev, Opd.ev, EOp.ev, env0, gu, gv, setD, List.set, xsj, xel, boxT]
 have hA := BoxT.mk' H t
 generalize H.alloc (tc t) = H1 at hA ⊢
 generalize H.next = p at hA ⊢
 have hx := hA.ext
 refine s_reg ?_
 simp only [o_pure, o_nil, POp.ev, Opd.ev, gv, setD, List.set, xsj, xel]
 refine s_block1 ?_
 refine s_test1 ?_
 simp only [o_pure, o_nil, POp.ev, Opd.ev, gv, setD, xsj, xel, binV, ne_eq, xnt, if_false]
 refine Test.split (fun h => ?_) (fun h => ?_)
 · refine s_reg ?_
   simp only [o_pure, o_nil, POp.ev, Opd.ev, gv, setD, List.set, xsj, xel, load1V, fadV, Nat.zero_add, hA.c1]
   refine s_ret1 ?_
   simp +decide only [pqr, pbr, pfr, resV, resOne, gv, xsj, xel]
   rw [if_pos (by simpa using h)]
   exact ⟨rfl, hx⟩
 · refine s_test1 ?_
   simp only [o_pure, o_nil, POp.ev, Opd.ev, gv, setD, xsj, xel, binV, ne_eq, xnt, if_false]
   refine Test.split (fun h2 => ?_) (fun h2 => ?_)
   · refine s_reg ?_
     simp only [o_pure, o_nil, POp.ev, Opd.ev, gv, setD, List.set, xsj, xel, load1V, fadV, Nat.zero_add, hA.c2]
     refine s_ret1 ?_
     simp +decide only [pqr, pbr, pfr, resV, resOne, gv, xsj, xel]
     rw [if_neg (by simpa using h), if_pos (by simpa using h2)]
     exact ⟨rfl, hx⟩
   · refine s_skip1 ?_
     simp +decide only [pqn, pbn]
     refine s_reg ?_
     simp only [o_pure, o_nil, POp.ev, Opd.ev, gv, setD, List.set, xsj, xel, load1V, fadV, Nat.zero_add, hA.c3]
     refine s_ret1 ?_
     simp +decide only [pfr, resV, resOne, gv, xsj, xel]
     rw [if_neg (by simpa using h), if_neg (by simpa using h2)]
     exact ⟨rfl, hx⟩
theorem l1Most_ok (lim : Nat) (a b : Int) (H : AHeap) : ACalls Tryz.prog lim n_spec_l1Most [.int .i64 a, .int .i64 b] H fun v H' => v = .int .i64 (if a > b then a else b) ∧ H' = H := by
 refine is_spec_l1Most.go rfl ?_
 unfold c_spec_l1Most
 refine s_reg ?_
 simp only [o_pure, o_nil, POp.ev, Opd.ev, env0, gu, setD, List.set, xsj, xel]
 refine s_test ?_
 simp only [o_pure, o_nil, POp.ev, Opd.ev, gv, setD, xsj, xel, binV, ne_eq, xnt, if_false]
 refine Test.split (fun h => ?_) (fun h => ?_)
 · refine s_reg ?_
   simp only [o_pure, o_nil, POp.ev, Opd.ev, gv, setD, List.set, xsj, xel]
   refine s_ret1 ?_
   simp +decide only [pqr, pfr, resV, resOne, gv, xsj, xel]
   rw [if_pos (by simpa using h)]
   trivial
 · refine s_skip1 ?_
   simp +decide only [pqn]
   refine s_reg ?_
   simp only [o_pure, o_nil, POp.ev, Opd.ev, gv, setD, List.set, xsj, xel]
   refine s_ret1 ?_
   simp +decide only [pfr, resV, resOne, gv, xsj, xel]
   rw [if_neg (by simpa using h)]
   trivial
def degF (k : Int) : Int → List Tm → Int
 | m, [] => m
 | m, t :: l => degF k (if m > pw t k then m else pw t k) l
theorem poDegreeIn_ok (lim : Nat) (s : Value) (p : List Tm) (k : Int) (H : AHeap) (hl : lim ≤ H.next) (hs : SlT H s p) (hn : p.length ≤ 1000000000) : ACalls Tryz.prog lim n_spec_poDegreeIn [s, .int .i64 k] H fun v H' => v = .int .i64 (degF k (-1) p) ∧ Ext H H' := by
 refine is_spec_poDegreeIn.go rfl ?_
 unfold c_spec_poDegreeIn
 refine s_reg ?_
 simp only [o_pure, o_nil, POp.ev, Opd.ev, env0, gu, setD, List.set, xsj, xel]
 refine s_reg ?_
 simp only [o_pure, o_nil, POp.ev, Opd.ev, setD, List.set, xsj, xel]
 refine s_assoc (s_reg ?_)
 simp only [o_pure, o_nil, POp.ev, Opd.ev, gv, setD, List.set, xsj, xel, hs.lenV]
 refine s_block ?_
 refine s_loop1 (fun j e' H' => ∃ (i : Nat) (m : Int) (y : Value), i + j = p.length ∧ degF k (-1) p = degF k m (p.drop i) ∧ Ext H H' ∧ e' = [s, .int .i64 k, .int .i64 0, .int .i64 m, y, s, .int .i64 p.length, .int .i64 i]) p.length ⟨0, -1, _, by omega, rfl, Ext.refl _, rfl⟩ ?_
 rintro j e' H' ⟨i, m, y, hik, hall, hx, rfl⟩
 have hnx := hx.next
 refine s_test ?_
 simp only [o_pure, o_nil, POp.ev, Opd.ev, gv, setD, xsj, xel, binV, ne_eq, xnt, if_false]
 refine Test.split (fun hlt => ?_) (fun hlt => ?_)
 · have hlt' : i < p.length := by simpa using hlt
   obtain ⟨b1, o1, h1, hat⟩ := (hs.ext hx).at hlt'
   rw [List.drop_eq_getElem_cons hlt', degF] at hall
   refine s_skip1 ?_
   simp +decide only [pqn]
   refine s_block ?_
   refine s_reg ?_
   simp only [o_pure, o_eff, o_nil, POp.ev, Opd.ev, EOp.ev, gv, setD, List.set, xsj, xel, h1, hat.all, store4_new (lim := lim) (H := H') (by omega)]
   have hB := BoxT.mk' H' p[i]
   generalize H'.alloc (tc p[i]) = H1 at hB ⊢
   generalize H'.next = q at hB hnx ⊢
   have hx1 := hx.trans hB.ext
   refine s_reg1 ?_
   simp only [o_pure, o_callF, POp.ev, Opd.ev, gv, setD, List.map, xsj, xel, hB.all]
   refine (poPower_ok _ _ _ _).mono ?_
   rintro _ H2 ⟨rfl, hx2⟩
   simp only [o_cont, o_callF, Opd.ev, gv, setD, List.map]
   refine (l1Most_ok _ _ _ _).eq ?_
   simp only [o_cont, o_pure, o_nil, POp.ev, Opd.ev, gv, setD, List.set, xsj, xel]
   simp +decide only [pqn, pbn]
   refine s_reg1 ?_
   simp only [o_pure, o_nil, POp.ev, Opd.ev, gv, setD, List.set, xsj, xel, binV, ne_eq, xnt, if_false, add1 (i := i) (by omega)]
   simp +decide only [pqn]
   exact Round.mk (j - 1) (by omega) ⟨i + 1, _, _, by omega, hall, hx1.trans hx2, rfl⟩
 · have hge : i = p.length := by simp at hlt; omega
   subst hge
   refine s_exit1 ?_
   simp +decide only [pqn, pqe, pbe, reduceIte]
   refine s_reg ?_
   simp only [o_pure, o_nil, POp.ev, Opd.ev, gv, setD, List.set, xsj, xel]
   refine s_ret1 ?_
   simp +decide only [pfr, resV, resOne, gv, xsj, xel]
   rw [List.drop_length, degF] at hall
   rw [hall]
   exact ⟨rfl, hx⟩
def fromB (k : Nat) (p : List Tm) : Bool := (decide (k > 0) || !decide (degF 0 (-1) p > 0)) && (decide (k > 1) || !decide (degF 1 (-1) p > 0)) && (decide (k > 2) || !decide (degF 2 (-1) p > 0))
theorem fromB_step {k : Nat} (p : List Tm) (h : k < 3) : fromB k p = (!decide (degF (k : Int) (-1) p > 0) && fromB (k + 1) p) := by
 match k, h with
 | 0, _ => simp [fromB, Bool.and_assoc]
 | 1, _ => simp [fromB]
 | 2, _ => simp [fromB]
theorem fromB_three {k : Nat} (p : List Tm) (h : 3 ≤ k) : fromB k p = true := by
 simp only [fromB, Bool.and_eq_true, Bool.or_eq_true, decide_eq_true_eq]
 omega
def sysF (n : Nat) : List (List Tm) → Bool
 | [] => true
 | p :: l => goodP p && fromB n p && sysF n l
def goodSS (ss : List (List Tm)) : Bool := sysF ss.length ss && (decide (1 ≤ (ss.length : Int)) && decide ((ss.length : Int) ≤ 3))
theorem poSystem_ok (lim : Nat) (s : Value) (ss : List (List Tm)) (H : AHeap) (hl : lim ≤ H.next) (hs : SlSS H s ss) (hn : ss.length ≤ 1000000) (hn2 : ∀ p ∈ ss, p.length ≤ 1000000) : ACalls Tryz.prog lim n_spec_poSystem [s] H fun v H' => v = .bool (goodSS ss) ∧ Ext H H' := by
 refine is_spec_poSystem.go rfl ?_
 unfold c_spec_poSystem
 refine s_reg ?_
 simp only [o_pure, o_nil, POp.ev, Opd.ev, env0, gu, setD, List.set, xsj, xel]
 refine s_assoc (s_reg ?_)
 simp only [o_pure, o_nil, POp.ev, Opd.ev, gv, setD, List.set, xsj, xel, hs.lenV]
 refine s_block ?_
 refine s_loop1 (fun j e' H' => ∃ (i : Nat) (x y : Value), i + j = ss.length ∧ sysF ss.length ss = sysF ss.length (ss.drop i) ∧ Ext H H' ∧ e' = [s, .bool false, x, y, s, .int .i64 ss.length, .int .i64 i]) ss.length ⟨0, _, _, by omega, rfl, Ext.refl _, rfl⟩ ?_
 rintro j e' H' ⟨i, x, y, hik, hall, hx, rfl⟩
 have hnx := hx.next
 refine s_test ?_
 simp only [o_pure, o_nil, POp.ev, Opd.ev, gv, setD, xsj, xel, binV, ne_eq, xnt, if_false]
 refine Test.split (fun hlt => ?_) (fun hlt => ?_)
 · have hlt' : i < ss.length := by simpa using hlt
   obtain ⟨b1, o1, s1, h1, h2, h3⟩ := (hs.ext hx).at hlt'
   have hpl := hn2 _ (List.getElem_mem hlt')
   rw [List.drop_eq_getElem_cons hlt', sysF] at hall
   refine s_skip1 ?_
   simp +decide only [pqn]
   refine s_block ?_
   refine s_reg ?_
   simp only [o_pure, o_nil, POp.ev, Opd.ev, gv, setD, List.set, xsj, xel, load1V, h1, h2]
   refine s_test ?_
   simp only [o_pure, o_callF, POp.ev, Opd.ev, gv, setD, List.map, xsj, xel]
   refine (poGood_ok lim _ _ _ (by omega) h3 (by omega)).mono ?_
   rintro _ H2 ⟨rfl, hx2⟩
   simp only [o_cont, o_pure, o_nil, POp.ev, Opd.ev, gv, setD, xsj, xel, unV]
   refine Test.split (fun hg => ?_) (fun hg => ?_)
   · refine s_reg ?_
     simp only [o_pure, o_nil, POp.ev, Opd.ev, setD, List.set, xsj, xel]
     refine s_ret1 ?_
     simp +decide only [pqr, pbr, pfr, resV, resOne, gv, xsj, xel]
     simp only [Bool.not_eq_true'] at hg
     refine ⟨?_, hx.trans hx2⟩
     simp [goodSS, hall, hg]
   · simp only [Bool.not_eq_false'] at hg
     rw [hg, Bool.true_and] at hall
     refine s_skip1 ?_
     simp +decide only [pqn]
     refine s_reg ?_
     simp only [o_pure, o_nil, POp.ev, Opd.ev, gv, setD, List.set, xsj, xel, hs.lenV]
     refine s_block1 ?_
     refine s_loop1 (fun j2 e' H2' => ∃ (k : Nat), k + j2 = ss.length + 3 ∧ (fromB ss.length ss[i] = fromB k ss[i]) ∧ Ext H2 H2' ∧ e' = [s, .bool false, s1, .int .i64 k, s, .int .i64 ss.length, .int .i64 i]) 3 ⟨ss.length, by omega, rfl, Ext.refl _, rfl⟩ ?_
     rintro j2 e' H2' ⟨k, hk, hfr, hx3, rfl⟩
     refine s_test ?_
     simp only [o_pure, o_nil, POp.ev, Opd.ev, gv, setD, xsj, xel, binV, ne_eq, xnt, if_false]
     refine Test.split (fun hlt3 => ?_) (fun hlt3 => ?_)
     · have hk3 : k < 3 := by simp at hlt3; omega
       rw [fromB_step _ hk3] at hfr
       refine s_skip1 ?_
       simp +decide only [pqn]
       refine s_block ?_
       refine s_test1 ?_
       simp only [o_pure, o_callF, POp.ev, Opd.ev, gv, setD, List.map, xsj, xel]
       have hn3 := hx3.next
       have hn2' := hx2.next
       refine (poDegreeIn_ok lim _ _ k _ (by omega) ((h3.ext hx2).ext hx3) (by omega)).mono ?_
       rintro _ H3 ⟨rfl, hx4⟩
       simp only [o_cont, o_pure, o_nil, POp.ev, Opd.ev, gv, setD, xsj, xel, binV, ne_eq, xnt, if_false]
       refine Test.split (fun hd => ?_) (fun hd => ?_)
       · refine s_reg ?_
         simp only [o_pure, o_nil, POp.ev, Opd.ev, setD, List.set, xsj, xel]
         refine s_ret1 ?_
         simp +decide only [pqr, pbr, pfr, resV, resOne, gv, xsj, xel]
         refine ⟨?_, ((hx.trans hx2).trans hx3).trans hx4⟩
         rw [hd] at hfr
         simp [goodSS, hall, hfr]
       · refine s_skip1 ?_
         simp +decide only [pqn, pbn]
         refine s_reg1 ?_
         simp only [o_pure, o_nil, POp.ev, Opd.ev, gv, setD, List.set, xsj, xel, binV, ne_eq, xnt, if_false, add1 (i := k) (by omega)]
         simp +decide only [pqn]
         rw [hd, Bool.not_false, Bool.true_and] at hfr
         exact Round.mk (j2 - 1) (by omega) ⟨k + 1, by omega, hfr, hx3.trans hx4, rfl⟩
     · have hk3 : 3 ≤ k := by simp at hlt3; omega
       rw [fromB_three _ hk3] at hfr
       refine s_exit1 ?_
       simp +decide only [pqn, pqe, pbn, pbe, reduceIte]
       refine s_reg1 ?_
       simp only [o_pure, o_nil, POp.ev, Opd.ev, gv, setD, List.set, xsj, xel, binV, ne_eq, xnt, if_false, add1 (i := i) (by omega)]
       simp +decide only [pqn]
       rw [hfr, Bool.true_and] at hall
       exact Round.mk (j - 1) (by omega) ⟨i + 1, _, _, by omega, hall, (hx.trans hx2).trans hx3, rfl⟩
 · have hge : i = ss.length := by simp at hlt; omega
   subst hge
   refine s_exit1 ?_
   simp +decide only [pqn, pqe, pbe, reduceIte]
   refine s_reg ?_
   simp only [o_pure, o_callF, POp.ev, Opd.ev, gv, setD, List.map, xsj, xel, hs.lenV]
   refine (l1In_ok _ _ _ _ _).eq ?_
   simp only [o_cont, o_pure, o_nil, POp.ev, Opd.ev, gv, setD, List.set, xsj, xel]
   refine s_ret1 ?_
   simp +decide only [pfr, resV, resOne, gv, xsj, xel]
   refine ⟨?_, hx⟩
   rw [List.drop_length, sysF] at hall
   simp only [goodSS, hall, Bool.true_and]
end Go.Proofs.YtagocdkcnajiiaaGreat
