/- Parts of the proof of a statement of this seat: contracts of functions that the law calls, or the law's own row; no condition. -/
import Derived.Test.YtldpdjpchcoigaaGreatC
import Derived.Test.YtldpdjpchcoigaaGreatAbVec
import Derived.Test.YtldpdjpchcoigaaGreatM1
/- Systems of polynomials, part 1 of the walk: lists of terms in the abstract heap, and the laws' helpers on one term; no condition. -/
namespace Go.Proofs.YtldpdjpchcoigaaGreat
open Go.Ab
set_option linter.unusedSimpArgs false
set_option linter.unusedVariables false

abbrev vi (n : Int) : Value := .int .i64 n
def roomN (n : Nat) : Nat := if n % 6 = 5 then 0 else if n % 3 = 0 then 1 else n
theorem roomN_le (n : Nat) : roomN n ≤ n + 1 := by
  unfold roomN
  split
  · omega
  · split <;> omega
theorem roomBehind_ok (lim n : Nat) (H : AHeap) : ACalls Tryz.prog lim n_laws_roomBehind [.int .i64 n] H fun v H' => v = .int .i64 (roomN n) ∧ H' = H := by
  refine is_laws_roomBehind.go rfl ?_
  unfold c_laws_roomBehind
  refine s_reg ?_
  simp only [o_pure, o_nil, POp.ev, Opd.ev, env0, gu, setD, List.set, Option.some.injEq, exists_eq_left']
  refine s_test ?_
  have e6 : ¬ (6 : Int) = 0 := by decide
  have e3 : ¬ (3 : Int) = 0 := by decide
  have t6 : (n : Int).tmod 6 = ((n % 6 : Nat) : Int) := rfl
  have t3 : (n : Int).tmod 3 = ((n % 3 : Nat) : Int) := rfl
  simp only [o_pure, o_nil, POp.ev, Opd.ev, gv, setD, Option.some.injEq, exists_eq_left', binV, ne_eq, not_true_eq_false, if_false, if_neg e6, t6]
  refine Test.split (fun h => ?_) (fun h => ?_)
  · refine s_reg ?_
    simp only [o_pure, o_nil, POp.ev, Opd.ev, setD, List.set, Option.some.injEq, exists_eq_left']
    refine s_ret1 ?_
    simp +decide only [p_seq_ret, p_fin_ret, resV, resOne, gv, Option.some.injEq, exists_eq_left']
    have : roomN n = 0 := by unfold roomN; rw [if_pos]; simp at h; omega
    simp [this]
  · refine s_skip1 ?_
    simp +decide only [p_seq_normal]
    refine s_test ?_
    simp only [o_pure, o_nil, POp.ev, Opd.ev, gv, setD, Option.some.injEq, exists_eq_left', binV, ne_eq, not_true_eq_false, if_false, if_neg e3, t3]
    refine Test.split (fun h2 => ?_) (fun h2 => ?_)
    · refine s_reg ?_
      simp only [o_pure, o_nil, POp.ev, Opd.ev, setD, List.set, Option.some.injEq, exists_eq_left']
      refine s_ret1 ?_
      simp +decide only [p_seq_ret, p_fin_ret, resV, resOne, gv, Option.some.injEq, exists_eq_left']
      have : roomN n = 1 := by unfold roomN; rw [if_neg, if_pos]; simp at h2; omega; simp at h; omega
      simp [this]
    · refine s_skip1 ?_
      simp +decide only [p_seq_normal]
      refine s_reg ?_
      simp only [o_pure, o_nil, POp.ev, Opd.ev, gv, setD, List.set, Option.some.injEq, exists_eq_left']
      refine s_ret1 ?_
      simp +decide only [p_fin_ret, resV, resOne, gv, Option.some.injEq, exists_eq_left']
      have : roomN n = n := by unfold roomN; rw [if_neg, if_neg]; simp at h2; omega; simp at h; omega
      simp [this]

structure Tm where
  c : Int
  x : Int
  y : Int
  z : Int
  deriving DecidableEq
def tc (t : Tm) : List Value := [vi t.c, vi t.x, vi t.y, vi t.z]
def tv (t : Tm) : Value := .agg #[vi t.c, vi t.x, vi t.y, vi t.z]
def tcs (l : List Tm) : List Value := l.flatMap tc
theorem tcs_cons (t : Tm) (l : List Tm) : tcs (t :: l) = tc t ++ tcs l := rfl
theorem tcs_append (l m : List Tm) : tcs (l ++ m) = tcs l ++ tcs m := by simp [tcs]
theorem tcs_length (l : List Tm) : (tcs l).length = l.length * 4 := by
  induction l with
  | nil => rfl
  | cons t l ih => rw [tcs_cons, List.length_append, ih, List.length_cons]; simp [tc]; omega
theorem tcs_at : ∀ {l : List Tm} {i : Nat} {t : Tm}, l[i]? = some t → ((tcs l).drop (i * 4)).take 4 = tc t
  | [], i, t, h => by simp at h
  | a :: l, 0, t, h => by
    simp only [List.getElem?_cons_zero, Option.some.injEq] at h
    subst h
    rw [tcs_cons]
    rfl
  | a :: l, i + 1, t, h => by
    have e : (tcs (a :: l)).drop ((i + 1) * 4) = (tcs l).drop (i * 4) := by
      rw [tcs_cons, List.drop_append, List.drop_of_length_le (by simp [tc]; omega), List.nil_append]
      congr 1
      simp [tc]; omega
    rw [e]
    exact tcs_at (by simpa using h)
theorem putL_shift (a l x : List Value) (o : Nat) : putL (a ++ l) (a.length + o) x = a ++ putL l o x := by
  simp only [putL, List.take_append, List.drop_append, List.append_assoc]
  rw [List.take_of_length_le (by omega), List.drop_of_length_le (by omega)]
  simp [Nat.add_sub_cancel_left, Nat.add_assoc]
/-- a term with one field turned -/
def Tm.upd (t : Tm) : Nat → Int → Tm
  | 0, v => { t with c := v }
  | 1, v => { t with x := v }
  | 2, v => { t with y := v }
  | _, v => { t with z := v }
theorem tcs_put : ∀ {l : List Tm} {i j : Nat} {t : Tm} (v : Int), l[i]? = some t → j < 4 → putL (tcs l) (i * 4 + j) [vi v] = tcs (l.set i (t.upd j v))
  | [], i, j, t, v, h, hj => by simp at h
  | a :: l, 0, j, t, v, h, hj => by
    simp only [List.getElem?_cons_zero, Option.some.injEq] at h
    subst h
    match j, hj with
    | 0, _ => simp [putL, tcs_cons, tc, Tm.upd]
    | 1, _ => simp [putL, tcs_cons, tc, Tm.upd]
    | 2, _ => simp [putL, tcs_cons, tc, Tm.upd]
    | 3, _ => simp [putL, tcs_cons, tc, Tm.upd]
  | a :: l, i + 1, j, t, v, h, hj => by
    rw [List.set_cons_succ, tcs_cons, tcs_cons, show (i + 1) * 4 + j = (tc a).length + (i * 4 + j) by simp [tc]; omega, putL_shift, tcs_put v (by simpa using h) hj]

abbrev SlT (H : AHeap) (v : Value) (l : List Tm) : Prop := Sl H v l.length 4 (tcs l)
abbrev VecT (H : AHeap) (b : Nat) (v : Value) (l : List Tm) : Prop := Vec H b v l.length 4 (tcs l)

/-- a term's place: its address, the whole, its fields -/
structure At (H : AHeap) (b o : Nat) (t : Tm) : Prop where
  lt : b < H.next
  all : loadNV H 4 (.pointer (some ⟨b, o, none⟩)) = some (tv t)
  c : H.cell b o = some (vi t.c)
  x : H.cell b (o + 1) = some (vi t.x)
  y : H.cell b (o + 2) = some (vi t.y)
  z : H.cell b (o + 3) = some (vi t.z)
theorem At.of_load {H : AHeap} {b o : Nat} {t : Tm} (hb : b < H.next) (h : loadNH H b o 4 = some (tc t)) : At H b o t := by
  have hc : ∀ j, j < 4 → H.cell b (o + j) = (tc t)[j]? := by
    intro j hj
    unfold loadNH at h
    unfold AHeap.cell
    cases hbk : H.blk b with
    | none => rw [hbk] at h; cases h
    | some cs =>
      rw [hbk] at h
      simp only [Option.bind_some] at h ⊢
      split at h
      · simp only [Option.some.injEq] at h
        have h4 := congrArg (fun z => z[j]?) h
        simp only [List.getElem?_take, List.getElem?_drop, if_pos hj] at h4
        exact h4
      · cases h
  exact ⟨hb, by simp only [loadNV, h, Option.map_some]; rfl, hc 0 (by omega), hc 1 (by omega), hc 2 (by omega), hc 3 (by omega)⟩
theorem SlT.at {H : AHeap} {s : Value} {l : List Tm} (h : SlT H s l) {i : Nat} (hi : i < l.length) : ∃ b o, iadV 4 s (.int .i64 i) = some (.pointer (some ⟨b, o, none⟩)) ∧ At H b o l[i] := by
  obtain ⟨b, o, h1, h2, h3⟩ := Sl.iad h .i64 (i := (i : Int)) (by omega) (by omega)
  have e : (i : Int).toNat = i := by omega
  rw [e, tcs_at (List.getElem?_eq_getElem hi)] at h3
  exact ⟨b, o, h1, At.of_load h2 h3⟩
theorem VecT.at {H : AHeap} {b : Nat} {v : Value} {l : List Tm} (h : VecT H b v l) {i : Nat} (hi : i < l.length) : iadV 4 v (.int .i64 i) = some (.pointer (some ⟨b, i * 4, none⟩)) ∧ At H b (i * 4) l[i] := by
  refine ⟨Vec.iad h .i64 hi, At.of_load ((h.blk (by omega)).elim fun _ h => h.2) ?_⟩
  have := h.loadN hi
  rw [tcs_at (List.getElem?_eq_getElem hi)] at this
  exact this
theorem VecT.putf {lim : Nat} {H : AHeap} {b : Nat} {v : Value} {l : List Tm} (h : VecT H b v l) (hl : lim ≤ b) {i : Nat} {t : Tm} (hi : l[i]? = some t) (x : Int) {j : Nat} (hj : j < 4) :
    ∃ cs, storeH lim H 1 (.pointer (some ⟨b, i * 4 + j, none⟩)) (.int .i64 x) = some (undef, H.put b cs) ∧ VecT (H.put b cs) b v (l.set i (t.upd j x)) := by
  have hlt := (List.getElem?_eq_some_iff.1 hi).1
  obtain ⟨cs, h1, h2⟩ := h.put (lim := lim) hl (cells_int .i64 x) rfl (by simp) (o := i * 4 + j) (by simp; omega)
  rw [tcs_put x hi hj] at h2
  exact ⟨cs, h1, by unfold VecT; rw [List.length_set]; exact h2⟩

theorem load4 {b : Nat} {H : AHeap} {x y z u : Value} (h : H.blk b = some [x, y, z, u]) : loadNV H 4 (.pointer (some ⟨b, 0, none⟩)) = some (.agg #[x, y, z, u]) := loadNV_blk h
theorem store4 {lim b : Nat} {H : AHeap} {p q r s x y z u : Value} (hl : lim ≤ b) (h : H.blk b = some [p, q, r, s]) : storeH lim H 4 (.pointer (some ⟨b, 0, none⟩)) (.agg #[x, y, z, u]) = some (undef, H.put b [x, y, z, u]) :=
  store_all (xs := [x, y, z, u]) hl h rfl
def filT : Tm := ⟨-7000000000000000101, -7000000000000000101, -7000000000000000101, -7000000000000000101⟩
end Go.Proofs.YtldpdjpchcoigaaGreat

/- Systems of polynomials, part 2 of the walk: the laws' helpers on lists of terms; no condition beyond stated lengths. -/
namespace Go.Proofs.YtldpdjpchcoigaaGreat
open Go.Ab
set_option linter.unusedSimpArgs false
set_option linter.unusedVariables false

theorem SlT.ext {H H' : AHeap} {v : Value} {l : List Tm} (h : SlT H v l) (hx : Ext H H') : SlT H' v l := Sl.keep h (Keep.of_ext hx (Nat.le_refl _)) (Nat.le_refl _)
theorem VecT.ext {H H' : AHeap} {b : Nat} {v : Value} {l : List Tm} (h : VecT H b v l) (hx : Ext H H') : VecT H' b v l := Vec.ext h hx
theorem VecT.chg {H H' : AHeap} {b b' : Nat} {v : Value} {l : List Tm} (h : VecT H b v l) (hx : Chg b' H H') (hne : b ≠ b') : VecT H' b v l := Vec.chg h hx hne

def zT : Tm := ⟨0, 0, 0, 0⟩
def laidT (l : List Tm) : List Tm := l ++ List.replicate (roomN l.length) filT
theorem laidT_length (l : List Tm) : (laidT l).length = l.length + roomN l.length := by simp [laidT]
/-- a list laid with its hidden room -/
structure LaidT (H : AHeap) (b : Nat) (v : Value) (l : List Tm) : Prop where
  v : v = .slice (some ⟨b, 0, some 0⟩) l.length (l.length + roomN l.length)
  all : VecT H b (.slice (some ⟨b, 0, some 0⟩) (l.length + roomN l.length) (l.length + roomN l.length)) (laidT l)
theorem LaidT.lt {H : AHeap} {b : Nat} {v : Value} {l : List Tm} (h : LaidT H b v l) : b < H.next := by
  rcases h.all with ⟨h1, _⟩ | ⟨c, sp, rest, h1, h2, h3, _⟩
  · cases h1
  · exact h3
theorem LaidT.vec {H : AHeap} {b : Nat} {v : Value} {l : List Tm} (h : LaidT H b v l) : VecT H b v l := by
  obtain ⟨rfl, h⟩ := h
  rcases h with ⟨h1, _⟩ | ⟨c, sp, rest, h1, h2, h3, h4, h5, h6, h7⟩
  · cases h1
  · simp only [Value.slice.injEq, Option.some.injEq, Addr.mk.injEq, true_and] at h1
    obtain ⟨rfl, h1l, rfl⟩ := h1
    have e := laidT_length l
    refine .inr ⟨_, _, tcs (List.replicate (roomN l.length) filT) ++ rest, rfl, .inl rfl, h3, ?_, tcs_length l, by omega, ?_⟩
    · rw [h4, laidT, tcs_append, List.append_assoc]
    · rw [List.length_append, tcs_length]
      simp; omega
theorem LaidT.ext {H H' : AHeap} {b : Nat} {v : Value} {l : List Tm} (h : LaidT H b v l) (hx : Ext H H') : LaidT H' b v l := ⟨h.v, VecT.ext h.all hx⟩
theorem LaidT.chg {H H' : AHeap} {b b' : Nat} {v : Value} {l : List Tm} (h : LaidT H b v l) (hx : Chg b' H H') (hne : b ≠ b') : LaidT H' b v l := ⟨h.v, VecT.chg h.all hx hne⟩
def CopyT (H : AHeap) (b : Nat) (v : Value) (l : List Tm) (bare : Bool) : Prop := (bare = true ∧ l = [] ∧ v = .slice none 0 0) ∨ LaidT H b v l
theorem CopyT.ext {H H' : AHeap} {b : Nat} {v : Value} {l : List Tm} {bare : Bool} (h : CopyT H b v l bare) (hx : Ext H H') : CopyT H' b v l bare := h.imp id fun h => h.ext hx
theorem CopyT.chg {H H' : AHeap} {b b' : Nat} {v : Value} {l : List Tm} {bare : Bool} (h : CopyT H b v l bare) (hx : Chg b' H H') (hne : b ≠ b') : CopyT H' b v l bare := h.imp id fun h => h.chg hx hne
theorem CopyT.vec {H : AHeap} {b : Nat} {v : Value} {l : List Tm} {bare : Bool} (h : CopyT H b v l bare) : VecT H b v l := by
  rcases h with ⟨_, rfl, rfl⟩ | h
  · exact Vec.nil _ _ _
  · exact h.vec
/-- terms numbered one after another -/
def mkT (k : Int) (n : Nat) : List Tm := (List.range n).map fun (i : Nat) => ⟨k + 4 * i, k + 4 * i + 1, k + 4 * i + 2, k + 4 * i + 3⟩
theorem mkT_length (k : Int) (n : Nat) : (mkT k n).length = n := by simp [mkT]
theorem mkT_get (k : Int) (n i : Nat) (h : i < n) : (mkT k n)[i]? = some ⟨k + 4 * i, k + 4 * i + 1, k + 4 * i + 2, k + 4 * i + 3⟩ := by simp [mkT, h]

end Go.Proofs.YtldpdjpchcoigaaGreat

/- The laws' helpers on dyadic numbers, intervals and lists of intervals; no condition beyond stated lengths. -/
namespace Go.Proofs.YtldpdjpchcoigaaGreat
open Go.Ab Ints
set_option linter.unusedSimpArgs false
set_option linter.unusedVariables false
theorem two4 {H : AHeap} {b : Nat} {x y z u : Value} (h : H.blk b = some [x, y, z, u]) : loadNV H 2 (.pointer (some ⟨b, 0, none⟩)) = some (.agg #[x, y]) ∧ loadNV H 2 (.pointer (some ⟨b, 2, none⟩)) = some (.agg #[z, u]) := by
  constructor <;> simp [loadNV, loadNH, h]
theorem put4a {lim b : Nat} {H : AHeap} {p q r s x y : Value} (hl : lim ≤ b) (h : H.blk b = some [p, q, r, s]) : storeH lim H 2 (.pointer (some ⟨b, 0, none⟩)) (.agg #[x, y]) = some (undef, H.put b [x, y, r, s]) := by
  simp [storeH, cellsV, hl, h, putL]
theorem put4b {lim b : Nat} {H : AHeap} {p q r s x y : Value} (hl : lim ≤ b) (h : H.blk b = some [p, q, r, s]) : storeH lim H 2 (.pointer (some ⟨b, 2, none⟩)) (.agg #[x, y]) = some (undef, H.put b [p, q, x, y]) := by
  simp [storeH, cellsV, hl, h, putL]
theorem put2a {lim b : Nat} {H : AHeap} {p q : Value} (k : IntKind) (x : Int) (hl : lim ≤ b) (h : H.blk b = some [p, q]) : storeH lim H 1 (.pointer (some ⟨b, 0, none⟩)) (.int k x) = some (undef, H.put b [.int k x, q]) := by
  rw [store_int (o := 0) k x hl h (by simp)]; rfl
theorem put2b {lim b : Nat} {H : AHeap} {p q : Value} (k : IntKind) (x : Int) (hl : lim ≤ b) (h : H.blk b = some [p, q]) : storeH lim H 1 (.pointer (some ⟨b, 1, none⟩)) (.int k x) = some (undef, H.put b [p, .int k x]) := by
  rw [store_int (o := 1) k x hl h (by simp)]; rfl
theorem toDyadic_ok (lim : Nat) (n k : Int) (H : AHeap) (hl : lim ≤ H.next) : ACalls Tryz.prog lim n_laws_toDyadic [.agg #[.int .i64 n, .int .i64 k]] H fun v H' => v = .agg #[.int .i64 n, .int .i64 k] ∧ Ext H H' := by
  refine is_laws_toDyadic.go rfl ?_
  unfold c_laws_toDyadic
  refine s_reg ?_
  simp only [o_eff, o_nil, Opd.ev, EOp.ev, env0, gu, gv, setD, List.set, Option.map_some, Option.some.injEq, exists_eq_left', boxH, cellsV]
  have hx1 := Ext.alloc H [.int .i64 n, .int .i64 k]
  have hb1 := alloc_new H [.int .i64 n, .int .i64 k]
  have hl1 : (H.alloc [.int .i64 n, .int .i64 k]).next = H.next + 1 := rfl
  generalize H.alloc [.int .i64 n, .int .i64 k] = H1 at hx1 hb1 hl1 ⊢
  have hx2 := Ext.alloc H1 [.int .i64 0, .int .i64 0]
  have hb2 := alloc_new H1 [.int .i64 0, .int .i64 0]
  have hl2 : (H1.alloc [.int .i64 0, .int .i64 0]).next = H1.next + 1 := rfl
  replace hb1 : (H1.alloc [.int .i64 0, .int .i64 0]).blk H.next = some [.int .i64 n, .int .i64 k] := by rw [alloc_old _ _ (by omega)]; exact hb1
  generalize H1.alloc [.int .i64 0, .int .i64 0] = H2 at hx2 hb1 hb2 hl2 ⊢
  refine s_reg ?_
  simp only [o_eff, o_nil, EOp.ev, setD, List.set, Option.some.injEq, exists_eq_left']
  have hx3 := Ext.alloc H2 [.int .i64 0, .int .i64 0]
  have hb3 := alloc_new H2 [.int .i64 0, .int .i64 0]
  have hl3 : (H2.alloc [.int .i64 0, .int .i64 0]).next = H2.next + 1 := rfl
  replace hb1 : (H2.alloc [.int .i64 0, .int .i64 0]).blk H.next = some [.int .i64 n, .int .i64 k] := by rw [alloc_old _ _ (by omega)]; exact hb1
  replace hb2 : (H2.alloc [.int .i64 0, .int .i64 0]).blk H1.next = some [.int .i64 0, .int .i64 0] := by rw [alloc_old _ _ (by omega)]; exact hb2
  generalize H2.alloc [.int .i64 0, .int .i64 0] = H3 at hx3 hb1 hb2 hb3 hl3 ⊢
  refine s_reg ?_
  simp only [o_pure, o_eff, o_nil, POp.ev, Opd.ev, EOp.ev, gv, setD, Option.some.injEq, exists_eq_left', load1V, fadV, List.getElem?_cons_zero, Nat.zero_add, cell_blk hb1, put2a (lim := lim) .i64 n (show lim ≤ H2.next by omega) hb3]
  have e4 := put_same H3 H2.next [.int .i64 n, .int .i64 0]
  have n4 : (H3.put H2.next [.int .i64 n, .int .i64 0]).next = H3.next := rfl
  replace hb1 : (H3.put H2.next [.int .i64 n, .int .i64 0]).blk H.next = some [.int .i64 n, .int .i64 k] := by rw [put_ne _ _ (by omega)]; exact hb1
  replace hb2 : (H3.put H2.next [.int .i64 n, .int .i64 0]).blk H1.next = some [.int .i64 0, .int .i64 0] := by rw [put_ne _ _ (by omega)]; exact hb2
  have c4 := Chg.put H2.next H3 [.int .i64 n, .int .i64 0]
  generalize H3.put H2.next [.int .i64 n, .int .i64 0] = H4 at e4 n4 hb1 hb2 c4 ⊢
  refine s_reg ?_
  simp only [o_pure, o_eff, o_nil, POp.ev, Opd.ev, EOp.ev, gv, setD, Option.some.injEq, exists_eq_left', load1V, fadV, List.getElem?_cons_zero, List.getElem?_cons_succ, Nat.zero_add, cell_blk hb1, put2b (lim := lim) .i64 k (show lim ≤ H2.next by omega) e4]
  have e5 := put_same H4 H2.next [.int .i64 n, .int .i64 k]
  have n5 : (H4.put H2.next [.int .i64 n, .int .i64 k]).next = H4.next := rfl
  replace hb2 : (H4.put H2.next [.int .i64 n, .int .i64 k]).blk H1.next = some [.int .i64 0, .int .i64 0] := by rw [put_ne _ _ (by omega)]; exact hb2
  have c5 := Chg.put H2.next H4 [.int .i64 n, .int .i64 k]
  generalize H4.put H2.next [.int .i64 n, .int .i64 k] = H5 at e5 n5 hb2 c5 ⊢
  refine s_reg ?_
  simp only [o_pure, o_eff, o_nil, POp.ev, Opd.ev, EOp.ev, gv, setD, Option.some.injEq, exists_eq_left', load2 e5, store2 (lim := lim) (show lim ≤ H1.next by omega) hb2]
  refine s_ret1 ?_
  simp +decide only [p_fin_ret, resV, resOne, gv, Option.some.injEq, exists_eq_left', load2 (put_same _ _ _)]
  have x2 : Ext H H5 := Chg.ext (((hx1.trans hx2).trans hx3)) (c4.trans c5) (by omega)
  exact ⟨trivial, Chg.ext x2 (Chg.put _ _ _) (by omega)⟩
theorem toInterval_ok (lim : Nat) (t : Tm) (H : AHeap) (hl : lim ≤ H.next) : ACalls Tryz.prog lim n_laws_toInterval [tv t] H fun v H' => v = tv t ∧ Ext H H' := by
  refine is_laws_toInterval.go rfl ?_
  unfold c_laws_toInterval tv
  refine s_reg ?_
  simp only [o_eff, o_nil, Opd.ev, EOp.ev, env0, gu, gv, setD, List.set, Option.map_some, Option.some.injEq, exists_eq_left', boxH, cellsV]
  have hx1 := Ext.alloc H (tc t)
  have hb1 := alloc_new H (tc t)
  have hl1 : (H.alloc (tc t)).next = H.next + 1 := rfl
  unfold tc at hx1 hb1 hl1
  generalize H.alloc [vi t.c, vi t.x, vi t.y, vi t.z] = H1 at hx1 hb1 hl1 ⊢
  have hx2 := Ext.alloc H1 [vi 0, vi 0, vi 0, vi 0]
  have hb2 := alloc_new H1 [vi 0, vi 0, vi 0, vi 0]
  have hl2 : (H1.alloc [vi 0, vi 0, vi 0, vi 0]).next = H1.next + 1 := rfl
  replace hb1 : (H1.alloc [vi 0, vi 0, vi 0, vi 0]).blk H.next = some [vi t.c, vi t.x, vi t.y, vi t.z] := by rw [alloc_old _ _ (by omega)]; exact hb1
  generalize H1.alloc [vi 0, vi 0, vi 0, vi 0] = H2 at hx2 hb1 hb2 hl2 ⊢
  refine s_reg ?_
  simp only [o_eff, o_nil, EOp.ev, setD, List.set, Option.some.injEq, exists_eq_left']
  have hx3 := Ext.alloc H2 [vi 0, vi 0, vi 0, vi 0]
  have hb3 := alloc_new H2 [vi 0, vi 0, vi 0, vi 0]
  have hl3 : (H2.alloc [vi 0, vi 0, vi 0, vi 0]).next = H2.next + 1 := rfl
  replace hb1 : (H2.alloc [vi 0, vi 0, vi 0, vi 0]).blk H.next = some [vi t.c, vi t.x, vi t.y, vi t.z] := by rw [alloc_old _ _ (by omega)]; exact hb1
  replace hb2 : (H2.alloc [vi 0, vi 0, vi 0, vi 0]).blk H1.next = some [vi 0, vi 0, vi 0, vi 0] := by rw [alloc_old _ _ (by omega)]; exact hb2
  generalize H2.alloc [vi 0, vi 0, vi 0, vi 0] = H3 at hx3 hb1 hb2 hb3 hl3 ⊢
  have x03 := (hx1.trans hx2).trans hx3
  refine s_reg ?_
  simp only [o_pure, o_callF, POp.ev, Opd.ev, gv, setD, List.map, Option.some.injEq, exists_eq_left', fadV, Nat.add_zero, (two4 hb1).1]
  refine (toDyadic_ok lim t.c t.x H3 (by omega)).mono ?_
  rintro _ H4 ⟨rfl, hx4⟩
  have hn4 := hx4.next
  replace hb1 : H4.blk H.next = some [vi t.c, vi t.x, vi t.y, vi t.z] := by rw [hx4.blk _ (by omega)]; exact hb1
  replace hb2 : H4.blk H1.next = some [vi 0, vi 0, vi 0, vi 0] := by rw [hx4.blk _ (by omega)]; exact hb2
  replace hb3 : H4.blk H2.next = some [vi 0, vi 0, vi 0, vi 0] := by rw [hx4.blk _ (by omega)]; exact hb3
  simp only [o_cont, o_pure, o_eff, o_nil, POp.ev, Opd.ev, EOp.ev, gv, setD, Option.some.injEq, exists_eq_left', fadV, Nat.add_zero, put4a (lim := lim) (show lim ≤ H2.next by omega) hb3]
  have e5 := put_same H4 H2.next [vi t.c, vi t.x, vi 0, vi 0]
  have n5 : (H4.put H2.next [vi t.c, vi t.x, vi 0, vi 0]).next = H4.next := rfl
  have c5 := Chg.put H2.next H4 [vi t.c, vi t.x, vi 0, vi 0]
  replace hb1 : (H4.put H2.next [vi t.c, vi t.x, vi 0, vi 0]).blk H.next = some [vi t.c, vi t.x, vi t.y, vi t.z] := by rw [put_ne _ _ (by omega)]; exact hb1
  replace hb2 : (H4.put H2.next [vi t.c, vi t.x, vi 0, vi 0]).blk H1.next = some [vi 0, vi 0, vi 0, vi 0] := by rw [put_ne _ _ (by omega)]; exact hb2
  generalize H4.put H2.next [vi t.c, vi t.x, vi 0, vi 0] = H5 at e5 n5 c5 hb1 hb2 ⊢
  have x05 : Ext H H5 := Chg.ext (x03.trans hx4) c5 (by omega)
  refine s_reg ?_
  simp only [o_pure, o_callF, POp.ev, Opd.ev, gv, setD, List.map, Option.some.injEq, exists_eq_left', fadV, Nat.zero_add, (two4 hb1).2]
  refine (toDyadic_ok lim t.y t.z H5 (by omega)).mono ?_
  rintro _ H6 ⟨rfl, hx6⟩
  have hn6 := hx6.next
  replace hb2 : H6.blk H1.next = some [vi 0, vi 0, vi 0, vi 0] := by rw [hx6.blk _ (by omega)]; exact hb2
  replace e5 : H6.blk H2.next = some [vi t.c, vi t.x, vi 0, vi 0] := by rw [hx6.blk _ (by omega)]; exact e5
  simp only [o_cont, o_pure, o_eff, o_nil, POp.ev, Opd.ev, EOp.ev, gv, setD, Option.some.injEq, exists_eq_left', fadV, Nat.zero_add, put4b (lim := lim) (show lim ≤ H2.next by omega) e5]
  have e7 := put_same H6 H2.next [vi t.c, vi t.x, vi t.y, vi t.z]
  have n7 : (H6.put H2.next [vi t.c, vi t.x, vi t.y, vi t.z]).next = H6.next := rfl
  have c7 := Chg.put H2.next H6 [vi t.c, vi t.x, vi t.y, vi t.z]
  replace hb2 : (H6.put H2.next [vi t.c, vi t.x, vi t.y, vi t.z]).blk H1.next = some [vi 0, vi 0, vi 0, vi 0] := by rw [put_ne _ _ (by omega)]; exact hb2
  generalize H6.put H2.next [vi t.c, vi t.x, vi t.y, vi t.z] = H7 at e7 n7 c7 hb2 ⊢
  have x07 : Ext H H7 := Chg.ext (x05.trans hx6) c7 (by omega)
  refine s_reg ?_
  simp only [o_pure, o_eff, o_nil, POp.ev, Opd.ev, EOp.ev, gv, setD, Option.some.injEq, exists_eq_left', load4 e7, store4 (lim := lim) (show lim ≤ H1.next by omega) hb2]
  refine s_ret1 ?_
  simp +decide only [p_fin_ret, resV, resOne, gv, Option.some.injEq, exists_eq_left', load4 (put_same _ _ _)]
  exact ⟨trivial, Chg.ext x07 (Chg.put _ _ _) (by omega)⟩
theorem eqDyadic_ok (lim : Nat) (n k m l : Int) (H : AHeap) : ACalls Tryz.prog lim n_laws_eqDyadic [.agg #[vi n, vi k], .agg #[vi m, vi l]] H fun v H' => v = .bool (decide (n = m ∧ k = l)) ∧ Ext H H' := by
  refine is_laws_eqDyadic.go rfl ?_
  unfold c_laws_eqDyadic
  refine s_reg ?_
  simp only [o_pure, o_eff, o_nil, POp.ev, Opd.ev, EOp.ev, env0, gu, gv, setD, List.set, Option.map_some, Option.some.injEq, exists_eq_left', boxH, cellsV]
  have hx1 := Ext.alloc H [vi n, vi k]
  have hb1 := alloc_new H [vi n, vi k]
  have hl1 : (H.alloc [vi n, vi k]).next = H.next + 1 := rfl
  generalize H.alloc [vi n, vi k] = H1 at hx1 hb1 hl1 ⊢
  have hx2 := Ext.alloc H1 [vi m, vi l]
  have hb2 := alloc_new H1 [vi m, vi l]
  replace hb1 : (H1.alloc [vi m, vi l]).blk H.next = some [vi n, vi k] := by rw [alloc_old _ _ (by omega)]; exact hb1
  generalize H1.alloc [vi m, vi l] = H2 at hx2 hb1 hb2 ⊢
  have hx := hx1.trans hx2
  refine s_test ?_
  simp only [o_pure, o_nil, POp.ev, Opd.ev, gv, setD, Option.some.injEq, exists_eq_left', binV, load1V, fadV, ne_eq, not_true_eq_false, if_false, List.getElem?_cons_zero, Nat.zero_add, cell_blk hb1, cell_blk hb2]
  refine Test.split (fun h => ?_) (fun h => ?_)
  · refine s_reg ?_
    simp only [o_pure, o_nil, POp.ev, Opd.ev, setD, List.set, Option.some.injEq, exists_eq_left']
    refine s_ret1 ?_
    simp +decide only [p_seq_ret, p_fin_ret, resV, resOne, gv, Option.some.injEq, exists_eq_left']
    have h' : n ≠ m := by simpa using h
    simp [h', hx]
  have h1 : n = m := by simpa using h
  refine s_skip1 ?_
  simp +decide only [p_seq_normal]
  refine s_test ?_
  simp only [o_pure, o_nil, POp.ev, Opd.ev, gv, setD, Option.some.injEq, exists_eq_left', binV, load1V, fadV, ne_eq, not_true_eq_false, if_false, List.getElem?_cons_zero, List.getElem?_cons_succ, Nat.zero_add, cell_blk hb1, cell_blk hb2]
  refine Test.split (fun h => ?_) (fun h => ?_)
  · refine s_reg ?_
    simp only [o_pure, o_nil, POp.ev, Opd.ev, setD, List.set, Option.some.injEq, exists_eq_left']
    refine s_ret1 ?_
    simp +decide only [p_seq_ret, p_fin_ret, resV, resOne, gv, Option.some.injEq, exists_eq_left']
    have h' : k ≠ l := by simpa using h
    simp [h', hx]
  have h2 : k = l := by simpa using h
  refine s_skip1 ?_
  simp +decide only [p_seq_normal]
  refine s_reg ?_
  simp only [o_pure, o_nil, POp.ev, Opd.ev, setD, List.set, Option.some.injEq, exists_eq_left']
  refine s_ret1 ?_
  simp +decide only [p_fin_ret, resV, resOne, gv, Option.some.injEq, exists_eq_left']
  simp [h1, h2, hx]
theorem eqInterval_ok (lim : Nat) (t u : Tm) (H : AHeap) : ACalls Tryz.prog lim n_laws_eqInterval [tv t, tv u] H fun v H' => v = .bool (decide (t = u)) ∧ Ext H H' := by
  refine is_laws_eqInterval.go rfl ?_
  unfold c_laws_eqInterval tv
  refine s_reg ?_
  simp only [o_pure, o_eff, o_nil, POp.ev, Opd.ev, EOp.ev, env0, gu, gv, setD, List.set, Option.map_some, Option.some.injEq, exists_eq_left', boxH, cellsV]
  have hx1 := Ext.alloc H [vi t.c, vi t.x, vi t.y, vi t.z]
  have hb1 := alloc_new H [vi t.c, vi t.x, vi t.y, vi t.z]
  have hl1 : (H.alloc [vi t.c, vi t.x, vi t.y, vi t.z]).next = H.next + 1 := rfl
  generalize H.alloc [vi t.c, vi t.x, vi t.y, vi t.z] = H1 at hx1 hb1 hl1 ⊢
  have hx2 := Ext.alloc H1 [vi u.c, vi u.x, vi u.y, vi u.z]
  have hb2 := alloc_new H1 [vi u.c, vi u.x, vi u.y, vi u.z]
  have hl2 : (H1.alloc [vi u.c, vi u.x, vi u.y, vi u.z]).next = H1.next + 1 := rfl
  replace hb1 : (H1.alloc [vi u.c, vi u.x, vi u.y, vi u.z]).blk H.next = some [vi t.c, vi t.x, vi t.y, vi t.z] := by rw [alloc_old _ _ (by omega)]; exact hb1
  generalize H1.alloc [vi u.c, vi u.x, vi u.y, vi u.z] = H2 at hx2 hb1 hb2 hl2 ⊢
  have hx := hx1.trans hx2
  refine s_test ?_
  simp only [o_pure, o_callF, POp.ev, Opd.ev, gv, setD, List.map, Option.some.injEq, exists_eq_left', fadV, Nat.add_zero, (two4 hb1).1, (two4 hb2).1]
  refine (eqDyadic_ok _ _ _ _ _ _).mono ?_
  rintro _ H3 ⟨rfl, hx3⟩
  simp only [o_cont, o_pure, o_nil, POp.ev, Opd.ev, gv, setD, Option.some.injEq, exists_eq_left', unV]
  refine Test.split (fun h => ?_) (fun h => ?_)
  · refine s_reg ?_
    simp only [o_pure, o_nil, POp.ev, Opd.ev, setD, List.set, Option.some.injEq, exists_eq_left']
    refine s_ret1 ?_
    simp +decide only [p_seq_ret, p_fin_ret, resV, resOne, gv, Option.some.injEq, exists_eq_left']
    have h' : ¬ (t.c = u.c ∧ t.x = u.x) := by simpa only [Bool.not_eq_true', decide_eq_false_iff_not] using h
    have : t ≠ u := by rintro rfl; exact h' ⟨rfl, rfl⟩
    simp [this, hx.trans hx3]
  have h1 : t.c = u.c ∧ t.x = u.x := by simpa using h
  replace hb1 : H3.blk H.next = some [vi t.c, vi t.x, vi t.y, vi t.z] := by rw [hx3.blk _ (by omega)]; exact hb1
  replace hb2 : H3.blk H1.next = some [vi u.c, vi u.x, vi u.y, vi u.z] := by rw [hx3.blk _ (by omega)]; exact hb2
  refine s_skip1 ?_
  simp +decide only [p_seq_normal]
  refine s_test ?_
  simp only [o_pure, o_callF, POp.ev, Opd.ev, gv, setD, List.map, Option.some.injEq, exists_eq_left', fadV, Nat.zero_add, (two4 hb1).2, (two4 hb2).2]
  refine (eqDyadic_ok _ _ _ _ _ _).mono ?_
  rintro _ H4 ⟨rfl, hx4⟩
  simp only [o_cont, o_pure, o_nil, POp.ev, Opd.ev, gv, setD, Option.some.injEq, exists_eq_left', unV]
  refine Test.split (fun h => ?_) (fun h => ?_)
  · refine s_reg ?_
    simp only [o_pure, o_nil, POp.ev, Opd.ev, setD, List.set, Option.some.injEq, exists_eq_left']
    refine s_ret1 ?_
    simp +decide only [p_seq_ret, p_fin_ret, resV, resOne, gv, Option.some.injEq, exists_eq_left']
    have h' : ¬ (t.y = u.y ∧ t.z = u.z) := by simpa only [Bool.not_eq_true', decide_eq_false_iff_not] using h
    have : t ≠ u := by rintro rfl; exact h' ⟨rfl, rfl⟩
    simp [this, (hx.trans hx3).trans hx4]
  have h2 : t.y = u.y ∧ t.z = u.z := by simpa using h
  refine s_skip1 ?_
  simp +decide only [p_seq_normal]
  refine s_reg ?_
  simp only [o_pure, o_nil, POp.ev, Opd.ev, setD, List.set, Option.some.injEq, exists_eq_left']
  refine s_ret1 ?_
  simp +decide only [p_fin_ret, resV, resOne, gv, Option.some.injEq, exists_eq_left']
  have : t = u := by cases t; cases u; simp_all
  simp [this, (hx.trans hx3).trans hx4]
theorem eqIntervalS_ok (lim : Nat) (s t : Value) (l : List Tm) (H : AHeap) (hs : SlT H s l) (ht : SlT H t l) (hn : l.length ≤ 1000000000) :
    ACalls Tryz.prog lim n_laws_eqIntervalS [s, t] H fun v H' => v = .bool true ∧ Ext H H' := by
  refine is_laws_eqIntervalS.go rfl ?_
  unfold c_laws_eqIntervalS
  refine s_reg ?_
  simp only [o_pure, o_nil, POp.ev, Opd.ev, env0, gu, setD, List.set, Option.some.injEq, exists_eq_left']
  have hne : ((l.length : Int) != (l.length : Int)) = false := by simp
  refine s_test ?_
  simp only [o_pure, o_nil, POp.ev, Opd.ev, gv, setD, Option.some.injEq, exists_eq_left', binV, ne_eq, not_true_eq_false, if_false, hs.lenV, ht.lenV, hne]
  refine Test.false_ (s_skip1 ?_)
  simp +decide only [p_seq_normal]
  refine s_assoc (s_reg ?_)
  simp only [o_pure, o_nil, POp.ev, Opd.ev, setD, List.set, Option.some.injEq, exists_eq_left']
  refine s_block ?_
  refine s_loop1 (fun k e' H' => ∃ i, i + k = l.length ∧ Ext H H' ∧ e' = [s, t, .bool false, .int .i64 i]) l.length ⟨0, by omega, Ext.refl _, rfl⟩ ?_
  rintro k e' H' ⟨i, hik, hx, rfl⟩
  refine s_test ?_
  simp only [o_pure, o_nil, POp.ev, Opd.ev, gv, setD, Option.some.injEq, exists_eq_left', binV, ne_eq, not_true_eq_false, if_false, hs.lenV]
  refine Test.split (fun hlt => ?_) (fun hlt => ?_)
  · have hlt' : i < l.length := by simpa using hlt
    obtain ⟨b1, o1, h1, k1⟩ := (hs.ext hx).at hlt'
    obtain ⟨b2, o2, h2, k2⟩ := (ht.ext hx).at hlt'
    refine s_skip1 ?_
    simp +decide only [p_seq_normal]
    refine s_block ?_
    refine s_test1 ?_
    simp only [o_pure, o_callF, POp.ev, Opd.ev, gv, setD, List.map, Option.some.injEq, exists_eq_left', h1, k1.all, h2, k2.all]
    refine (eqInterval_ok _ _ _ _).mono ?_
    rintro _ H2 ⟨rfl, hx2⟩
    rw [decide_eq_true rfl]
    simp only [o_cont, o_pure, o_nil, POp.ev, Opd.ev, gv, setD, Option.some.injEq, exists_eq_left', unV, Bool.not_true]
    refine Test.false_ (s_skip1 ?_)
    simp +decide only [p_seq_normal, p_block_normal]
    refine s_reg1 ?_
    simp only [o_pure, o_nil, POp.ev, Opd.ev, gv, setD, List.set, Option.some.injEq, exists_eq_left', binV, ne_eq, not_true_eq_false, if_false, add1 (i := i) (by omega)]
    simp +decide only [p_seq_normal]
    exact Round.mk (k - 1) (by omega) ⟨i + 1, by omega, hx.trans hx2, rfl⟩
  · refine s_exit1 ?_
    simp +decide only [p_seq_normal, p_seq_exit, p_block_exit, reduceIte]
    refine s_reg ?_
    simp only [o_pure, o_nil, POp.ev, Opd.ev, setD, List.set, Option.some.injEq, exists_eq_left']
    refine s_ret1 ?_
    simp +decide only [p_fin_ret, resV, resOne, gv, Option.some.injEq, exists_eq_left']
    exact ⟨trivial, hx⟩
theorem markIntervalS_ok (lim : Nat) (b : Nat) (s : Value) (l : List Tm) (k : Int) (H : AHeap) (hl : lim ≤ b) (hs : VecT H b s l) (hn : l.length ≤ 1000000000) (h0 : 0 ≤ k) (hk : k ≤ 1000000000) :
    ACalls Tryz.prog lim n_laws_markIntervalS [s, .int .i64 k] H fun v H' => v = .int .i64 (k + 4 * l.length) ∧ VecT H' b s (mkT k l.length) ∧ Chg b H H' ∧ H'.next = H.next := by
  refine is_laws_markIntervalS.go rfl ?_
  unfold c_laws_markIntervalS
  have hlen := mkT_length k l.length
  refine s_reg ?_
  simp only [o_pure, o_nil, POp.ev, Opd.ev, env0, gu, setD, List.set, Option.some.injEq, exists_eq_left']
  refine s_assoc (s_reg ?_)
  simp only [o_pure, o_nil, POp.ev, Opd.ev, setD, List.set, Option.some.injEq, exists_eq_left']
  refine s_block ?_
  refine s_loop1 (fun j e' H' => ∃ (i : Nat), i + j = l.length ∧ VecT H' b s ((mkT k l.length).take i ++ l.drop i) ∧ Chg b H H' ∧ H'.next = H.next ∧ e' = [s, .int .i64 (k + 4 * i), .int .i64 0, .int .i64 i]) l.length ⟨0, by omega, by simpa using hs, Chg.refl _ _, rfl, by simp⟩ ?_
  rintro j e' H' ⟨i, hij, hv, hc, hnx, rfl⟩
  have hL : ((mkT k l.length).take i ++ l.drop i).length = l.length := by simp [hlen]; omega
  refine s_test ?_
  simp only [o_pure, o_nil, POp.ev, Opd.ev, gv, setD, Option.some.injEq, exists_eq_left', binV, ne_eq, not_true_eq_false, if_false, Vec.lenV hv, hL]
  refine Test.split (fun hlt => ?_) (fun hlt => ?_)
  · have hlt' : i < l.length := by simpa using hlt
    have hget : ((mkT k l.length).take i ++ l.drop i)[i]? = some l[i] := by
      rw [List.getElem?_append_right (by simp; omega)]
      simp [hlen, Nat.min_eq_left (Nat.le_of_lt hlt')]
    have i1 := Vec.iad hv .i64 (show i < _ by omega)
    obtain ⟨cs1, s1, v1⟩ := VecT.putf (lim := lim) hv hl hget (k + 4 * i) (j := 0) (by omega)
    rw [Nat.add_zero] at s1
    have n1 : (H'.put b cs1).next = H'.next := rfl
    have c1 := hc.trans (Chg.put b H' cs1)
    have w1 : IntKind.i64.wrap (k + 4 * i + 1) = k + 4 * i + 1 := by rw [IntKind.wrap_i64]; omega
    have w2 : IntKind.i64.wrap (k + 4 * i + 1 + 1) = k + 4 * i + 2 := by rw [IntKind.wrap_i64]; omega
    have w3 : IntKind.i64.wrap (k + 4 * i + 2 + 1) = k + 4 * i + 3 := by rw [IntKind.wrap_i64]; omega
    have w4 : IntKind.i64.wrap (k + 4 * i + 3 + 1) = k + 4 * ((i + 1 : Nat) : Int) := by rw [IntKind.wrap_i64]; omega
    refine s_skip1 ?_
    simp +decide only [p_seq_normal]
    refine s_block ?_
    refine s_reg ?_
    simp only [o_pure, o_eff, o_nil, POp.ev, Opd.ev, EOp.ev, gv, setD, Option.some.injEq, exists_eq_left', fadV, i1, Nat.add_zero, s1]
    generalize H'.put b cs1 = H1 at n1 c1 v1 ⊢
    refine s_reg ?_
    simp only [o_pure, o_nil, POp.ev, Opd.ev, gv, setD, List.set, Option.some.injEq, exists_eq_left', binV, ne_eq, not_true_eq_false, if_false, w1]
    obtain ⟨cs2, s2, v2⟩ := VecT.putf (lim := lim) v1 hl (List.getElem?_set_self (by omega)) (k + 4 * i + 1) (j := 1) (by omega)
    have n2 : (H1.put b cs2).next = H1.next := rfl
    have c2 := c1.trans (Chg.put b H1 cs2)
    rw [List.set_set] at v2
    refine s_reg ?_
    simp only [o_pure, o_eff, o_nil, POp.ev, Opd.ev, EOp.ev, gv, setD, Option.some.injEq, exists_eq_left', fadV, i1, Nat.add_zero, s2]
    generalize H1.put b cs2 = H2 at n2 c2 v2 ⊢
    refine s_reg ?_
    simp only [o_pure, o_nil, POp.ev, Opd.ev, gv, setD, List.set, Option.some.injEq, exists_eq_left', binV, ne_eq, not_true_eq_false, if_false, w2]
    obtain ⟨cs3, s3, v3⟩ := VecT.putf (lim := lim) v2 hl (List.getElem?_set_self (by omega)) (k + 4 * i + 2) (j := 2) (by omega)
    have n3 : (H2.put b cs3).next = H2.next := rfl
    have c3 := c2.trans (Chg.put b H2 cs3)
    rw [List.set_set] at v3
    refine s_reg ?_
    simp only [o_pure, o_eff, o_nil, POp.ev, Opd.ev, EOp.ev, gv, setD, Option.some.injEq, exists_eq_left', fadV, i1, Nat.add_zero, s3]
    generalize H2.put b cs3 = H3 at n3 c3 v3 ⊢
    refine s_reg ?_
    simp only [o_pure, o_nil, POp.ev, Opd.ev, gv, setD, List.set, Option.some.injEq, exists_eq_left', binV, ne_eq, not_true_eq_false, if_false, w3]
    obtain ⟨cs4, s4, v4⟩ := VecT.putf (lim := lim) v3 hl (List.getElem?_set_self (by omega)) (k + 4 * i + 3) (j := 3) (by omega)
    have n4 : (H3.put b cs4).next = H3.next := rfl
    have c4 := c3.trans (Chg.put b H3 cs4)
    rw [List.set_set] at v4
    refine s_reg ?_
    simp only [o_pure, o_eff, o_nil, POp.ev, Opd.ev, EOp.ev, gv, setD, Option.some.injEq, exists_eq_left', fadV, i1, Nat.add_assoc, Nat.reduceAdd, s4]
    generalize H3.put b cs4 = H4 at n4 c4 v4 ⊢
    refine s_reg1 ?_
    simp only [o_pure, o_nil, POp.ev, Opd.ev, gv, setD, List.set, Option.some.injEq, exists_eq_left', binV, ne_eq, not_true_eq_false, if_false, w4]
    simp +decide only [p_seq_normal, p_block_normal]
    refine s_reg1 ?_
    simp only [o_pure, o_nil, POp.ev, Opd.ev, gv, setD, List.set, Option.some.injEq, exists_eq_left', binV, ne_eq, not_true_eq_false, if_false, add1 (i := i) (by omega)]
    simp +decide only [p_seq_normal]
    refine Round.mk (j - 1) (by omega) ⟨i + 1, by omega, ?_, c4, by omega, rfl⟩
    have hset : ((mkT k l.length).take i ++ l.drop i).set i ⟨k + 4 * i, k + 4 * i + 1, k + 4 * i + 2, k + 4 * i + 3⟩ = (mkT k l.length).take (i + 1) ++ l.drop (i + 1) := by
      have e0 : i - ((mkT k l.length).take i).length = 0 := by simp [hlen]; omega
      rw [List.set_append_right _ _ (by simp [hlen]; omega), e0, List.drop_eq_getElem_cons hlt', List.set_cons_zero, List.take_add_one, mkT_get k _ _ hlt']
      simp
    rw [← hset]
    exact v4
  · have hge : i = l.length := by simp at hlt; omega
    subst hge
    refine s_exit1 ?_
    simp +decide only [p_seq_normal, p_seq_exit, p_block_exit, reduceIte]
    refine s_reg ?_
    simp only [o_pure, o_nil, POp.ev, Opd.ev, gv, setD, List.set, Option.some.injEq, exists_eq_left']
    refine s_ret1 ?_
    simp +decide only [p_fin_ret, resV, resOne, gv, Option.some.injEq, exists_eq_left']
    refine ⟨trivial, ?_, hc, hnx⟩
    rw [List.drop_length, List.append_nil, List.take_of_length_le (by omega)] at hv
    exact hv
theorem heldIntervalS_ok (lim : Nat) (s : Value) (n : Nat) (k : Int) (H : AHeap) (hs : SlT H s (mkT k n)) (hn : n ≤ 1000000000) (h0 : 0 ≤ k) (hk : k ≤ 1000000000) :
    ACalls Tryz.prog lim n_laws_heldIntervalS [s, .int .i64 k] H fun v H' => v = .int .i64 (k + 4 * n) ∧ H' = H := by
  refine is_laws_heldIntervalS.go rfl ?_
  unfold c_laws_heldIntervalS
  have hl := mkT_length k n
  refine s_reg ?_
  simp only [o_pure, o_nil, POp.ev, Opd.ev, env0, gu, setD, List.set, Option.some.injEq, exists_eq_left']
  refine s_assoc (s_reg ?_)
  simp only [o_pure, o_nil, POp.ev, Opd.ev, setD, List.set, Option.some.injEq, exists_eq_left']
  refine s_block ?_
  refine s_loop1 (fun j e' H' => H' = H ∧ ∃ (i : Nat), i + j = n ∧ e' = [s, .int .i64 (k + 4 * i), .int .i64 0, .int .i64 i]) n ⟨rfl, 0, by omega, by simp⟩ ?_
  rintro j e' H ⟨rfl, i, hij, rfl⟩
  refine s_test ?_
  simp only [o_pure, o_nil, POp.ev, Opd.ev, gv, setD, Option.some.injEq, exists_eq_left', binV, ne_eq, not_true_eq_false, if_false, hs.lenV, hl]
  refine Test.split (fun hlt => ?_) (fun hlt => ?_)
  · have hlt' : i < n := by simpa using hlt
    obtain ⟨b1, o1, h1, hat⟩ := hs.at (i := i) (by omega)
    have hx : (mkT k n)[i]'(by omega) = ⟨k + 4 * i, k + 4 * i + 1, k + 4 * i + 2, k + 4 * i + 3⟩ := by simp [mkT]
    rw [hx] at hat
    have hne : ∀ a : Int, (a != a) = false := fun a => by simp
    have w1 : IntKind.i64.wrap (k + 4 * i + 1) = k + 4 * i + 1 := by rw [IntKind.wrap_i64]; omega
    have w2 : IntKind.i64.wrap (k + 4 * i + 1 + 1) = k + 4 * i + 2 := by rw [IntKind.wrap_i64]; omega
    have w3 : IntKind.i64.wrap (k + 4 * i + 2 + 1) = k + 4 * i + 3 := by rw [IntKind.wrap_i64]; omega
    have w4 : IntKind.i64.wrap (k + 4 * i + 3 + 1) = k + 4 * ((i + 1 : Nat) : Int) := by rw [IntKind.wrap_i64]; omega
    refine s_skip1 ?_
    simp +decide only [p_seq_normal]
    refine s_block ?_
    refine s_test ?_
    simp only [o_pure, o_nil, POp.ev, Opd.ev, gv, setD, Option.some.injEq, exists_eq_left', binV, load1V, fadV, ne_eq, not_true_eq_false, if_false, h1, Nat.add_zero, hat.c, hne]
    refine Test.false_ (s_skip1 ?_)
    simp +decide only [p_seq_normal]
    refine s_reg ?_
    simp only [o_pure, o_nil, POp.ev, Opd.ev, gv, setD, List.set, Option.some.injEq, exists_eq_left', binV, ne_eq, not_true_eq_false, if_false, w1]
    refine s_test ?_
    simp only [o_pure, o_nil, POp.ev, Opd.ev, gv, setD, Option.some.injEq, exists_eq_left', binV, load1V, fadV, ne_eq, not_true_eq_false, if_false, h1, Nat.add_zero, hat.x, hne]
    refine Test.false_ (s_skip1 ?_)
    simp +decide only [p_seq_normal]
    refine s_reg ?_
    simp only [o_pure, o_nil, POp.ev, Opd.ev, gv, setD, List.set, Option.some.injEq, exists_eq_left', binV, ne_eq, not_true_eq_false, if_false, w2]
    refine s_test ?_
    simp only [o_pure, o_nil, POp.ev, Opd.ev, gv, setD, Option.some.injEq, exists_eq_left', binV, load1V, fadV, ne_eq, not_true_eq_false, if_false, h1, Nat.add_zero, hat.y, hne]
    refine Test.false_ (s_skip1 ?_)
    simp +decide only [p_seq_normal]
    refine s_reg ?_
    simp only [o_pure, o_nil, POp.ev, Opd.ev, gv, setD, List.set, Option.some.injEq, exists_eq_left', binV, ne_eq, not_true_eq_false, if_false, w3]
    refine s_test ?_
    simp only [o_pure, o_nil, POp.ev, Opd.ev, gv, setD, Option.some.injEq, exists_eq_left', binV, load1V, fadV, ne_eq, not_true_eq_false, if_false, h1, Nat.add_assoc, Nat.reduceAdd, hat.z, hne]
    refine Test.false_ (s_skip1 ?_)
    simp +decide only [p_seq_normal]
    refine s_reg1 ?_
    simp only [o_pure, o_nil, POp.ev, Opd.ev, gv, setD, List.set, Option.some.injEq, exists_eq_left', binV, ne_eq, not_true_eq_false, if_false, w4]
    simp +decide only [p_seq_normal, p_block_normal]
    refine s_reg1 ?_
    simp only [o_pure, o_nil, POp.ev, Opd.ev, gv, setD, List.set, Option.some.injEq, exists_eq_left', binV, ne_eq, not_true_eq_false, if_false, add1 (i := i) (by omega)]
    simp +decide only [p_seq_normal]
    exact Round.mk (j - 1) (by omega) ⟨rfl, i + 1, by omega, rfl⟩
  · have hge : i = n := by simp at hlt; omega
    subst hge
    refine s_exit1 ?_
    simp +decide only [p_seq_normal, p_seq_exit, p_block_exit, reduceIte]
    refine s_reg ?_
    simp only [o_pure, o_nil, POp.ev, Opd.ev, gv, setD, List.set, Option.some.injEq, exists_eq_left']
    refine s_ret1 ?_
    simp +decide only [p_fin_ret, resV, resOne, gv, Option.some.injEq, exists_eq_left']
end Go.Proofs.YtldpdjpchcoigaaGreat

/- Dyadic numbers and fit intervals, the reference: which are good, fit; halves; no condition beyond stated ranges. -/
namespace Go.Proofs.YtldpdjpchcoigaaGreat
open Go.Ab Ints
set_option linter.unusedSimpArgs false
set_option linter.unusedVariables false

def goodD (n k : Int) : Bool := (decide (0 ≤ k) && decide (k ≤ 24)) && (decide (-1099511627776 ≤ n) && decide (n ≤ 1099511627776)) && (k == 0 || n.tmod 2 != 0)
theorem goodD_all {n k : Int} (h : goodD n k = true) : ∃ K : Nat, k = (K : Int) ∧ K ≤ 24 ∧ n.natAbs ≤ 1099511627776 ∧ (K = 0 ∨ n.tmod 2 ≠ 0) := by
  simp only [goodD, Bool.and_eq_true, decide_eq_true_eq, Bool.or_eq_true, beq_iff_eq, bne_iff_ne] at h
  obtain ⟨⟨⟨h1, h2⟩, h3, h4⟩, h5⟩ := h
  exact ⟨k.toNat, by omega, by omega, by omega, h5.imp (fun h => by omega) id⟩
theorem dyGoodA_ok (lim : Nat) (n k : Int) (H : AHeap) : ACalls Tryz.prog lim n_spec_dyGood [.agg #[vi n, vi k]] H fun v H' => v = .bool (goodD n k) ∧ Ext H H' := by
  refine is_spec_dyGood.go rfl ?_
  unfold c_spec_dyGood
  refine s_reg ?_
  simp only [o_pure, o_eff, o_nil, POp.ev, Opd.ev, EOp.ev, env0, gu, gv, setD, List.set, Option.map_some, Option.some.injEq, exists_eq_left', boxH, cellsV]
  have hx := Ext.alloc H [vi n, vi k]
  have hb : (H.alloc [vi n, vi k]).blk H.next = some [vi n, vi k] := alloc_new _ _
  generalize H.alloc [vi n, vi k] = H1 at hx hb ⊢
  have e2 : ¬ ((2 : Int) = 0) := by decide
  refine s_reg ?_
  simp only [o_pure, o_callF, POp.ev, Opd.ev, gv, setD, List.map, Option.some.injEq, exists_eq_left', load1V, fadV, List.getElem?_cons_zero, List.getElem?_cons_succ, Nat.zero_add, cell_blk hb]
  refine (Ints.l1In_ok _ _ _ _ _).eq ?_
  unfold goodD
  generalize (decide ((0 : Int) ≤ k) && decide (k ≤ 24)) = A
  cases A
  · simp only [o_cont, o_pure, o_guard, gk_ft, gk_u, o_nil, POp.ev, Opd.ev, gv, setD, List.set, Option.some.injEq, exists_eq_left', pickV]
    refine s_ret1 ?_
    simp +decide only [p_fin_ret, resV, resOne, gv, Option.some.injEq, exists_eq_left']
    exact ⟨by simp, hx⟩
  · simp only [o_cont, o_pure, o_callF, o_guard, gk_tt, POp.ev, Opd.ev, gv, setD, List.map, Option.some.injEq, exists_eq_left', load1V, fadV, List.getElem?_cons_zero, Nat.zero_add, cell_blk hb]
    refine (Ints.l1In_ok _ _ _ _ _).eq ?_
    generalize (decide (-1099511627776 ≤ n) && decide (n ≤ 1099511627776)) = B
    cases B
    · simp only [o_cont, o_pure, o_guard, gk_ft, gk_u, o_nil, POp.ev, Opd.ev, gv, setD, List.set, Option.some.injEq, exists_eq_left', pickV]
      refine s_ret1 ?_
      simp +decide only [p_fin_ret, resV, resOne, gv, Option.some.injEq, exists_eq_left']
      exact ⟨by simp, hx⟩
    · by_cases h0 : k = 0
      · have d0 : (k == 0) = true := by simpa using h0
        simp only [o_cont, o_pure, o_guard, gk_tt, gk_tf, o_nil, POp.ev, Opd.ev, gv, setD, List.set, Option.some.injEq, exists_eq_left', pickV, binV, load1V, fadV, ne_eq, not_true_eq_false, if_false, List.getElem?_cons_zero, List.getElem?_cons_succ, Nat.zero_add, cell_blk hb, d0]
        refine s_ret1 ?_
        simp +decide only [p_fin_ret, resV, resOne, gv, Option.some.injEq, exists_eq_left']
        exact ⟨by simp, hx⟩
      · have d0 : (k == 0) = false := by simpa using h0
        simp only [o_cont, o_pure, o_guard, gk_tt, gk_ff, o_nil, POp.ev, Opd.ev, gv, setD, List.set, Option.some.injEq, exists_eq_left', pickV, binV, load1V, fadV, ne_eq, not_true_eq_false, if_false, List.getElem?_cons_zero, List.getElem?_cons_succ, Nat.zero_add, cell_blk hb, d0, e2]
        refine s_ret1 ?_
        simp +decide only [p_fin_ret, resV, resOne, gv, Option.some.injEq, exists_eq_left']
        exact ⟨by simp, hx⟩
def cmpD (n1 k1 n2 k2 : Int) : Int := sgn3 (n1 * 2 ^ k2.toNat - n2 * 2 ^ k1.toNat)
theorem dyCmpA_ok (lim : Nat) (n1 k1 n2 k2 : Int) (H : AHeap) (hl : lim ≤ H.next) (h1 : goodD n1 k1 = true) (h2 : goodD n2 k2 = true) :
    ACalls Tryz.prog lim n_spec_dyCmp [.agg #[vi n1, vi k1], .agg #[vi n2, vi k2]] H fun v H' => v = .int .i64 (cmpD n1 k1 n2 k2) ∧ Ext H H' := by
  obtain ⟨K1, rfl, a1, a2, _⟩ := goodD_all h1
  obtain ⟨K2, rfl, b1, b2, _⟩ := goodD_all h2
  exact dyCmp_ok lim n1 n2 K1 K2 H hl a1 b1 a2 b2
def ivB (t : Tm) : Bool := goodD t.c t.x && goodD t.y t.z && decide (cmpD t.c t.x t.y t.z ≤ 0)
theorem ivGood_ok (lim : Nat) (t : Tm) (H : AHeap) (hl : lim ≤ H.next) : ACalls Tryz.prog lim n_spec_ivGood [tv t] H fun v H' => v = .bool (ivB t) ∧ Ext H H' := by
  refine is_spec_ivGood.go rfl ?_
  unfold c_spec_ivGood tv
  refine s_reg ?_
  simp only [o_pure, o_eff, o_nil, POp.ev, Opd.ev, EOp.ev, env0, gu, gv, setD, List.set, Option.map_some, Option.some.injEq, exists_eq_left', boxH, cellsV]
  have hx := Ext.alloc H [vi t.c, vi t.x, vi t.y, vi t.z]
  have hb := alloc_new H [vi t.c, vi t.x, vi t.y, vi t.z]
  have hbl : H.next < (H.alloc [vi t.c, vi t.x, vi t.y, vi t.z]).next := Nat.lt_succ_self _
  generalize H.alloc [vi t.c, vi t.x, vi t.y, vi t.z] = H1 at hx hb hbl ⊢
  refine s_reg ?_
  simp only [o_pure, o_callF, POp.ev, Opd.ev, gv, setD, List.map, Option.some.injEq, exists_eq_left', fadV, Nat.add_zero, (two4 hb).1]
  refine (dyGoodA_ok _ _ _ _).mono ?_
  rintro _ H2 ⟨rfl, hx2⟩
  replace hb : H2.blk H.next = some [vi t.c, vi t.x, vi t.y, vi t.z] := by rw [hx2.blk _ hbl]; exact hb
  have hn2 := hx2.next
  have h02 := hx.trans hx2
  unfold ivB
  cases hA : goodD t.c t.x
  · simp only [o_cont, o_pure, o_guard, gk_ft, o_nil, POp.ev, Opd.ev, gv, setD, List.set, Option.some.injEq, exists_eq_left', pickV]
    refine s_ret1 ?_
    simp +decide only [p_fin_ret, resV, resOne, gv, Option.some.injEq, exists_eq_left']
    exact ⟨by simp, h02⟩
  simp only [o_cont, o_pure, o_callF, o_guard, gk_tt, POp.ev, Opd.ev, gv, setD, List.map, Option.some.injEq, exists_eq_left', fadV, Nat.zero_add, (two4 hb).2]
  refine (dyGoodA_ok _ _ _ _).mono ?_
  rintro _ H3 ⟨rfl, hx3⟩
  replace hb : H3.blk H.next = some [vi t.c, vi t.x, vi t.y, vi t.z] := by rw [hx3.blk _ (by omega)]; exact hb
  have hn3 := hx3.next
  have h03 := h02.trans hx3
  have hn1 := hx.next
  cases hB : goodD t.y t.z
  · simp only [o_cont, o_pure, o_guard, gk_ft, o_nil, POp.ev, Opd.ev, gv, setD, List.set, Option.some.injEq, exists_eq_left', pickV]
    refine s_ret1 ?_
    simp +decide only [p_fin_ret, resV, resOne, gv, Option.some.injEq, exists_eq_left']
    exact ⟨by simp, h03⟩
  simp only [o_cont, o_pure, o_callF, o_guard, gk_tt, POp.ev, Opd.ev, gv, setD, List.map, Option.some.injEq, exists_eq_left', pickV, fadV, Nat.zero_add, Nat.add_zero, (two4 hb).1, (two4 hb).2]
  refine (dyCmpA_ok _ _ _ _ _ _ (by omega) hA hB).mono ?_
  rintro _ H4 ⟨rfl, hx4⟩
  simp only [o_cont, o_pure, o_guard, gk_tt, o_nil, POp.ev, Opd.ev, gv, setD, List.set, Option.some.injEq, exists_eq_left', pickV, binV, ne_eq, not_true_eq_false, if_false]
  refine s_ret1 ?_
  simp +decide only [p_fin_ret, resV, resOne, gv, Option.some.injEq, exists_eq_left']
  exact ⟨by simp, h03.trans hx4⟩
theorem dyInt_ok (lim : Nat) (n : Int) (H : AHeap) (hl : lim ≤ H.next) : ACalls Tryz.prog lim n_spec_dyInt [.int .i64 n] H fun v H' => v = .agg #[vi n, vi 0] ∧ Ext H H' := by
  refine is_spec_dyInt.go rfl ?_
  unfold c_spec_dyInt
  refine s_reg ?_
  simp only [o_eff, o_nil, EOp.ev, env0, gu, setD, List.set, Option.some.injEq, exists_eq_left']
  have hx := Ext.alloc H [.int .i64 0, .int .i64 0]
  have hb : (H.alloc [.int .i64 0, .int .i64 0]).blk H.next = some [.int .i64 0, .int .i64 0] := alloc_new _ _
  generalize H.alloc [.int .i64 0, .int .i64 0] = H1 at hx hb ⊢
  have hf : fillV [.int .i64 0, .int .i64 0] [(0, 1, .int .i64 n)] = some [vi n, vi 0] := by simp [fillV, cellsV]
  refine s_reg ?_
  simp only [o_pure, o_eff, o_nil, POp.ev, Opd.ev, EOp.ev, gv, setD, List.map, Option.map_some, Option.some.injEq, exists_eq_left', hf, store2 (lim := lim) hl hb]
  refine s_ret1 ?_
  simp +decide only [p_fin_ret, resV, resOne, gv, Option.some.injEq, exists_eq_left', load2 (put_same _ _ _)]
  exact ⟨trivial, Chg.ext hx (Chg.put _ _ _) (Nat.le_refl _)⟩
def fitB (t : Tm) : Bool := ivB t && decide (t.x ≤ 5) && decide (t.z ≤ 5) && decide (cmpD t.c t.x t.y t.z < 0) && decide (cmpD (-8) 0 t.c t.x ≤ 0) && decide (cmpD t.y t.z 8 0 ≤ 0)
theorem deFit_ok (lim : Nat) (t : Tm) (H : AHeap) (hl : lim ≤ H.next) : ACalls Tryz.prog lim n_spec_deFit [tv t] H fun v H' => v = .bool (fitB t) ∧ Ext H H' := by
  refine is_spec_deFit.go rfl ?_
  unfold c_spec_deFit tv
  refine s_reg ?_
  simp only [o_pure, o_eff, o_nil, POp.ev, Opd.ev, EOp.ev, env0, gu, gv, setD, List.set, Option.map_some, Option.some.injEq, exists_eq_left', boxH, cellsV]
  have hx := Ext.alloc H [vi t.c, vi t.x, vi t.y, vi t.z]
  have hb := alloc_new H [vi t.c, vi t.x, vi t.y, vi t.z]
  have hbl : H.next < (H.alloc [vi t.c, vi t.x, vi t.y, vi t.z]).next := Nat.lt_succ_self _
  generalize H.alloc [vi t.c, vi t.x, vi t.y, vi t.z] = H1 at hx hb hbl ⊢
  have hn1 := hx.next
  refine s_reg ?_
  simp only [o_pure, o_callF, POp.ev, Opd.ev, gv, setD, List.map, Option.some.injEq, exists_eq_left', load4 hb]
  refine (ivGood_ok lim t H1 (by omega)).mono ?_
  rintro _ H2 ⟨rfl, hx2⟩
  replace hb : H2.blk H.next = some [vi t.c, vi t.x, vi t.y, vi t.z] := by rw [hx2.blk _ hbl]; exact hb
  have hn2 := hx2.next
  have h02 := hx.trans hx2
  unfold fitB
  cases hA : ivB t
  · simp only [o_cont, o_pure, o_guard, gk_ft, o_nil, POp.ev, Opd.ev, gv, setD, List.set, Option.some.injEq, exists_eq_left', pickV]
    refine s_ret1 ?_
    simp +decide only [p_fin_ret, resV, resOne, gv, Option.some.injEq, exists_eq_left']
    exact ⟨by simp, h02⟩
  have hA' := hA
  simp only [ivB, Bool.and_eq_true, decide_eq_true_eq] at hA'
  obtain ⟨⟨g1, g2⟩, g3⟩ := hA'
  cases hB : decide (t.x ≤ 5)
  · simp only [o_cont, o_pure, o_guard, gk_tt, gk_ft, o_nil, POp.ev, Opd.ev, gv, setD, List.set, Option.some.injEq, exists_eq_left', pickV, binV, load1V, fadV, ne_eq, not_true_eq_false, if_false, List.getElem?_cons_zero, List.getElem?_cons_succ, Nat.zero_add, Nat.add_zero, cell_blk hb, hB]
    refine s_ret1 ?_
    simp +decide only [p_fin_ret, resV, resOne, gv, Option.some.injEq, exists_eq_left']
    exact ⟨by simp, h02⟩
  cases hC : decide (t.z ≤ 5)
  · simp only [o_cont, o_pure, o_guard, gk_tt, gk_ft, o_nil, POp.ev, Opd.ev, gv, setD, List.set, Option.some.injEq, exists_eq_left', pickV, binV, load1V, fadV, ne_eq, not_true_eq_false, if_false, List.getElem?_cons_zero, List.getElem?_cons_succ, Nat.zero_add, Nat.add_zero, Nat.reduceAdd, cell_blk hb, hB, hC]
    refine s_ret1 ?_
    simp +decide only [p_fin_ret, resV, resOne, gv, Option.some.injEq, exists_eq_left']
    exact ⟨by simp, h02⟩
  simp only [o_cont, o_pure, o_callF, o_guard, gk_tt, POp.ev, Opd.ev, gv, setD, List.map, Option.some.injEq, exists_eq_left', pickV, binV, load1V, fadV, ne_eq, not_true_eq_false, if_false, List.getElem?_cons_zero, List.getElem?_cons_succ, Nat.zero_add, Nat.add_zero, Nat.reduceAdd, cell_blk hb, hB, hC, (two4 hb).1, (two4 hb).2]
  refine (dyCmpA_ok _ _ _ _ _ _ (by omega) g1 g2).mono ?_
  rintro _ H3 ⟨rfl, hx3⟩
  replace hb : H3.blk H.next = some [vi t.c, vi t.x, vi t.y, vi t.z] := by rw [hx3.blk _ (by omega)]; exact hb
  have hn3 := hx3.next
  have h03 := h02.trans hx3
  cases hD : decide (cmpD t.c t.x t.y t.z < 0)
  · simp only [o_cont, o_pure, o_guard, gk_tt, gk_ft, o_nil, POp.ev, Opd.ev, gv, setD, List.set, Option.some.injEq, exists_eq_left', pickV, binV, ne_eq, not_true_eq_false, if_false, hD]
    refine s_ret1 ?_
    simp +decide only [p_fin_ret, resV, resOne, gv, Option.some.injEq, exists_eq_left']
    exact ⟨by simp, h03⟩
  simp only [o_cont, o_pure, o_callN, o_guard, gk_tt, POp.ev, Opd.ev, gv, setD, List.map, Option.some.injEq, exists_eq_left', pickV, binV, fadV, ne_eq, not_true_eq_false, if_false, Nat.add_zero, hD, (two4 hb).1]
  refine (dyInt_ok _ _ _ (Nat.le_refl _)).use ?_
  rintro _ H4 ⟨rfl, hx4⟩ _
  replace hb : H4.blk H.next = some [vi t.c, vi t.x, vi t.y, vi t.z] := by rw [hx4.blk _ (by omega)]; exact hb
  have hn4 := hx4.next
  have h04 := h03.trans hx4
  simp only [o_cont, o_callF, o_guard, gk_tt, Opd.ev, gv, setD, List.map]
  refine (dyCmpA_ok _ _ _ _ _ _ (by omega) (by decide) g1).mono ?_
  rintro _ H5 ⟨rfl, hx5⟩
  replace hb : H5.blk H.next = some [vi t.c, vi t.x, vi t.y, vi t.z] := by rw [hx5.blk _ (by omega)]; exact hb
  have hn5 := hx5.next
  have h05 := h04.trans hx5
  cases hE : decide (cmpD (-8) 0 t.c t.x ≤ 0)
  · simp only [o_cont, o_pure, o_guard, gk_tt, gk_ft, o_nil, POp.ev, Opd.ev, gv, setD, List.set, Option.some.injEq, exists_eq_left', pickV, binV, ne_eq, not_true_eq_false, if_false, hE]
    refine s_ret1 ?_
    simp +decide only [p_fin_ret, resV, resOne, gv, Option.some.injEq, exists_eq_left']
    exact ⟨by simp, h05⟩
  simp only [o_cont, o_pure, o_callN, o_guard, gk_tt, POp.ev, Opd.ev, gv, setD, List.map, Option.some.injEq, exists_eq_left', pickV, binV, fadV, ne_eq, not_true_eq_false, if_false, Nat.zero_add, hE, (two4 hb).2]
  refine (dyInt_ok _ _ _ (Nat.le_refl _)).use ?_
  rintro _ H6 ⟨rfl, hx6⟩ _
  replace hb : H6.blk H.next = some [vi t.c, vi t.x, vi t.y, vi t.z] := by rw [hx6.blk _ (by omega)]; exact hb
  have hn6 := hx6.next
  have h06 := h05.trans hx6
  simp only [o_cont, o_callF, o_guard, gk_tt, Opd.ev, gv, setD, List.map]
  refine (dyCmpA_ok _ _ _ _ _ _ (by omega) g2 (by decide)).mono ?_
  rintro _ H7 ⟨rfl, hx7⟩
  simp only [o_cont, o_pure, o_guard, gk_tt, o_nil, POp.ev, Opd.ev, gv, setD, List.set, Option.some.injEq, exists_eq_left', pickV, binV, ne_eq, not_true_eq_false, if_false]
  refine s_ret1 ?_
  simp +decide only [p_fin_ret, resV, resOne, gv, Option.some.injEq, exists_eq_left']
  exact ⟨by simp, h06.trans hx7⟩
/-! ### small polynomials -/
def single (p : List Int) : Bool := decide (p.length ≤ 9) && (p.all fun x => decide (-1000000 ≤ x) && decide (x ≤ 1000000)) && (p == [] || p.getLastD 0 != 0)
def smallB (p : List Int) : Bool := single p && (decide (1 ≤ (p.length : Int)) && decide ((p.length : Int) ≤ 6)) && p.all fun x => decide (-1000 ≤ x) && decide (x ≤ 1000)
theorem SlI.last {H : AHeap} {s : Value} {l : List Int} (h : SlI H s l) (hne : l ≠ []) : ∃ b o, iadV 1 s (.int .i64 ((l.length : Int) - 1)) = some (.pointer (some ⟨b, o, none⟩)) ∧ H.cell b o = some (.int .i64 (l.getLastD 0)) := by
  have hpos : 0 < l.length := List.length_pos_iff.2 hne
  obtain ⟨b, o, h1, _, h3⟩ := h.get (i := l.length - 1) (by omega)
  refine ⟨b, o, ?_, ?_⟩
  · rw [show ((l.length : Int) - 1) = ((l.length - 1 : Nat) : Int) by omega]; exact h1
  · rw [h3, List.getLastD_eq_getLast?, List.getLast?_eq_getElem?, List.getElem?_eq_getElem (by omega)]
    rfl
theorem sgGood_ok (lim : Nat) (s : Value) (p : List Int) (H : AHeap) (hs : SlI H s p) (hn : p.length ≤ 1000000000) : ACalls Tryz.prog lim n_spec_sgGood [s] H fun v H' => v = .bool (single p) ∧ H' = H := by
  refine is_spec_sgGood.go rfl ?_
  unfold c_spec_sgGood
  refine s_reg ?_
  simp only [o_pure, o_nil, POp.ev, Opd.ev, env0, gu, setD, List.set, Option.some.injEq, exists_eq_left']
  unfold single
  refine s_test_same (!(decide (p.length ≤ 9) && (p.all fun x => decide (-1000000 ≤ x) && decide (x ≤ 1000000)))) ?_ (fun hg => ?_) (fun hg => ?_)
  · by_cases h9 : p.length ≤ 9
    · have d9 : decide ((p.length : Int) > 9) = false := by simp; omega
      simp only [o_pure, o_callF, o_guard, gk_ff, POp.ev, Opd.ev, gv, setD, List.map, Option.some.injEq, exists_eq_left', binV, ne_eq, not_true_eq_false, if_false, hs.lenV, d9]
      refine (Ints.l1All_ok _ _ _ _ _ _ hs hn).eq ?_
      simp only [o_cont, o_pure, o_guard, gk_ff, o_nil, POp.ev, Opd.ev, gv, setD, Option.some.injEq, exists_eq_left', pickV, unV]
      simp [h9]
    · have d9 : decide ((p.length : Int) > 9) = true := by simp; omega
      simp only [o_pure, o_guard, gk_tf, o_nil, POp.ev, Opd.ev, gv, setD, Option.some.injEq, exists_eq_left', pickV, binV, ne_eq, not_true_eq_false, if_false, hs.lenV, d9]
      simp [h9]
  · refine s_reg ?_
    simp only [o_pure, o_nil, POp.ev, Opd.ev, setD, List.set, Option.some.injEq, exists_eq_left']
    refine s_ret1 ?_
    simp +decide only [p_seq_ret, p_fin_ret, resV, resOne, gv, Option.some.injEq, exists_eq_left']
    rw [Bool.not_eq_true'] at hg
    simp [hg]
  · rw [Bool.not_eq_false'] at hg
    rw [hg]
    refine s_skip1 ?_
    simp +decide only [p_seq_normal]
    by_cases h0 : p = []
    · subst h0
      refine s_reg ?_
      simp only [o_pure, o_guard, gk_tf, o_nil, POp.ev, Opd.ev, gv, setD, List.set, Option.some.injEq, exists_eq_left', pickV, binV, ne_eq, not_true_eq_false, if_false, beq_self_eq_true, hs.lenV, List.length_nil, Int.natCast_zero]
      refine s_ret1 ?_
      simp +decide only [p_fin_ret, resV, resOne, gv, Option.some.injEq, exists_eq_left']
      simp
    · have hpos : 0 < p.length := List.length_pos_iff.2 h0
      have d0 : ((p.length : Int) == 0) = false := by simp [h0]
      obtain ⟨b, o, g1, g2⟩ := SlI.last hs h0
      have w1 : IntKind.i64.wrap ((p.length : Int) - 1) = (p.length : Int) - 1 := wr_id (by omega) (by omega)
      refine s_reg ?_
      simp only [o_pure, o_guard, gk_ff, o_nil, POp.ev, Opd.ev, gv, setD, List.set, Option.some.injEq, exists_eq_left', pickV, binV, load1V, ne_eq, not_true_eq_false, if_false, hs.lenV, d0, w1, g1, g2]
      refine s_ret1 ?_
      simp +decide only [p_fin_ret, resV, resOne, gv, Option.some.injEq, exists_eq_left']
      simp [h0]
theorem deGood_ok (lim : Nat) (s : Value) (p : List Int) (H : AHeap) (hs : SlI H s p) (hn : p.length ≤ 1000000000) : ACalls Tryz.prog lim n_spec_deGood [s] H fun v H' => v = .bool (smallB p) ∧ H' = H := by
  refine is_spec_deGood.go rfl ?_
  unfold c_spec_deGood
  refine s_reg ?_
  simp only [o_pure, o_nil, POp.ev, Opd.ev, env0, gu, setD, List.set, Option.some.injEq, exists_eq_left']
  refine s_reg ?_
  simp only [o_pure, o_callF, POp.ev, Opd.ev, gv, setD, List.map, Option.some.injEq, exists_eq_left']
  refine (sgGood_ok _ _ _ _ hs hn).eq ?_
  unfold smallB
  generalize single p = A
  cases A
  · simp only [o_cont, o_pure, o_guard, gk_ft, o_nil, POp.ev, Opd.ev, gv, setD, List.set, Option.some.injEq, exists_eq_left', pickV]
    refine s_ret1 ?_
    simp +decide only [p_fin_ret, resV, resOne, gv, Option.some.injEq, exists_eq_left']
    simp
  simp only [o_cont, o_pure, o_callF, o_guard, gk_tt, POp.ev, Opd.ev, gv, setD, List.map, Option.some.injEq, exists_eq_left', hs.lenV]
  refine (Ints.l1In_ok _ _ _ _ _).eq ?_
  generalize (decide (1 ≤ (p.length : Int)) && decide ((p.length : Int) ≤ 6)) = B
  cases B
  · simp only [o_cont, o_pure, o_guard, gk_ft, o_nil, POp.ev, Opd.ev, gv, setD, List.set, Option.some.injEq, exists_eq_left', pickV]
    refine s_ret1 ?_
    simp +decide only [p_fin_ret, resV, resOne, gv, Option.some.injEq, exists_eq_left']
    simp
  simp only [o_cont, o_pure, o_callF, o_guard, gk_tt, POp.ev, Opd.ev, gv, setD, List.map, Option.some.injEq, exists_eq_left', pickV]
  refine (Ints.l1All_ok _ _ _ _ _ _ hs hn).eq ?_
  simp only [o_cont, o_pure, o_nil, POp.ev, Opd.ev, gv, setD, List.set, Option.some.injEq, exists_eq_left', pickV]
  refine s_ret1 ?_
  simp +decide only [p_fin_ret, resV, resOne, gv, Option.some.injEq, exists_eq_left']
  simp
def askF (p q : List Int) (fine : Int) : Bool := smallB p && smallB q && (decide (0 ≤ fine) && decide (fine ≤ 4))
theorem faAsked_ok (lim : Nat) (s u : Value) (p q : List Int) (fine : Int) (H : AHeap) (hs : SlI H s p) (hu : SlI H u q) (hn : p.length ≤ 1000000000) (hn2 : q.length ≤ 1000000000) :
    ACalls Tryz.prog lim n_spec_faAsked [s, u, .int .i64 fine] H fun v H' => v = .bool (askF p q fine) ∧ H' = H := by
  refine is_spec_faAsked.go rfl ?_
  unfold c_spec_faAsked
  refine s_reg ?_
  simp only [o_pure, o_nil, POp.ev, Opd.ev, env0, gu, setD, List.set, Option.some.injEq, exists_eq_left']
  refine s_reg ?_
  simp only [o_pure, o_callF, POp.ev, Opd.ev, gv, setD, List.map, Option.some.injEq, exists_eq_left']
  refine (deGood_ok _ _ _ _ hs hn).eq ?_
  unfold askF
  generalize smallB p = A
  cases A
  · simp only [o_cont, o_pure, o_guard, gk_ft, o_nil, POp.ev, Opd.ev, gv, setD, List.set, Option.some.injEq, exists_eq_left', pickV]
    refine s_ret1 ?_
    simp +decide only [p_fin_ret, resV, resOne, gv, Option.some.injEq, exists_eq_left']
    simp
  simp only [o_cont, o_pure, o_callF, o_guard, gk_tt, POp.ev, Opd.ev, gv, setD, List.map, Option.some.injEq, exists_eq_left']
  refine (deGood_ok _ _ _ _ hu hn2).eq ?_
  generalize smallB q = B
  cases B
  · simp only [o_cont, o_pure, o_guard, gk_ft, o_nil, POp.ev, Opd.ev, gv, setD, List.set, Option.some.injEq, exists_eq_left', pickV]
    refine s_ret1 ?_
    simp +decide only [p_fin_ret, resV, resOne, gv, Option.some.injEq, exists_eq_left']
    simp
  simp only [o_cont, o_pure, o_callF, o_guard, gk_tt, POp.ev, Opd.ev, gv, setD, List.map, Option.some.injEq, exists_eq_left', pickV]
  refine (Ints.l1In_ok _ _ _ _ _).eq ?_
  simp only [o_cont, o_pure, o_nil, POp.ev, Opd.ev, gv, setD, List.set, Option.some.injEq, exists_eq_left', pickV]
  refine s_ret1 ?_
  simp +decide only [p_fin_ret, resV, resOne, gv, Option.some.injEq, exists_eq_left']
  simp
end Go.Proofs.YtldpdjpchcoigaaGreat

/- Plain laws: families, signs, steps, tracks, over whole numbers of 32nds; no condition. -/
namespace Go.Proofs.YtldpdjpchcoigaaGreat
open Go.Ab Ints
set_option linter.unusedSimpArgs false
set_option linter.unusedVariables false

/-- the family's six coefficients -/
def fam (p q : List Int) (i F : Int) : List Int := (List.range 6).map fun j => p.getD j 0 * F + q.getD j 0 * i
def der (f : List Int) : List Int := (List.range 5).map fun (j : Nat) => ((j : Int) + 1) * f.getD (j + 1) 0
def sgA (f : List Int) (d : Int × Nat) : Int := sgn3 (hv d.1 (2 ^ d.2) f)
def bothA (f g : List Int) (d : Int × Nat) : Int := if sgA g d = sgA f d then sgA f d else 0
def ovr (f : List Int) (a b : Int × Nat) : List Int := over (der f) (a.1 * 2 ^ (max a.2 b.2 - a.2)) (b.1 * 2 ^ (max a.2 b.2 - b.2)) (2 ^ max a.2 b.2)
def slopeA (f g : List Int) (a b : Int × Nat) : Int := sg (ovr f a b ++ ovr g a b)
def holdA (f g : List Int) (a b : Int × Nat) : Bool := decide (bothA f g a * bothA f g b < 0) && decide (slopeA f g a b ≠ 0)
def dn (l : Int) : Int × Nat := dnorm l 5
/-- an interval of 32nds -/
def ivT (x : Int × Int) : Tm := ⟨(dn x.1).1, (dn x.1).2, (dn x.2).1, (dn x.2).2⟩
structure Rng (x : Int × Int) : Prop where
  lo : -256 ≤ x.1
  hi : x.2 ≤ 256
def wid (x : Int × Int) : Nat → Int × Int
  | 0 => x
  | j + 1 => (if -256 > (wid x j).1 - 2 ^ j then -256 else (wid x j).1 - 2 ^ j, if 256 < (wid x j).2 + 2 ^ j then 256 else (wid x j).2 + 2 ^ j)
/-- the first of some widened intervals that holds -/
def findN (f g : List Int) (x : Int × Int) : Nat → Nat → Option (Int × Int)
  | 0, _ => none
  | r + 1, j => if holdA f g (dn (wid x j).1) (dn (wid x j).2) = true then some (wid x j) else findN f g x r (j + 1)
def narN (f : List Int) : Nat → Int × Int → Int × Int
  | 0, x => x
  | r + 1, x => if (x.1 + x.2) % 2 = 1 ∨ sgA f (dn ((x.1 + x.2) / 2)) = 0 then x
    else if sgA f (dn x.1) * sgA f (dn ((x.1 + x.2) / 2)) < 0 then narN f r (x.1, (x.1 + x.2) / 2) else narN f r ((x.1 + x.2) / 2, x.2)
def find7 (f g : List Int) (x : Int × Int) : Option (Int × Int) := findN f g x 7 0
def folN (p q : List Int) (F : Int) : Nat → Nat → Int × Int → Option (List (Int × Int))
  | 0, _, _ => some []
  | n + 1, i, x => (find7 (fam p q i F) (fam p q (i + 1 : Nat) F) x).bind fun y => (folN p q F n (i + 1) (narN (fam p q (i + 1 : Nat) F) (y.2 - y.1).toNat y)).map (y :: ·)

theorem dn_K (l : Int) : (dn l).2 ≤ 5 := (dnorm_val l 5).1
theorem dn_val (l : Int) : l = (dn l).1 * 2 ^ (5 - (dn l).2) := (dnorm_val l 5).2
theorem dn_abs (l : Int) : (dn l).1.natAbs ≤ l.natAbs := dnorm_abs l 5
theorem dn_odd (l : Int) : (dn l).2 = 0 ∨ (dn l).1 % 2 = 1 := dnorm_odd l 5
theorem dn_scale {l : Int} {k : Nat} (h : (dn l).2 ≤ k) (hk : k ≤ 5) : l = (dn l).1 * 2 ^ (k - (dn l).2) * 2 ^ (5 - k) := by
  have := dn_val l
  rw [Int.mul_assoc, ← Int.pow_add, show k - (dn l).2 + (5 - k) = 5 - (dn l).2 by omega]
  exact this
theorem dn_eq {n l : Int} {k : Nat} (hk : k ≤ 5) (h : l = n * 2 ^ (5 - k)) : dnorm n k = dn l := (dnorm_up hk h).symm
theorem wid_rng {x : Int × Int} (h : Rng x) (hx : x.1 < x.2) : ∀ j, Rng (wid x j) ∧ (wid x j).1 < (wid x j).2
  | 0 => ⟨h, hx⟩
  | j + 1 => by
    obtain ⟨⟨h1, h2⟩, h3⟩ := wid_rng h hx j
    have hp : (1 : Int) ≤ 2 ^ j := pow_pos2 j
    simp only [wid]
    generalize (2 : Int) ^ j = P at hp ⊢
    generalize (wid x j).1 = a at h1 h3 ⊢
    generalize (wid x j).2 = b at h2 h3 ⊢
    clear h hx
    refine ⟨⟨?_, ?_⟩, ?_⟩
    · show -256 ≤ (if -256 > a - P then -256 else a - P)
      split <;> omega
    · show (if 256 < b + P then 256 else b + P) ≤ 256
      split <;> omega
    · show (if -256 > a - P then -256 else a - P) < (if 256 < b + P then 256 else b + P)
      split <;> split <;> omega
theorem findN_rng {f g : List Int} {x y : Int × Int} (h : Rng x) (hx : x.1 < x.2) : ∀ r j, findN f g x r j = some y → Rng y ∧ y.1 < y.2 ∧ holdA f g (dn y.1) (dn y.2) = true
  | 0, j, e => by cases e
  | r + 1, j, e => by
    rw [findN] at e
    split at e
    · rename_i hh
      cases e
      obtain ⟨h1, h2⟩ := wid_rng h hx j
      exact ⟨h1, h2, hh⟩
    · exact findN_rng h hx r (j + 1) e
theorem narN_rng {f : List Int} : ∀ (r : Nat) {x : Int × Int}, Rng x → x.1 < x.2 → Rng (narN f r x) ∧ (narN f r x).1 < (narN f r x).2
  | 0, x, h, hx => ⟨h, hx⟩
  | r + 1, x, h, hx => by
    rw [narN]
    obtain ⟨h1, h2⟩ := h
    split
    · exact ⟨⟨h1, h2⟩, hx⟩
    · rename_i hn
      have he : ¬ ((x.1 + x.2) % 2 = 1) := fun e => hn (.inl e)
      split
      · exact narN_rng r ⟨h1, by simp only; omega⟩ (by simp only; omega)
      · exact narN_rng r ⟨by simp only; omega, h2⟩ (by simp only; omega)
theorem folN_len (p q : List Int) (F : Int) (n : Nat) : ∀ (i : Nat) (x : Int × Int) (l : List (Int × Int)), folN p q F n i x = some l → l.length = n := by
  induction n with
  | zero =>
    intro i x l h
    rw [folN, Option.some.injEq] at h
    rw [← h]; rfl
  | succ n ih =>
    intro i x l h
    rw [folN] at h
    obtain ⟨y, _, h⟩ := Option.bind_eq_some_iff.1 h
    obtain ⟨l', h1, h2⟩ := Option.map_eq_some_iff.1 h
    rw [← h2, List.length_cons, ih _ _ _ h1]
/-- a fit interval is one of 32nds -/
theorem fit_all {t : Tm} (h : fitB t = true) : ∃ x : Int × Int, t = ivT x ∧ Rng x ∧ x.1 < x.2 := by
  simp only [fitB, Bool.and_eq_true, decide_eq_true_eq, ivB] at h
  obtain ⟨⟨⟨⟨⟨⟨⟨h1, h2⟩, h3⟩, h4⟩, h5⟩, h6⟩, h7⟩, h8⟩ := h
  obtain ⟨K1, e1, a1, a2, a3⟩ := goodD_all h1
  obtain ⟨K2, e2, b1, b2, b3⟩ := goodD_all h2
  have hodd : ∀ (n : Int), n.tmod 2 ≠ 0 → n % 2 = 1 := by
    intro n hn
    have := Int.emod_two_eq n
    rcases this with h | h
    · exfalso; apply hn
      exact Int.tmod_eq_zero_of_dvd (Int.dvd_of_emod_eq_zero h)
    · exact h
  have neg : ∀ a : Int, sgn3 a < 0 → a < 0 := by
    intro a ha
    rcases sgn3_cases a with h | h | h <;> omega
  have npos : ∀ a : Int, sgn3 a ≤ 0 → a ≤ 0 := by
    intro a ha
    rcases sgn3_cases a with h | h | h <;> omega
  unfold cmpD at h6 h7 h8
  rw [e1] at h4 h6 h7
  rw [e2] at h5 h6 h8
  replace h6 := neg _ h6
  replace h7 := npos _ h7
  replace h8 := npos _ h8
  have k1 : K1 ≤ 5 := by omega
  have k2 : K2 ≤ 5 := by omega
  simp only [Int.toNat_natCast, Int.toNat_zero, Int.pow_zero, Int.mul_one] at h6 h7 h8
  have p1 := pow_pos2 (5 - K1)
  have p2 := pow_pos2 (5 - K2)
  have s1 : (2 : Int) ^ K1 * 2 ^ (5 - K1) = 32 := by rw [← Int.pow_add, show K1 + (5 - K1) = 5 by omega]; rfl
  have s2 : (2 : Int) ^ K2 * 2 ^ (5 - K2) = 32 := by rw [← Int.pow_add, show K2 + (5 - K2) = 5 by omega]; rfl
  have d1 : dn (t.c * 2 ^ (5 - K1)) = (t.c, K1) := by
    rw [← dn_eq k1 rfl]
    exact dnorm_self (a3.imp id (hodd _))
  have d2 : dn (t.y * 2 ^ (5 - K2)) = (t.y, K2) := by
    rw [← dn_eq k2 rfl]
    exact dnorm_self (b3.imp id (hodd _))
  refine ⟨(t.c * 2 ^ (5 - K1), t.y * 2 ^ (5 - K2)), ?_, ⟨?_, ?_⟩, ?_⟩
  · unfold ivT
    simp only [d1, d2, ← e1, ← e2]
  · simp only
    have : -8 * 2 ^ K1 * 2 ^ (5 - K1) ≤ t.c * 2 ^ (5 - K1) := Int.mul_le_mul_of_nonneg_right (by omega) (by omega)
    rw [Int.mul_assoc, s1] at this
    omega
  · simp only
    have : t.y * 2 ^ (5 - K2) ≤ 8 * 2 ^ K2 * 2 ^ (5 - K2) := Int.mul_le_mul_of_nonneg_right (by omega) (by omega)
    rw [Int.mul_assoc, s2] at this
    omega
  · simp only
    have h9 : t.c * 2 ^ K2 < t.y * 2 ^ K1 := by omega
    have h10 : t.c * 2 ^ K2 * (2 ^ (5 - K1) * 2 ^ (5 - K2)) < t.y * 2 ^ K1 * (2 ^ (5 - K1) * 2 ^ (5 - K2)) := Int.mul_lt_mul_of_pos_right h9 (Int.mul_pos (by omega) (by omega))
    have e3 : t.c * 2 ^ K2 * (2 ^ (5 - K1) * 2 ^ (5 - K2)) = t.c * 2 ^ (5 - K1) * 32 := by rw [← s2]; simp only [Int.mul_assoc, Int.mul_left_comm]
    have e4 : t.y * 2 ^ K1 * (2 ^ (5 - K1) * 2 ^ (5 - K2)) = t.y * 2 ^ (5 - K2) * 32 := by rw [← s1]; simp only [Int.mul_assoc, Int.mul_comm, Int.mul_left_comm]
    rw [e3, e4] at h10
    omega

/-! ### bounds -/
theorem hv_abs {n b : Int} {A M : Nat} (hn : n.natAbs ≤ M) (hb : b.natAbs ≤ M) : ∀ (a : Int) (p : List Int), (∀ x ∈ a :: p, x.natAbs ≤ A) → (hv n b (a :: p)).natAbs ≤ (p.length + 1) * (A * M ^ p.length)
  | a, [], h => by
    have := h a (by simp)
    simp only [hv, List.length_nil, Int.pow_zero, Int.mul_one, Int.mul_zero, Int.add_zero, Nat.pow_zero, Nat.mul_one, Nat.zero_add, Nat.one_mul]
    exact this
  | a, c :: p, h => by
    have ih := hv_abs hn hb c p (fun x hx => h x (by simp [List.mem_cons.1 hx]))
    rw [hv, List.length_cons]
    have h1 : (a * b ^ (p.length + 1)).natAbs ≤ A * M ^ (p.length + 1) := by
      rw [Int.natAbs_mul, Int.natAbs_pow]
      exact Nat.mul_le_mul (h a (by simp)) (Nat.pow_le_pow_left hb _)
    have h2 : (n * hv n b (c :: p)).natAbs ≤ (p.length + 1) * (A * M ^ (p.length + 1)) := by
      rw [Int.natAbs_mul]
      have := Nat.mul_le_mul hn ih
      rw [Nat.pow_succ]
      have e : M * ((p.length + 1) * (A * M ^ p.length)) = (p.length + 1) * (A * (M ^ p.length * M)) := by
        rw [Nat.mul_left_comm, Nat.mul_left_comm M A, Nat.mul_comm M]
      omega
    have e : (p.length + 1 + 1) * (A * M ^ (p.length + 1)) = (p.length + 1) * (A * M ^ (p.length + 1)) + A * M ^ (p.length + 1) := Nat.succ_mul _ _
    omega
theorem small_all {p : List Int} (h : smallB p = true) : 1 ≤ p.length ∧ p.length ≤ 6 ∧ ∀ x ∈ p, x.natAbs ≤ 1000 := by
  simp only [smallB, Bool.and_eq_true, decide_eq_true_eq, List.all_eq_true] at h
  obtain ⟨⟨_, h2, h3⟩, h4⟩ := h
  exact ⟨by omega, by omega, fun x hx => by have := h4 x hx; omega⟩
theorem fam_len (p q : List Int) (i F : Int) : (fam p q i F).length = 6 := by simp [fam]
theorem fam_abs {p q : List Int} {i F : Int} (hp : ∀ x ∈ p, x.natAbs ≤ 1000) (hq : ∀ x ∈ q, x.natAbs ≤ 1000) (hi : i.natAbs ≤ 16) (hF : F.natAbs ≤ 16) : ∀ x ∈ fam p q i F, x.natAbs ≤ 32000 := by
  intro x hx
  simp only [fam, List.mem_map, List.mem_range] at hx
  obtain ⟨j, _, rfl⟩ := hx
  have h1 : (p.getD j 0 * F).natAbs ≤ 1000 * 16 := by rw [Int.natAbs_mul]; exact Nat.mul_le_mul (getD_abs hp j) hF
  have h2 : (q.getD j 0 * i).natAbs ≤ 1000 * 16 := by rw [Int.natAbs_mul]; exact Nat.mul_le_mul (getD_abs hq j) hi
  omega
theorem der_abs {f : List Int} {A : Nat} (hf : ∀ x ∈ f, x.natAbs ≤ A) : ∀ x ∈ der f, x.natAbs ≤ 5 * A := by
  intro x hx
  simp only [der, List.mem_map, List.mem_range] at hx
  obtain ⟨j, hj, rfl⟩ := hx
  rw [Int.natAbs_mul]
  exact Nat.mul_le_mul (by omega) (getD_abs hf _)
end Go.Proofs.YtldpdjpchcoigaaGreat

/- Dyadic numbers, the reference: over a power of 2, halves; no condition beyond stated ranges. -/
namespace Go.Proofs.YtldpdjpchcoigaaGreat
open Go.Ab Ints
set_option linter.unusedSimpArgs false
set_option linter.unusedVariables false

def dV (d : Int × Nat) : Value := dyV d.1 d.2
theorem dyAt2_ok (lim : Nat) (n : Int) (k d : Nat) (H : AHeap) (hl : lim ≤ H.next) (hk : k ≤ d) (hd : d ≤ 20) (hn : n.natAbs ≤ 1099511627776) : ACalls Tryz.prog lim n_spec_dyAt [dyV n k, .int .i64 (d : Int)] H fun v H' => v = .tuple #[.int .i64 (n * 2 ^ (d - k)), .bool true] ∧ Ext H H' := by
  refine is_spec_dyAt.go rfl ?_
  unfold c_spec_dyAt dyV
  refine s_reg ?_
  simp only [o_pure, o_eff, o_nil, POp.ev, Opd.ev, EOp.ev, env0, gu, gv, setD, List.set, Option.map_some, Option.some.injEq, exists_eq_left', boxH, cellsV]
  have hx := Ext.alloc H [.int .i64 n, .int .i64 (k : Int)]
  have hb : (H.alloc [.int .i64 n, .int .i64 (k : Int)]).blk H.next = some [.int .i64 n, .int .i64 (k : Int)] := alloc_new _ _
  have hbl : H.next < (H.alloc [.int .i64 n, .int .i64 (k : Int)]).next := Nat.lt_succ_self _
  generalize H.alloc [.int .i64 n, .int .i64 (k : Int)] = H1 at hx hb hbl ⊢
  generalize hq : H.next = q at *
  refine s_test ?_
  simp only [o_pure, o_nil, POp.ev, Opd.ev, gv, setD, Option.some.injEq, exists_eq_left', binV, load1V, fadV, ne_eq, not_true_eq_false, if_false, List.getElem?_cons_zero, Nat.zero_add, cell_blk hb]
  refine Test.split (fun h => ?_) (fun h => ?_)
  · have h' : n = 0 := by simpa using h
    subst h'
    refine s_reg ?_
    simp only [o_pure, o_nil, POp.ev, Opd.ev, setD, List.set, Option.some.injEq, exists_eq_left']
    refine s_ret1 ?_
    simp +decide only [p_seq_ret, p_fin_ret, resV, resOne, resL, gv, Option.some.injEq, exists_eq_left', Option.bind_some, Option.map_some]
    exact ⟨by simp, hx⟩
  refine s_skip1 ?_
  simp +decide only [p_seq_normal]
  refine s_assoc (s_reg ?_)
  simp only [o_pure, o_nil, POp.ev, Opd.ev, gv, setD, List.set, Option.some.injEq, exists_eq_left', load1V, fadV, List.getElem?_cons_zero, List.getElem?_cons_succ, Nat.zero_add, cell_blk hb]
  refine s_block ?_
  refine s_loop1 (fun j e' H' => ∃ m : Nat, k + m + j = d ∧ H'.blk q = some [.int .i64 (n * 2 ^ m), .int .i64 (k : Int)] ∧ q < H'.next ∧ Ext H H' ∧ e' = [.agg #[.int .i64 n, .int .i64 (k : Int)], .int .i64 (d : Int), .pointer (some ⟨q, 0, none⟩), .int .i64 0, .bool false, .int .i64 ((k + m : Nat) : Int)]) (d - k) ⟨0, by omega, by rw [Int.pow_zero, Int.mul_one]; exact hb, hbl, hx, rfl⟩ ?_
  rintro j e' H2 ⟨m, hmj, hb2, hbl2, hx2, rfl⟩
  refine s_test ?_
  simp only [o_pure, o_nil, POp.ev, Opd.ev, gv, setD, Option.some.injEq, exists_eq_left', binV, ne_eq, not_true_eq_false, if_false]
  refine Test.split (fun hlt => ?_) (fun hlt => ?_)
  · have hlt' : k + m < d := by have := of_decide_eq_true hlt; omega
    have b1 : (n * 2 ^ m).natAbs ≤ 1099511627776 * 524288 := by
      rw [Int.natAbs_mul, Int.natAbs_pow]
      have : (2 : Int).natAbs ^ m ≤ 2 ^ 19 := Nat.pow_le_pow_right (by decide) (by omega)
      exact Nat.mul_le_mul hn (by simpa using this)
    have p60 : (2 : Int) ^ 60 = 1152921504606846976 := by decide
    have w60 : IntKind.i64.wrap (0 - (2 : Int) ^ 60) = -1152921504606846976 := by rw [p60]; decide
    have hin : (decide (-1152921504606846976 ≤ n * 2 ^ m) && decide (n * 2 ^ m ≤ 2 ^ 60)) = true := by
      rw [p60]
      simp
      omega
    have w2 : IntKind.i64.wrap (n * 2 ^ m * 2) = n * 2 ^ (m + 1) := by
      rw [Int.pow_succ, ← Int.mul_assoc]
      exact wr_id (by omega) (by omega)
    refine s_skip1 ?_
    simp +decide only [p_seq_normal]
    refine s_block1 ?_
    refine s_test ?_
    simp only [o_pure, o_callN, POp.ev, Opd.ev, gv, setD, List.map, Option.some.injEq, exists_eq_left', load1V, fadV, List.getElem?_cons_zero, Nat.zero_add, cell_blk hb2]
    refine (Ints.power_ok _ 60 H2 (by omega)).use ?_
    rintro _ HH ⟨rfl, hh⟩ _
    subst HH
    simp only [o_cont, o_pure, o_callN, POp.ev, Opd.ev, gv, setD, List.map, Option.some.injEq, exists_eq_left', unV, w60]
    refine (Ints.power_ok _ 60 H2 (by omega)).use ?_
    rintro _ HH ⟨rfl, hh⟩ _
    subst HH
    simp only [o_cont, o_callF, Opd.ev, gv, setD, List.map]
    refine (Ints.l1In_ok _ _ _ _ _).eq ?_
    rw [hin]
    simp only [o_cont, o_pure, o_nil, POp.ev, Opd.ev, gv, setD, Option.some.injEq, exists_eq_left', unV, Bool.not_true]
    refine Test.false_ (s_skip1 ?_)
    simp +decide only [p_seq_normal]
    have hst : storeH lim H2 1 (.pointer (some ⟨q, 0, none⟩)) (.int .i64 (n * 2 ^ (m + 1))) = some (undef, H2.put q [.int .i64 (n * 2 ^ (m + 1)), .int .i64 (k : Int)]) := store_cell rfl (by omega) hb2 (by simp)
    refine s_reg1 ?_
    simp only [o_pure, o_eff, o_nil, POp.ev, Opd.ev, EOp.ev, gv, setD, Option.some.injEq, exists_eq_left', binV, load1V, fadV, ne_eq, not_true_eq_false, if_false, List.getElem?_cons_zero, Nat.zero_add, cell_blk hb2, w2, hst]
    simp +decide only [p_seq_normal, p_block_normal]
    refine s_reg1 ?_
    simp only [o_pure, o_nil, POp.ev, Opd.ev, gv, setD, List.set, Option.some.injEq, exists_eq_left', binV, ne_eq, not_true_eq_false, if_false, add1 (i := k + m) (by omega)]
    simp +decide only [p_seq_normal]
    exact Round.mk (j - 1) (by omega) ⟨m + 1, by omega, put_same _ _ _, hbl2, Chg.ext hx2 (Chg.put _ _ _) (by omega), rfl⟩
  · have hge : m = d - k := by have := of_decide_eq_false hlt; omega
    subst hge
    refine s_exit1 ?_
    simp +decide only [p_seq_normal, p_seq_exit, p_block_exit, reduceIte]
    refine s_reg ?_
    simp only [o_pure, o_nil, POp.ev, Opd.ev, gv, setD, List.set, Option.some.injEq, exists_eq_left', load1V, fadV, List.getElem?_cons_zero, Nat.zero_add, cell_blk hb2]
    refine s_ret1 ?_
    simp +decide only [p_fin_ret, resV, resOne, resL, gv, Option.some.injEq, exists_eq_left', Option.bind_some, Option.map_some]
    exact ⟨trivial, hx2⟩
/-- a 32nd in its normal form, over 32 -/
theorem dyAt5_ok (lim : Nat) (l : Int) (H : AHeap) (hl : lim ≤ H.next) (h : l.natAbs ≤ 1000) : ACalls Tryz.prog lim n_spec_dyAt [dV (dn l), .int .i64 5] H fun v H' => v = .tuple #[.int .i64 l, .bool true] ∧ Ext H H' := by
  have h1 := dn_abs l
  have := dyAt2_ok lim (dn l).1 (dn l).2 5 H hl (dn_K l) (by omega) (by omega)
  rw [← dn_val l] at this
  exact this
theorem bxNumber5_ok (lim : Nat) (l : Int) (H : AHeap) (hl : lim ≤ H.next) (h : l.natAbs ≤ 1000) : ACalls Tryz.prog lim n_spec_bxNumber [.int .i64 l, .int .i64 5] H fun v H' => v = dV (dn l) ∧ Ext H H' := by
  refine (bxNumber_ok lim l 5 H hl (by omega) (by omega)).mono ?_
  rintro v H' ⟨⟨N, K, rfl, e⟩, hx⟩
  refine ⟨?_, hx⟩
  unfold dV dn
  rw [e]
/-- half a sum -/
theorem dyHalf_ok (lim : Nat) (l m : Int) (H : AHeap) (hl : lim ≤ H.next) (h1 : l.natAbs ≤ 256) (h2 : m.natAbs ≤ 256) : ACalls Tryz.prog lim n_spec_dyHalf [dV (dn l), dV (dn m)] H fun v H' => v = .tuple #[dV (dnorm (l + m) 6), .bool true] ∧ Ext H H' := by
  have a1 := dn_abs l
  have a2 := dn_abs m
  have k1 := dn_K l
  have k2 := dn_K m
  have q1 := @dn_scale l
  have q2 := @dn_scale m
  unfold dV dyV
  generalize hda : dn l = da at *
  generalize hdb : dn m = db at *
  refine is_spec_dyHalf.go rfl ?_
  unfold c_spec_dyHalf
  refine s_reg ?_
  simp only [o_pure, o_eff, o_nil, POp.ev, Opd.ev, EOp.ev, env0, gu, gv, setD, List.set, Option.map_some, Option.some.injEq, exists_eq_left', boxH, cellsV]
  have hx1 := Ext.alloc H [.int .i64 da.1, .int .i64 (da.2 : Int)]
  have hb1 := alloc_new H [.int .i64 da.1, .int .i64 (da.2 : Int)]
  have hl1 : (H.alloc [.int .i64 da.1, .int .i64 (da.2 : Int)]).next = H.next + 1 := rfl
  generalize H.alloc [.int .i64 da.1, .int .i64 (da.2 : Int)] = H1 at hx1 hb1 hl1 ⊢
  have hx2 := Ext.alloc H1 [.int .i64 db.1, .int .i64 (db.2 : Int)]
  have hb2 := alloc_new H1 [.int .i64 db.1, .int .i64 (db.2 : Int)]
  have hl2 : (H1.alloc [.int .i64 db.1, .int .i64 (db.2 : Int)]).next = H1.next + 1 := rfl
  replace hb1 := (hx2.blk H.next (by omega)).trans hb1
  generalize H1.alloc [.int .i64 db.1, .int .i64 (db.2 : Int)] = H2 at hx2 hb1 hb2 hl2 ⊢
  have hx3 := Ext.alloc H2 [.int .i64 0, .int .i64 0]
  have hb3 := alloc_new H2 [.int .i64 0, .int .i64 0]
  have hl3 : (H2.alloc [.int .i64 0, .int .i64 0]).next = H2.next + 1 := rfl
  replace hb1 := (hx3.blk H.next (by omega)).trans hb1
  replace hb2 := (hx3.blk H1.next (by omega)).trans hb2
  generalize H2.alloc [.int .i64 0, .int .i64 0] = H3 at hx3 hb1 hb2 hb3 hl3 ⊢
  have x03 := (hx1.trans hx2).trans hx3
  refine s_reg ?_
  simp only [o_pure, o_callF, POp.ev, Opd.ev, gv, setD, List.map, Option.some.injEq, exists_eq_left', load1V, fadV, List.getElem?_cons_zero, List.getElem?_cons_succ, Nat.zero_add, cell_blk hb1, cell_blk hb2]
  refine (l1Most_ok _ _ _ _).eq ?_
  obtain ⟨d, hd, d1, d2, d5⟩ : ∃ d : Nat, (if (da.2 : Int) > (db.2 : Int) then (da.2 : Int) else (db.2 : Int)) = (d : Int) ∧ da.2 ≤ d ∧ db.2 ≤ d ∧ d ≤ 5 := by
    refine ⟨max da.2 db.2, ?_, by omega, by omega, by omega⟩
    split <;> omega
  rw [hd]
  simp only [o_cont, o_pure, o_nil, POp.ev, Opd.ev, gv, setD, List.set, Option.some.injEq, exists_eq_left']
  refine s_reg ?_
  simp only [o_pure, o_callF, POp.ev, Opd.ev, gv, setD, List.map, Option.some.injEq, exists_eq_left', load2 hb1]
  refine (dyAt2_ok lim da.1 da.2 d H3 (by omega) d1 (by omega) (by omega)).mono ?_
  rintro _ H4 ⟨rfl, hx4⟩
  have hn4 := hx4.next
  replace hb2 := (hx4.blk H1.next (by omega)).trans hb2
  replace hb3 := (hx4.blk H2.next (by omega)).trans hb3
  simp only [o_cont, o_pure, o_nil, POp.ev, Opd.ev, gv, setD, List.set, Option.some.injEq, exists_eq_left', extV, List.getElem?_toArray, List.getElem?_cons_zero, List.getElem?_cons_succ]
  refine s_reg ?_
  simp only [o_pure, o_callF, POp.ev, Opd.ev, gv, setD, List.map, Option.some.injEq, exists_eq_left', load2 hb2]
  refine (dyAt2_ok lim db.1 db.2 d H4 (by omega) d2 (by omega) (by omega)).mono ?_
  rintro _ H5 ⟨rfl, hx5⟩
  have hn5 := hx5.next
  replace hb3 := (hx5.blk H2.next (by omega)).trans hb3
  simp only [o_cont, o_pure, o_nil, POp.ev, Opd.ev, gv, setD, List.set, Option.some.injEq, exists_eq_left', extV, List.getElem?_toArray, List.getElem?_cons_zero, List.getElem?_cons_succ]
  have bnd : ∀ (n : Int) (k : Nat), n.natAbs ≤ 256 → k ≤ 5 → (n * 2 ^ (d - k)).natAbs ≤ 256 * 32 := by
    intro n k hn hk
    rw [Int.natAbs_mul, Int.natAbs_pow]
    have : (2 : Int).natAbs ^ (d - k) ≤ 2 ^ 5 := Nat.pow_le_pow_right (by decide) (by omega)
    exact Nat.mul_le_mul hn (by simpa using this)
  have b1 := bnd da.1 da.2 (by omega) k1
  have b2 := bnd db.1 db.2 (by omega) k2
  have w1 : IntKind.i64.wrap (da.1 * 2 ^ (d - da.2) + db.1 * 2 ^ (d - db.2)) = da.1 * 2 ^ (d - da.2) + db.1 * 2 ^ (d - db.2) := wr_id (by omega) (by omega)
  refine s_test ?_
  simp only [o_pure, o_guard, gk_ff, o_nil, POp.ev, Opd.ev, gv, setD, Option.some.injEq, exists_eq_left', pickV, unV, Bool.not_true]
  refine Test.false_ (s_skip1 ?_)
  simp +decide only [p_seq_normal]
  refine s_reg ?_
  simp only [o_pure, o_callF, POp.ev, Opd.ev, gv, setD, List.map, Option.some.injEq, exists_eq_left', binV, ne_eq, not_true_eq_false, if_false, w1, add1 (i := d) (by omega)]
  refine (dyMake_ok lim _ (d + 1) H5 (by omega) (by omega) (by omega)).mono ?_
  rintro _ H6 ⟨⟨N, K, rfl, hNK⟩, hx6⟩
  have hn6 := hx6.next
  replace hb3 := (hx6.blk H2.next (by omega)).trans hb3
  simp only [o_cont, o_pure, o_eff, o_nil, POp.ev, Opd.ev, EOp.ev, gv, setD, List.set, Option.some.injEq, exists_eq_left', extV, List.getElem?_toArray, List.getElem?_cons_zero, List.getElem?_cons_succ, dyV, store2 (lim := lim) (show lim ≤ H2.next by omega) hb3]
  refine s_ret1 ?_
  simp +decide only [p_fin_ret, resV, resOne, resL, gv, Option.some.injEq, exists_eq_left', Option.bind_some, Option.map_some, load2 (put_same _ _ _)]
  have e : dnorm (l + m) 6 = (N, K) := by
    rw [← hNK]
    refine dnorm_up (by omega) ?_
    have e1 := q1 d1 d5
    have e2 := q2 d2 d5
    rw [show 6 - (d + 1) = 5 - d by omega, Int.add_mul, ← e1, ← e2]
  rw [e]
  exact ⟨rfl, Chg.ext (((x03.trans hx4).trans hx5).trans hx6) (Chg.put _ _ _) (by omega)⟩
end Go.Proofs.YtldpdjpchcoigaaGreat

/- Coefficient lists, the reference: derivatives, products; no condition beyond stated ranges. -/
namespace Go.Proofs.YtldpdjpchcoigaaGreat
open Go.Ab Ints
set_option linter.unusedSimpArgs false
set_option linter.unusedVariables false

theorem getD_lt {l : List Int} {i : Nat} (h : i < l.length) : l.getD i 0 = l[i] := by simp [h]
theorem map_range_getD (N : Nat) (f : Nat → Int) {i : Nat} (h : i < N) : ((List.range N).map f).getD i 0 = f i := by simp [h]
/-- a list of one's own, put behind -/
theorem VecI.appendL {lim : Nat} {H : AHeap} {b : Nat} {v w : Value} {l m : List Int} (h : VecI H b v l) (hl : lim ≤ b) (hw : SlI H w m) (hn : l.length + m.length ≤ 1000000) :
    ∃ v' H' b', appendH lim H 1 8 v w = some (v', H') ∧ VecI H' b' v' (l ++ m) ∧ (b' = b ∨ H.next ≤ b') ∧ Chg b H H' := by
  obtain ⟨v', H', b', h1, h2, h3, h4, h5⟩ := Vec.append (lim := lim) h hl hw (by decide) (bytes := 8) (by omega)
  refine ⟨v', H', b', h1, ?_, ?_, h4⟩
  · show Vec H' b' v' (l ++ m).length 1 ((l ++ m).map vi)
    rw [List.length_append, List.map_append]
    exact h2
  · rcases h3 with rfl | ⟨rfl, _⟩
    · exact .inl rfl
    · exact .inr (Nat.le_refl _)
def derL (f : List Int) (i : Nat) : List Int := (List.range (i - 1)).map fun (j : Nat) => ((j : Int) + 1) * f.getD (j + 1) 0
theorem derL_succ (f : List Int) {i : Nat} (h : 0 < i) : derL f (i + 1) = derL f i ++ [(i : Int) * f.getD i 0] := by
  obtain ⟨j, rfl⟩ : ∃ j, i = j + 1 := ⟨i - 1, by omega⟩
  unfold derL
  rw [Nat.add_sub_cancel, Nat.add_sub_cancel, List.range_succ, List.map_append]
  rfl
theorem derL_len (f : List Int) (i : Nat) : (derL f i).length = i - 1 := by simp [derL]
theorem sgDerive_ok (lim : Nat) (s : Value) (f : List Int) (A : Nat) (H : AHeap) (hl : lim ≤ H.next) (hs : SlI H s f) (hn : f.length ≤ 100) (hA : ∀ x ∈ f, x.natAbs ≤ A) (hA2 : A ≤ 1099511627776) :
    ACalls Tryz.prog lim n_spec_sgDerive [s] H fun v H' => (∃ b, H.next ≤ b ∧ VecI H' b v (derL f f.length)) ∧ Ext H H' := by
  refine is_spec_sgDerive.go rfl ?_
  unfold c_spec_sgDerive
  refine s_reg ?_
  simp only [o_pure, o_nil, POp.ev, Opd.ev, env0, gu, setD, List.set, Option.some.injEq, exists_eq_left']
  refine s_reg ?_
  simp only [o_pure, o_nil, POp.ev, Opd.ev, setD, List.set, Option.some.injEq, exists_eq_left']
  refine s_assoc (s_reg ?_)
  simp only [o_pure, o_nil, POp.ev, Opd.ev, gv, setD, List.set, Option.some.injEq, exists_eq_left', hs.lenV]
  refine s_block ?_
  refine s_loop1 (fun k e' H' => ∃ (i b : Nat) (v x3 x4 : Value), i + k = f.length ∧ H.next ≤ b ∧ VecI H' b v (derL f i) ∧ Ext H H' ∧ e' = [s, .slice none 0 0, v, x3, x4, s, .int .i64 f.length, .int .i64 i]) f.length ⟨0, H.next, _, _, _, by omega, Nat.le_refl _, VecI.nil _ _, Ext.refl _, rfl⟩ ?_
  rintro k e' H1 ⟨i, b, v, x3, x4, hik, hb, hv, hx, rfl⟩
  have hnx := hx.next
  refine s_test ?_
  simp only [o_pure, o_nil, POp.ev, Opd.ev, gv, setD, Option.some.injEq, exists_eq_left', binV, ne_eq, not_true_eq_false, if_false]
  refine Test.split (fun hlt => ?_) (fun hlt => ?_)
  · have hlt' : i < f.length := by simpa using hlt
    obtain ⟨bb, o, h1, h2, h3⟩ := (SlI.ext hs hx).get hlt'
    have hab := hA _ (List.getElem_mem hlt')
    refine s_skip1 ?_
    simp +decide only [p_seq_normal]
    refine s_block ?_
    refine s_reg ?_
    simp only [o_pure, o_nil, POp.ev, Opd.ev, gv, setD, List.set, Option.some.injEq, exists_eq_left', load1V, h1, h3]
    refine s_test1 ?_
    simp only [o_pure, o_nil, POp.ev, Opd.ev, gv, setD, Option.some.injEq, exists_eq_left', binV, ne_eq, not_true_eq_false, if_false]
    refine Test.split (fun hv0 => ?_) (fun hv0 => ?_)
    · have hi0 : 0 < i := by simp at hv0; omega
      have hm : ((i : Int) * f[i]).natAbs ≤ 100 * A := by rw [Int.natAbs_mul]; exact Nat.mul_le_mul (by omega) hab
      have w1 : IntKind.i64.wrap ((i : Int) * f[i]) = (i : Int) * f[i] := wr_id (by omega) (by omega)
      obtain ⟨v', H2, b', g1, g2, g3, g4, g5⟩ := VecI.push (lim := lim) hv ((i : Int) * f[i]) (by omega) (by rw [derL_len]; omega)
      refine s_reg1 ?_
      simp only [o_pure, o_eff, o_nil, POp.ev, Opd.ev, EOp.ev, gv, setD, List.set, List.map, Option.some.injEq, exists_eq_left', binV, ne_eq, not_true_eq_false, if_false, w1, bslice1, g1]
      simp +decide only [p_seq_normal, p_block_normal]
      refine s_reg1 ?_
      simp only [o_pure, o_nil, POp.ev, Opd.ev, gv, setD, List.set, Option.some.injEq, exists_eq_left', binV, ne_eq, not_true_eq_false, if_false, add1 (i := i) (by omega)]
      simp +decide only [p_seq_normal]
      refine Round.mk (k - 1) (by omega) ⟨i + 1, b', v', _, _, by omega, ?_, ?_, Chg.ext hx g5 hb, rfl⟩
      · rcases g3 with rfl | g3 <;> omega
      · rw [derL_succ f hi0, getD_lt hlt']; exact g2
    · have hi0 : i = 0 := by simp at hv0; omega
      subst hi0
      refine s_skip1 ?_
      simp +decide only [p_seq_normal, p_block_normal]
      refine s_reg1 ?_
      simp only [o_pure, o_nil, POp.ev, Opd.ev, gv, setD, List.set, Option.some.injEq, exists_eq_left', binV, ne_eq, not_true_eq_false, if_false, add1 (i := 0) (by omega)]
      simp +decide only [p_seq_normal]
      exact Round.mk (k - 1) (by omega) ⟨1, b, v, _, _, by omega, hb, hv, hx, rfl⟩
  · have hge : i = f.length := by simp at hlt; omega
    subst hge
    refine s_exit1 ?_
    simp +decide only [p_seq_normal, p_seq_exit, p_block_exit, reduceIte]
    refine s_reg ?_
    simp only [o_pure, o_nil, POp.ev, Opd.ev, gv, setD, List.set, Option.some.injEq, exists_eq_left']
    refine s_ret1 ?_
    simp +decide only [p_fin_ret, resV, resOne, gv, Option.some.injEq, exists_eq_left']
    exact ⟨⟨b, hb, hv⟩, hx⟩
theorem mk_ints (H : AHeap) (n : Nat) (hn : n ≤ 1000000) : mksliceH H 8 [.int .i64 0] (.int .i64 n) (.int .i64 n) = some (.slice (some ⟨H.next, 0, some 0⟩) n n, H.alloc (List.replicate n (.int .i64 0))) := by
  rw [mkslice_int 8 n n [.int .i64 0] (Nat.le_refl _) (by omega) (by omega), zerosL_one]
theorem rowK_set (p q : List Int) (N i k : Nat) (h : i + k < N) : ((List.range N).map (rowK p q i k)).set (i + k) (rowK p q i k (i + k) + p.getD i 0 * q.getD k 0) = (List.range N).map (rowK p q i (k + 1)) := by
  have e : rowK p q i k (i + k) + p.getD i 0 * q.getD k 0 = rowK p q i (k + 1) (i + k) := by rw [rowK_step, if_pos rfl]
  rw [e]
  exact set_map_range _ _ h fun m _ hne => by rw [rowK_step, if_neg hne]
theorem sgProduct_ok (lim : Nat) (s u : Value) (p q : List Int) (A B : Nat) (H : AHeap) (hl : lim ≤ H.next) (hs : SlI H s p) (hu : SlI H u q) (hp0 : p ≠ []) (hq0 : q ≠ []) (hn : p.length ≤ 100) (hn2 : q.length ≤ 100)
    (hA : ∀ x ∈ p, x.natAbs ≤ A) (hB : ∀ x ∈ q, x.natAbs ≤ B) (hAB : p.length * (A * B) ≤ 4611686018427387904) :
    ACalls Tryz.prog lim n_spec_sgProduct [s, u] H fun v H' => (∃ b, H.next ≤ b ∧ b < H'.next ∧ VecI H' b v ((List.range (p.length + q.length - 1)).map (conv p q))) ∧ Ext H H' := by
  refine is_spec_sgProduct.go rfl ?_
  unfold c_spec_sgProduct
  have hpp : 0 < p.length := List.length_pos_iff.2 hp0
  have hqq : 0 < q.length := List.length_pos_iff.2 hq0
  have d1 : ((p.length : Int) == 0) = false := by simp [hp0]
  have d2 : ((q.length : Int) == 0) = false := by simp [hq0]
  refine s_reg ?_
  simp only [o_pure, o_nil, POp.ev, Opd.ev, env0, gu, setD, List.set, Option.some.injEq, exists_eq_left']
  refine s_test ?_
  simp only [o_pure, o_guard, gk_ff, o_nil, POp.ev, Opd.ev, gv, setD, Option.some.injEq, exists_eq_left', pickV, binV, ne_eq, not_true_eq_false, if_false, hs.lenV, hu.lenV, d1, d2]
  refine Test.false_ (s_skip1 ?_)
  simp +decide only [p_seq_normal]
  have w1 := addN (i := p.length) (j := q.length) (by omega)
  generalize hN : p.length + q.length - 1 = N
  have w2 : IntKind.i64.wrap (((p.length + q.length : Nat) : Int) - 1) = (N : Int) := by
    rw [show ((p.length + q.length : Nat) : Int) - 1 = (N : Int) by omega]
    exact wr_nat (by omega)
  refine s_reg ?_
  simp only [o_pure, o_eff, o_nil, POp.ev, Opd.ev, EOp.ev, gv, setD, List.set, Option.some.injEq, exists_eq_left', binV, ne_eq, not_true_eq_false, if_false, hs.lenV, hu.lenV, w1, w2, mk_ints H N (by omega)]
  have hv := VecI.mk' H N
  have hx := Ext.alloc H (List.replicate N (Value.int .i64 0))
  have hbl : H.next < (H.alloc (List.replicate N (Value.int .i64 0))).next := Nat.lt_succ_self _
  have e0 : List.replicate N (0 : Int) = (List.range N).map (convN p q 0) := by
    refine List.ext_getElem (by simp) fun k h1 h2 => ?_
    simp [convN]
  rw [e0] at hv
  generalize H.alloc (List.replicate N (Value.int .i64 0)) = H1 at hv hx hbl ⊢
  generalize (Value.slice (some ⟨H.next, 0, some 0⟩) N N) = v at hv ⊢
  refine s_assoc (s_reg ?_)
  simp only [o_pure, o_nil, POp.ev, Opd.ev, gv, setD, List.set, Option.some.injEq, exists_eq_left', hs.lenV]
  refine s_block ?_
  refine s_loop1 (fun k e' H' => ∃ (i : Nat) (x4 x5 x6 x7 x11 x12 x13 : Value), i + k = p.length ∧ VecI H' H.next v ((List.range N).map (convN p q i)) ∧ H.next < H'.next ∧ Ext H H' ∧ e' = [s, u, .slice none 0 0, v, x4, x5, x6, x7, s, .int .i64 p.length, .int .i64 i, x11, x12, x13]) p.length ⟨0, _, _, _, _, _, _, _, by omega, hv, hbl, hx, rfl⟩ ?_
  clear hv hx hbl
  rintro j e' H2 ⟨i, x4, x5, x6, x7, x11, x12, x13, hij, hv, hbl, hx, rfl⟩
  refine s_test ?_
  simp only [o_pure, o_nil, POp.ev, Opd.ev, gv, setD, Option.some.injEq, exists_eq_left', binV, ne_eq, not_true_eq_false, if_false]
  refine Test.split (fun hlt => ?_) (fun hlt => ?_)
  · have hlt' : i < p.length := by simpa using hlt
    obtain ⟨bb, o, h1, h2, h3⟩ := (SlI.ext hs hx).get hlt'
    have hab := hA _ (List.getElem_mem hlt')
    refine s_skip1 ?_
    simp +decide only [p_seq_normal]
    refine s_block ?_
    refine s_reg ?_
    simp only [o_pure, o_nil, POp.ev, Opd.ev, gv, setD, List.set, Option.some.injEq, exists_eq_left', load1V, h1, h3]
    refine s_reg ?_
    simp only [o_pure, o_nil, POp.ev, Opd.ev, gv, setD, List.set, Option.some.injEq, exists_eq_left', hu.lenV]
    refine s_block1 ?_
    have e1 : (List.range N).map (convN p q i) = (List.range N).map (rowK p q i 0) := List.map_congr_left fun m _ => (rowK_zero p q i m).symm
    rw [e1] at hv
    refine s_loop1 (fun kk e' H' => ∃ (k : Nat) (x6 x7 : Value), k + kk = q.length ∧ VecI H' H.next v ((List.range N).map (rowK p q i k)) ∧ H.next < H'.next ∧ Ext H H' ∧ e' = [s, u, .slice none 0 0, v, .int .i64 i, .int .i64 p[i], x6, x7, s, .int .i64 p.length, .int .i64 i, u, .int .i64 q.length, .int .i64 k]) q.length ⟨0, _, _, by omega, hv, hbl, hx, rfl⟩ ?_
    clear hv hx hbl h1 h2 h3
    rintro jj e' H3 ⟨k, x6, x7, hkk, hv, hbl, hx, rfl⟩
    refine s_test ?_
    simp only [o_pure, o_nil, POp.ev, Opd.ev, gv, setD, Option.some.injEq, exists_eq_left', binV, ne_eq, not_true_eq_false, if_false]
    refine Test.split (fun hlt2 => ?_) (fun hlt2 => ?_)
    · have hlk : k < q.length := by simpa using hlt2
      obtain ⟨b2, o2, g1, g2, g3⟩ := (SlI.ext hu hx).get hlk
      have hbb := hB _ (List.getElem_mem hlk)
      have hik : i + k < N := by omega
      obtain ⟨a1, a2⟩ := VecI.at hv (i := i + k) (by simpa using hik)
      rw [map_range_getD N _ hik] at a2
      obtain ⟨cs, c1, c2⟩ := VecI.put (lim := lim) hv hl (i := i + k) (by simpa using hik) (rowK p q i k (i + k) + p.getD i 0 * q.getD k 0)
      have hr1 := rowK_abs hA hB i k (i + k)
      have hm : (p[i] * q[k]).natAbs ≤ A * B := by rw [Int.natAbs_mul]; exact Nat.mul_le_mul hab hbb
      have hle : (i + 1) * (A * B) ≤ p.length * (A * B) := Nat.mul_le_mul_right _ (by omega)
      have hr2 := rowK_abs hA hB i (k + 1) (i + k)
      rw [rowK_step, if_pos rfl] at hr2
      have hle1 : A * B ≤ (i + 1) * (A * B) := Nat.le_mul_of_pos_left _ (by omega)
      have w3 : IntKind.i64.wrap (p[i] * q[k]) = p.getD i 0 * q.getD k 0 := by
        rw [getD_lt hlt', getD_lt hlk]
        exact wr_id (by omega) (by omega)
      have w4 : IntKind.i64.wrap (rowK p q i k (i + k) + p.getD i 0 * q.getD k 0) = rowK p q i k (i + k) + p.getD i 0 * q.getD k 0 := wr_id (by omega) (by omega)
      rw [rowK_set p q N i k hik] at c2
      refine s_skip1 ?_
      simp +decide only [p_seq_normal]
      refine s_block ?_
      refine s_reg ?_
      simp only [o_pure, o_nil, POp.ev, Opd.ev, gv, setD, List.set, Option.some.injEq, exists_eq_left', load1V, g1, g3]
      refine s_reg1 ?_
      simp only [o_pure, o_eff, o_nil, POp.ev, Opd.ev, EOp.ev, gv, setD, Option.some.injEq, exists_eq_left', binV, load1V, ne_eq, not_true_eq_false, if_false, addN (i := i) (j := k) (by omega), a1, a2, w3, w4, c1]
      simp +decide only [p_seq_normal, p_block_normal]
      refine s_reg1 ?_
      simp only [o_pure, o_nil, POp.ev, Opd.ev, gv, setD, List.set, Option.some.injEq, exists_eq_left', binV, ne_eq, not_true_eq_false, if_false, add1 (i := k) (by omega)]
      simp +decide only [p_seq_normal]
      exact Round.mk (jj - 1) (by omega) ⟨k + 1, _, _, by omega, c2, hbl, Chg.ext hx (Chg.put _ _ _) (Nat.le_refl _), rfl⟩
    · have hge : k = q.length := by simp at hlt2; omega
      subst hge
      refine s_exit1 ?_
      simp +decide only [p_seq_normal, p_seq_exit, p_block_normal, p_block_exit, reduceIte]
      refine s_reg1 ?_
      simp only [o_pure, o_nil, POp.ev, Opd.ev, gv, setD, List.set, Option.some.injEq, exists_eq_left', binV, ne_eq, not_true_eq_false, if_false, add1 (i := i) (by omega)]
      simp +decide only [p_seq_normal]
      have e2 : (List.range N).map (rowK p q i q.length) = (List.range N).map (convN p q (i + 1)) := List.map_congr_left fun m _ => rowK_all p q i m
      rw [e2] at hv
      exact Round.mk (j - 1) (by omega) ⟨i + 1, _, _, _, _, _, _, _, by omega, hv, hbl, hx, rfl⟩
  · have hge : i = p.length := by simp at hlt; omega
    subst hge
    refine s_exit1 ?_
    simp +decide only [p_seq_normal, p_seq_exit, p_block_exit, reduceIte]
    refine s_reg ?_
    simp only [o_pure, o_nil, POp.ev, Opd.ev, gv, setD, List.set, Option.some.injEq, exists_eq_left']
    refine s_ret1 ?_
    simp +decide only [p_fin_ret, resV, resOne, gv, Option.some.injEq, exists_eq_left']
    exact ⟨⟨H.next, Nat.le_refl _, hbl, hv⟩, hx⟩
end Go.Proofs.YtldpdjpchcoigaaGreat
