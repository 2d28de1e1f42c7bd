/- Parts of the proof of a statement of this seat: contracts of functions that the law calls, or the law's own row; no condition. -/
import Derived.Test.YtaimceodhhgnnaaC
import Derived.Test.YtaimceodhhgnnaaAbVec
import Derived.Test.YtaimceodhhgnnaaAbBase
import Derived.Test.YtaimceodhhgnnaaAbOps
import Derived.Test.YtaimceodhhgnnaaAbTr
import Derived.Test.YtaimceodhhgnnaaAbEff
import Derived.Test.YtaimceodhhgnnaaAbCode
import Derived.Test.YtaimceodhhgnnaaAbDraw
import Derived.Test.YtaimceodhhgnnaaAbFun
import Derived.Test.YtaimceodhhgnnaaAbUse
import Derived.Test.YtaimceodhhgnnaaAbStep
import Derived.Test.YtaimceodhhgnnaaAbMore
import Derived.Test.YtaimceodhhgnnaaAbArg
/- Systems of polynomials, part 1 of the walk: lists of terms in the abstract heap, and the laws' helpers on one term; no condition. -/
namespace Go.Proofs.Ytaimceodhhgnnaa
open Go.Ab
set_option linter.unusedSimpArgs false
set_option linter.unusedVariables false

abbrev vi (n : Int) : Value := .int .i64 n
def roomN (n : Nat) : Nat := if n % 6 = 5 then 0 else if n % 3 = 0 then 1 else n
structure Tm where
  c : Int
  x : Int
  y : Int
  z : Int
  deriving DecidableEq
def tc (t : Tm) : List Value := [vi t.c, vi t.x, vi t.y, vi t.z]
def tv (t : Tm) : Value := .agg #[vi t.c, vi t.x, vi t.y, vi t.z]
theorem cells_tv (t : Tm) : cellsV (tv t) = some (tc t) := rfl
def tcs (l : List Tm) : List Value := l.flatMap tc
theorem tcs_cons (t : Tm) (l : List Tm) : tcs (t :: l) = tc t ++ tcs l := rfl
theorem tcs_append (l m : List Tm) : tcs (l ++ m) = tcs l ++ tcs m := by simp [tcs]
theorem tcs_length (l : List Tm) : (tcs l).length = l.length * 4 := by
  induction l with
  | nil => rfl
  | cons t l ih => rw [tcs_cons, List.length_append, ih, List.length_cons]; simp [tc]; omega
theorem tcs_at : ∀ {l : List Tm} {i : Nat} {t : Tm}, l[i]? = some t → ((tcs l).drop (i * 4)).take 4 = tc t
  | [], i, t, h => by simp at h
  | a :: l, 0, t, h => by
    simp only [List.getElem?_cons_zero, Option.some.injEq] at h
    subst h
    rw [tcs_cons]
    rfl
  | a :: l, i + 1, t, h => by
    have e : (tcs (a :: l)).drop ((i + 1) * 4) = (tcs l).drop (i * 4) := by
      rw [tcs_cons, List.drop_append, List.drop_of_length_le (by simp [tc]; omega), List.nil_append]
      congr 1
      simp [tc]; omega
    rw [e]
    exact tcs_at (by simpa using h)
theorem putL_shift (a l x : List Value) (o : Nat) : putL (a ++ l) (a.length + o) x = a ++ putL l o x := by
  simp only [putL, List.take_append, List.drop_append, List.append_assoc]
  rw [List.take_of_length_le (by omega), List.drop_of_length_le (by omega)]
  simp [Nat.add_sub_cancel_left, Nat.add_assoc]
theorem tcs_set : ∀ {l : List Tm} {i : Nat} (t : Tm), i < l.length → putL (tcs l) (i * 4) (tc t) = tcs (l.set i t)
  | [], i, t, h => by simp at h
  | a :: l, 0, t, h => by simp [putL, tcs_cons, tc]
  | a :: l, i + 1, t, h => by
    rw [List.set_cons_succ, tcs_cons, tcs_cons, show (i + 1) * 4 = (tc a).length + i * 4 by simp [tc]; omega, putL_shift, tcs_set t (by simpa using h)]
/-- a term with one field turned -/
def Tm.upd (t : Tm) : Nat → Int → Tm
  | 0, v => { t with c := v }
  | 1, v => { t with x := v }
  | 2, v => { t with y := v }
  | _, v => { t with z := v }
theorem tcs_put : ∀ {l : List Tm} {i j : Nat} {t : Tm} (v : Int), l[i]? = some t → j < 4 → putL (tcs l) (i * 4 + j) [vi v] = tcs (l.set i (t.upd j v))
  | [], i, j, t, v, h, hj => by simp at h
  | a :: l, 0, j, t, v, h, hj => by
    simp only [List.getElem?_cons_zero, Option.some.injEq] at h
    subst h
    match j, hj with
    | 0, _ => simp [putL, tcs_cons, tc, Tm.upd]
    | 1, _ => simp [putL, tcs_cons, tc, Tm.upd]
    | 2, _ => simp [putL, tcs_cons, tc, Tm.upd]
    | 3, _ => simp [putL, tcs_cons, tc, Tm.upd]
  | a :: l, i + 1, j, t, v, h, hj => by
    rw [List.set_cons_succ, tcs_cons, tcs_cons, show (i + 1) * 4 + j = (tc a).length + (i * 4 + j) by simp [tc]; omega, putL_shift, tcs_put v (by simpa using h) hj]

abbrev SlT (H : AHeap) (v : Value) (l : List Tm) : Prop := Sl H v l.length 4 (tcs l)
abbrev VecT (H : AHeap) (b : Nat) (v : Value) (l : List Tm) : Prop := Vec H b v l.length 4 (tcs l)

/-- a term's place: its address, the whole, its fields -/
structure At (H : AHeap) (b o : Nat) (t : Tm) : Prop where
  lt : b < H.next
  all : loadNV H 4 (.pointer (some ⟨b, o, none⟩)) = some (tv t)
  c : H.cell b o = some (vi t.c)
  x : H.cell b (o + 1) = some (vi t.x)
  y : H.cell b (o + 2) = some (vi t.y)
  z : H.cell b (o + 3) = some (vi t.z)
theorem At.of_load {H : AHeap} {b o : Nat} {t : Tm} (hb : b < H.next) (h : loadNH H b o 4 = some (tc t)) : At H b o t := by
  have hc : ∀ j, j < 4 → H.cell b (o + j) = (tc t)[j]? := by
    intro j hj
    unfold loadNH at h
    unfold AHeap.cell
    cases hbk : H.blk b with
    | none => rw [hbk] at h; cases h
    | some cs =>
      rw [hbk] at h
      simp only [Option.bind_some] at h ⊢
      split at h
      · simp only [Option.some.injEq] at h
        have h4 := congrArg (fun z => z[j]?) h
        simp only [List.getElem?_take, List.getElem?_drop, if_pos hj] at h4
        exact h4
      · cases h
  exact ⟨hb, by simp only [loadNV, h, Option.map_some]; rfl, hc 0 (by omega), hc 1 (by omega), hc 2 (by omega), hc 3 (by omega)⟩
theorem SlT.at {H : AHeap} {s : Value} {l : List Tm} (h : SlT H s l) {i : Nat} (hi : i < l.length) : ∃ b o, iadV 4 s (.int .i64 i) = some (.pointer (some ⟨b, o, none⟩)) ∧ At H b o l[i] := by
  obtain ⟨b, o, h1, h2, h3⟩ := Sl.iad h .i64 (i := (i : Int)) (by omega) (by omega)
  have e : (i : Int).toNat = i := by omega
  rw [e, tcs_at (List.getElem?_eq_getElem hi)] at h3
  exact ⟨b, o, h1, At.of_load h2 h3⟩
theorem VecT.at {H : AHeap} {b : Nat} {v : Value} {l : List Tm} (h : VecT H b v l) {i : Nat} (hi : i < l.length) : iadV 4 v (.int .i64 i) = some (.pointer (some ⟨b, i * 4, none⟩)) ∧ At H b (i * 4) l[i] := by
  refine ⟨Vec.iad h .i64 hi, At.of_load ((h.blk (by omega)).elim fun _ h => h.2) ?_⟩
  have := h.loadN hi
  rw [tcs_at (List.getElem?_eq_getElem hi)] at this
  exact this
theorem VecT.putT {lim : Nat} {H : AHeap} {b : Nat} {v : Value} {l : List Tm} (h : VecT H b v l) (hl : lim ≤ b) {i : Nat} (hi : i < l.length) (t : Tm) :
    ∃ cs, storeH lim H 4 (.pointer (some ⟨b, i * 4, none⟩)) (tv t) = some (undef, H.put b cs) ∧ VecT (H.put b cs) b v (l.set i t) := by
  obtain ⟨cs, h1, h2⟩ := h.put (lim := lim) hl (cells_tv t) rfl (by simp [tc]) (o := i * 4) (by simp [tc]; omega)
  rw [tcs_set t hi] at h2
  exact ⟨cs, h1, by unfold VecT; rw [List.length_set]; exact h2⟩
theorem VecT.putf {lim : Nat} {H : AHeap} {b : Nat} {v : Value} {l : List Tm} (h : VecT H b v l) (hl : lim ≤ b) {i : Nat} {t : Tm} (hi : l[i]? = some t) (x : Int) {j : Nat} (hj : j < 4) :
    ∃ cs, storeH lim H 1 (.pointer (some ⟨b, i * 4 + j, none⟩)) (.int .i64 x) = some (undef, H.put b cs) ∧ VecT (H.put b cs) b v (l.set i (t.upd j x)) := by
  have hlt := (List.getElem?_eq_some_iff.1 hi).1
  obtain ⟨cs, h1, h2⟩ := h.put (lim := lim) hl (cells_int .i64 x) rfl (by simp) (o := i * 4 + j) (by simp; omega)
  rw [tcs_put x hi hj] at h2
  exact ⟨cs, h1, by unfold VecT; rw [List.length_set]; exact h2⟩

theorem load4 {b : Nat} {H : AHeap} {x y z u : Value} (h : H.blk b = some [x, y, z, u]) : loadNV H 4 (.pointer (some ⟨b, 0, none⟩)) = some (.agg #[x, y, z, u]) := loadNV_blk h
theorem store4 {lim b : Nat} {H : AHeap} {p q r s x y z u : Value} (hl : lim ≤ b) (h : H.blk b = some [p, q, r, s]) : storeH lim H 4 (.pointer (some ⟨b, 0, none⟩)) (.agg #[x, y, z, u]) = some (undef, H.put b [x, y, z, u]) :=
  store_all (xs := [x, y, z, u]) hl h rfl
def filT : Tm := ⟨-7000000000000000101, -7000000000000000101, -7000000000000000101, -7000000000000000101⟩
end Go.Proofs.Ytaimceodhhgnnaa

/- Systems of polynomials, part 2 of the walk: the laws' helpers on lists of terms; no condition beyond stated lengths. -/
namespace Go.Proofs.Ytaimceodhhgnnaa
open Go.Ab
set_option linter.unusedSimpArgs false
set_option linter.unusedVariables false

theorem SlT.ext {H H' : AHeap} {v : Value} {l : List Tm} (h : SlT H v l) (hx : Ext H H') : SlT H' v l := Sl.keep h (Keep.of_ext hx (Nat.le_refl _)) (Nat.le_refl _)
theorem VecT.ext {H H' : AHeap} {b : Nat} {v : Value} {l : List Tm} (h : VecT H b v l) (hx : Ext H H') : VecT H' b v l := Vec.ext h hx
theorem VecT.chg {H H' : AHeap} {b b' : Nat} {v : Value} {l : List Tm} (h : VecT H b v l) (hx : Chg b' H H') (hne : b ≠ b') : VecT H' b v l := Vec.chg h hx hne

def laidT (l : List Tm) : List Tm := l ++ List.replicate (roomN l.length) filT
theorem laidT_length (l : List Tm) : (laidT l).length = l.length + roomN l.length := by simp [laidT]
/-- a list laid with its hidden room -/
structure LaidT (H : AHeap) (b : Nat) (v : Value) (l : List Tm) : Prop where
  v : v = .slice (some ⟨b, 0, some 0⟩) l.length (l.length + roomN l.length)
  all : VecT H b (.slice (some ⟨b, 0, some 0⟩) (l.length + roomN l.length) (l.length + roomN l.length)) (laidT l)
theorem LaidT.lt {H : AHeap} {b : Nat} {v : Value} {l : List Tm} (h : LaidT H b v l) : b < H.next := by
  rcases h.all with ⟨h1, _⟩ | ⟨c, sp, rest, h1, h2, h3, _⟩
  · cases h1
  · exact h3
theorem LaidT.vec {H : AHeap} {b : Nat} {v : Value} {l : List Tm} (h : LaidT H b v l) : VecT H b v l := by
  obtain ⟨rfl, h⟩ := h
  rcases h with ⟨h1, _⟩ | ⟨c, sp, rest, h1, h2, h3, h4, h5, h6, h7⟩
  · cases h1
  · simp only [Value.slice.injEq, Option.some.injEq, Addr.mk.injEq, true_and] at h1
    obtain ⟨rfl, h1l, rfl⟩ := h1
    have e := laidT_length l
    refine .inr ⟨_, _, tcs (List.replicate (roomN l.length) filT) ++ rest, rfl, .inl rfl, h3, ?_, tcs_length l, by omega, ?_⟩
    · rw [h4, laidT, tcs_append, List.append_assoc]
    · rw [List.length_append, tcs_length]
      simp; omega
theorem LaidT.ext {H H' : AHeap} {b : Nat} {v : Value} {l : List Tm} (h : LaidT H b v l) (hx : Ext H H') : LaidT H' b v l := ⟨h.v, VecT.ext h.all hx⟩
theorem LaidT.chg {H H' : AHeap} {b b' : Nat} {v : Value} {l : List Tm} (h : LaidT H b v l) (hx : Chg b' H H') (hne : b ≠ b') : LaidT H' b v l := ⟨h.v, VecT.chg h.all hx hne⟩
def CopyT (H : AHeap) (b : Nat) (v : Value) (l : List Tm) (bare : Bool) : Prop := (bare = true ∧ l = [] ∧ v = .slice none 0 0) ∨ LaidT H b v l
theorem CopyT.ext {H H' : AHeap} {b : Nat} {v : Value} {l : List Tm} {bare : Bool} (h : CopyT H b v l bare) (hx : Ext H H') : CopyT H' b v l bare := h.imp id fun h => h.ext hx
theorem CopyT.chg {H H' : AHeap} {b b' : Nat} {v : Value} {l : List Tm} {bare : Bool} (h : CopyT H b v l bare) (hx : Chg b' H H') (hne : b ≠ b') : CopyT H' b v l bare := h.imp id fun h => h.chg hx hne
theorem CopyT.vec {H : AHeap} {b : Nat} {v : Value} {l : List Tm} {bare : Bool} (h : CopyT H b v l bare) : VecT H b v l := by
  rcases h with ⟨_, rfl, rfl⟩ | h
  · exact Vec.nil _ _ _
  · exact h.vec
/-- terms numbered one after another -/
def mkT (k : Int) (n : Nat) : List Tm := (List.range n).map fun (i : Nat) => ⟨k + 4 * i, k + 4 * i + 1, k + 4 * i + 2, k + 4 * i + 3⟩
end Go.Proofs.Ytaimceodhhgnnaa

/- Systems of polynomials, part 3 of the walk: the laws' helpers on systems; no condition beyond stated lengths. -/
namespace Go.Proofs.Ytaimceodhhgnnaa
open Go.Ab
set_option linter.unusedSimpArgs false
set_option linter.unusedVariables false

/-- only blocks within the bounds are turned -/
structure Out (lo hi : Nat) (H H' : AHeap) : Prop where
  next : H.next ≤ H'.next
  blk : ∀ b, b < H.next → (b < lo ∨ hi ≤ b) → H'.blk b = H.blk b
theorem Out.refl (lo hi : Nat) (H : AHeap) : Out lo hi H H := ⟨Nat.le_refl _, fun _ _ _ => rfl⟩
theorem Out.of_ext {lo hi : Nat} {H H' : AHeap} (h : Ext H H') : Out lo hi H H' := ⟨h.next, fun b hb _ => h.blk b hb⟩
theorem Out.trans {lo hi : Nat} {H H1 H2 : AHeap} (h : Out lo hi H H1) (k : Out lo hi H1 H2) : Out lo hi H H2 := ⟨Nat.le_trans h.next k.next, fun b hb hn => (k.blk b (Nat.lt_of_lt_of_le hb h.next) hn).trans (h.blk b hb hn)⟩
theorem Out.ext {lo hi : Nat} {H0 H H' : AHeap} (hx : Ext H0 H) (h : Out lo hi H H') (hl : H0.next ≤ lo) : Ext H0 H' :=
  ⟨Nat.le_trans hx.next h.next, fun b hb => (h.blk b (Nat.lt_of_lt_of_le hb hx.next) (by omega)).trans (hx.blk b hb)⟩

def SlSS (H : AHeap) (v : Value) (ss : List (List Tm)) : Prop := ∃ vs : List Value, Sl H v ss.length 1 vs ∧ ∀ (i : Nat) (p : List Tm), ss[i]? = some p → ∃ s, vs[i]? = some s ∧ SlT H s p
theorem SlSS.ext {H H' : AHeap} {v : Value} {ss : List (List Tm)} (h : SlSS H v ss) (hx : Ext H H') : SlSS H' v ss := by
  obtain ⟨vs, h1, h2⟩ := h
  refine ⟨vs, h1.keep (Keep.of_ext hx (Nat.le_refl _)) (Nat.le_refl _), fun i p hp => ?_⟩
  obtain ⟨s, g1, g2⟩ := h2 i p hp
  exact ⟨s, g1, g2.ext hx⟩
theorem SlSS.lenV {H : AHeap} {v : Value} {ss : List (List Tm)} (h : SlSS H v ss) : lenV v = some (.int .i64 ss.length) := by
  obtain ⟨vs, h1, _⟩ := h
  exact h1.lenV
theorem SlSS.at {H : AHeap} {v : Value} {ss : List (List Tm)} (h : SlSS H v ss) {i : Nat} (hi : i < ss.length) : ∃ b o s, iadV 1 v (.int .i64 i) = some (.pointer (some ⟨b, o, none⟩)) ∧ H.cell b o = some s ∧ SlT H s ss[i] := by
  obtain ⟨vs, h1, h2⟩ := h
  obtain ⟨b, o, g1, g2, g3⟩ := h1.cell .i64 (i := (i : Int)) (by omega) (by omega)
  obtain ⟨s, k1, k2⟩ := h2 i _ (List.getElem?_eq_getElem hi)
  rw [show (i : Int).toNat = i by omega, k1] at g3
  exact ⟨b, o, s, g1, g3, k2⟩
theorem SlSS.nil (H : AHeap) : SlSS H (.slice none 0 0) [] := ⟨[], Sl.nil _ _, by intro i p h; simp at h⟩

/-- a system of one's own: its blocks lie within the bounds, each is another one -/
structure OwnX (H : AHeap) (lo hi b : Nat) (vs : List Value) (bs : List Nat) (v : Value) (ss : List (List Tm)) : Prop where
  vec : Vec H b v ss.length 1 vs
  len : bs.length = ss.length
  rng : lo ≤ b ∧ b < hi
  nodup : bs.Nodup
  nin : b ∉ bs
  rngs : ∀ c ∈ bs, lo ≤ c ∧ c < hi
  el : ∀ (i : Nat) (p : List Tm), ss[i]? = some p → ∃ s c, vs[i]? = some s ∧ bs[i]? = some c ∧ VecT H c s p
def OwnSS (H : AHeap) (lo hi : Nat) (v : Value) (ss : List (List Tm)) : Prop := (v = .slice none 0 0 ∧ ss = []) ∨ ∃ b vs bs, OwnX H lo hi b vs bs v ss
theorem OwnX.keep {H H' : AHeap} {lo hi b : Nat} {vs : List Value} {bs : List Nat} {v : Value} {ss : List (List Tm)} (h : OwnX H lo hi b vs bs v ss) (hn : H.next ≤ H'.next) (hb : ∀ c, c < H.next → lo ≤ c → c < hi → H'.blk c = H.blk c) : OwnX H' lo hi b vs bs v ss := by
  obtain ⟨h1, h2, h3, h4, h5, h6, h7⟩ := h
  refine ⟨h1.keep hn (fun hlt => hb b hlt h3.1 h3.2), h2, h3, h4, h5, h6, fun i p hp => ?_⟩
  obtain ⟨s, c, g1, g2, g3⟩ := h7 i p hp
  obtain ⟨k1, k2⟩ := h6 c (List.mem_of_getElem? g2)
  exact ⟨s, c, g1, g2, Vec.keep g3 hn (fun hlt => hb c hlt k1 k2)⟩
theorem OwnSS.keep {H H' : AHeap} {lo hi : Nat} {v : Value} {ss : List (List Tm)} (h : OwnSS H lo hi v ss) (hn : H.next ≤ H'.next) (hb : ∀ c, c < H.next → lo ≤ c → c < hi → H'.blk c = H.blk c) : OwnSS H' lo hi v ss := by
  rcases h with h | ⟨b, vs, bs, h⟩
  · exact .inl h
  · exact .inr ⟨b, vs, bs, h.keep hn hb⟩
theorem OwnSS.ext {H H' : AHeap} {lo hi : Nat} {v : Value} {ss : List (List Tm)} (h : OwnSS H lo hi v ss) (hx : Ext H H') : OwnSS H' lo hi v ss := h.keep hx.next fun c hc _ _ => hx.blk c hc
theorem OwnSS.out {H H' : AHeap} {lo hi lo' hi' : Nat} {v : Value} {ss : List (List Tm)} (h : OwnSS H lo hi v ss) (hx : Out lo' hi' H H') (hd : hi ≤ lo' ∨ hi' ≤ lo) : OwnSS H' lo hi v ss :=
  h.keep hx.next fun c hc h1 h2 => hx.blk c hc (by omega)
/-- one polynomial is turned in its place -/
theorem OwnX.upd {H H' : AHeap} {lo hi b : Nat} {vs : List Value} {bs : List Nat} {v : Value} {ss : List (List Tm)} (h : OwnX H lo hi b vs bs v ss) {i c : Nat} {s : Value} {p : List Tm} (hlt : i < ss.length) (hs : vs[i]? = some s) (hc : bs[i]? = some c) (hx : Chg c H H') (hp : VecT H' c s p) :
    OwnX H' lo hi b vs bs v (ss.set i p) := by
  obtain ⟨h1, h2, h3, h4, h5, h6, h7⟩ := h
  have hcm := List.mem_of_getElem? hc
  refine ⟨by rw [List.length_set]; exact h1.chg hx (fun e => h5 (e ▸ hcm)), by rw [List.length_set]; exact h2, h3, h4, h5, h6, fun j q hq => ?_⟩
  by_cases hji : i = j
  · subst hji
    rw [List.getElem?_set_self hlt] at hq
    cases hq
    exact ⟨s, c, hs, hc, hp⟩
  · rw [List.getElem?_set_ne hji] at hq
    obtain ⟨s', c', g1, g2, g3⟩ := h7 j q hq
    refine ⟨s', c', g1, g2, VecT.chg g3 hx (fun e => ?_)⟩
    subst e
    obtain ⟨l1, e1⟩ := List.getElem?_eq_some_iff.1 hc
    obtain ⟨l2, e2⟩ := List.getElem?_eq_some_iff.1 g2
    exact hji ((List.getElem_inj h4).1 (e1.trans e2.symm))

end Go.Proofs.Ytaimceodhhgnnaa

/- Systems of polynomials, part 4 of the walk: systems laid with hidden room, and what tells them intact; no condition beyond stated lengths. -/
namespace Go.Proofs.Ytaimceodhhgnnaa
open Go.Ab
set_option linter.unusedSimpArgs false
set_option linter.unusedVariables false

/-- a system laid with its hidden room -/
structure LaidX (H : AHeap) (lo hi b : Nat) (vs fs : List Value) (bs : List Nat) (v : Value) (ss : List (List Tm)) (bare : Bool) : Prop where
  v : v = .slice (some ⟨b, 0, some 0⟩) ss.length (ss.length + roomN ss.length)
  vec : Vec H b (.slice (some ⟨b, 0, some 0⟩) (ss.length + roomN ss.length) (ss.length + roomN ss.length)) (ss.length + roomN ss.length) 1 (vs ++ fs)
  vlen : vs.length = ss.length
  len : bs.length = ss.length
  rng : lo ≤ b ∧ b < hi
  nodup : bare = false → bs.Nodup
  nin : b ∉ bs
  rngs : bare = false → ∀ c ∈ bs, lo ≤ c ∧ c < hi
  el : ∀ (i : Nat) (p : List Tm), ss[i]? = some p → ∃ s c, vs[i]? = some s ∧ bs[i]? = some c ∧ CopyT H c s p bare
  fil : ∀ f ∈ fs, SlT H f [filT]
def LaidSS (H : AHeap) (lo hi : Nat) (v : Value) (ss : List (List Tm)) (bare : Bool) : Prop := (bare = true ∧ v = .slice none 0 0 ∧ ss = []) ∨ ∃ b vs fs bs, LaidX H lo hi b vs fs bs v ss bare

theorem LaidX.short {H : AHeap} {lo hi b : Nat} {vs fs : List Value} {bs : List Nat} {v : Value} {ss : List (List Tm)} {bare : Bool} (h : LaidX H lo hi b vs fs bs v ss bare) : Vec H b v ss.length 1 vs := by
  obtain ⟨rfl, hv, hl, _⟩ := h
  rcases hv with ⟨h1, _⟩ | ⟨c, sp, rest, h1, h2, h3, h4, h5, h6, h7⟩
  · cases h1
  · simp only [Value.slice.injEq, Option.some.injEq, Addr.mk.injEq, true_and] at h1
    obtain ⟨rfl, rfl⟩ := h1
    exact .inr ⟨_, _, fs ++ rest, rfl, .inl rfl, h3, by rw [h4, List.append_assoc], by omega, by omega, by
      have e1 : (vs ++ fs).length = vs.length + fs.length := List.length_append
      rw [List.length_append]; omega⟩
theorem LaidX.own {H : AHeap} {lo hi b : Nat} {vs fs : List Value} {bs : List Nat} {v : Value} {ss : List (List Tm)} (h : LaidX H lo hi b vs fs bs v ss false) : OwnX H lo hi b vs bs v ss := by
  refine ⟨h.short, h.len, h.rng, h.nodup rfl, h.nin, h.rngs rfl, fun i p hp => ?_⟩
  obtain ⟨s, c, g1, g2, g3⟩ := h.el i p hp
  exact ⟨s, c, g1, g2, g3.vec⟩
theorem LaidX.ext {H H' : AHeap} {lo hi b : Nat} {vs fs : List Value} {bs : List Nat} {v : Value} {ss : List (List Tm)} {bare : Bool} (h : LaidX H lo hi b vs fs bs v ss bare) (hx : Ext H H') : LaidX H' lo hi b vs fs bs v ss bare := by
  refine ⟨h.v, h.vec.ext hx, h.vlen, h.len, h.rng, h.nodup, h.nin, h.rngs, fun i p hp => ?_, fun f hf => (h.fil f hf).ext hx⟩
  obtain ⟨s, c, g1, g2, g3⟩ := h.el i p hp
  exact ⟨s, c, g1, g2, g3.ext hx⟩
theorem LaidSS.ext {H H' : AHeap} {lo hi : Nat} {v : Value} {ss : List (List Tm)} {bare : Bool} (h : LaidSS H lo hi v ss bare) (hx : Ext H H') : LaidSS H' lo hi v ss bare := by
  rcases h with h | ⟨b, vs, fs, bs, h⟩
  · exact .inl h
  · exact .inr ⟨b, vs, fs, bs, h.ext hx⟩
theorem LaidSS.own {H : AHeap} {lo hi : Nat} {v : Value} {ss : List (List Tm)} (h : LaidSS H lo hi v ss false) : OwnSS H lo hi v ss := by
  rcases h with ⟨h, _⟩ | ⟨b, vs, fs, bs, h⟩
  · cases h
  · exact .inr ⟨b, vs, bs, h.own⟩

theorem bsliceT (H : AHeap) (t : Tm) : bsliceH H 1 [.int .i64 0, .int .i64 0, .int .i64 0, .int .i64 0] [(0, 4, tv t)] = some (.slice (some ⟨H.next, 0, some 0⟩) 1 1, H.alloc (tc t)) := by
  simp [bsliceH, fillV, cells_tv, tc]
theorem sl_one (H : AHeap) (t : Tm) : SlT (H.alloc (tc t)) (.slice (some ⟨H.next, 0, some 0⟩) 1 1) [t] := by
  have := Vec.lit (H := H) (n := 1) (sz := 4) (cells := tc t) rfl
  have h2 := Vec.sl this
  have e : tcs [t] = tc t := by simp [tcs]
  unfold SlT
  rw [e]
  exact h2
end Go.Proofs.Ytaimceodhhgnnaa

/- Systems of polynomials, part 5 of the walk: the specification's tests on terms, polynomials and systems; no condition beyond stated lengths. -/
namespace Go.Ab
/-- a test at a piece's end that turns no variable -/
theorem s_test1_I {P : Program} {lim : Nat} {Q : Post} {e : List Value} {H : AHeap} {ops : List AOper} (g : Bool) (I : AHeap → Prop) {o : Opd} {x y : ACode} (h : awpOps P lim ops (fun e' t' H' => o.ev e' t' = .bool g ∧ e' = e ∧ I H') e [] H)
    (h1 : ∀ H', I H' → g = true → awp P lim x Q e H') (h2 : ∀ H', I H' → g = false → awp P lim y Q e H') : awp P lim (.test ops o x y) Q e H := by
  refine s_test1 (awpOps.mono ?_ h)
  rintro e' t' H' ⟨h3, rfl, h4⟩
  rw [h3]
  exact Test.split (h1 H' h4) (h2 H' h4)
end Go.Ab
namespace Go.Proofs.Ytaimceodhhgnnaa
open Go.Ab
set_option linter.unusedSimpArgs false
set_option linter.unusedVariables false

theorem l1In_ok (lim : Nat) (a b c : Int) (H : AHeap) : ACalls Try.prog lim n_spec_l1In [.int .i64 a, .int .i64 b, .int .i64 c] H fun v H' => v = .bool (decide (b ≤ a) && decide (a ≤ c)) ∧ H' = H := by
  refine is_spec_l1In.go rfl ?_
  unfold c_spec_l1In
  refine s_reg ?_
  simp only [o_pure, o_nil, POp.ev, Opd.ev, env0, gu, setD, List.set, Option.some.injEq, exists_eq_left']
  refine s_reg ?_
  have e1 : (a ≥ b) = (b ≤ a) := rfl
  cases h1 : decide (b ≤ a)
  · simp only [o_pure, o_guard, gk_ft, o_nil, POp.ev, Opd.ev, gv, setD, List.set, Option.some.injEq, exists_eq_left', pickV, binV, ne_eq, not_true_eq_false, if_false, e1, h1]
    refine s_ret1 ?_
    simp +decide only [p_fin_ret, resV, resOne, gv, Option.some.injEq, exists_eq_left']
    simp
  · simp only [o_pure, o_guard, gk_tt, o_nil, POp.ev, Opd.ev, gv, setD, List.set, Option.some.injEq, exists_eq_left', pickV, binV, ne_eq, not_true_eq_false, if_false, e1, h1]
    refine s_ret1 ?_
    simp +decide only [p_fin_ret, resV, resOne, gv, Option.some.injEq, exists_eq_left']
    simp

/-- a term's value boxed -/
structure BoxT (H H1 : AHeap) (p : Nat) (t : Tm) : Prop where
  ext : Ext H H1
  ge : H.next ≤ p
  lt : p < H1.next
  blk : H1.blk p = some (tc t)
theorem BoxT.mk' (H : AHeap) (t : Tm) : BoxT H (H.alloc (tc t)) H.next t := ⟨Ext.alloc _ _, Nat.le_refl _, Nat.lt_succ_self _, alloc_new _ _⟩
theorem BoxT.mono {H H1 H2 : AHeap} {p : Nat} {t : Tm} (h : BoxT H H1 p t) (hx : Ext H1 H2) : BoxT H H2 p t := ⟨h.ext.trans hx, h.ge, Nat.lt_of_lt_of_le h.lt hx.next, by rw [hx.blk _ h.lt]; exact h.blk⟩
theorem BoxT.c0 {H H1 : AHeap} {p : Nat} {t : Tm} (h : BoxT H H1 p t) : H1.cell p 0 = some (vi t.c) := cell_blk h.blk 0
theorem BoxT.c1 {H H1 : AHeap} {p : Nat} {t : Tm} (h : BoxT H H1 p t) : H1.cell p 1 = some (vi t.x) := cell_blk h.blk 1
theorem BoxT.c2 {H H1 : AHeap} {p : Nat} {t : Tm} (h : BoxT H H1 p t) : H1.cell p 2 = some (vi t.y) := cell_blk h.blk 2
theorem BoxT.c3 {H H1 : AHeap} {p : Nat} {t : Tm} (h : BoxT H H1 p t) : H1.cell p 3 = some (vi t.z) := cell_blk h.blk 3
theorem BoxT.all {H H1 : AHeap} {p : Nat} {t : Tm} (h : BoxT H H1 p t) : loadNV H1 4 (.pointer (some ⟨p, 0, none⟩)) = some (tv t) := load4 h.blk
theorem boxT (H : AHeap) (t : Tm) : boxH H (tv t) = some (.pointer (some ⟨H.next, 0, none⟩), H.alloc (tc t)) := rfl
theorem store4_new {lim : Nat} {H : AHeap} {p q r s : Value} {t : Tm} (hl : lim ≤ H.next) : storeH lim (H.alloc [p, q, r, s]) 4 (.pointer (some ⟨H.next, 0, none⟩)) (tv t) = some (undef, H.alloc (tc t)) := by
  unfold tv
  rw [store4 hl (alloc_new _ _), alloc_put]
  rfl

def okTm (t : Tm) : Bool := ((((decide (-1000 ≤ t.c) && decide (t.c ≤ 1000)) && (decide (0 ≤ t.x) && decide (t.x ≤ 4))) && (decide (0 ≤ t.y) && decide (t.y ≤ 4))) && (decide (0 ≤ t.z) && decide (t.z ≤ 4))) && decide (t.x + t.y + t.z ≤ 4)
theorem okTm_b {t : Tm} (h : okTm t = true) : -1000 ≤ t.c ∧ t.c ≤ 1000 ∧ 0 ≤ t.x ∧ t.x ≤ 4 ∧ 0 ≤ t.y ∧ t.y ≤ 4 ∧ 0 ≤ t.z ∧ t.z ≤ 4 := by
  simp only [okTm, Bool.and_eq_true, decide_eq_true_eq] at h
  omega

theorem poTerm_ok (lim : Nat) (t : Tm) (H : AHeap) : ACalls Try.prog lim n_spec_poTerm [tv t] H fun v H' => v = .bool (okTm t) ∧ Ext H H' := by
  refine is_spec_poTerm.go rfl ?_
  unfold c_spec_poTerm
  refine s_reg ?_
  simp only [o_pure, o_eff, o_nil, POp.ev, Opd.ev, EOp.ev, env0, gu, gv, setD, List.set, Option.some.injEq, exists_eq_left', boxT]
  have hB := BoxT.mk' H t
  generalize H.alloc (tc t) = H1 at hB ⊢
  generalize H.next = p at hB ⊢
  have hx := hB.ext
  refine s_reg ?_
  simp only [o_pure, o_callF, POp.ev, Opd.ev, gv, setD, List.map, Option.some.injEq, exists_eq_left', load1V, fadV, Nat.zero_add, hB.c0]
  refine (l1In_ok _ _ _ _ _).eq ?_
  unfold okTm
  cases h1 : decide (-1000 ≤ t.c) && decide (t.c ≤ 1000)
  · simp only [o_cont, o_pure, o_guard, gk_ft, o_nil, POp.ev, Opd.ev, gv, setD, List.set, Option.some.injEq, exists_eq_left', pickV]
    refine s_ret1 ?_
    simp +decide only [p_fin_ret, resV, resOne, gv, Option.some.injEq, exists_eq_left']
    exact ⟨by simp, hx⟩
  simp only [o_cont, o_pure, o_callF, o_guard, gk_tt, POp.ev, Opd.ev, gv, setD, List.map, Option.some.injEq, exists_eq_left', load1V, fadV, Nat.zero_add, hB.c1]
  refine (l1In_ok _ _ _ _ _).eq ?_
  cases h2 : decide (0 ≤ t.x) && decide (t.x ≤ 4)
  · simp only [o_cont, o_pure, o_guard, gk_ft, o_nil, POp.ev, Opd.ev, gv, setD, List.set, Option.some.injEq, exists_eq_left', pickV]
    refine s_ret1 ?_
    simp +decide only [p_fin_ret, resV, resOne, gv, Option.some.injEq, exists_eq_left']
    exact ⟨by simp, hx⟩
  simp only [o_cont, o_pure, o_callF, o_guard, gk_tt, POp.ev, Opd.ev, gv, setD, List.map, Option.some.injEq, exists_eq_left', pickV, load1V, fadV, Nat.zero_add, hB.c2]
  refine (l1In_ok _ _ _ _ _).eq ?_
  cases h3 : decide (0 ≤ t.y) && decide (t.y ≤ 4)
  · simp only [o_cont, o_pure, o_guard, gk_ft, o_nil, POp.ev, Opd.ev, gv, setD, List.set, Option.some.injEq, exists_eq_left', pickV]
    refine s_ret1 ?_
    simp +decide only [p_fin_ret, resV, resOne, gv, Option.some.injEq, exists_eq_left']
    exact ⟨by simp, hx⟩
  simp only [o_cont, o_pure, o_callF, o_guard, gk_tt, POp.ev, Opd.ev, gv, setD, List.map, Option.some.injEq, exists_eq_left', pickV, load1V, fadV, Nat.zero_add, hB.c3]
  refine (l1In_ok _ _ _ _ _).eq ?_
  cases h4 : decide (0 ≤ t.z) && decide (t.z ≤ 4)
  · simp only [o_cont, o_pure, o_guard, gk_ft, o_nil, POp.ev, Opd.ev, gv, setD, List.set, Option.some.injEq, exists_eq_left', pickV]
    refine s_ret1 ?_
    simp +decide only [p_fin_ret, resV, resOne, gv, Option.some.injEq, exists_eq_left']
    exact ⟨by simp, hx⟩
  simp only [Bool.and_eq_true, decide_eq_true_eq] at h2 h3 h4
  have w1 : IntKind.i64.wrap (t.x + t.y) = t.x + t.y := by rw [IntKind.wrap_i64]; omega
  have w2 : IntKind.i64.wrap (t.x + t.y + t.z) = t.x + t.y + t.z := by rw [IntKind.wrap_i64]; omega
  simp only [o_cont, o_pure, o_guard, gk_tt, o_nil, POp.ev, Opd.ev, gv, setD, List.set, Option.some.injEq, exists_eq_left', pickV, binV, load1V, fadV, ne_eq, not_true_eq_false, if_false, Nat.zero_add, hB.c1, hB.c2, hB.c3, w1, w2]
  refine s_ret1 ?_
  simp +decide only [p_fin_ret, resV, resOne, gv, Option.some.injEq, exists_eq_left']
  exact ⟨by simp, hx⟩

def sgn3 (n : Int) : Int := if n > 0 then 1 else if n < 0 then -1 else 0
theorem l1Sign_ok (lim : Nat) (n : Int) (H : AHeap) : ACalls Try.prog lim n_spec_l1Sign [.int .i64 n] H fun v H' => v = .int .i64 (sgn3 n) ∧ H' = H := by
  refine is_spec_l1Sign.go rfl ?_
  unfold c_spec_l1Sign sgn3
  refine s_reg ?_
  simp only [o_pure, o_nil, POp.ev, Opd.ev, env0, gu, setD, List.set, Option.some.injEq, exists_eq_left']
  refine s_block ?_
  refine s_test1 ?_
  simp only [o_pure, o_nil, POp.ev, Opd.ev, gv, setD, Option.some.injEq, exists_eq_left', binV, ne_eq, not_true_eq_false, if_false]
  refine Test.split (fun h => ?_) (fun h => ?_)
  · refine s_reg ?_
    simp only [o_pure, o_nil, POp.ev, Opd.ev, setD, List.set, Option.some.injEq, exists_eq_left']
    refine s_ret1 ?_
    simp +decide only [p_seq_ret, p_block_ret, p_fin_ret, resV, resOne, gv, Option.some.injEq, exists_eq_left']
    rw [if_pos (by simpa using h)]
    trivial
  · refine s_test1 ?_
    simp only [o_pure, o_nil, POp.ev, Opd.ev, gv, setD, Option.some.injEq, exists_eq_left', binV, ne_eq, not_true_eq_false, if_false]
    refine Test.split (fun h2 => ?_) (fun h2 => ?_)
    · refine s_reg ?_
      simp only [o_pure, o_nil, POp.ev, Opd.ev, setD, List.set, Option.some.injEq, exists_eq_left']
      refine s_ret1 ?_
      simp +decide only [p_seq_ret, p_block_ret, p_fin_ret, resV, resOne, gv, Option.some.injEq, exists_eq_left']
      rw [if_neg (by simpa using h), if_pos (by simpa using h2)]
      trivial
    · refine s_skip1 ?_
      simp +decide only [p_seq_normal, p_block_normal]
      refine s_reg ?_
      simp only [o_pure, o_nil, POp.ev, Opd.ev, setD, List.set, Option.some.injEq, exists_eq_left']
      refine s_ret1 ?_
      simp +decide only [p_fin_ret, resV, resOne, gv, Option.some.injEq, exists_eq_left']
      rw [if_neg (by simpa using h), if_neg (by simpa using h2)]
      trivial

def ordT (a b : Tm) : Int := if a.x ≠ b.x then sgn3 (a.x - b.x) else if a.y ≠ b.y then sgn3 (a.y - b.y) else sgn3 (a.z - b.z)
theorem poOrder_ok (lim : Nat) (a b : Tm) (H : AHeap) (ha : okTm a = true) (hb : okTm b = true) : ACalls Try.prog lim n_spec_poOrder [tv a, tv b] H fun v H' => v = .int .i64 (ordT a b) ∧ Ext H H' := by
  have b1 := okTm_b ha
  have b2 := okTm_b hb
  refine is_spec_poOrder.go rfl ?_
  unfold c_spec_poOrder ordT
  refine s_reg ?_
  simp only [o_pure, o_eff, o_nil, POp.ev, Opd.ev, EOp.ev, env0, gu, gv, setD, List.set, Option.some.injEq, exists_eq_left', ne_eq, boxT]
  have hA := BoxT.mk' H a
  have hB := BoxT.mk' (H.alloc (tc a)) b
  replace hA := hA.mono hB.ext
  generalize (H.alloc (tc a)).alloc (tc b) = H1 at hA hB ⊢
  generalize (H.alloc (tc a)).next = q at hB ⊢
  generalize H.next = p at hA ⊢
  have hx := hA.ext
  have w1 : IntKind.i64.wrap (a.x - b.x) = a.x - b.x := by rw [IntKind.wrap_i64]; omega
  have w2 : IntKind.i64.wrap (a.y - b.y) = a.y - b.y := by rw [IntKind.wrap_i64]; omega
  have w3 : IntKind.i64.wrap (a.z - b.z) = a.z - b.z := by rw [IntKind.wrap_i64]; omega
  refine s_block ?_
  refine s_test1 ?_
  simp only [o_pure, o_nil, POp.ev, Opd.ev, gv, setD, Option.some.injEq, exists_eq_left', binV, load1V, fadV, ne_eq, not_true_eq_false, if_false, Nat.zero_add, hA.c1, hB.c1]
  refine Test.split (fun h => ?_) (fun h => ?_)
  · refine s_reg ?_
    simp only [o_pure, o_callF, POp.ev, Opd.ev, gv, setD, List.map, Option.some.injEq, exists_eq_left', binV, load1V, fadV, ne_eq, not_true_eq_false, if_false, Nat.zero_add, hA.c1, hB.c1, w1]
    refine (l1Sign_ok _ _ _).eq ?_
    simp only [o_cont, o_pure, o_nil, POp.ev, Opd.ev, gv, setD, List.set, Option.some.injEq, exists_eq_left']
    refine s_ret1 ?_
    simp +decide only [p_seq_ret, p_block_ret, p_fin_ret, resV, resOne, gv, Option.some.injEq, exists_eq_left']
    rw [if_pos (by simpa using h)]
    exact ⟨rfl, hx⟩
  · refine s_test1 ?_
    simp only [o_pure, o_nil, POp.ev, Opd.ev, gv, setD, Option.some.injEq, exists_eq_left', binV, load1V, fadV, ne_eq, not_true_eq_false, if_false, Nat.zero_add, hA.c2, hB.c2]
    refine Test.split (fun h2 => ?_) (fun h2 => ?_)
    · refine s_reg ?_
      simp only [o_pure, o_callF, POp.ev, Opd.ev, gv, setD, List.map, Option.some.injEq, exists_eq_left', binV, load1V, fadV, ne_eq, not_true_eq_false, if_false, Nat.zero_add, hA.c2, hB.c2, w2]
      refine (l1Sign_ok _ _ _).eq ?_
      simp only [o_cont, o_pure, o_nil, POp.ev, Opd.ev, gv, setD, List.set, Option.some.injEq, exists_eq_left']
      refine s_ret1 ?_
      simp +decide only [p_seq_ret, p_block_ret, p_fin_ret, resV, resOne, gv, Option.some.injEq, exists_eq_left']
      rw [if_neg (by simpa using h), if_pos (by simpa using h2)]
      exact ⟨rfl, hx⟩
    · refine s_skip1 ?_
      simp +decide only [p_seq_normal, p_block_normal]
      refine s_reg ?_
      simp only [o_pure, o_callF, POp.ev, Opd.ev, gv, setD, List.map, Option.some.injEq, exists_eq_left', binV, load1V, fadV, ne_eq, not_true_eq_false, if_false, Nat.zero_add, hA.c3, hB.c3, w3]
      refine (l1Sign_ok _ _ _).eq ?_
      simp only [o_cont, o_pure, o_nil, POp.ev, Opd.ev, gv, setD, List.set, Option.some.injEq, exists_eq_left']
      refine s_ret1 ?_
      simp +decide only [p_fin_ret, resV, resOne, gv, Option.some.injEq, exists_eq_left']
      rw [if_neg (by simpa using h), if_neg (by simpa using h2)]
      exact ⟨rfl, hx⟩

/-- terms in order, each valid -/
def goodF : Option Tm → List Tm → Bool
  | _, [] => true
  | u, t :: l => okTm t && !decide (t.c = 0) && (match u with | none => true | some u => !decide (ordT u t ≥ 0)) && goodF (some t) l
def goodP (p : List Tm) : Bool := goodF none p && decide ((p.length : Int) ≤ 20)
def prevT (p : List Tm) : Nat → Option Tm
  | 0 => none
  | i + 1 => p[i]?
/-- what is asked of the term at i -/
def stepT (p : List Tm) (i : Nat) (t : Tm) : Bool := okTm t && !decide (t.c = 0) && (match prevT p i with | none => true | some u => !decide (ordT u t ≥ 0))
theorem goodF_step {p : List Tm} {i : Nat} (h : i < p.length) : goodF (prevT p i) (p.drop i) = (stepT p i p[i] && goodF (prevT p (i + 1)) (p.drop (i + 1))) := by
  rw [List.drop_eq_getElem_cons h]
  simp only [goodF, stepT, prevT, List.getElem?_eq_getElem h]

theorem poGood_ok (lim : Nat) (s : Value) (p : List Tm) (H : AHeap) (hl : lim ≤ H.next) (hs : SlT H s p) (hn : p.length ≤ 1000000000) : ACalls Try.prog lim n_spec_poGood [s] H fun v H' => v = .bool (goodP p) ∧ Ext H H' := by
  refine is_spec_poGood.go rfl ?_
  unfold c_spec_poGood
  refine s_reg ?_
  simp only [o_pure, o_nil, POp.ev, Opd.ev, env0, gu, setD, List.set, Option.some.injEq, exists_eq_left']
  refine s_assoc (s_reg ?_)
  simp only [o_pure, o_nil, POp.ev, Opd.ev, gv, setD, List.set, Option.some.injEq, exists_eq_left', hs.lenV]
  refine s_block ?_
  refine s_loop1 (fun k e' H' => ∃ (i : Nat) (x y : Value), i + k = p.length ∧ goodF none p = goodF (prevT p i) (p.drop i) ∧ (∀ u, prevT p i = some u → okTm u = true) ∧ Ext H H' ∧ e' = [s, .bool false, x, y, s, .int .i64 p.length, .int .i64 i]) p.length ⟨0, _, _, by omega, rfl, (by intro u h; cases h), Ext.refl _, rfl⟩ ?_
  rintro k e' H' ⟨i, x, y, hik, hall, hprev, hx, rfl⟩
  have hnx := hx.next
  refine s_test ?_
  simp only [o_pure, o_nil, POp.ev, Opd.ev, gv, setD, Option.some.injEq, exists_eq_left', binV, ne_eq, not_true_eq_false, if_false]
  refine Test.split (fun hlt => ?_) (fun hlt => ?_)
  · have hlt' : i < p.length := by simpa using hlt
    obtain ⟨b1, o1, h1, hat⟩ := (hs.ext hx).at hlt'
    rw [goodF_step hlt'] at hall
    refine s_skip1 ?_
    simp +decide only [p_seq_normal]
    refine s_block ?_
    refine s_reg ?_
    simp only [o_pure, o_eff, o_nil, POp.ev, Opd.ev, EOp.ev, gv, setD, List.set, Option.some.injEq, exists_eq_left', h1, hat.all, store4_new (lim := lim) (H := H') (by omega)]
    have hB := BoxT.mk' H' p[i]
    generalize H'.alloc (tc p[i]) = H1 at hB ⊢
    generalize H'.next = q at hB hnx ⊢
    have hx1 := hx.trans hB.ext
    refine s_test1_I (!stepT p i p[i]) (Ext H1) ?_ (fun H2 hx2 hg => ?_) (fun H2 hx2 hg => ?_)
    · simp only [o_pure, o_callF, POp.ev, Opd.ev, gv, setD, List.map, Option.some.injEq, exists_eq_left', hB.all]
      refine (poTerm_ok _ _ _).mono ?_
      rintro _ H2 ⟨rfl, hx2⟩
      have hB2 := hB.mono hx2
      unfold stepT
      cases h5 : okTm p[i]
      · simp only [o_cont, o_pure, o_guard, gk_tf, gk_u, o_nil, POp.ev, Opd.ev, gv, setD, Option.some.injEq, exists_eq_left', pickV, unV, Bool.not_false]
        simp [hx2]
      · cases h6 : decide (p[i].c = 0)
        · have h6' : (p[i].c == 0) = false := by simpa using h6
          cases i with
          | zero =>
            have d0 : decide (((0 : Nat) : Int) > 0) = false := by decide
            simp only [o_cont, o_pure, o_guard, gk_ff, gk_ft, o_nil, POp.ev, Opd.ev, gv, setD, Option.some.injEq, exists_eq_left', pickV, binV, load1V, unV, fadV, ne_eq, not_true_eq_false, if_false, Bool.not_true, Bool.not_false, Nat.zero_add, hB2.c0, h6', d0]
            simp [prevT, hx2]
          | succ i =>
            have d0 : decide (((i + 1 : Nat) : Int) > 0) = true := decide_eq_true (by omega)
            have w1 : IntKind.i64.wrap (((i + 1 : Nat) : Int) - 1) = (i : Int) := by rw [IntKind.wrap_i64]; omega
            have hi : i < p.length := by omega
            obtain ⟨b2, o2, k1, hat2⟩ := ((hs.ext hx1).ext hx2).at hi
            have hpe : prevT p (i + 1) = some p[i] := List.getElem?_eq_getElem hi
            simp only [o_cont, o_pure, o_callF, o_guard, gk_tt, gk_ff, POp.ev, Opd.ev, gv, setD, List.map, Option.some.injEq, exists_eq_left', pickV, binV, load1V, unV, fadV, ne_eq, not_true_eq_false, if_false, Bool.not_true, Bool.not_false, Nat.zero_add, hB2.c0, h6', d0, w1, k1, hat2.all, hB2.all]
            refine (poOrder_ok _ _ _ _ (hprev _ hpe) h5).mono ?_
            rintro _ H3 ⟨rfl, hx3⟩
            simp only [o_cont, o_pure, o_guard, gk_tt, gk_ff, o_nil, POp.ev, Opd.ev, gv, setD, Option.some.injEq, exists_eq_left', pickV, binV, ne_eq, not_true_eq_false, if_false]
            simp [hpe, hx2.trans hx3]
        · have h6' : (p[i].c == 0) = true := by simpa using h6
          simp only [o_cont, o_pure, o_guard, gk_ff, gk_tf, gk_u, o_nil, POp.ev, Opd.ev, gv, setD, Option.some.injEq, exists_eq_left', pickV, binV, load1V, unV, fadV, ne_eq, not_true_eq_false, if_false, Bool.not_true, Nat.zero_add, hB2.c0, h6']
          simp [hx2]
    · refine s_reg ?_
      simp only [o_pure, o_nil, POp.ev, Opd.ev, setD, List.set, Option.some.injEq, exists_eq_left']
      refine s_ret1 ?_
      simp +decide only [p_seq_ret, p_block_ret, p_fin_ret, resV, resOne, gv, Option.some.injEq, exists_eq_left']
      simp only [Bool.not_eq_true'] at hg
      refine ⟨?_, hx1.trans hx2⟩
      simp [goodP, hall, hg]
    · refine s_skip1 ?_
      simp +decide only [p_seq_normal, p_block_normal]
      refine s_reg1 ?_
      simp only [o_pure, o_nil, POp.ev, Opd.ev, gv, setD, List.set, Option.some.injEq, exists_eq_left', binV, ne_eq, not_true_eq_false, if_false, add1 (i := i) (by omega)]
      simp +decide only [p_seq_normal]
      simp only [Bool.not_eq_false'] at hg
      rw [hg, Bool.true_and] at hall
      refine Round.mk (k - 1) (by omega) ⟨i + 1, _, _, by omega, hall, ?_, hx1.trans hx2, rfl⟩
      intro u hu
      simp only [prevT, List.getElem?_eq_getElem hlt', Option.some.injEq] at hu
      subst hu
      simp only [stepT, Bool.and_eq_true] at hg
      exact hg.1.1
  · have hge : i = p.length := by simp at hlt; omega
    subst hge
    refine s_exit1 ?_
    simp +decide only [p_seq_normal, p_seq_exit, p_block_exit, reduceIte]
    refine s_reg ?_
    simp only [o_pure, o_nil, POp.ev, Opd.ev, gv, setD, List.set, Option.some.injEq, exists_eq_left', binV, ne_eq, not_true_eq_false, if_false, hs.lenV]
    refine s_ret1 ?_
    simp +decide only [p_fin_ret, resV, resOne, gv, Option.some.injEq, exists_eq_left']
    refine ⟨?_, hx⟩
    rw [List.drop_length] at hall
    simp [goodP, hall, goodF]

def pw (t : Tm) (k : Int) : Int := if k = 0 then t.x else if k = 1 then t.y else t.z
theorem l1Most_ok (lim : Nat) (a b : Int) (H : AHeap) : ACalls Try.prog lim n_spec_l1Most [.int .i64 a, .int .i64 b] H fun v H' => v = .int .i64 (if a > b then a else b) ∧ H' = H := by
  refine is_spec_l1Most.go rfl ?_
  unfold c_spec_l1Most
  refine s_reg ?_
  simp only [o_pure, o_nil, POp.ev, Opd.ev, env0, gu, setD, List.set, Option.some.injEq, exists_eq_left']
  refine s_test ?_
  simp only [o_pure, o_nil, POp.ev, Opd.ev, gv, setD, Option.some.injEq, exists_eq_left', binV, ne_eq, not_true_eq_false, if_false]
  refine Test.split (fun h => ?_) (fun h => ?_)
  · refine s_reg ?_
    simp only [o_pure, o_nil, POp.ev, Opd.ev, gv, setD, List.set, Option.some.injEq, exists_eq_left']
    refine s_ret1 ?_
    simp +decide only [p_seq_ret, p_fin_ret, resV, resOne, gv, Option.some.injEq, exists_eq_left']
    rw [if_pos (by simpa using h)]
    trivial
  · refine s_skip1 ?_
    simp +decide only [p_seq_normal]
    refine s_reg ?_
    simp only [o_pure, o_nil, POp.ev, Opd.ev, gv, setD, List.set, Option.some.injEq, exists_eq_left']
    refine s_ret1 ?_
    simp +decide only [p_fin_ret, resV, resOne, gv, Option.some.injEq, exists_eq_left']
    rw [if_neg (by simpa using h)]
    trivial

end Go.Proofs.Ytaimceodhhgnnaa

/- Systems of polynomials, part 6 of the walk: systems that grow, and the specification's swapped system; no condition beyond stated lengths. -/
namespace Go.Ab
theorem awp.mono {P : Program} {lim : Nat} : ∀ (c : ACode) {Q Q' : Post} {e : List Value} {H : AHeap}, (∀ ex e H, Q ex e H → Q' ex e H) → awp P lim c Q e H → awp P lim c Q' e H
  | .skip, _, _, _, _, hq, h => hq _ _ _ h
  | .reg ops, _, _, _, _, hq, h => awpOps.mono (fun _ _ _ h => hq _ _ _ h) h
  | .regT T, _, _, _, _, hq, h => awpT.mono (fun _ _ _ h => hq _ _ _ h) h
  | .test ops c a b, _, _, _, _, hq, h => by
    refine awpOps.mono ?_ h
    rintro e t H ⟨g, h1, h2⟩
    refine ⟨g, h1, ?_⟩
    cases g with
    | true => exact awp.mono a hq h2
    | false => exact awp.mono b hq h2
  | .seq a b, _, _, _, _, hq, h => by
    refine awp.mono a ?_ h
    intro ex e H h
    cases ex <;> first | exact awp.mono b hq h | exact hq _ _ _ h
  | .cond c a b, _, _, _, _, hq, ⟨g, h1, h2⟩ => by
    refine ⟨g, h1, ?_⟩
    cases g with
    | true => exact awp.mono a hq h2
    | false => exact awp.mono b hq h2
  | .block id c, _, _, _, _, hq, h => by
    refine awp.mono c ?_ h
    intro ex e H h
    cases ex with
    | exit i =>
      simp only [Post.block] at h ⊢
      split <;> rename_i hi
      · rw [if_pos hi] at h; exact hq _ _ _ h
      · rw [if_neg hi] at h; exact hq _ _ _ h
    | _ => exact hq _ _ _ h
  | .loop c, _, _, _, _, hq, ⟨I, k, h1, h2⟩ => by
    refine ⟨I, k, h1, fun k e H hI => awp.mono c ?_ (h2 k e H hI)⟩
    intro ex e H h
    cases ex <;> first | exact h | exact hq _ _ _ h
  | .exit id, _, _, _, _, hq, h => hq _ _ _ h
  | .ret, _, _, _, _, hq, h => hq _ _ _ h
  | .fail, _, _, _, _, _, h => h.elim
/-- what stands behind a piece is told first -/
theorem s_cut1 {P : Program} {lim : Nat} {K : List Value → AHeap → Prop} {Q : Post} {e : List Value} {H : AHeap} {a : ACode} (I : List Value → AHeap → Prop) (h : awp P lim a (Post.seq I (fun _ _ _ => False)) e H) (h1 : ∀ e' H', I e' H' → K e' H') : awp P lim a (Post.seq K Q) e H := by
  refine awp.mono a ?_ h
  intro ex e H h
  cases ex <;> first | exact h1 _ _ h | exact h.elim
end Go.Ab
namespace Go.Proofs.Ytaimceodhhgnnaa
open Go.Ab
set_option linter.unusedSimpArgs false
set_option linter.unusedVariables false

theorem bslice0 (H : AHeap) : bsliceH H 0 [] [] = some (.slice (some ⟨H.next, 0, some 0⟩) 0 0, H.alloc []) := rfl
/-- terms behind an empty list of one's own -/
theorem own_terms {lim : Nat} {H : AHeap} {s : Value} {p : List Tm} (hl : lim ≤ H.next) (hs : SlT H s p) (hn : p.length ≤ 1000000000) :
    ∃ v' H' b, appendH lim (H.alloc []) 4 32 (.slice (some ⟨H.next, 0, some 0⟩) 0 0) s = some (v', H') ∧ VecT H' b v' p ∧ H.next ≤ b ∧ b < H'.next ∧ Ext H H' := by
  have h0 : Vec (H.alloc []) H.next (.slice (some ⟨H.next, 0, some 0⟩) 0 0) 0 4 [] := Vec.lit rfl
  obtain ⟨v', H', b', h1, h2, h3, h4, h5⟩ := h0.append (lim := lim) hl (hs.ext (Ext.alloc H [])) (by decide) (bytes := 32) (by omega)
  refine ⟨v', H', b', h1, by simpa [VecT] using h2, by rcases h3 with rfl | ⟨rfl, _⟩ <;> simp [alloc_next], ?_, Chg.ext (Ext.alloc H []) h4 (Nat.le_refl _)⟩
  rcases h3 with rfl | ⟨rfl, h6⟩
  · exact Nat.lt_of_lt_of_le (Nat.lt_succ_self _) h4.next
  · exact h6
theorem clone_ok (lim : Nat) (s : Value) (p : List Tm) (H : AHeap) (hl : lim ≤ H.next) (hs : SlT H s p) (hn : p.length ≤ 1000000000) :
    ACalls Try.prog lim n_slices_Clone_S_impl_Term_impl_Term [s] H fun v H' => ∃ b, H.next ≤ b ∧ b ≤ H'.next ∧ VecT H' b v p ∧ Ext H H' := by
  refine is_slices_Clone_S_impl_Term_impl_Term.go rfl ?_
  unfold c_slices_Clone_S_impl_Term_impl_Term
  refine s_reg ?_
  simp only [o_pure, o_nil, POp.ev, Opd.ev, env0, gu, setD, List.set, Option.some.injEq, exists_eq_left']
  refine s_test ?_
  have hs2 := hs
  obtain ⟨_, a, cap, rfl, hc, hc0, _⟩ := hs2
  cases a with
  | none =>
    have := hc0 rfl
    have hl0 : p = [] := List.length_eq_zero_iff.1 (by omega)
    subst hl0
    simp only [o_pure, o_nil, POp.ev, Opd.ev, gv, setD, Option.map_some, Option.some.injEq, exists_eq_left', isNilV, if_false, Bool.false_eq_true]
    refine Test.true_ (s_reg ?_)
    simp only [o_pure, o_nil, POp.ev, Opd.ev, setD, List.set, Option.some.injEq, exists_eq_left']
    refine s_ret1 ?_
    simp +decide only [p_seq_ret, p_fin_ret, resV, resOne, gv, Option.some.injEq, exists_eq_left']
    exact ⟨H.next, Nat.le_refl _, Nat.le_refl _, Vec.nil _ _ _, Ext.refl _⟩
  | some ad =>
    obtain ⟨v', H', b, h1, h2, h3, h4, h5⟩ := own_terms hl hs hn
    simp only [o_pure, o_nil, POp.ev, Opd.ev, gv, setD, Option.map_some, Option.some.injEq, exists_eq_left', isNilV, if_false, Bool.false_eq_true]
    refine Test.false_ (s_skip1 ?_)
    simp +decide only [p_seq_normal]
    refine s_reg ?_
    simp only [o_pure, o_eff, o_nil, POp.ev, Opd.ev, EOp.ev, gv, setD, List.set, List.map, Option.some.injEq, exists_eq_left', bslice0, h1]
    refine s_ret1 ?_
    simp +decide only [p_fin_ret, resV, resOne, gv, Option.some.injEq, exists_eq_left']
    exact ⟨b, h3, by omega, h2, h5⟩

theorem push1 {lim : Nat} {H : AHeap} {b n bytes : Nat} {v : Value} {cells : List Value} (h : Vec H b v n 1 cells) (x : Value) (hl : lim ≤ b) (hn : (n + 1) * bytes ≤ 140737488355328) :
    ∃ v' H' b', appendH lim (H.alloc [x]) 1 bytes v (.slice (some ⟨H.next, 0, some 0⟩) 1 1) = some (v', H') ∧ Vec H' b' v' (n + 1) 1 (cells ++ [x]) ∧ (b' = b ∨ H.next < b') ∧ b' < H'.next ∧ Chg b H H' ∧ H.next < H'.next := by
  have hx : Vec (H.alloc [x]) H.next (.slice (some ⟨H.next, 0, some 0⟩) 1 1) 1 1 [x] := Vec.lit rfl
  obtain ⟨v', H', b', h1, h2, h3, h4, h5⟩ := (h.ext (Ext.alloc H [x])).append (lim := lim) hl hx.sl (by decide) (bytes := bytes) hn
  refine ⟨v', H', b', h1, h2, ?_, (h2.blk (by omega)).elim fun _ h => h.2, (Chg.of_ext (Ext.alloc H [x])).trans h4, Nat.lt_of_lt_of_le (Nat.lt_succ_self _) h4.next⟩
  rcases h3 with rfl | ⟨rfl, _⟩
  · exact .inl rfl
  · exact .inr (Nat.lt_succ_self _)

/-- a system that grows -/
structure GrowX (H : AHeap) (lo b : Nat) (vs : List Value) (bs : List Nat) (v : Value) (ss : List (List Tm)) : Prop where
  vec : Vec H b v ss.length 1 vs
  len : bs.length = ss.length
  nil : ss = [] → v = .slice none 0 0
  low : lo ≤ b
  hi : ss ≠ [] → b < H.next
  nodup : bs.Nodup
  nin : b ∉ bs
  rngs : ∀ c ∈ bs, lo ≤ c ∧ c < H.next
  el : ∀ (i : Nat) (p : List Tm), ss[i]? = some p → ∃ s c, vs[i]? = some s ∧ bs[i]? = some c ∧ VecT H c s p
theorem GrowX.own {H : AHeap} {lo b : Nat} {vs : List Value} {bs : List Nat} {v : Value} {ss : List (List Tm)} (h : GrowX H lo b vs bs v ss) : OwnSS H lo H.next v ss := by
  by_cases hs : ss = []
  · exact .inl ⟨h.nil hs, hs⟩
  · exact .inr ⟨b, vs, bs, h.vec, h.len, ⟨h.low, h.hi hs⟩, h.nodup, h.nin, h.rngs, h.el⟩
theorem GrowX.push {lim : Nat} {H0 H H2 : AHeap} {lo b c : Nat} {vs : List Value} {bs : List Nat} {v s : Value} {ss : List (List Tm)} {p : List Tm} (h : GrowX H lo b vs bs v ss) (hlim : lim ≤ lo) (hx0 : Ext H0 H) (hlo : H0.next ≤ lo) (hloH : lo ≤ H.next) (hx : Ext H H2)
    (hc1 : H.next ≤ c) (hc2 : c ≤ H2.next) (hp : VecT H2 c s p) (hn : ss.length ≤ 1000000) :
    ∃ v' H3 b', appendH lim (H2.alloc [s]) 1 24 v (.slice (some ⟨H2.next, 0, some 0⟩) 1 1) = some (v', H3) ∧ GrowX H3 lo b' (vs ++ [s]) (bs ++ [c]) v' (ss ++ [p]) ∧ Ext H0 H3 := by
  obtain ⟨h1, h2, hnil, h3, h4, h5, h6, h7, h8⟩ := h
  have hnx := hx.next
  have hclen := h1.clen
  -- the block that is appended to
  obtain ⟨b0, hv0, hb0, hbc, hbn, hbl⟩ : ∃ b0, Vec H2 b0 v ss.length 1 vs ∧ lo ≤ b0 ∧ b0 ≠ c ∧ b0 ∉ bs ∧ (b0 < H.next ∨ H2.next < b0) := by
    by_cases hs : ss = []
    · subst hs
      have hv := hnil rfl
      subst hv
      have hvs : vs = [] := List.length_eq_zero_iff.1 (by simpa using hclen)
      subst hvs
      refine ⟨H2.next + 1, Vec.nil _ _ _, by omega, by omega, fun hm => ?_, .inr (by omega)⟩
      have := h7 _ hm
      omega
    · have := h4 hs
      exact ⟨b, h1.ext hx, h3, by omega, h6, .inl this⟩
  obtain ⟨v', H3, b', g1, g2, g3, g4, g5, g6⟩ := push1 hv0 (lim := lim) s (by omega) (bytes := 24) (by omega)
  have hbl' : b' = b0 ∨ H2.next < b' := g3
  refine ⟨v', H3, b', g1, ⟨by rw [List.length_append]; exact g2, by simp [h2], by simp, by omega, fun _ => g4, ?_, ?_, ?_, ?_⟩, Chg.ext (hx0.trans hx) g5 (by omega)⟩
  · refine List.nodup_append.2 ⟨h5, by simp, ?_⟩
    intro x hx' y hy
    simp at hy
    subst hy
    have := h7 x hx'
    omega
  · intro hm
    rcases List.mem_append.1 hm with hm | hm
    · rcases hbl' with rfl | hbl'
      · exact hbn hm
      · have := h7 _ hm
        omega
    · simp at hm
      omega
  · intro c' hc'
    rcases List.mem_append.1 hc' with hm | hm
    · have := h7 _ hm
      omega
    · simp at hm
      omega
  · intro j q hq
    by_cases hj : j < ss.length
    · rw [List.getElem?_append_left hj] at hq
      obtain ⟨s', c', q1, q2, q3⟩ := h8 j q hq
      have hm := List.mem_of_getElem? q2
      refine ⟨s', c', by rw [List.getElem?_append_left (by omega)]; exact q1, by rw [List.getElem?_append_left (by omega)]; exact q2, VecT.chg (VecT.ext q3 hx) g5 (fun e => hbn (e ▸ hm))⟩
    · rw [List.getElem?_append_right (by omega)] at hq
      have hji : j = ss.length := by
        have := (List.getElem?_eq_some_iff.1 hq).1
        simp at this; omega
      subst hji
      simp at hq
      subst hq
      exact ⟨s, c, by rw [List.getElem?_append_right (by omega)]; simp [hclen], by rw [List.getElem?_append_right (by omega)]; simp [h2], VecT.chg hp g5 (fun e => hbc e.symm)⟩

end Go.Proofs.Ytaimceodhhgnnaa

/- Systems of polynomials, part 7 of the walk: the implementation's tests, copies and its swapped system; no condition beyond stated lengths. -/
namespace Go.Proofs.Ytaimceodhhgnnaa
open Go.Ab
set_option linter.unusedSimpArgs false
set_option linter.unusedVariables false

theorem inside_ok (lim : Nat) (a b c : Int) (H : AHeap) : ACalls Try.prog lim n_impl_inside [.int .i64 a, .int .i64 b, .int .i64 c] H fun v H' => v = .bool (decide (b ≤ a) && decide (a ≤ c)) ∧ H' = H := by
  refine is_impl_inside.go rfl ?_
  unfold c_impl_inside
  refine s_reg ?_
  simp only [o_pure, o_nil, POp.ev, Opd.ev, env0, gu, setD, List.set, Option.some.injEq, exists_eq_left']
  refine s_reg ?_
  have e1 : (a ≥ b) = (b ≤ a) := rfl
  cases h1 : decide (b ≤ a)
  · simp only [o_pure, o_guard, gk_ft, o_nil, POp.ev, Opd.ev, gv, setD, List.set, Option.some.injEq, exists_eq_left', pickV, binV, ne_eq, not_true_eq_false, if_false, e1, h1]
    refine s_ret1 ?_
    simp +decide only [p_fin_ret, resV, resOne, gv, Option.some.injEq, exists_eq_left']
    simp
  · simp only [o_pure, o_guard, gk_tt, o_nil, POp.ev, Opd.ev, gv, setD, List.set, Option.some.injEq, exists_eq_left', pickV, binV, ne_eq, not_true_eq_false, if_false, e1, h1]
    refine s_ret1 ?_
    simp +decide only [p_fin_ret, resV, resOne, gv, Option.some.injEq, exists_eq_left']
    simp

theorem degree_ok (lim : Nat) (t : Tm) (H : AHeap) (h1 : 0 ≤ t.x ∧ t.x ≤ 4) (h2 : 0 ≤ t.y ∧ t.y ≤ 4) (h3 : 0 ≤ t.z ∧ t.z ≤ 4) : ACalls Try.prog lim n_impl_Term_degree [tv t] H fun v H' => v = .int .i64 (t.x + t.y + t.z) ∧ Ext H H' := by
  refine is_impl_Term_degree.go rfl ?_
  unfold c_impl_Term_degree
  refine s_reg ?_
  simp only [o_pure, o_eff, o_nil, POp.ev, Opd.ev, EOp.ev, env0, gu, gv, setD, List.set, Option.some.injEq, exists_eq_left', boxT]
  have hB := BoxT.mk' H t
  generalize H.alloc (tc t) = H1 at hB ⊢
  generalize H.next = p at hB ⊢
  have hx := hB.ext
  have w1 : IntKind.i64.wrap (t.x + t.y) = t.x + t.y := by rw [IntKind.wrap_i64]; omega
  have w2 : IntKind.i64.wrap (t.x + t.y + t.z) = t.x + t.y + t.z := by rw [IntKind.wrap_i64]; omega
  refine s_reg ?_
  simp only [o_pure, o_nil, POp.ev, Opd.ev, gv, setD, List.set, Option.some.injEq, exists_eq_left', binV, load1V, fadV, ne_eq, not_true_eq_false, if_false, Nat.zero_add, hB.c1, hB.c2, hB.c3, w1, w2]
  refine s_ret1 ?_
  simp +decide only [p_fin_ret, resV, resOne, gv, Option.some.injEq, exists_eq_left']
  exact ⟨trivial, hx⟩

def degB (t : Tm) : Bool := (((decide (0 ≤ t.x) && decide (t.x ≤ 4)) && (decide (0 ≤ t.y) && decide (t.y ≤ 4))) && (decide (0 ≤ t.z) && decide (t.z ≤ 4))) && decide (t.x + t.y + t.z ≤ 4)
theorem hasDegree_ok (lim : Nat) (t : Tm) (H : AHeap) : ACalls Try.prog lim n_impl_hasDegree [tv t] H fun v H' => v = .bool (degB t) ∧ Ext H H' := by
  refine is_impl_hasDegree.go rfl ?_
  unfold c_impl_hasDegree
  refine s_reg ?_
  simp only [o_pure, o_eff, o_nil, POp.ev, Opd.ev, EOp.ev, env0, gu, gv, setD, List.set, Option.some.injEq, exists_eq_left', boxT]
  have hB := BoxT.mk' H t
  generalize H.alloc (tc t) = H1 at hB ⊢
  generalize H.next = p at hB ⊢
  have hx := hB.ext
  refine s_reg ?_
  simp only [o_pure, o_callF, POp.ev, Opd.ev, gv, setD, List.map, Option.some.injEq, exists_eq_left', load1V, fadV, Nat.zero_add, hB.c1]
  refine (inside_ok _ _ _ _ _).eq ?_
  unfold degB
  cases h2 : decide (0 ≤ t.x) && decide (t.x ≤ 4)
  · simp only [o_cont, o_pure, o_guard, gk_ft, o_nil, POp.ev, Opd.ev, gv, setD, List.set, Option.some.injEq, exists_eq_left', pickV]
    refine s_ret1 ?_
    simp +decide only [p_fin_ret, resV, resOne, gv, Option.some.injEq, exists_eq_left']
    exact ⟨by simp, hx⟩
  simp only [o_cont, o_pure, o_callF, o_guard, gk_tt, POp.ev, Opd.ev, gv, setD, List.map, Option.some.injEq, exists_eq_left', load1V, fadV, Nat.zero_add, hB.c2]
  refine (inside_ok _ _ _ _ _).eq ?_
  cases h3 : decide (0 ≤ t.y) && decide (t.y ≤ 4)
  · simp only [o_cont, o_pure, o_guard, gk_ft, o_nil, POp.ev, Opd.ev, gv, setD, List.set, Option.some.injEq, exists_eq_left', pickV]
    refine s_ret1 ?_
    simp +decide only [p_fin_ret, resV, resOne, gv, Option.some.injEq, exists_eq_left']
    exact ⟨by simp, hx⟩
  simp only [o_cont, o_pure, o_callF, o_guard, gk_tt, POp.ev, Opd.ev, gv, setD, List.map, Option.some.injEq, exists_eq_left', pickV, load1V, fadV, Nat.zero_add, hB.c3]
  refine (inside_ok _ _ _ _ _).eq ?_
  cases h4 : decide (0 ≤ t.z) && decide (t.z ≤ 4)
  · simp only [o_cont, o_pure, o_guard, gk_ft, o_nil, POp.ev, Opd.ev, gv, setD, List.set, Option.some.injEq, exists_eq_left', pickV]
    refine s_ret1 ?_
    simp +decide only [p_fin_ret, resV, resOne, gv, Option.some.injEq, exists_eq_left']
    exact ⟨by simp, hx⟩
  simp only [Bool.and_eq_true, decide_eq_true_eq] at h2 h3 h4
  simp only [o_cont, o_pure, o_callF, o_guard, gk_tt, POp.ev, Opd.ev, gv, setD, List.map, Option.some.injEq, exists_eq_left', pickV, hB.all]
  refine (degree_ok _ _ _ h2 h3 h4).mono ?_
  rintro _ H2 ⟨rfl, hx2⟩
  simp only [o_cont, o_pure, o_guard, gk_tt, o_nil, POp.ev, Opd.ev, gv, setD, List.set, Option.some.injEq, exists_eq_left', pickV, binV, ne_eq, not_true_eq_false, if_false]
  refine s_ret1 ?_
  simp +decide only [p_fin_ret, resV, resOne, gv, Option.some.injEq, exists_eq_left']
  exact ⟨by simp, hx.trans hx2⟩

def cmp3 (a b : Int) : Int := if a < b then -1 else if a > b then 1 else 0
theorem isNaN_ok (lim : Nat) (a : Int) (H : AHeap) : ACalls Try.prog lim n_cmp_isNaN_int [.int .i64 a] H fun v H' => v = .bool false ∧ H' = H := by
  refine is_cmp_isNaN_int.go rfl ?_
  unfold c_cmp_isNaN_int
  have h : (a != a) = false := by simp
  refine s_reg ?_
  simp only [o_pure, o_nil, POp.ev, Opd.ev, env0, gu, setD, List.set, Option.some.injEq, exists_eq_left']
  refine s_reg ?_
  simp only [o_pure, o_nil, POp.ev, Opd.ev, gv, setD, List.set, Option.some.injEq, exists_eq_left', binV, ne_eq, not_true_eq_false, if_false, h]
  refine s_ret1 ?_
  simp +decide only [p_fin_ret, resV, resOne, gv, Option.some.injEq, exists_eq_left']
theorem compare_ok (lim : Nat) (a b : Int) (H : AHeap) : ACalls Try.prog lim n_cmp_Compare_int [.int .i64 a, .int .i64 b] H fun v H' => v = .int .i64 (cmp3 a b) ∧ H' = H := by
  refine is_cmp_Compare_int.go rfl ?_
  unfold c_cmp_Compare_int cmp3
  refine s_reg ?_
  simp only [o_pure, o_nil, POp.ev, Opd.ev, env0, gu, setD, List.set, Option.some.injEq, exists_eq_left']
  refine s_reg ?_
  simp only [o_pure, o_callF, POp.ev, Opd.ev, gv, setD, List.map, Option.some.injEq, exists_eq_left']
  refine (isNaN_ok _ _ _).eq ?_
  simp only [o_cont, o_pure, o_nil, POp.ev, Opd.ev, gv, setD, List.set, Option.some.injEq, exists_eq_left']
  refine s_reg ?_
  simp only [o_pure, o_callF, POp.ev, Opd.ev, gv, setD, List.map, Option.some.injEq, exists_eq_left']
  refine (isNaN_ok _ _ _).eq ?_
  simp only [o_cont, o_pure, o_nil, POp.ev, Opd.ev, gv, setD, List.set, Option.some.injEq, exists_eq_left']
  refine s_test ?_
  simp only [o_pure, o_nil, POp.ev, Opd.ev, gv, setD, Option.some.injEq, exists_eq_left']
  refine Test.false_ (s_skip1 ?_)
  simp +decide only [p_seq_normal]
  refine s_test ?_
  simp only [o_pure, o_nil, POp.ev, Opd.ev, gv, setD, Option.some.injEq, exists_eq_left']
  refine Test.false_ (s_skip1 ?_)
  simp +decide only [p_seq_normal]
  refine s_test ?_
  simp only [o_pure, o_nil, POp.ev, Opd.ev, gv, setD, Option.some.injEq, exists_eq_left', binV, ne_eq, not_true_eq_false, if_false]
  refine Test.split (fun h => ?_) (fun h => ?_)
  · refine s_reg ?_
    simp only [o_pure, o_nil, POp.ev, Opd.ev, setD, List.set, Option.some.injEq, exists_eq_left']
    refine s_ret1 ?_
    simp +decide only [p_seq_ret, p_fin_ret, resV, resOne, gv, Option.some.injEq, exists_eq_left']
    rw [if_pos (by simpa using h)]
    trivial
  · refine s_skip1 ?_
    simp +decide only [p_seq_normal]
    refine s_test ?_
    simp only [o_pure, o_nil, POp.ev, Opd.ev, gv, setD, Option.some.injEq, exists_eq_left', binV, ne_eq, not_true_eq_false, if_false]
    refine Test.split (fun h2 => ?_) (fun h2 => ?_)
    · refine s_reg ?_
      simp only [o_pure, o_nil, POp.ev, Opd.ev, setD, List.set, Option.some.injEq, exists_eq_left']
      refine s_ret1 ?_
      simp +decide only [p_seq_ret, p_fin_ret, resV, resOne, gv, Option.some.injEq, exists_eq_left']
      rw [if_neg (by simpa using h), if_pos (by simpa using h2)]
      trivial
    · refine s_skip1 ?_
      simp +decide only [p_seq_normal]
      refine s_reg ?_
      simp only [o_pure, o_nil, POp.ev, Opd.ev, setD, List.set, Option.some.injEq, exists_eq_left']
      refine s_ret1 ?_
      simp +decide only [p_fin_ret, resV, resOne, gv, Option.some.injEq, exists_eq_left']
      rw [if_neg (by simpa using h), if_neg (by simpa using h2)]
      trivial

/-- the first that is not 0 -/
def orL : List Int → Int
  | [] => 0
  | x :: l => if x ≠ 0 then x else orL l
theorem or_ok (lim : Nat) (s : Value) (l : List Int) (H : AHeap) (hs : Sl H s l.length 1 (l.map vi)) (hn : l.length ≤ 1000) : ACalls Try.prog lim n_cmp_Or_int [s] H fun v H' => v = .int .i64 (orL l) ∧ H' = H := by
  refine is_cmp_Or_int.go rfl ?_
  unfold c_cmp_Or_int
  refine s_reg ?_
  simp only [o_pure, o_nil, POp.ev, Opd.ev, env0, gu, setD, List.set, Option.some.injEq, exists_eq_left']
  refine s_reg ?_
  simp only [o_pure, o_nil, POp.ev, Opd.ev, setD, List.set, Option.some.injEq, exists_eq_left']
  refine s_assoc (s_reg ?_)
  simp only [o_pure, o_nil, POp.ev, Opd.ev, gv, setD, List.set, Option.some.injEq, exists_eq_left', hs.lenV]
  refine s_block ?_
  refine s_loop1 (fun k e' H' => H' = H ∧ ∃ (i : Nat) (y : Value), i + k = l.length ∧ orL l = orL (l.drop i) ∧ e' = [s, .int .i64 0, .int .i64 0, y, s, .int .i64 l.length, .int .i64 i]) l.length ⟨rfl, 0, _, by omega, rfl, rfl⟩ ?_
  rintro k e' H ⟨rfl, i, y, hik, hall, rfl⟩
  refine s_test ?_
  simp only [o_pure, o_nil, POp.ev, Opd.ev, gv, setD, Option.some.injEq, exists_eq_left', binV, ne_eq, not_true_eq_false, if_false]
  refine Test.split (fun hlt => ?_) (fun hlt => ?_)
  · have hlt' : i < l.length := by simpa using hlt
    obtain ⟨b, o, h1, h2, h3⟩ := hs.cell .i64 (i := (i : Int)) (by omega) (by omega)
    rw [show (i : Int).toNat = i by omega, List.getElem?_map, List.getElem?_eq_getElem hlt'] at h3
    simp only [Option.map_some] at h3
    rw [List.drop_eq_getElem_cons hlt', orL] at hall
    refine s_skip1 ?_
    simp +decide only [p_seq_normal]
    refine s_block ?_
    refine s_reg ?_
    simp only [o_pure, o_nil, POp.ev, Opd.ev, gv, setD, List.set, Option.some.injEq, exists_eq_left', load1V, h1, h3]
    refine s_test1 ?_
    simp only [o_pure, o_nil, POp.ev, Opd.ev, gv, setD, Option.some.injEq, exists_eq_left', binV, ne_eq, not_true_eq_false, if_false]
    refine Test.split (fun h => ?_) (fun h => ?_)
    · refine s_reg ?_
      simp only [o_pure, o_nil, POp.ev, Opd.ev, gv, setD, List.set, Option.some.injEq, exists_eq_left']
      refine s_ret1 ?_
      simp +decide only [p_seq_ret, p_block_ret, p_fin_ret, resV, resOne, gv, Option.some.injEq, exists_eq_left']
      rw [if_pos (by simpa using h)] at hall
      rw [hall]
      trivial
    · refine s_skip1 ?_
      simp +decide only [p_seq_normal, p_block_normal]
      refine s_reg1 ?_
      simp only [o_pure, o_nil, POp.ev, Opd.ev, gv, setD, List.set, Option.some.injEq, exists_eq_left', binV, ne_eq, not_true_eq_false, if_false, add1 (i := i) (by omega)]
      simp +decide only [p_seq_normal]
      rw [if_neg (by simpa using h)] at hall
      exact Round.mk (k - 1) (by omega) ⟨rfl, i + 1, _, by omega, hall, rfl⟩
  · have hge : i = l.length := by simp at hlt; omega
    subst hge
    refine s_exit1 ?_
    simp +decide only [p_seq_normal, p_seq_exit, p_block_exit, reduceIte]
    refine s_reg ?_
    simp only [o_pure, o_nil, POp.ev, Opd.ev, gv, setD, List.set, Option.some.injEq, exists_eq_left']
    refine s_ret1 ?_
    simp +decide only [p_fin_ret, resV, resOne, gv, Option.some.injEq, exists_eq_left']
    rw [List.drop_length, orL] at hall
    rw [hall]
    trivial

theorem fill3i (a b c : Value) (k l m : Int) : fillV [a, b, c] [(0, 1, .int .i64 k), (1, 1, .int .i64 l), (2, 1, .int .i64 m)] = some [vi k, vi l, vi m] := by
  simp [fillV, cellsV]
def cmpT (a b : Tm) : Int := orL [cmp3 a.x b.x, cmp3 a.y b.y, cmp3 a.z b.z]
theorem compareTerms_ok (lim : Nat) (a b : Tm) (H : AHeap) : ACalls Try.prog lim n_impl_compareTerms [tv a, tv b] H fun v H' => v = .int .i64 (cmpT a b) ∧ Ext H H' := by
  refine is_impl_compareTerms.go rfl ?_
  unfold c_impl_compareTerms
  refine s_reg ?_
  simp only [o_pure, o_eff, o_nil, POp.ev, Opd.ev, EOp.ev, env0, gu, gv, setD, List.set, Option.some.injEq, exists_eq_left', boxT]
  have hA := BoxT.mk' H a
  have hB := BoxT.mk' (H.alloc (tc a)) b
  replace hA := hA.mono hB.ext
  generalize (H.alloc (tc a)).alloc (tc b) = H1 at hA hB ⊢
  generalize (H.alloc (tc a)).next = q at hB ⊢
  generalize H.next = p at hA ⊢
  have hx := hA.ext
  refine s_reg ?_
  simp only [o_pure, o_callN, POp.ev, Opd.ev, gv, setD, List.map, Option.some.injEq, exists_eq_left', load1V, fadV, Nat.zero_add, hA.c1, hB.c1, hA.c2, hB.c2, hA.c3, hB.c3]
  refine (compare_ok _ _ _ _).use ?_
  rintro _ HH ⟨rfl, hh⟩ _
  subst HH
  simp only [o_cont, o_callN, Opd.ev, gv, setD, List.map]
  refine (compare_ok _ _ _ _).use ?_
  rintro _ HH ⟨rfl, hh⟩ _
  subst HH
  simp only [o_cont, o_callF, Opd.ev, gv, setD, List.map]
  refine (compare_ok _ _ _ _).eq ?_
  have hlit : Sl (H1.alloc [vi (cmp3 a.x b.x), vi (cmp3 a.y b.y), vi (cmp3 a.z b.z)]) (.slice (some ⟨H1.next, 0, some 0⟩) 3 3) 3 1 [vi (cmp3 a.x b.x), vi (cmp3 a.y b.y), vi (cmp3 a.z b.z)] := Vec.sl (Vec.lit rfl)
  have hx2 := Ext.alloc H1 [vi (cmp3 a.x b.x), vi (cmp3 a.y b.y), vi (cmp3 a.z b.z)]
  have hbs : bsliceH H1 3 [.int .i64 0, .int .i64 0, .int .i64 0] [(0, 1, .int .i64 (cmp3 a.x b.x)), (1, 1, .int .i64 (cmp3 a.y b.y)), (2, 1, .int .i64 (cmp3 a.z b.z))] = some (.slice (some ⟨H1.next, 0, some 0⟩) 3 3, H1.alloc [vi (cmp3 a.x b.x), vi (cmp3 a.y b.y), vi (cmp3 a.z b.z)]) := by
    simp only [bsliceH, fill3i, Option.map_some]
  simp only [o_cont, o_eff, o_callF, Opd.ev, EOp.ev, gv, setD, List.map, Option.some.injEq, exists_eq_left', hbs]
  refine (or_ok _ _ [cmp3 a.x b.x, cmp3 a.y b.y, cmp3 a.z b.z] _ hlit (by simp)).eq ?_
  simp only [o_cont, o_pure, o_nil, POp.ev, Opd.ev, gv, setD, List.set, Option.some.injEq, exists_eq_left']
  refine s_ret1 ?_
  simp +decide only [p_fin_ret, resV, resOne, gv, Option.some.injEq, exists_eq_left']
  exact ⟨rfl, hx.trans hx2⟩
theorem cmp3_eq (a b : Int) : cmp3 a b = sgn3 (a - b) := by
  unfold cmp3 sgn3
  rcases Int.lt_trichotomy a b with h | h | h
  · rw [if_pos h, if_neg (by omega), if_pos (by omega)]
  · rw [if_neg (by omega), if_neg (by omega), if_neg (by omega), if_neg (by omega)]
  · rw [if_neg (by omega), if_pos h, if_pos (by omega)]
theorem sgn3_ne (n : Int) : sgn3 n ≠ 0 ↔ n ≠ 0 := by
  unfold sgn3
  rcases Int.lt_trichotomy n 0 with h | h | h
  · rw [if_neg (by omega), if_pos h]; omega
  · rw [if_neg (by omega), if_neg (by omega)]; omega
  · rw [if_pos h]; omega
theorem cmpT_eq {a b : Tm} : cmpT a b = ordT a b := by
  unfold cmpT ordT
  rw [cmp3_eq, cmp3_eq, cmp3_eq]
  simp only [orL]
  have z : ∀ n : Int, n = 0 → sgn3 n = 0 := by rintro n rfl; simp [sgn3]
  by_cases h1 : a.x = b.x
  · have s1 := z (b.x - b.x) (by omega)
    simp only [s1, h1, ne_eq, not_true_eq_false, if_false]
    by_cases h2 : a.y = b.y
    · have s2 := z (b.y - b.y) (by omega)
      simp only [s2, h2, not_true_eq_false, if_false]
      by_cases h3 : sgn3 (a.z - b.z) = 0
      · simp only [h3, not_true_eq_false, if_false]
      · simp only [h3, not_false_eq_true, if_true]
    · have s2 : sgn3 (a.y - b.y) ≠ 0 := (sgn3_ne _).2 (by omega)
      simp only [ne_eq] at s2
      simp only [s2, h2, not_false_eq_true, if_true]
  · have s1 : sgn3 (a.x - b.x) ≠ 0 := (sgn3_ne _).2 (by omega)
    simp only [ne_eq] at s1
    simp only [s1, h1, ne_eq, not_false_eq_true, if_true]

/-- what the implementation asks of the term at i -/
theorem stepT_impl (p : List Tm) (i : Nat) (t : Tm) : stepT p i t = (!decide (t.c = 0) && (decide (-1000 ≤ t.c) && decide (t.c ≤ 1000)) && degB t && (match prevT p i with | none => true | some u => !decide (ordT u t ≥ 0))) := by
  unfold stepT okTm degB
  cases prevT p i <;> cases decide (t.c = 0) <;> cases (decide (-1000 ≤ t.c) && decide (t.c ≤ 1000)) <;> simp

theorem isPoly_ok (lim : Nat) (s : Value) (p : List Tm) (H : AHeap) (hl : lim ≤ H.next) (hs : SlT H s p) (hn : p.length ≤ 1000000000) : ACalls Try.prog lim n_impl_isPoly [s] H fun v H' => v = .bool (goodP p) ∧ Ext H H' := by
  refine is_impl_isPoly.go rfl ?_
  unfold c_impl_isPoly
  refine s_reg ?_
  simp only [o_pure, o_nil, POp.ev, Opd.ev, env0, gu, setD, List.set, Option.some.injEq, exists_eq_left']
  refine s_assoc (s_reg ?_)
  simp only [o_pure, o_nil, POp.ev, Opd.ev, gv, setD, List.set, Option.some.injEq, exists_eq_left', hs.lenV]
  refine s_block ?_
  refine s_loop1 (fun k e' H' => ∃ (i : Nat) (x y : Value), i + k = p.length ∧ goodF none p = goodF (prevT p i) (p.drop i) ∧ Ext H H' ∧ e' = [s, .bool false, x, y, s, .int .i64 p.length, .int .i64 i]) p.length ⟨0, _, _, by omega, rfl, Ext.refl _, rfl⟩ ?_
  rintro k e' H' ⟨i, x, y, hik, hall, hx, rfl⟩
  have hnx := hx.next
  refine s_test ?_
  simp only [o_pure, o_nil, POp.ev, Opd.ev, gv, setD, Option.some.injEq, exists_eq_left', binV, ne_eq, not_true_eq_false, if_false]
  refine Test.split (fun hlt => ?_) (fun hlt => ?_)
  · have hlt' : i < p.length := by simpa using hlt
    obtain ⟨b1, o1, h1, hat⟩ := (hs.ext hx).at hlt'
    rw [goodF_step hlt'] at hall
    refine s_skip1 ?_
    simp +decide only [p_seq_normal]
    refine s_block ?_
    refine s_reg ?_
    simp only [o_pure, o_eff, o_nil, POp.ev, Opd.ev, EOp.ev, gv, setD, List.set, Option.some.injEq, exists_eq_left', h1, hat.all, store4_new (lim := lim) (H := H') (by omega)]
    have hB := BoxT.mk' H' p[i]
    generalize H'.alloc (tc p[i]) = H1 at hB ⊢
    generalize H'.next = q at hB hnx ⊢
    have hx1 := hx.trans hB.ext
    refine s_test1_I (!stepT p i p[i]) (Ext H1) ?_ (fun H2 hx2 hg => ?_) (fun H2 hx2 hg => ?_)
    · rw [stepT_impl]
      cases h6 : decide (p[i].c = 0)
      · have h6' : (p[i].c == 0) = false := by simpa using h6
        simp only [o_pure, o_callF, o_guard, gk_ff, POp.ev, Opd.ev, gv, setD, List.map, Option.some.injEq, exists_eq_left', binV, load1V, fadV, ne_eq, not_true_eq_false, if_false, Bool.not_false, Nat.zero_add, hB.c0, h6']
        refine (inside_ok _ _ _ _ _).eq ?_
        cases h7 : decide (-1000 ≤ p[i].c) && decide (p[i].c ≤ 1000)
        · simp only [o_cont, o_pure, o_guard, gk_ff, gk_tf, gk_u, o_nil, POp.ev, Opd.ev, gv, setD, Option.some.injEq, exists_eq_left', pickV, unV, Bool.not_false]
          simp [Ext.refl]
        · simp only [o_cont, o_pure, o_callF, o_guard, gk_ff, POp.ev, Opd.ev, gv, setD, List.map, Option.some.injEq, exists_eq_left', pickV, unV, Bool.not_true, hB.all]
          refine (hasDegree_ok _ _ _).mono ?_
          rintro _ H2 ⟨rfl, hx2⟩
          have hB2 := hB.mono hx2
          cases h5 : degB p[i]
          · simp only [o_cont, o_pure, o_guard, gk_ff, gk_tf, gk_u, o_nil, POp.ev, Opd.ev, gv, setD, Option.some.injEq, exists_eq_left', pickV, unV, Bool.not_false]
            simp [hx2]
          · cases i with
            | zero =>
              have d0 : decide (((0 : Nat) : Int) > 0) = false := by decide
              simp only [o_cont, o_pure, o_guard, gk_ff, gk_ft, o_nil, POp.ev, Opd.ev, gv, setD, Option.some.injEq, exists_eq_left', pickV, binV, unV, ne_eq, not_true_eq_false, if_false, Bool.not_true, d0]
              simp [prevT, hx2]
            | succ i =>
              have d0 : decide (((i + 1 : Nat) : Int) > 0) = true := decide_eq_true (by omega)
              have w1 : IntKind.i64.wrap (((i + 1 : Nat) : Int) - 1) = (i : Int) := by rw [IntKind.wrap_i64]; omega
              have hi : i < p.length := by omega
              obtain ⟨b2, o2, k1, hat2⟩ := ((hs.ext hx1).ext hx2).at hi
              have hpe : prevT p (i + 1) = some p[i] := List.getElem?_eq_getElem hi
              simp only [o_cont, o_pure, o_callF, o_guard, gk_tt, gk_ff, POp.ev, Opd.ev, gv, setD, List.map, Option.some.injEq, exists_eq_left', pickV, binV, unV, ne_eq, not_true_eq_false, if_false, Bool.not_true, d0, w1, k1, hat2.all, hB2.all]
              refine (compareTerms_ok _ _ _ _).mono ?_
              rintro _ H3 ⟨rfl, hx3⟩
              simp only [o_cont, o_pure, o_guard, gk_tt, gk_ff, o_nil, POp.ev, Opd.ev, gv, setD, Option.some.injEq, exists_eq_left', pickV, binV, ne_eq, not_true_eq_false, if_false, cmpT_eq]
              simp [hpe, hx2.trans hx3]
      · have h6' : (p[i].c == 0) = true := by simpa using h6
        simp only [o_pure, o_guard, gk_tf, gk_u, o_nil, POp.ev, Opd.ev, gv, setD, Option.some.injEq, exists_eq_left', pickV, binV, load1V, fadV, ne_eq, not_true_eq_false, if_false, Bool.not_true, Nat.zero_add, hB.c0, h6']
        simp [Ext.refl]
    · refine s_reg ?_
      simp only [o_pure, o_nil, POp.ev, Opd.ev, setD, List.set, Option.some.injEq, exists_eq_left']
      refine s_ret1 ?_
      simp +decide only [p_seq_ret, p_block_ret, p_fin_ret, resV, resOne, gv, Option.some.injEq, exists_eq_left']
      simp only [Bool.not_eq_true'] at hg
      refine ⟨?_, hx1.trans hx2⟩
      simp [goodP, hall, hg]
    · refine s_skip1 ?_
      simp +decide only [p_seq_normal, p_block_normal]
      refine s_reg1 ?_
      simp only [o_pure, o_nil, POp.ev, Opd.ev, gv, setD, List.set, Option.some.injEq, exists_eq_left', binV, ne_eq, not_true_eq_false, if_false, add1 (i := i) (by omega)]
      simp +decide only [p_seq_normal]
      simp only [Bool.not_eq_false'] at hg
      rw [hg, Bool.true_and] at hall
      exact Round.mk (k - 1) (by omega) ⟨i + 1, _, _, by omega, hall, hx1.trans hx2, rfl⟩
  · have hge : i = p.length := by simp at hlt; omega
    subst hge
    refine s_exit1 ?_
    simp +decide only [p_seq_normal, p_seq_exit, p_block_exit, reduceIte]
    refine s_reg ?_
    simp only [o_pure, o_nil, POp.ev, Opd.ev, gv, setD, List.set, Option.some.injEq, exists_eq_left', binV, ne_eq, not_true_eq_false, if_false, hs.lenV]
    refine s_ret1 ?_
    simp +decide only [p_fin_ret, resV, resOne, gv, Option.some.injEq, exists_eq_left']
    refine ⟨?_, hx⟩
    rw [List.drop_length] at hall
    simp [goodP, hall, goodF]

def ex (t : Tm) (u : Nat) : Int := if u = 0 then t.x else if u = 1 then t.y else t.z
end Go.Proofs.Ytaimceodhhgnnaa

/- Systems of polynomials, part 10 of the walk: terms that are in order already, sorted and collected; no condition beyond stated lengths. -/
namespace Go.Proofs.Ytaimceodhhgnnaa
open Go.Ab
set_option linter.unusedSimpArgs false
set_option linter.unusedVariables false

theorem sgn3_neg (n : Int) : sgn3 (-n) = -sgn3 n := by
  unfold sgn3
  rcases Int.lt_trichotomy n 0 with h | h | h
  · rw [if_pos (by omega), if_neg (by omega), if_pos (by omega)]; omega
  · subst h; simp
  · rw [if_neg (by omega), if_pos (by omega), if_pos (by omega)]
theorem ordT_neg (a b : Tm) : ordT b a = -ordT a b := by
  unfold ordT
  have e1 : b.x - a.x = -(a.x - b.x) := by omega
  have e2 : b.y - a.y = -(a.y - b.y) := by omega
  have e3 : b.z - a.z = -(a.z - b.z) := by omega
  rw [e1, e2, e3, sgn3_neg, sgn3_neg, sgn3_neg]
  by_cases h1 : a.x = b.x
  · by_cases h2 : a.y = b.y
    · simp [h1, h2]
    · have h2' : ¬ b.y = a.y := fun h => h2 h.symm
      simp [h1, h2, h2']
  · have h1' : ¬ b.x = a.x := fun h => h1 h.symm
    simp [h1, h1']

/-- terms in strict order, none of which is 0 -/
def Sorted (l : List Tm) : Prop := ∀ (i : Nat) (h : i + 1 < l.length), ordT (l[i]'(by omega)) l[i + 1] < 0
abbrev cmpF : Value := .func (.func n_impl_compareTerms) #[] #[]

theorem collect1_ok (lim : Nat) (t : Tm) (H : AHeap) : ACalls Try.prog lim n_impl_collect_1 [tv t] H fun v H' => v = .bool (t.c == 0) ∧ Ext H H' := by
  refine is_impl_collect_1.go rfl ?_
  unfold c_impl_collect_1
  refine s_reg ?_
  simp only [o_pure, o_eff, o_nil, POp.ev, Opd.ev, EOp.ev, env0, gu, gv, setD, List.set, Option.some.injEq, exists_eq_left', boxT]
  have hB := BoxT.mk' H t
  generalize H.alloc (tc t) = H1 at hB ⊢
  generalize H.next = p at hB ⊢
  refine s_reg ?_
  simp only [o_pure, o_nil, POp.ev, Opd.ev, gv, setD, List.set, Option.some.injEq, exists_eq_left', binV, load1V, fadV, ne_eq, not_true_eq_false, if_false, Nat.zero_add, hB.c0]
  refine s_ret1 ?_
  simp +decide only [p_fin_ret, resV, resOne, gv, Option.some.injEq, exists_eq_left']
  exact ⟨trivial, hB.ext⟩

abbrev delF : Value := .func (.func n_impl_collect_1) #[] #[]
theorem vecT_nil (H : AHeap) (b : Nat) : VecT H b (.slice none 0 0) [] := Vec.nil _ _ _
/-- terms put behind a list of one's own -/
theorem appendT {lim : Nat} {H : AHeap} {b : Nat} {v x : Value} {l m : List Tm} (h : VecT H b v l) (hx : SlT H x m) (hl : lim ≤ b) (hn : l.length + m.length ≤ 1000000) :
    ∃ v' H' b', appendH lim H 4 32 v x = some (v', H') ∧ VecT H' b' v' (l ++ m) ∧ (b' = b ∨ H.next ≤ b') ∧ (l ++ m ≠ [] → b' < H'.next) ∧ Chg b H H' := by
  obtain ⟨v', H', b', h1, h2, h3, h4, h5⟩ := Vec.append h (lim := lim) hl hx (by decide) (bytes := 32) (by omega)
  have h2' : VecT H' b' v' (l ++ m) := by
    unfold VecT
    rw [List.length_append, tcs_append]
    exact h2
  refine ⟨v', H', b', h1, h2', h3.imp id fun h => by omega, fun hne => (Vec.blk h2' (fun e => hne (List.length_eq_zero_iff.1 e))).elim fun _ h => h.2, h4⟩
/-- one term put behind a list of one's own -/
theorem pushT {lim : Nat} {H : AHeap} {b : Nat} {v : Value} {l : List Tm} (h : VecT H b v l) (t : Tm) (hl : lim ≤ b) (hn : l.length ≤ 100000) :
    ∃ v' H' b', appendH lim (H.alloc (tc t)) 4 32 v (.slice (some ⟨H.next, 0, some 0⟩) 1 1) = some (v', H') ∧ VecT H' b' v' (l ++ [t]) ∧ (b' = b ∨ H.next ≤ b') ∧ b' < H'.next ∧ Chg b H H' := by
  obtain ⟨v', H', b', h1, h2, h3, h4, h5⟩ := appendT (VecT.ext h (Ext.alloc H (tc t))) (sl_one H t) hl (by simp; omega)
  exact ⟨v', H', b', h1, h2, h3.imp id fun h => Nat.le_trans (Nat.le_succ _) h, h4 (by simp), (Chg.of_ext (Ext.alloc _ _)).trans h5⟩

end Go.Proofs.Ytaimceodhhgnnaa

/- Systems of polynomials, part 16 of the walk: insertion sort of any terms, in place; no condition beyond stated lengths. -/
namespace Go.Proofs.Ytaimceodhhgnnaa
open Go.Ab
set_option linter.unusedSimpArgs false
set_option linter.unusedVariables false

/-! ### the order -/
theorem sgn3_lt (n : Int) : sgn3 n < 0 ↔ n < 0 := by
  unfold sgn3
  rcases Int.lt_trichotomy n 0 with h | h | h
  · rw [if_neg (by omega), if_pos h]; omega
  · rw [if_neg (by omega), if_neg (by omega)]; omega
  · rw [if_pos h]; omega
theorem ordT_lt (a b : Tm) : ordT a b < 0 ↔ a.x < b.x ∨ (a.x = b.x ∧ (a.y < b.y ∨ (a.y = b.y ∧ a.z < b.z))) := by
  unfold ordT
  by_cases h1 : a.x = b.x
  · by_cases h2 : a.y = b.y
    · rw [if_neg (by simp [h1]), if_neg (by simp [h2]), sgn3_lt]; omega
    · rw [if_neg (by simp [h1]), if_pos h2, sgn3_lt]; omega
  · rw [if_pos h1, sgn3_lt]; omega
theorem ordT_trans {a b c : Tm} (h1 : ordT a b < 0) (h2 : ordT b c < 0) : ordT a c < 0 := by
  rw [ordT_lt] at *
  omega
theorem ordT_zero (a b : Tm) : ordT a b = 0 ↔ a.x = b.x ∧ a.y = b.y ∧ a.z = b.z := by
  have h1 := ordT_lt a b
  have h2 := ordT_lt b a
  have h3 := ordT_neg a b
  omega

/-! ### a term put in from behind -/
def insRev (t : Tm) : List Tm → List Tm
  | [] => [t]
  | x :: r => if ordT t x < 0 then x :: insRev t r else t :: x :: r
def insB (P : List Tm) (t : Tm) : List Tm := (insRev t P.reverse).reverse
theorem insB_nil (t : Tm) : insB [] t = [t] := rfl
theorem insB_lt {P : List Tm} {x t : Tm} (h : ordT t x < 0) : insB (P ++ [x]) t = insB P t ++ [x] := by
  simp [insB, insRev, h]
theorem insB_ge {P : List Tm} {x t : Tm} (h : ¬ ordT t x < 0) : insB (P ++ [x]) t = P ++ [x, t] := by
  simp [insB, insRev, h]
theorem insB_length (P : List Tm) (t : Tm) : (insB P t).length = P.length + 1 := by
  have : ∀ l : List Tm, (insRev t l).length = l.length + 1 := by
    intro l
    induction l with
    | nil => rfl
    | cons x r ih =>
      unfold insRev
      split
      · simp [ih]
      · simp
  simp [insB, this]
def isortF (P : List Tm) : List Tm → List Tm
  | [] => P
  | t :: l => isortF (insB P t) l
theorem isortF_length : ∀ (l P : List Tm), (isortF P l).length = P.length + l.length
  | [], P => by simp [isortF]
  | t :: l, P => by rw [isortF, isortF_length l, insB_length, List.length_cons]; omega

theorem swap_at {A B : List Tm} {x y : Tm} : ((A ++ x :: y :: B).set (A.length + 1) x).set A.length y = A ++ y :: x :: B := by
  rw [List.set_append_right _ _ (by omega)]
  have : A.length + 1 - A.length = 1 := by omega
  rw [this, List.set_append_right _ _ (by omega), Nat.sub_self]
  rfl

theorem VecT.swap {lim : Nat} {H : AHeap} {b : Nat} {v : Value} {A B : List Tm} {x y : Tm} (h : VecT H b v (A ++ x :: y :: B)) (hl : lim ≤ b) :
    ∃ H1 H2, storeH lim H 4 (.pointer (some ⟨b, (A.length + 1) * 4, none⟩)) (tv x) = some (undef, H1) ∧ storeH lim H1 4 (.pointer (some ⟨b, A.length * 4, none⟩)) (tv y) = some (undef, H2) ∧ VecT H2 b v (A ++ y :: x :: B) ∧ Chg b H H2 ∧ H2.next = H.next := by
  obtain ⟨cs1, h1, g1⟩ := VecT.putT (lim := lim) h hl (i := A.length + 1) (by simp) x
  obtain ⟨cs2, h2, g2⟩ := VecT.putT (lim := lim) g1 hl (i := A.length) (by simp) y
  rw [swap_at] at g2
  exact ⟨_, _, h1, h2, g2, (Chg.put b H cs1).trans (Chg.put b _ cs2), rfl⟩

/-- insertion sort of the part from a to b -/
theorem insSort2_ok (lim : Nat) (s : Value) (blk : Nat) (A M B : List Tm) (H : AHeap) (hs : VecT H blk s (A ++ M ++ B)) (hl : lim ≤ blk) (hb : blk < H.next ∨ M = []) (hn : (A ++ M ++ B).length ≤ 100000) :
    ACalls Try.prog lim n_slices_insertionSortCmpFunc_impl_Term [s, .int .i64 A.length, .int .i64 ((A.length + M.length : Nat) : Int), cmpF] H fun v H' => VecT H' blk s (A ++ isortF [] M ++ B) ∧ Chg blk H H' := by
  have hlen : A.length + M.length + B.length ≤ 100000 := by simpa [Nat.add_assoc] using hn
  refine is_slices_insertionSortCmpFunc_impl_Term.go rfl ?_
  unfold c_slices_insertionSortCmpFunc_impl_Term
  refine s_reg ?_
  simp only [o_pure, o_nil, POp.ev, Opd.ev, env0, gu, gv, setD, List.set, Option.some.injEq, exists_eq_left', binV, ne_eq, not_true_eq_false, if_false, add1 (i := A.length) (by omega)]
  refine s_block1 ?_
  cases hM : M with
  | nil =>
    subst hM
    refine s_loop1 (fun k e' H' => H' = H ∧ e' = [s, .int .i64 A.length, .int .i64 ((A.length + ([] : List Tm).length : Nat) : Int), cmpF, .int .i64 ((A.length + 1 : Nat) : Int), undef]) 0 ⟨rfl, rfl⟩ ?_
    rintro k e' H' ⟨rfl, rfl⟩
    have hd : decide (((A.length + 1 : Nat) : Int) < ((A.length + ([] : List Tm).length : Nat) : Int)) = false := decide_eq_false (by simp; omega)
    refine s_test ?_
    simp only [o_pure, o_nil, POp.ev, Opd.ev, gv, setD, Option.some.injEq, exists_eq_left', binV, ne_eq, not_true_eq_false, if_false, hd]
    refine Test.false_ (s_exit1 ?_)
    simp +decide only [p_seq_exit, p_block_exit, p_fin_normal, reduceIte, resV, resL, Option.some.injEq, exists_eq_left', Option.map_some]
    exact ⟨by simpa [isortF] using hs, Chg.refl _ _⟩
  | cons m0 M0 =>
  rw [← hM]
  have hMl : 1 ≤ M.length := by rw [hM]; simp
  have hblk : blk < H.next := by
    rcases hb with hb | hb
    · exact hb
    · rw [hM] at hb; cases hb
  -- P: the part that is in order; R: what is to come
  refine s_loop1 (fun k e' H' => ∃ (P R : List Tm) (x5 : Value), 1 ≤ P.length ∧ P.length + R.length = M.length ∧ R.length = k ∧ isortF P R = isortF [] M ∧ VecT H' blk s (A ++ P ++ R ++ B) ∧ Chg blk H H' ∧
    e' = [s, .int .i64 A.length, .int .i64 ((A.length + M.length : Nat) : Int), cmpF, .int .i64 ((A.length + P.length : Nat) : Int), x5]) M0.length ⟨[m0], M0, _, by simp, by rw [hM]; simp; omega, rfl, by rw [hM]; rfl, by rw [hM] at hs; simpa using hs, Chg.refl _ _, rfl⟩ ?_
  rintro k e' H' ⟨P, R, x5, hP1, hPR, hRk, hiso, hv, hc, rfl⟩
  have hnc := hc.next
  refine s_test ?_
  simp only [o_pure, o_nil, POp.ev, Opd.ev, gv, setD, Option.some.injEq, exists_eq_left', binV, ne_eq, not_true_eq_false, if_false]
  refine Test.split (fun hlt => ?_) (fun hlt => ?_)
  · have hlt' : P.length < M.length := by simp at hlt; omega
    obtain ⟨t, R', rfl⟩ : ∃ t R', R = t :: R' := by
      cases R with
      | nil => simp at hPR; omega
      | cons t R' => exact ⟨t, R', rfl⟩
    simp only [List.length_cons] at hPR hRk
    refine s_skip1 ?_
    simp +decide only [p_seq_normal]
    refine s_block ?_
    refine s_reg ?_
    simp only [o_pure, o_nil, POp.ev, Opd.ev, gv, setD, List.set, Option.some.injEq, exists_eq_left']
    refine s_block1 ?_
    refine s_loop1 (fun k2 e' H2 => ∃ (P1 P2 : List Tm), P = P1 ++ P2 ∧ P1.length = k2 ∧ insB P t = insB P1 t ++ P2 ∧ VecT H2 blk s (A ++ (P1 ++ t :: P2) ++ R' ++ B) ∧ Chg blk H H2 ∧
      e' = [s, .int .i64 A.length, .int .i64 ((A.length + M.length : Nat) : Int), cmpF, .int .i64 ((A.length + P.length : Nat) : Int), .int .i64 ((A.length + P1.length : Nat) : Int)]) P.length ⟨P, [], by simp, rfl, by simp, by simpa using hv, hc, rfl⟩ ?_
    rintro k2 e' H2 ⟨P1, P2, hPP, hk2, hins, hv2, hc2, rfl⟩
    have hnc2 := hc2.next
    have leave : ∀ (X : List Tm) (H3 : AHeap), X = insB P t → VecT H3 blk s (A ++ X ++ R' ++ B) → Chg blk H H3 →
        Round (fun k e' H' => ∃ (P R : List Tm) (x5 : Value), 1 ≤ P.length ∧ P.length + R.length = M.length ∧ R.length = k ∧ isortF P R = isortF [] M ∧ VecT H' blk s (A ++ P ++ R ++ B) ∧ Chg blk H H' ∧
          e' = [s, .int .i64 A.length, .int .i64 ((A.length + M.length : Nat) : Int), cmpF, .int .i64 ((A.length + P.length : Nat) : Int), x5]) k [s, .int .i64 A.length, .int .i64 ((A.length + M.length : Nat) : Int), cmpF, .int .i64 ((A.length + P.length + 1 : Nat) : Int), .int .i64 ((A.length + P1.length : Nat) : Int)] H3 := by
      rintro X H3 rfl hv3 hc3
      have hil := insB_length P t
      exact Round.mk (k - 1) (by omega) ⟨insB P t, R', _, by omega, by omega, by omega, hiso, hv3, hc3, by rw [hil]; rfl⟩
    refine s_test ?_
    rcases List.eq_nil_or_concat P1 with rfl | ⟨P0, x, hP1e⟩
    · -- the term has come to the front
      have hd : decide (((A.length + ([] : List Tm).length : Nat) : Int) > (A.length : Int)) = false := decide_eq_false (by simp)
      simp only [o_pure, o_guard, gk_ft, o_nil, POp.ev, Opd.ev, gv, setD, Option.some.injEq, exists_eq_left', pickV, binV, ne_eq, not_true_eq_false, if_false, hd]
      refine Test.false_ (s_exit1 ?_)
      simp +decide only [p_seq_normal, p_seq_exit, p_block_normal, p_block_exit, p_fin_normal, reduceIte, resV, resL, Option.some.injEq, exists_eq_left', Option.map_some]
      refine s_reg1 ?_
      simp only [o_pure, o_nil, POp.ev, Opd.ev, gv, setD, List.set, Option.some.injEq, exists_eq_left', binV, ne_eq, not_true_eq_false, if_false, add1 (i := A.length + P.length) (by omega)]
      simp +decide only [p_seq_normal]
      exact leave _ _ (by rw [hins, insB_nil]; rfl) hv2 hc2
    · rw [List.concat_eq_append] at hP1e
      subst hP1e
      have hsh : A ++ (P0 ++ [x] ++ t :: P2) ++ R' ++ B = (A ++ P0) ++ x :: t :: (P2 ++ R' ++ B) := by simp
      rw [hsh] at hv2
      have hPl : (P0 ++ [x]).length = P0.length + 1 := by simp
      have hd : decide (((A.length + (P0 ++ [x]).length : Nat) : Int) > (A.length : Int)) = true := decide_eq_true (by rw [hPl]; omega)
      have hPlen : P.length = P0.length + 1 + P2.length := by rw [hPP]; simp; omega
      have hw : IntKind.i64.wrap (((A.length + (P0 ++ [x]).length : Nat) : Int) - 1) = ((A.length + P0.length : Nat) : Int) := by rw [hPl, IntKind.wrap_i64]; omega
      have hidx : A.length + (P0 ++ [x]).length = (A ++ P0).length + 1 := by rw [hPl]; simp; omega
      have hidx0 : A.length + P0.length = (A ++ P0).length := by simp
      obtain ⟨j1, a1⟩ := VecT.at hv2 (i := (A ++ P0).length + 1) (by simp; omega)
      obtain ⟨j2, a2⟩ := VecT.at hv2 (i := (A ++ P0).length) (by simp)
      have e1 : ((A ++ P0) ++ x :: t :: (P2 ++ R' ++ B))[(A ++ P0).length + 1]'(by simp; omega) = t := by
        rw [List.getElem_append_right (by omega)]
        simp
      have e2 : ((A ++ P0) ++ x :: t :: (P2 ++ R' ++ B))[(A ++ P0).length]'(by simp) = x := by
        rw [List.getElem_append_right (by omega)]
        simp
      rw [e1] at a1
      rw [e2] at a2
      rw [hidx] at hd hw ⊢
      rw [hidx0] at hw
      simp only [o_callT, callV_fn, o_pure, o_guard, gk_tt, POp.ev, Opd.ev, gv, setD, List.map, Option.some.injEq, exists_eq_left', binV, ne_eq, not_true_eq_false, if_false, hd, hw, j1, a1.all, j2, a2.all]
      refine (compareTerms_ok _ _ _ _).mono ?_
      rintro _ H3 ⟨rfl, hx3⟩
      have hv3 := VecT.ext hv2 hx3
      have hc3 := hc2.trans (Chg.of_ext hx3)
      simp only [o_cont, o_pure, o_guard, gk_tt, o_nil, POp.ev, Opd.ev, gv, setD, Option.some.injEq, exists_eq_left', pickV, binV, ne_eq, not_true_eq_false, if_false, cmpT_eq]
      refine Test.split (fun hg => ?_) (fun hg => ?_)
      · have hlt3 : ordT t x < 0 := by simpa using hg
        obtain ⟨j1, a1⟩ := VecT.at hv3 (i := (A ++ P0).length + 1) (by simp; omega)
        obtain ⟨j2, a2⟩ := VecT.at hv3 (i := (A ++ P0).length) (by simp)
        rw [e1] at a1
        rw [e2] at a2
        obtain ⟨H4, H5, t1, t2, hv5, hc5, hn5⟩ := VecT.swap (lim := lim) hv3 hl
        refine s_skip1 ?_
        simp +decide only [p_seq_normal]
        refine s_block ?_
        refine s_reg1 ?_
        simp only [o_pure, o_eff, o_nil, POp.ev, Opd.ev, EOp.ev, gv, setD, Option.some.injEq, exists_eq_left', binV, ne_eq, not_true_eq_false, if_false, hw, j1, a1.all, j2, a2.all, t1, t2]
        simp +decide only [p_seq_normal, p_block_normal]
        refine s_reg1 ?_
        simp only [o_pure, o_nil, POp.ev, Opd.ev, gv, setD, List.set, Option.some.injEq, exists_eq_left', binV, ne_eq, not_true_eq_false, if_false, hw]
        simp +decide only [p_seq_normal]
        refine Round.mk (k2 - 1) (by omega) ⟨P0, x :: P2, by rw [hPP]; simp, by omega, ?_, ?_, hc3.trans hc5, by rw [← hidx0]⟩
        · rw [hins, insB_lt hlt3]
          simp
        · have : A ++ (P0 ++ t :: (x :: P2)) ++ R' ++ B = (A ++ P0) ++ t :: x :: (P2 ++ R' ++ B) := by simp
          rw [this]
          exact hv5
      · have hge3 : ¬ ordT t x < 0 := by simpa using hg
        refine s_exit1 ?_
        simp +decide only [p_seq_normal, p_seq_exit, p_block_normal, p_block_exit, p_fin_normal, reduceIte, resV, resL, Option.some.injEq, exists_eq_left', Option.map_some]
        refine s_reg1 ?_
        simp only [o_pure, o_nil, POp.ev, Opd.ev, gv, setD, List.set, Option.some.injEq, exists_eq_left', binV, ne_eq, not_true_eq_false, if_false, add1 (i := A.length + P.length) (by omega)]
        simp +decide only [p_seq_normal]
        rw [← hidx]
        refine leave _ _ ?_ (by rw [← hsh] at hv3; exact hv3) hc3
        rw [hins, insB_ge hge3]
        simp
  · have hge : P.length = M.length := by simp at hlt; omega
    have hR0 : R = [] := List.length_eq_zero_iff.1 (by omega)
    subst hR0
    refine s_exit1 ?_
    simp +decide only [p_seq_exit, p_block_exit, p_fin_normal, reduceIte, resV, resL, Option.some.injEq, exists_eq_left', Option.map_some]
    rw [isortF] at hiso
    rw [← hiso]
    exact ⟨by simpa using hv, hc⟩
end Go.Proofs.Ytaimceodhhgnnaa

/- Lists of terms, plain law: stable merging and insertion sort; no condition beyond stated order. -/
namespace Go.Proofs.Ytaimceodhhgnnaa
open Go.Ab
set_option linter.unusedSimpArgs false
set_option linter.unusedVariables false

/-- a does not come behind b -/
abbrev leT (a b : Tm) : Prop := ¬ ordT b a < 0
theorem leT_trans {a b c : Tm} (h1 : leT a b) (h2 : leT b c) : leT a c := by
  have e1 := ordT_lt b a
  have e2 := ordT_lt c b
  have e3 := ordT_lt c a
  unfold leT at *
  omega
theorem lt_le_trans {a b c : Tm} (h1 : ordT a b < 0) (h2 : leT b c) : ordT a c < 0 := by
  have e1 := ordT_lt a b
  have e2 := ordT_lt c b
  have e3 := ordT_lt a c
  unfold leT at *
  omega
theorem le_lt_trans {a b c : Tm} (h1 : leT a b) (h2 : ordT b c < 0) : ordT a c < 0 := by
  have e1 := ordT_lt b a
  have e2 := ordT_lt b c
  have e3 := ordT_lt a c
  unfold leT at *
  omega
theorem lt_le {a b : Tm} (h : ordT a b < 0) : leT a b := by
  have := ordT_neg a b
  unfold leT
  omega
def WS (l : List Tm) : Prop := l.Pairwise leT

/-! ### merging -/
def mIn (x : Tm) (f : List Tm → List Tm) : List Tm → List Tm
  | [] => x :: f []
  | y :: R => if ordT y x < 0 then y :: mIn x f R else x :: f (y :: R)
def mergeF : List Tm → List Tm → List Tm
  | [], R => R
  | x :: L, R => mIn x (mergeF L) R
theorem mergeF_nil : ∀ L : List Tm, mergeF L [] = L
  | [] => rfl
  | x :: L => by rw [mergeF, mIn, mergeF_nil L]
theorem mergeF_nil_l (R : List Tm) : mergeF [] R = R := rfl
theorem mergeF_cons (x y : Tm) (L R : List Tm) : mergeF (x :: L) (y :: R) = if ordT y x < 0 then y :: mergeF (x :: L) R else x :: mergeF L (y :: R) := by
  simp only [mergeF, mIn]
theorem mem_mergeF {t : Tm} : ∀ {L R : List Tm}, t ∈ mergeF L R ↔ t ∈ L ∨ t ∈ R
  | [], R => by simp [mergeF]
  | x :: L, [] => by rw [mergeF_nil]; simp
  | x :: L, y :: R => by
    rw [mergeF_cons]
    split
    · rw [List.mem_cons, mem_mergeF (L := x :: L) (R := R), List.mem_cons, List.mem_cons]
      constructor
      · rintro (h | h | h)
        · exact .inr (.inl h)
        · exact .inl h
        · exact .inr (.inr h)
      · rintro (h | h | h)
        · exact .inr (.inl h)
        · exact .inl h
        · exact .inr (.inr h)
    · rw [List.mem_cons, mem_mergeF (L := L) (R := y :: R), List.mem_cons, List.mem_cons]
      constructor
      · rintro (h | h | h)
        · exact .inl (.inl h)
        · exact .inl (.inr h)
        · exact .inr h
      · rintro ((h | h) | h)
        · exact .inl h
        · exact .inr (.inl h)
        · exact .inr (.inr h)
theorem mergeF_length : ∀ (L R : List Tm), (mergeF L R).length = L.length + R.length
  | [], R => by simp [mergeF]
  | x :: L, [] => by rw [mergeF_nil]; rfl
  | x :: L, y :: R => by
    rw [mergeF_cons]
    split
    · rw [List.length_cons, mergeF_length (x :: L) R]; simp; omega
    · rw [List.length_cons, mergeF_length L (y :: R)]; simp; omega
theorem mergeF_split : ∀ (L1 R1 L2 R2 : List Tm), (∀ l ∈ L1, ∀ r ∈ R2, leT l r) → (∀ r ∈ R1, ∀ l ∈ L2, ordT r l < 0) → mergeF (L1 ++ L2) (R1 ++ R2) = mergeF L1 R1 ++ mergeF L2 R2
  | [], [], L2, R2, _, _ => rfl
  | [], y :: R1, [], R2, _, _ => rfl
  | [], y :: R1, l :: L2, R2, h1, h2 => by
    have h : ordT y l < 0 := h2 y (by simp) l (by simp)
    have ih := mergeF_split [] R1 (l :: L2) R2 (by simp) (fun r hr k hk => h2 r (by simp [hr]) k hk)
    simp only [List.nil_append, List.cons_append] at ih ⊢
    rw [mergeF_cons, if_pos h, ih]
    rfl
  | x :: L1, [], L2, [], h1, _ => by simp [mergeF_nil]
  | x :: L1, [], L2, r :: R2, h1, h2 => by
    have h : ¬ ordT r x < 0 := h1 x (by simp) r (by simp)
    have ih := mergeF_split L1 [] L2 (r :: R2) (fun l hl k hk => h1 l (by simp [hl]) k hk) (by simp)
    simp only [List.nil_append, List.cons_append] at ih ⊢
    rw [mergeF_cons, if_neg h, ih, mergeF_nil, mergeF_nil]
    rfl
  | x :: L1, y :: R1, L2, R2, h1, h2 => by
    simp only [List.cons_append]
    rw [mergeF_cons, mergeF_cons]
    split
    · have ih := mergeF_split (x :: L1) R1 L2 R2 h1 (fun r hr k hk => h2 r (by simp [hr]) k hk)
      rw [List.cons_append] at ih
      rw [ih]; rfl
    · have ih := mergeF_split L1 (y :: R1) L2 R2 (fun l hl k hk => h1 l (by simp [hl]) k hk) h2
      rw [List.cons_append] at ih
      rw [ih]; rfl

/-! ### one term put in from behind -/
theorem insB_split {P1 P2 : List Tm} {t : Tm} (h1 : ∀ x ∈ P1, leT x t) (h2 : ∀ x ∈ P2, ordT t x < 0) : insB (P1 ++ P2) t = P1 ++ t :: P2 := by
  have key : ∀ (n : Nat) (P2 : List Tm), P2.length = n → (∀ x ∈ P2, ordT t x < 0) → insB (P1 ++ P2) t = P1 ++ t :: P2 := by
    intro n
    induction n with
    | zero =>
      intro P2 hn _
      have : P2 = [] := List.length_eq_zero_iff.1 hn
      subst this
      rcases List.eq_nil_or_concat P1 with rfl | ⟨Q, x, hQ⟩
      · rfl
      · rw [List.concat_eq_append] at hQ
        subst hQ
        rw [List.append_nil, insB_ge (h1 x (by simp))]
        simp
    | succ n ih =>
      intro P2 hn h
      rcases List.eq_nil_or_concat P2 with rfl | ⟨Q, x, hQ⟩
      · simp at hn
      · rw [List.concat_eq_append] at hQ
        subst hQ
        rw [← List.append_assoc, insB_lt (h x (by simp)), ih Q (by simp at hn; omega) (fun y hy => h y (by simp [hy]))]
        simp
  exact key _ P2 rfl h2
theorem ws_split (t : Tm) : ∀ {l : List Tm}, WS l → ∃ l1 l2, l = l1 ++ l2 ∧ (∀ x ∈ l1, leT x t) ∧ (∀ x ∈ l2, ordT t x < 0)
  | [], _ => ⟨[], [], rfl, by simp, by simp⟩
  | x :: l, h => by
    obtain ⟨h1, h2⟩ := List.pairwise_cons.1 h
    by_cases hx : ordT t x < 0
    · refine ⟨[], x :: l, rfl, by simp, fun y hy => ?_⟩
      rcases List.mem_cons.1 hy with rfl | hy
      · exact hx
      · exact lt_le_trans hx (h1 y hy)
    · obtain ⟨l1, l2, rfl, g1, g2⟩ := ws_split t h2
      refine ⟨x :: l1, l2, rfl, fun y hy => ?_, g2⟩
      rcases List.mem_cons.1 hy with rfl | hy
      · exact hx
      · exact g1 y hy
theorem ws_insB {l : List Tm} (t : Tm) (h : WS l) : WS (insB l t) := by
  obtain ⟨l1, l2, rfl, g1, g2⟩ := ws_split t h
  rw [insB_split g1 g2]
  obtain ⟨k1, k2, k3⟩ := List.pairwise_append.1 h
  refine List.pairwise_append.2 ⟨k1, List.pairwise_cons.2 ⟨fun x hx => lt_le (g2 x hx), k2⟩, fun a ha b hb => ?_⟩
  rcases List.mem_cons.1 hb with rfl | hb
  · exact g1 a ha
  · exact k3 a ha b hb
theorem mem_insB {t x : Tm} {l : List Tm} : x ∈ insB l t ↔ x ∈ l ∨ x = t := by
  have : ∀ m : List Tm, x ∈ insRev t m ↔ x ∈ m ∨ x = t := by
    intro m
    induction m with
    | nil => simp [insRev]
    | cons y m ih =>
      unfold insRev
      split
      · rw [List.mem_cons, ih, List.mem_cons]
        constructor
        · rintro (h | h | h)
          · exact .inl (.inl h)
          · exact .inl (.inr h)
          · exact .inr h
        · rintro ((h | h) | h)
          · exact .inl h
          · exact .inr (.inl h)
          · exact .inr (.inr h)
      · rw [List.mem_cons]
        constructor
        · rintro (h | h)
          · exact .inr h
          · exact .inl h
        · rintro (h | h)
          · exact .inr h
          · exact .inl h
  unfold insB
  rw [List.mem_reverse, this, List.mem_reverse]
theorem insB_merge {L R : List Tm} (t : Tm) (hL : WS L) (hR : WS R) : insB (mergeF L R) t = mergeF L (insB R t) := by
  obtain ⟨L1, L2, rfl, a1, a2⟩ := ws_split t hL
  obtain ⟨R1, R2, rfl, b1, b2⟩ := ws_split t hR
  have s1 : ∀ l ∈ L1, ∀ r ∈ R2, leT l r := fun l hl r hr => leT_trans (a1 l hl) (lt_le (b2 r hr))
  have s2 : ∀ r ∈ R1, ∀ l ∈ L2, ordT r l < 0 := fun r hr l hl => le_lt_trans (b1 r hr) (a2 l hl)
  rw [mergeF_split _ _ _ _ s1 s2, insB_split b1 b2]
  have e : R1 ++ t :: R2 = (R1 ++ [t]) ++ R2 := by simp
  rw [e, mergeF_split _ _ _ _ s1 (fun r hr l hl => by
    rcases List.mem_append.1 hr with hr | hr
    · exact s2 r hr l hl
    · rw [List.mem_singleton.1 hr]; exact a2 l hl)]
  have e2 : mergeF L1 (R1 ++ [t]) = mergeF L1 R1 ++ [t] := by
    have := mergeF_split L1 R1 [] [t] (fun l hl r hr => by rw [List.mem_singleton.1 hr]; exact a1 l hl) (by simp)
    rw [List.append_nil] at this
    rw [this]
    rfl
  rw [e2, insB_split]
  · simp
  · intro x hx
    rcases mem_mergeF.1 hx with hx | hx
    · exact a1 x hx
    · exact b1 x hx
  · intro x hx
    rcases mem_mergeF.1 hx with hx | hx
    · exact a2 x hx
    · exact b2 x hx

/-! ### insertion sort -/
theorem isortF_append : ∀ (l m P : List Tm), isortF P (l ++ m) = isortF (isortF P l) m
  | [], m, P => rfl
  | t :: l, m, P => by rw [List.cons_append, isortF, isortF, isortF_append l]
theorem isortF_snoc (l P : List Tm) (t : Tm) : isortF P (l ++ [t]) = insB (isortF P l) t := by rw [isortF_append]; rfl
theorem ws_isortF : ∀ {l P : List Tm}, WS P → WS (isortF P l)
  | [], P, h => h
  | t :: l, P, h => by rw [isortF]; exact ws_isortF (ws_insB t h)
theorem ws_isort (l : List Tm) : WS (isortF [] l) := ws_isortF List.Pairwise.nil
theorem mem_isortF {x : Tm} : ∀ {l P : List Tm}, x ∈ isortF P l ↔ x ∈ P ∨ x ∈ l
  | [], P => by simp [isortF]
  | t :: l, P => by
    rw [isortF, mem_isortF, mem_insB, List.mem_cons]
    constructor
    · rintro ((h | h) | h)
      · exact .inl h
      · exact .inr (.inl h)
      · exact .inr (.inr h)
    · rintro (h | h | h)
      · exact .inl (.inl h)
      · exact .inl (.inr h)
      · exact .inr h
theorem isortF_merge {S : List Tm} (hS : WS S) (B : List Tm) : isortF S B = mergeF S (isortF [] B) := by
  have key : ∀ (n : Nat) (B : List Tm), B.length = n → isortF S B = mergeF S (isortF [] B) := by
    intro n
    induction n with
    | zero =>
      intro B hn
      have : B = [] := List.length_eq_zero_iff.1 hn
      subst this
      rw [isortF, isortF, mergeF_nil]
    | succ n ih =>
      intro B hn
      rcases List.eq_nil_or_concat B with rfl | ⟨Q, x, hQ⟩
      · simp at hn
      · rw [List.concat_eq_append] at hQ
        subst hQ
        rw [isortF_snoc, isortF_snoc, ih Q (by simp at hn; omega), insB_merge x hS (ws_isort Q)]
  exact key _ B rfl
theorem merge_isort (A B : List Tm) : mergeF (isortF [] A) (isortF [] B) = isortF [] (A ++ B) := by
  rw [isortF_append, isortF_merge (ws_isort A)]
theorem isort_length (l : List Tm) : (isortF [] l).length = l.length := by rw [isortF_length]; simp

/-! ### blocks in order -/
inductive Blk (bs : Nat) : List Tm → List Tm → Prop
  | last {l : List Tm} : l.length < bs → Blk bs l (isortF [] l)
  | step {l1 l2 d2 : List Tm} : l1.length = bs → Blk bs l2 d2 → Blk bs (l1 ++ l2) (isortF [] l1 ++ d2)
theorem Blk.len {bs : Nat} {l d : List Tm} (h : Blk bs l d) : d.length = l.length := by
  induction h with
  | last h => exact isort_length _
  | step h _ ih => rw [List.length_append, List.length_append, isort_length, ih]
theorem Blk.short {bs : Nat} {l d : List Tm} (h : Blk bs l d) (hl : l.length < bs) : d = isortF [] l := by
  cases h with
  | last _ => rfl
  | step h1 h2 => rw [List.length_append] at hl; omega
theorem Blk.cut {bs : Nat} {l d : List Tm} (h : Blk bs l d) (hl : bs ≤ l.length) : ∃ l1 l2 d2, l = l1 ++ l2 ∧ d = isortF [] l1 ++ d2 ∧ l1.length = bs ∧ Blk bs l2 d2 := by
  cases h with
  | last h => omega
  | step h1 h2 => exact ⟨_, _, _, rfl, rfl, h1, h2⟩
theorem Blk.done {bs : Nat} {l d : List Tm} (h : Blk bs l d) (h0 : 0 < bs) (hl : l.length ≤ bs) : d = isortF [] l := by
  by_cases he : l.length < bs
  · exact h.short he
  · obtain ⟨l1, l2, d2, rfl, rfl, h1, h2⟩ := h.cut (by omega)
    have : l2 = [] := by rw [List.length_append] at hl he; exact List.length_eq_zero_iff.1 (by omega)
    subst this
    rw [h2.short (by simpa using h0)]
    simp [isortF]
end Go.Proofs.Ytaimceodhhgnnaa

/- Sorting of terms, part 1 of the walk of merging in place: ranges swapped and turned; no condition beyond stated lengths. -/
namespace Go.Proofs.Ytaimceodhhgnnaa
open Go.Ab
set_option linter.unusedSimpArgs false
set_option linter.unusedVariables false

theorem subN {i j : Nat} (h : j ≤ i) (hi : i < 9000000000000000000) : IntKind.i64.wrap ((i : Int) - (j : Int)) = ((i - j : Nat) : Int) := by rw [IntKind.wrap_i64]; omega
theorem sub1N {i : Nat} (h : 1 ≤ i) (hi : i < 9000000000000000000) : IntKind.i64.wrap ((i : Int) - 1) = ((i - 1 : Nat) : Int) := by rw [IntKind.wrap_i64]; omega

theorem get_mid {A B : List Tm} {x : Tm} {i : Nat} (h : i = A.length) (hlt : i < (A ++ x :: B).length) : (A ++ x :: B)[i]'hlt = x := by
  subst h
  rw [List.getElem_append_right (by omega)]
  simp
/-- two terms in each other's place -/
theorem VecT.swap2 {lim : Nat} {H : AHeap} {blk : Nat} {v : Value} {A B C : List Tm} {x y : Tm} (h : VecT H blk v (A ++ x :: (B ++ y :: C))) (hl : lim ≤ blk) :
    (iadV 4 v (.int .i64 (A.length : Nat)) = some (.pointer (some ⟨blk, A.length * 4, none⟩)) ∧ At H blk (A.length * 4) x) ∧
    (iadV 4 v (.int .i64 (A.length + 1 + B.length : Nat)) = some (.pointer (some ⟨blk, (A.length + 1 + B.length) * 4, none⟩)) ∧ At H blk ((A.length + 1 + B.length) * 4) y) ∧
    ∃ H1 H2, storeH lim H 4 (.pointer (some ⟨blk, A.length * 4, none⟩)) (tv y) = some (undef, H1) ∧ storeH lim H1 4 (.pointer (some ⟨blk, (A.length + 1 + B.length) * 4, none⟩)) (tv x) = some (undef, H2) ∧
      VecT H2 blk v (A ++ y :: (B ++ x :: C)) ∧ Chg blk H H2 ∧ H2.next = H.next := by
  have e : A ++ x :: (B ++ y :: C) = (A ++ x :: B) ++ y :: C := by simp
  have hlen : (A ++ x :: B).length = A.length + 1 + B.length := by simp; omega
  obtain ⟨j1, a1⟩ := VecT.at h (i := A.length) (by simp)
  rw [get_mid rfl] at a1
  obtain ⟨j2, a2⟩ := VecT.at (show VecT H blk v ((A ++ x :: B) ++ y :: C) by rw [← e]; exact h) (i := A.length + 1 + B.length) (by simp; omega)
  rw [get_mid hlen.symm] at a2
  obtain ⟨cs1, h1, g1⟩ := VecT.putT (lim := lim) h hl (i := A.length) (by simp) y
  have e1 : (A ++ x :: (B ++ y :: C)).set A.length y = (A ++ y :: B) ++ y :: C := by
    rw [List.set_append_right _ _ (by omega), Nat.sub_self]
    simp
  rw [e1] at g1
  obtain ⟨cs2, h2, g2⟩ := VecT.putT (lim := lim) g1 hl (i := A.length + 1 + B.length) (by simp; omega) x
  have hlen2 : (A ++ y :: B).length = A.length + 1 + B.length := by simp; omega
  have e2 : ((A ++ y :: B) ++ y :: C).set (A.length + 1 + B.length) x = A ++ y :: (B ++ x :: C) := by
    rw [List.set_append_right _ _ (by omega), ← hlen2, Nat.sub_self]
    simp
  rw [e2] at g2
  exact ⟨⟨j1, a1⟩, ⟨j2, a2⟩, _, _, h1, h2, g2, (Chg.put blk H cs1).trans (Chg.put blk _ cs2), rfl⟩

theorem swapRange_ok (lim : Nat) (s : Value) (blk : Nat) (A X M Y B : List Tm) (H : AHeap) (hs : VecT H blk s (A ++ X ++ M ++ Y ++ B)) (hl : lim ≤ blk) (hXY : Y.length = X.length) (hn : A.length + X.length + M.length + Y.length ≤ 100000) {a b n : Int}
    (ha : a = (A.length : Int)) (hb : b = ((A.length + X.length + M.length : Nat) : Int)) (hnn : n = (X.length : Int)) :
    ACalls Try.prog lim n_slices_swapRangeCmpFunc_impl_Term [s, .int .i64 a, .int .i64 b, .int .i64 n, cmpF] H fun v H' => VecT H' blk s (A ++ Y ++ M ++ X ++ B) ∧ Chg blk H H' := by
  subst ha hb hnn
  refine is_slices_swapRangeCmpFunc_impl_Term.go rfl ?_
  unfold c_slices_swapRangeCmpFunc_impl_Term
  refine s_reg ?_
  simp only [o_pure, o_nil, POp.ev, Opd.ev, env0, gu, setD, List.set, Option.some.injEq, exists_eq_left']
  refine s_block1 ?_
  refine s_loop1 (fun k e' H' => ∃ (X1 X2 Y1 Y2 : List Tm), X = X1 ++ X2 ∧ Y = Y1 ++ Y2 ∧ Y1.length = X1.length ∧ X2.length = k ∧ VecT H' blk s (A ++ Y1 ++ X2 ++ M ++ X1 ++ Y2 ++ B) ∧ Chg blk H H' ∧
    e' = [s, .int .i64 A.length, .int .i64 ((A.length + X.length + M.length : Nat) : Int), .int .i64 X.length, .int .i64 X1.length]) X.length ⟨[], X, [], Y, rfl, rfl, rfl, rfl, by simpa using hs, Chg.refl _ _, rfl⟩ ?_
  rintro k e' H' ⟨X1, X2, Y1, Y2, rfl, rfl, hl1, hk, hv, hc, rfl⟩
  have hl2 : Y2.length = X2.length := by simp at hXY; omega
  simp only [List.length_append] at hn
  refine s_test ?_
  simp only [o_pure, o_nil, POp.ev, Opd.ev, gv, setD, Option.some.injEq, exists_eq_left', binV, ne_eq, not_true_eq_false, if_false]
  refine Test.split (fun hlt => ?_) (fun hlt => ?_)
  · have hlt' : X1.length < (X1 ++ X2).length := by simp at hlt ⊢; omega
    obtain ⟨x, X3, rfl⟩ : ∃ x X3, X2 = x :: X3 := by
      cases X2 with
      | nil => simp at hlt'
      | cons x X3 => exact ⟨x, X3, rfl⟩
    obtain ⟨y, Y3, rfl⟩ : ∃ y Y3, Y2 = y :: Y3 := by
      cases Y2 with
      | nil => simp at hl2
      | cons y Y3 => exact ⟨y, Y3, rfl⟩
    simp only [List.length_cons] at hk hl2 hn
    have e1 : A ++ Y1 ++ x :: X3 ++ M ++ X1 ++ y :: Y3 ++ B = (A ++ Y1) ++ x :: ((X3 ++ M ++ X1) ++ y :: (Y3 ++ B)) := by simp
    rw [e1] at hv
    obtain ⟨⟨j1, a1⟩, ⟨j2, a2⟩, H1, H2, t1, t2, hv2, hc2, hn2⟩ := VecT.swap2 (lim := lim) hv hl
    have i1 : (A ++ Y1).length = A.length + X1.length := by simp; omega
    have i2 : A.length + X1.length + 1 + (X3 ++ M ++ X1).length = A.length + (X1 ++ x :: X3).length + M.length + X1.length := by simp; omega
    rw [i1] at j1 a1 t1 j2 a2 t2
    rw [i2] at j2 a2 t2
    have w1 := addN (i := A.length) (j := X1.length) (by omega)
    have w2 := addN (i := A.length + (X1 ++ x :: X3).length + M.length) (j := X1.length) (by simp; omega)
    refine s_skip1 ?_
    simp +decide only [p_seq_normal]
    refine s_block ?_
    refine s_reg1 ?_
    simp only [o_pure, o_eff, o_nil, POp.ev, Opd.ev, EOp.ev, gv, setD, Option.some.injEq, exists_eq_left', binV, ne_eq, not_true_eq_false, if_false, w1, w2, j1, a1.all, j2, a2.all, t1, t2]
    simp +decide only [p_seq_normal, p_block_normal]
    refine s_reg1 ?_
    simp only [o_pure, o_nil, POp.ev, Opd.ev, gv, setD, List.set, Option.some.injEq, exists_eq_left', binV, ne_eq, not_true_eq_false, if_false, add1 (i := X1.length) (by omega)]
    simp +decide only [p_seq_normal]
    refine Round.mk (k - 1) (by omega) ⟨X1 ++ [x], X3, Y1 ++ [y], Y3, by simp, by simp, by simp; omega, by omega, ?_, hc.trans hc2, by simp⟩
    have e2 : A ++ (Y1 ++ [y]) ++ X3 ++ M ++ (X1 ++ [x]) ++ Y3 ++ B = (A ++ Y1) ++ y :: ((X3 ++ M ++ X1) ++ x :: (Y3 ++ B)) := by simp
    rw [e2]
    exact hv2
  · have hge : X2.length = 0 := by simp at hlt; omega
    have h2 : X2 = [] := List.length_eq_zero_iff.1 hge
    subst h2
    have h3 : Y2 = [] := List.length_eq_zero_iff.1 (by simpa using hl2)
    subst h3
    refine s_exit1 ?_
    simp +decide only [p_seq_exit, p_block_exit, p_fin_normal, reduceIte, resV, resL, Option.some.injEq, exists_eq_left', Option.map_some]
    exact ⟨by simpa using hv, hc⟩

theorem rotate_ok (lim : Nat) (s : Value) (blk : Nat) (A U V B : List Tm) (H : AHeap) (hs : VecT H blk s (A ++ U ++ V ++ B)) (hl : lim ≤ blk) (hn : A.length + U.length + V.length ≤ 100000) (hU : U ≠ []) (hV : V ≠ []) {a m b : Int}
    (ha : a = (A.length : Int)) (hm : m = ((A.length + U.length : Nat) : Int)) (hb : b = ((A.length + U.length + V.length : Nat) : Int)) :
    ACalls Try.prog lim n_slices_rotateCmpFunc_impl_Term [s, .int .i64 a, .int .i64 m, .int .i64 b, cmpF] H fun v H' => VecT H' blk s (A ++ V ++ U ++ B) ∧ Chg blk H H' := by
  subst ha hm hb
  refine is_slices_rotateCmpFunc_impl_Term.go rfl ?_
  unfold c_slices_rotateCmpFunc_impl_Term
  have w0 : IntKind.i64.wrap (((A.length + U.length : Nat) : Int) - (A.length : Int)) = (U.length : Int) := by rw [subN (by omega) (by omega)]; omega
  have w1 : IntKind.i64.wrap (((A.length + U.length + V.length : Nat) : Int) - ((A.length + U.length : Nat) : Int)) = (V.length : Int) := by rw [subN (by omega) (by omega)]; omega
  refine s_reg ?_
  simp only [o_pure, o_nil, POp.ev, Opd.ev, env0, gu, gv, setD, List.set, Option.some.injEq, exists_eq_left', binV, ne_eq, not_true_eq_false, if_false, w0]
  refine s_reg ?_
  simp only [o_pure, o_nil, POp.ev, Opd.ev, gv, setD, List.set, Option.some.injEq, exists_eq_left', binV, ne_eq, not_true_eq_false, if_false, w1]
  refine s_block ?_
  refine s_loop1 (fun k e' H' => ∃ (A' U' V' B' : List Tm), A' ++ V' ++ U' ++ B' = A ++ V ++ U ++ B ∧ A'.length + U'.length = A.length + U.length ∧ A'.length + U'.length + V'.length ≤ 100000 ∧ U' ≠ [] ∧ V' ≠ [] ∧ U'.length + V'.length = k ∧ VecT H' blk s (A' ++ U' ++ V' ++ B') ∧ Chg blk H H' ∧
    e' = [s, .int .i64 A.length, .int .i64 ((A.length + U.length : Nat) : Int), .int .i64 ((A.length + U.length + V.length : Nat) : Int), cmpF, .int .i64 U'.length, .int .i64 V'.length]) (U.length + V.length) ⟨A, U, V, B, rfl, rfl, by omega, hU, hV, rfl, hs, Chg.refl _ _, rfl⟩ ?_
  rintro k e' H' ⟨A', U', V', B', heq, hpos, hn', hU', hV', hk, hv, hc, rfl⟩
  have hu0 : 0 < U'.length := List.length_pos_iff.2 hU'
  have hv0 : 0 < V'.length := List.length_pos_iff.2 hV'
  have wA : IntKind.i64.wrap (((A.length + U.length : Nat) : Int) - (U'.length : Int)) = (A'.length : Int) := by rw [subN (by omega) (by omega)]; omega
  refine s_test ?_
  simp only [o_pure, o_nil, POp.ev, Opd.ev, gv, setD, Option.some.injEq, exists_eq_left', binV, ne_eq, not_true_eq_false, if_false]
  refine Test.split (fun hne => ?_) (fun hne => ?_)
  · have hne' : U'.length ≠ V'.length := by simp at hne; omega
    refine s_skip1 ?_
    simp +decide only [p_seq_normal]
    refine s_block1 ?_
    refine s_test1 ?_
    simp only [o_pure, o_nil, POp.ev, Opd.ev, gv, setD, Option.some.injEq, exists_eq_left', binV, ne_eq, not_true_eq_false, if_false]
    refine Test.split (fun hgt => ?_) (fun hgt => ?_)
    · have hgt' : V'.length < U'.length := by simp at hgt; omega
      obtain ⟨U1, U2, rfl, hU1⟩ : ∃ U1 U2, U' = U1 ++ U2 ∧ U1.length = V'.length := ⟨U'.take V'.length, U'.drop V'.length, (List.take_append_drop _ _).symm, by simp; omega⟩
      refine s_reg ?_
      simp only [o_pure, o_callF, POp.ev, Opd.ev, gv, setD, List.map, Option.some.injEq, exists_eq_left', binV, ne_eq, not_true_eq_false, if_false, wA]
      simp only [List.length_append] at hn' hpos hk hgt'
      have hcall := swapRange_ok lim s blk A' U1 U2 V' B' H' (by simpa using hv) hl (by omega) (by omega) (a := A'.length) (b := ((A.length + U.length : Nat) : Int)) (n := (V'.length : Int)) rfl (by omega) (by omega)
      refine hcall.mono ?_
      rintro _ H2 ⟨hv2, hc2⟩
      simp only [o_cont, o_nil, setD]
      refine s_reg1 ?_
      have w2 : IntKind.i64.wrap (((U1 ++ U2).length : Int) - (V'.length : Int)) = (U2.length : Int) := by rw [subN (by simp; omega) (by simp; omega)]; simp; omega
      simp only [o_pure, o_nil, POp.ev, Opd.ev, gv, setD, List.set, Option.some.injEq, exists_eq_left', binV, ne_eq, not_true_eq_false, if_false, w2]
      simp +decide only [p_seq_normal, p_block_normal]
      refine Round.mk (U2.length + U1.length) (by omega) ⟨A' ++ V', U2, U1, B', ?_, by simp; omega, by simp; omega, ?_, ?_, rfl, by simpa using hv2, hc.trans hc2, by rw [hU1]⟩
      · rw [← heq]; simp
      · intro h; rw [h] at hgt'; simp at hgt'; omega
      · intro h; rw [h] at hU1; simp at hU1; omega
    · have hgt' : U'.length < V'.length := by simp at hgt; omega
      obtain ⟨V1, V2, rfl, hV1⟩ : ∃ V1 V2, V' = V1 ++ V2 ∧ V2.length = U'.length := ⟨V'.take (V'.length - U'.length), V'.drop (V'.length - U'.length), (List.take_append_drop _ _).symm, by simp; omega⟩
      simp only [List.length_append] at hn' hpos hk hgt'
      have w2 : IntKind.i64.wrap (((A.length + U.length : Nat) : Int) + ((V1 ++ V2).length : Int)) = ((A.length + U.length + (V1 ++ V2).length : Nat) : Int) := addN (by simp; omega)
      have w3 : IntKind.i64.wrap (((A.length + U.length + (V1 ++ V2).length : Nat) : Int) - (U'.length : Int)) = ((A'.length + U'.length + V1.length : Nat) : Int) := by rw [subN (by omega) (by simp; omega)]; simp; omega
      refine s_reg ?_
      simp only [o_pure, o_callF, POp.ev, Opd.ev, gv, setD, List.map, Option.some.injEq, exists_eq_left', binV, ne_eq, not_true_eq_false, if_false, wA, w2, w3]
      have hcall := swapRange_ok lim s blk A' U' V1 V2 B' H' (by simpa using hv) hl (by omega) (by omega) (a := A'.length) (b := ((A'.length + U'.length + V1.length : Nat) : Int)) (n := (U'.length : Int)) rfl rfl rfl
      refine hcall.mono ?_
      rintro _ H2 ⟨hv2, hc2⟩
      simp only [o_cont, o_nil, setD]
      refine s_reg1 ?_
      have w4 : IntKind.i64.wrap (((V1 ++ V2).length : Int) - (U'.length : Int)) = (V1.length : Int) := by rw [subN (by simp; omega) (by simp; omega)]; simp; omega
      simp only [o_pure, o_nil, POp.ev, Opd.ev, gv, setD, List.set, Option.some.injEq, exists_eq_left', binV, ne_eq, not_true_eq_false, if_false, w4]
      simp +decide only [p_seq_normal, p_block_normal]
      refine Round.mk (V2.length + V1.length) (by omega) ⟨A', V2, V1, U' ++ B', ?_, by omega, by omega, ?_, ?_, rfl, by simpa using hv2, hc.trans hc2, by rw [hV1]⟩
      · rw [← heq]; simp
      · intro h; rw [h] at hV1; simp at hV1; omega
      · intro h; rw [h] at hgt'; simp at hgt'; omega
  · have heq' : U'.length = V'.length := by simp at hne; omega
    refine s_exit1 ?_
    simp +decide only [p_seq_normal, p_seq_exit, p_block_exit, reduceIte]
    refine s_reg1 ?_
    simp only [o_pure, o_callF, POp.ev, Opd.ev, gv, setD, List.map, Option.some.injEq, exists_eq_left', binV, ne_eq, not_true_eq_false, if_false, wA]
    have hcall := swapRange_ok lim s blk A' U' [] V' B' H' (by simpa using hv) hl (by omega) (by simp; omega) (a := A'.length) (b := ((A.length + U.length : Nat) : Int)) (n := (U'.length : Int)) rfl (by simp; omega) rfl
    refine hcall.mono ?_
    rintro _ H2 ⟨hv2, hc2⟩
    simp only [o_cont, o_nil, setD]
    simp +decide only [p_fin_normal, resV, resL, Option.some.injEq, exists_eq_left', Option.map_some]
    rw [← heq]
    exact ⟨by simpa using hv2, hc.trans hc2⟩
end Go.Proofs.Ytaimceodhhgnnaa
