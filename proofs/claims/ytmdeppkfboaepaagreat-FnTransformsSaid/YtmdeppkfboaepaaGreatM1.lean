/- Parts of the proof of a statement of this seat: contracts of functions that the law calls, or the law's own row; no condition. -/
import Derived.Test.YtmdeppkfboaepaaGreatAbVec
import Derived.Test.YtmdeppkfboaepaaGreatC
import Derived.Test.YtmdeppkfboaepaaGreatAbBase
import Derived.Test.YtmdeppkfboaepaaGreatAbOps
import Derived.Test.YtmdeppkfboaepaaGreatAbTr
import Derived.Test.YtmdeppkfboaepaaGreatAbEff
import Derived.Test.YtmdeppkfboaepaaGreatAbCode
import Derived.Test.YtmdeppkfboaepaaGreatAbDraw
import Derived.Test.YtmdeppkfboaepaaGreatAbFun
import Derived.Test.YtmdeppkfboaepaaGreatAbUse
import Derived.Test.YtmdeppkfboaepaaGreatAbStep
import Derived.Test.YtmdeppkfboaepaaGreatAbMore
import Derived.Test.YtmdeppkfboaepaaGreatAbArg
/- Plain laws for families of polynomials: values, normal forms of dyadic numbers, products of coefficient lists; no condition. -/
namespace Go.Proofs.YtmdeppkfboaepaaGreat
set_option linter.unusedSimpArgs false
set_option linter.unusedVariables false
def hv (n b : Int) : List Int → Int
 | [] => 0
 | a :: p => a * b ^ p.length + n * hv n b p
def dnorm : Int → Nat → Int × Nat
 | n, 0 => (n, 0)
 | n, k + 1 => if n % 2 = 0 then dnorm (n / 2) k else (n, k + 1)
theorem dnorm_dbl (n : Int) (k : Nat) : dnorm (n * 2) (k + 1) = dnorm n k := by
 rw [dnorm, if_pos (by omega), show n * 2 / 2 = n by omega]
theorem dnorm_pow (n : Int) (k : Nat) : ∀ j : Nat, dnorm (n * 2 ^ j) (k + j) = dnorm n k
 | 0 => by simp
 | j + 1 => by rw [Int.pow_succ, ← Int.mul_assoc, ← Nat.add_assoc, dnorm_dbl, dnorm_pow n k j]
theorem dnorm_self {n : Int} {k : Nat} (h : k = 0 ∨ n % 2 = 1) : dnorm n k = (n, k) := by
 cases k with
 | zero => rfl
 | succ k => rw [dnorm, if_neg (by omega)]
theorem dnorm_up {n m : Int} {k d : Nat} (h : k ≤ d) (e : m = n * 2 ^ (d - k)) : dnorm m d = dnorm n k := by
 rw [e]
 have := dnorm_pow n k (d - k)
 rwa [show k + (d - k) = d by omega] at this
def convN (p q : List Int) : Nat → Nat → Int
 | 0, _ => 0
 | n + 1, m => convN p q n m + (if n ≤ m then p.getD n 0 * q.getD (m - n) 0 else 0)
def conv (p q : List Int) (m : Nat) : Int := convN p q p.length m
open Go.Ab
abbrev vi (n : Int) : Value := .int .i64 n
def roomN (n : Nat) : Nat := if n % 6 = 5 then 0 else if n % 3 = 0 then 1 else n
structure Tm where
 c : Int
 x : Int
 y : Int
 z : Int
 deriving DecidableEq
def tc (t : Tm) : List Value := [vi t.c, vi t.x, vi t.y, vi t.z]
def tv (t : Tm) : Value := .agg #[vi t.c, vi t.x, vi t.y, vi t.z]
theorem cells_tv (t : Tm) : cellsV (tv t) = some (tc t) := rfl
def tcs (l : List Tm) : List Value := l.flatMap tc
theorem tcs_cons (t : Tm) (l : List Tm) : tcs (t :: l) = tc t ++ tcs l := rfl
theorem tcs_append (l m : List Tm) : tcs (l ++ m) = tcs l ++ tcs m := by simp [tcs]
theorem tcs_length (l : List Tm) : (tcs l).length = l.length * 4 := by
 induction l with
 | nil => rfl
 | cons t l ih => rw [tcs_cons, List.length_append, ih, List.length_cons]; simp [tc]; omega
theorem tcs_at : ∀ {l : List Tm} {i : Nat} {t : Tm}, l[i]? = some t → ((tcs l).drop (i * 4)).take 4 = tc t
 | [], i, t, h => by simp at h
 | a :: l, 0, t, h => by
   simp only [xgz, xsj] at h
   subst h
   rw [tcs_cons]
   rfl
 | a :: l, i + 1, t, h => by
   have e : (tcs (a :: l)).drop ((i + 1) * 4) = (tcs l).drop (i * 4) := by
     rw [tcs_cons, List.drop_append, List.drop_of_length_le (by simp [tc]; omega), List.nil_append]
     congr 1
     simp [tc]; omega
   rw [e]
   exact tcs_at (by simpa using h)
theorem putL_shift (a l x : List Value) (o : Nat) : putL (a ++ l) (a.length + o) x = a ++ putL l o x := by
 simp only [putL, List.take_append, List.drop_append, List.append_assoc]
 rw [List.take_of_length_le (by omega), List.drop_of_length_le (by omega)]
 simp [Nat.add_sub_cancel_left, Nat.add_assoc]
theorem tcs_set : ∀ {l : List Tm} {i : Nat} (t : Tm), i < l.length → putL (tcs l) (i * 4) (tc t) = tcs (l.set i t)
 | [], i, t, h => by simp at h
 | a :: l, 0, t, h => by simp [putL, tcs_cons, tc]
 | a :: l, i + 1, t, h => by
   rw [List.set_cons_succ, tcs_cons, tcs_cons, show (i + 1) * 4 = (tc a).length + i * 4 by simp [tc]; omega, putL_shift, tcs_set t (by simpa using h)]
def Tm.upd (t : Tm) : Nat → Int → Tm
 | 0, v => { t with c := v }
 | 1, v => { t with x := v }
 | 2, v => { t with y := v }
 | _, v => { t with z := v }
theorem tcs_put : ∀ {l : List Tm} {i j : Nat} {t : Tm} (v : Int), l[i]? = some t → j < 4 → putL (tcs l) (i * 4 + j) [vi v] = tcs (l.set i (t.upd j v))
 | [], i, j, t, v, h, hj => by simp at h
 | a :: l, 0, j, t, v, h, hj => by
   simp only [xgz, xsj] at h
   subst h
   match j, hj with
   | 0, _ => simp [putL, tcs_cons, tc, Tm.upd]
   | 1, _ => simp [putL, tcs_cons, tc, Tm.upd]
   | 2, _ => simp [putL, tcs_cons, tc, Tm.upd]
   | 3, _ => simp [putL, tcs_cons, tc, Tm.upd]
 | a :: l, i + 1, j, t, v, h, hj => by
   rw [List.set_cons_succ, tcs_cons, tcs_cons, show (i + 1) * 4 + j = (tc a).length + (i * 4 + j) by simp [tc]; omega, putL_shift, tcs_put v (by simpa using h) hj]
abbrev SlT (H : AHeap) (v : Value) (l : List Tm) : Prop := Sl H v l.length 4 (tcs l)
abbrev VecT (H : AHeap) (b : Nat) (v : Value) (l : List Tm) : Prop := Vec H b v l.length 4 (tcs l)
structure At (H : AHeap) (b o : Nat) (t : Tm) : Prop where
 lt : b < H.next
 all : loadNV H 4 (.pointer (some ⟨b, o, none⟩)) = some (tv t)
 c : H.cell b o = some (vi t.c)
 x : H.cell b (o + 1) = some (vi t.x)
 y : H.cell b (o + 2) = some (vi t.y)
 z : H.cell b (o + 3) = some (vi t.z)
theorem At.of_load {H : AHeap} {b o : Nat} {t : Tm} (hb : b < H.next) (h : loadNH H b o 4 = some (tc t)) : At H b o t := by
 have hc : ∀ j, j < 4 → H.cell b (o + j) = (tc t)[j]? := by
   intro j hj
   unfold loadNH at h
   unfold AHeap.cell
   cases hbk : H.blk b with
   | none => rw [hbk] at h; cases h
   | some cs =>
     rw [hbk] at h
     simp only [Option.bind_some] at h ⊢
     split at h
     · simp only [xsj] at h
       have h4 := congrArg (fun z => z[j]?) h
       simp only [List.getElem?_take, List.getElem?_drop, if_pos hj] at h4
       exact h4
     · cases h
 exact ⟨hb, by simp only [loadNV, h, xms]; rfl, hc 0 (by omega), hc 1 (by omega), hc 2 (by omega), hc 3 (by omega)⟩
theorem SlT.at {H : AHeap} {s : Value} {l : List Tm} (h : SlT H s l) {i : Nat} (hi : i < l.length) : ∃ b o, iadV 4 s (.int .i64 i) = some (.pointer (some ⟨b, o, none⟩)) ∧ At H b o l[i] := by
 obtain ⟨b, o, h1, h2, h3⟩ := Sl.iad h .i64 (i := (i : Int)) (by omega) (by omega)
 have e : (i : Int).toNat = i := by omega
 rw [e, tcs_at (List.getElem?_eq_getElem hi)] at h3
 exact ⟨b, o, h1, At.of_load h2 h3⟩
theorem VecT.at {H : AHeap} {b : Nat} {v : Value} {l : List Tm} (h : VecT H b v l) {i : Nat} (hi : i < l.length) : iadV 4 v (.int .i64 i) = some (.pointer (some ⟨b, i * 4, none⟩)) ∧ At H b (i * 4) l[i] := by
 refine ⟨Vec.iad h .i64 hi, At.of_load ((h.blk (by omega)).elim fun _ h => h.2) ?_⟩
 have := h.loadN hi
 rw [tcs_at (List.getElem?_eq_getElem hi)] at this
 exact this
theorem VecT.putT {lim : Nat} {H : AHeap} {b : Nat} {v : Value} {l : List Tm} (h : VecT H b v l) (hl : lim ≤ b) {i : Nat} (hi : i < l.length) (t : Tm) :
   ∃ cs, storeH lim H 4 (.pointer (some ⟨b, i * 4, none⟩)) (tv t) = some (undef, H.put b cs) ∧ VecT (H.put b cs) b v (l.set i t) := by
 obtain ⟨cs, h1, h2⟩ := h.put (lim := lim) hl (cells_tv t) rfl (by simp [tc]) (o := i * 4) (by simp [tc]; omega)
 rw [tcs_set t hi] at h2
 exact ⟨cs, h1, by unfold VecT; rw [List.length_set]; exact h2⟩
theorem VecT.putf {lim : Nat} {H : AHeap} {b : Nat} {v : Value} {l : List Tm} (h : VecT H b v l) (hl : lim ≤ b) {i : Nat} {t : Tm} (hi : l[i]? = some t) (x : Int) {j : Nat} (hj : j < 4) :
   ∃ cs, storeH lim H 1 (.pointer (some ⟨b, i * 4 + j, none⟩)) (.int .i64 x) = some (undef, H.put b cs) ∧ VecT (H.put b cs) b v (l.set i (t.upd j x)) := by
 have hlt := (List.getElem?_eq_some_iff.1 hi).1
 obtain ⟨cs, h1, h2⟩ := h.put (lim := lim) hl (cells_int .i64 x) rfl (by simp) (o := i * 4 + j) (by simp; omega)
 rw [tcs_put x hi hj] at h2
 exact ⟨cs, h1, by unfold VecT; rw [List.length_set]; exact h2⟩
theorem load4 {b : Nat} {H : AHeap} {x y z u : Value} (h : H.blk b = some [x, y, z, u]) : loadNV H 4 (.pointer (some ⟨b, 0, none⟩)) = some (.agg #[x, y, z, u]) := loadNV_blk h
theorem store4 {lim b : Nat} {H : AHeap} {p q r s x y z u : Value} (hl : lim ≤ b) (h : H.blk b = some [p, q, r, s]) : storeH lim H 4 (.pointer (some ⟨b, 0, none⟩)) (.agg #[x, y, z, u]) = some (undef, H.put b [x, y, z, u]) :=
 store_all (xs := [x, y, z, u]) hl h rfl
def filT : Tm := ⟨-7000000000000000101, -7000000000000000101, -7000000000000000101, -7000000000000000101⟩
theorem SlT.ext {H H' : AHeap} {v : Value} {l : List Tm} (h : SlT H v l) (hx : Ext H H') : SlT H' v l := Sl.keep h (Keep.of_ext hx (Nat.le_refl _)) (Nat.le_refl _)
theorem VecT.ext {H H' : AHeap} {b : Nat} {v : Value} {l : List Tm} (h : VecT H b v l) (hx : Ext H H') : VecT H' b v l := Vec.ext h hx
theorem VecT.chg {H H' : AHeap} {b b' : Nat} {v : Value} {l : List Tm} (h : VecT H b v l) (hx : Chg b' H H') (hne : b ≠ b') : VecT H' b v l := Vec.chg h hx hne
def laidT (l : List Tm) : List Tm := l ++ List.replicate (roomN l.length) filT
theorem laidT_length (l : List Tm) : (laidT l).length = l.length + roomN l.length := by simp [laidT]
structure LaidT (H : AHeap) (b : Nat) (v : Value) (l : List Tm) : Prop where
 v : v = .slice (some ⟨b, 0, some 0⟩) l.length (l.length + roomN l.length)
 all : VecT H b (.slice (some ⟨b, 0, some 0⟩) (l.length + roomN l.length) (l.length + roomN l.length)) (laidT l)
theorem LaidT.lt {H : AHeap} {b : Nat} {v : Value} {l : List Tm} (h : LaidT H b v l) : b < H.next := by
 rcases h.all with ⟨h1, _⟩ | ⟨c, sp, rest, h1, h2, h3, _⟩
 · cases h1
 · exact h3
theorem LaidT.vec {H : AHeap} {b : Nat} {v : Value} {l : List Tm} (h : LaidT H b v l) : VecT H b v l := by
 obtain ⟨rfl, h⟩ := h
 rcases h with ⟨h1, _⟩ | ⟨c, sp, rest, h1, h2, h3, h4, h5, h6, h7⟩
 · cases h1
 · simp only [Value.slice.injEq, xsj, Addr.mk.injEq, true_and] at h1
   obtain ⟨rfl, h1l, rfl⟩ := h1
   have e := laidT_length l
   refine .inr ⟨_, _, tcs (List.replicate (roomN l.length) filT) ++ rest, rfl, .inl rfl, h3, ?_, tcs_length l, by omega, ?_⟩
   · rw [h4, laidT, tcs_append, List.append_assoc]
   · rw [List.length_append, tcs_length]
     simp; omega
theorem LaidT.ext {H H' : AHeap} {b : Nat} {v : Value} {l : List Tm} (h : LaidT H b v l) (hx : Ext H H') : LaidT H' b v l := ⟨h.v, VecT.ext h.all hx⟩
theorem LaidT.chg {H H' : AHeap} {b b' : Nat} {v : Value} {l : List Tm} (h : LaidT H b v l) (hx : Chg b' H H') (hne : b ≠ b') : LaidT H' b v l := ⟨h.v, VecT.chg h.all hx hne⟩
def CopyT (H : AHeap) (b : Nat) (v : Value) (l : List Tm) (bare : Bool) : Prop := (bare = true ∧ l = [] ∧ v = .slice none 0 0) ∨ LaidT H b v l
theorem CopyT.ext {H H' : AHeap} {b : Nat} {v : Value} {l : List Tm} {bare : Bool} (h : CopyT H b v l bare) (hx : Ext H H') : CopyT H' b v l bare := h.imp id fun h => h.ext hx
theorem CopyT.chg {H H' : AHeap} {b b' : Nat} {v : Value} {l : List Tm} {bare : Bool} (h : CopyT H b v l bare) (hx : Chg b' H H') (hne : b ≠ b') : CopyT H' b v l bare := h.imp id fun h => h.chg hx hne
theorem CopyT.vec {H : AHeap} {b : Nat} {v : Value} {l : List Tm} {bare : Bool} (h : CopyT H b v l bare) : VecT H b v l := by
 rcases h with ⟨_, rfl, rfl⟩ | h
 · exact Vec.nil _ _ _
 · exact h.vec
def mkT (k : Int) (n : Nat) : List Tm := (List.range n).map fun (i : Nat) => ⟨k + 4 * i, k + 4 * i + 1, k + 4 * i + 2, k + 4 * i + 3⟩
structure Out (lo hi : Nat) (H H' : AHeap) : Prop where
 next : H.next ≤ H'.next
 blk : ∀ b, b < H.next → (b < lo ∨ hi ≤ b) → H'.blk b = H.blk b
theorem Out.refl (lo hi : Nat) (H : AHeap) : Out lo hi H H := ⟨Nat.le_refl _, fun _ _ _ => rfl⟩
theorem Out.of_ext {lo hi : Nat} {H H' : AHeap} (h : Ext H H') : Out lo hi H H' := ⟨h.next, fun b hb _ => h.blk b hb⟩
theorem Out.trans {lo hi : Nat} {H H1 H2 : AHeap} (h : Out lo hi H H1) (k : Out lo hi H1 H2) : Out lo hi H H2 := ⟨Nat.le_trans h.next k.next, fun b hb hn => (k.blk b (Nat.lt_of_lt_of_le hb h.next) hn).trans (h.blk b hb hn)⟩
theorem Out.ext {lo hi : Nat} {H0 H H' : AHeap} (hx : Ext H0 H) (h : Out lo hi H H') (hl : H0.next ≤ lo) : Ext H0 H' :=
 ⟨Nat.le_trans hx.next h.next, fun b hb => (h.blk b (Nat.lt_of_lt_of_le hb hx.next) (by omega)).trans (hx.blk b hb)⟩
def SlSS (H : AHeap) (v : Value) (ss : List (List Tm)) : Prop := ∃ vs : List Value, Sl H v ss.length 1 vs ∧ ∀ (i : Nat) (p : List Tm), ss[i]? = some p → ∃ s, vs[i]? = some s ∧ SlT H s p
theorem SlSS.ext {H H' : AHeap} {v : Value} {ss : List (List Tm)} (h : SlSS H v ss) (hx : Ext H H') : SlSS H' v ss := by
 obtain ⟨vs, h1, h2⟩ := h
 refine ⟨vs, h1.keep (Keep.of_ext hx (Nat.le_refl _)) (Nat.le_refl _), fun i p hp => ?_⟩
 obtain ⟨s, g1, g2⟩ := h2 i p hp
 exact ⟨s, g1, g2.ext hx⟩
theorem SlSS.lenV {H : AHeap} {v : Value} {ss : List (List Tm)} (h : SlSS H v ss) : lenV v = some (.int .i64 ss.length) := by
 obtain ⟨vs, h1, _⟩ := h
 exact h1.lenV
theorem SlSS.at {H : AHeap} {v : Value} {ss : List (List Tm)} (h : SlSS H v ss) {i : Nat} (hi : i < ss.length) : ∃ b o s, iadV 1 v (.int .i64 i) = some (.pointer (some ⟨b, o, none⟩)) ∧ H.cell b o = some s ∧ SlT H s ss[i] := by
 obtain ⟨vs, h1, h2⟩ := h
 obtain ⟨b, o, g1, g2, g3⟩ := h1.cell .i64 (i := (i : Int)) (by omega) (by omega)
 obtain ⟨s, k1, k2⟩ := h2 i _ (List.getElem?_eq_getElem hi)
 rw [show (i : Int).toNat = i by omega, k1] at g3
 exact ⟨b, o, s, g1, g3, k2⟩
theorem SlSS.nil (H : AHeap) : SlSS H (.slice none 0 0) [] := ⟨[], Sl.nil _ _, by intro i p h; simp at h⟩
structure OwnX (H : AHeap) (lo hi b : Nat) (vs : List Value) (bs : List Nat) (v : Value) (ss : List (List Tm)) : Prop where
 vec : Vec H b v ss.length 1 vs
 len : bs.length = ss.length
 rng : lo ≤ b ∧ b < hi
 nodup : bs.Nodup
 nin : b ∉ bs
 rngs : ∀ c ∈ bs, lo ≤ c ∧ c < hi
 el : ∀ (i : Nat) (p : List Tm), ss[i]? = some p → ∃ s c, vs[i]? = some s ∧ bs[i]? = some c ∧ VecT H c s p
def OwnSS (H : AHeap) (lo hi : Nat) (v : Value) (ss : List (List Tm)) : Prop := (v = .slice none 0 0 ∧ ss = []) ∨ ∃ b vs bs, OwnX H lo hi b vs bs v ss
theorem OwnX.keep {H H' : AHeap} {lo hi b : Nat} {vs : List Value} {bs : List Nat} {v : Value} {ss : List (List Tm)} (h : OwnX H lo hi b vs bs v ss) (hn : H.next ≤ H'.next) (hb : ∀ c, c < H.next → lo ≤ c → c < hi → H'.blk c = H.blk c) : OwnX H' lo hi b vs bs v ss := by
 obtain ⟨h1, h2, h3, h4, h5, h6, h7⟩ := h
 refine ⟨h1.keep hn (fun hlt => hb b hlt h3.1 h3.2), h2, h3, h4, h5, h6, fun i p hp => ?_⟩
 obtain ⟨s, c, g1, g2, g3⟩ := h7 i p hp
 obtain ⟨k1, k2⟩ := h6 c (List.mem_of_getElem? g2)
 exact ⟨s, c, g1, g2, Vec.keep g3 hn (fun hlt => hb c hlt k1 k2)⟩
theorem OwnSS.keep {H H' : AHeap} {lo hi : Nat} {v : Value} {ss : List (List Tm)} (h : OwnSS H lo hi v ss) (hn : H.next ≤ H'.next) (hb : ∀ c, c < H.next → lo ≤ c → c < hi → H'.blk c = H.blk c) : OwnSS H' lo hi v ss := by
 rcases h with h | ⟨b, vs, bs, h⟩
 · exact .inl h
 · exact .inr ⟨b, vs, bs, h.keep hn hb⟩
theorem OwnSS.ext {H H' : AHeap} {lo hi : Nat} {v : Value} {ss : List (List Tm)} (h : OwnSS H lo hi v ss) (hx : Ext H H') : OwnSS H' lo hi v ss := h.keep hx.next fun c hc _ _ => hx.blk c hc
theorem OwnSS.out {H H' : AHeap} {lo hi lo' hi' : Nat} {v : Value} {ss : List (List Tm)} (h : OwnSS H lo hi v ss) (hx : Out lo' hi' H H') (hd : hi ≤ lo' ∨ hi' ≤ lo) : OwnSS H' lo hi v ss :=
 h.keep hx.next fun c hc h1 h2 => hx.blk c hc (by omega)
theorem OwnSS.slss {H : AHeap} {lo hi : Nat} {v : Value} {ss : List (List Tm)} (h : OwnSS H lo hi v ss) : SlSS H v ss := by
 rcases h with ⟨rfl, rfl⟩ | ⟨b, vs, bs, h1, h2, h3, h4, h5, h6, h7⟩
 · exact SlSS.nil _
 · refine ⟨vs, h1.sl, fun i p hp => ?_⟩
   obtain ⟨s, c, g1, g2, g3⟩ := h7 i p hp
   exact ⟨s, g1, Vec.sl g3⟩
theorem OwnSS.wide {H : AHeap} {lo hi lo' hi' : Nat} {v : Value} {ss : List (List Tm)} (h : OwnSS H lo hi v ss) (h1 : lo' ≤ lo) (h2 : hi ≤ hi') : OwnSS H lo' hi' v ss := by
 rcases h with h | ⟨b, vs, bs, g1, g2, g3, g4, g5, g6, g7⟩
 · exact .inl h
 · exact .inr ⟨b, vs, bs, g1, g2, by omega, g4, g5, fun c hc => by have := g6 c hc; omega, g7⟩
theorem OwnX.upd {H H' : AHeap} {lo hi b : Nat} {vs : List Value} {bs : List Nat} {v : Value} {ss : List (List Tm)} (h : OwnX H lo hi b vs bs v ss) {i c : Nat} {s : Value} {p : List Tm} (hlt : i < ss.length) (hs : vs[i]? = some s) (hc : bs[i]? = some c) (hx : Chg c H H') (hp : VecT H' c s p) :
   OwnX H' lo hi b vs bs v (ss.set i p) := by
 obtain ⟨h1, h2, h3, h4, h5, h6, h7⟩ := h
 have hcm := List.mem_of_getElem? hc
 refine ⟨by rw [List.length_set]; exact h1.chg hx (fun e => h5 (e ▸ hcm)), by rw [List.length_set]; exact h2, h3, h4, h5, h6, fun j q hq => ?_⟩
 by_cases hji : i = j
 · subst hji
   rw [List.getElem?_set_self hlt] at hq
   cases hq
   exact ⟨s, c, hs, hc, hp⟩
 · rw [List.getElem?_set_ne hji] at hq
   obtain ⟨s', c', g1, g2, g3⟩ := h7 j q hq
   refine ⟨s', c', g1, g2, VecT.chg g3 hx (fun e => ?_)⟩
   subst e
   obtain ⟨l1, e1⟩ := List.getElem?_eq_some_iff.1 hc
   obtain ⟨l2, e2⟩ := List.getElem?_eq_some_iff.1 g2
   exact hji ((List.getElem_inj h4).1 (e1.trans e2.symm))
def tot (ss : List (List Tm)) : Nat := (ss.map (·.length)).sum
theorem tot_append (a b : List (List Tm)) : tot (a ++ b) = tot a + tot b := by simp [tot]
theorem tot_take_succ {ss : List (List Tm)} {i : Nat} (h : i < ss.length) : tot (ss.take (i + 1)) = tot (ss.take i) + ss[i].length := by
 rw [List.take_add_one, List.getElem?_eq_getElem h, tot_append]
 simp [tot]
theorem tot_take_le (ss : List (List Tm)) (i : Nat) : tot (ss.take i) ≤ tot ss := by
 have := tot_append (ss.take i) (ss.drop i)
 rw [List.take_append_drop] at this
 omega
structure LaidX (H : AHeap) (lo hi b : Nat) (vs fs : List Value) (bs : List Nat) (v : Value) (ss : List (List Tm)) (bare : Bool) : Prop where
 v : v = .slice (some ⟨b, 0, some 0⟩) ss.length (ss.length + roomN ss.length)
 vec : Vec H b (.slice (some ⟨b, 0, some 0⟩) (ss.length + roomN ss.length) (ss.length + roomN ss.length)) (ss.length + roomN ss.length) 1 (vs ++ fs)
 vlen : vs.length = ss.length
 len : bs.length = ss.length
 rng : lo ≤ b ∧ b < hi
 nodup : bare = false → bs.Nodup
 nin : b ∉ bs
 rngs : bare = false → ∀ c ∈ bs, lo ≤ c ∧ c < hi
 el : ∀ (i : Nat) (p : List Tm), ss[i]? = some p → ∃ s c, vs[i]? = some s ∧ bs[i]? = some c ∧ CopyT H c s p bare
 fil : ∀ f ∈ fs, SlT H f [filT]
def LaidSS (H : AHeap) (lo hi : Nat) (v : Value) (ss : List (List Tm)) (bare : Bool) : Prop := (bare = true ∧ v = .slice none 0 0 ∧ ss = []) ∨ ∃ b vs fs bs, LaidX H lo hi b vs fs bs v ss bare
theorem LaidX.short {H : AHeap} {lo hi b : Nat} {vs fs : List Value} {bs : List Nat} {v : Value} {ss : List (List Tm)} {bare : Bool} (h : LaidX H lo hi b vs fs bs v ss bare) : Vec H b v ss.length 1 vs := by
 obtain ⟨rfl, hv, hl, _⟩ := h
 rcases hv with ⟨h1, _⟩ | ⟨c, sp, rest, h1, h2, h3, h4, h5, h6, h7⟩
 · cases h1
 · simp only [Value.slice.injEq, xsj, Addr.mk.injEq, true_and] at h1
   obtain ⟨rfl, rfl⟩ := h1
   exact .inr ⟨_, _, fs ++ rest, rfl, .inl rfl, h3, by rw [h4, List.append_assoc], by omega, by omega, by
     have e1 : (vs ++ fs).length = vs.length + fs.length := List.length_append
     rw [List.length_append]; omega⟩
theorem LaidX.slss {H : AHeap} {lo hi b : Nat} {vs fs : List Value} {bs : List Nat} {v : Value} {ss : List (List Tm)} {bare : Bool} (h : LaidX H lo hi b vs fs bs v ss bare) : SlSS H v ss := by
 refine ⟨vs, h.short.sl, fun i p hp => ?_⟩
 obtain ⟨s, c, g1, g2, g3⟩ := h.el i p hp
 exact ⟨s, g1, Vec.sl g3.vec⟩
theorem LaidX.own {H : AHeap} {lo hi b : Nat} {vs fs : List Value} {bs : List Nat} {v : Value} {ss : List (List Tm)} (h : LaidX H lo hi b vs fs bs v ss false) : OwnX H lo hi b vs bs v ss := by
 refine ⟨h.short, h.len, h.rng, h.nodup rfl, h.nin, h.rngs rfl, fun i p hp => ?_⟩
 obtain ⟨s, c, g1, g2, g3⟩ := h.el i p hp
 exact ⟨s, c, g1, g2, g3.vec⟩
theorem LaidX.ext {H H' : AHeap} {lo hi b : Nat} {vs fs : List Value} {bs : List Nat} {v : Value} {ss : List (List Tm)} {bare : Bool} (h : LaidX H lo hi b vs fs bs v ss bare) (hx : Ext H H') : LaidX H' lo hi b vs fs bs v ss bare := by
 refine ⟨h.v, h.vec.ext hx, h.vlen, h.len, h.rng, h.nodup, h.nin, h.rngs, fun i p hp => ?_, fun f hf => (h.fil f hf).ext hx⟩
 obtain ⟨s, c, g1, g2, g3⟩ := h.el i p hp
 exact ⟨s, c, g1, g2, g3.ext hx⟩
theorem LaidSS.slss {H : AHeap} {lo hi : Nat} {v : Value} {ss : List (List Tm)} {bare : Bool} (h : LaidSS H lo hi v ss bare) : SlSS H v ss := by
 rcases h with ⟨_, rfl, rfl⟩ | ⟨b, vs, fs, bs, h⟩
 · exact SlSS.nil _
 · exact h.slss
theorem LaidSS.ext {H H' : AHeap} {lo hi : Nat} {v : Value} {ss : List (List Tm)} {bare : Bool} (h : LaidSS H lo hi v ss bare) (hx : Ext H H') : LaidSS H' lo hi v ss bare := by
 rcases h with h | ⟨b, vs, fs, bs, h⟩
 · exact .inl h
 · exact .inr ⟨b, vs, fs, bs, h.ext hx⟩
theorem LaidSS.own {H : AHeap} {lo hi : Nat} {v : Value} {ss : List (List Tm)} (h : LaidSS H lo hi v ss false) : OwnSS H lo hi v ss := by
 rcases h with ⟨h, _⟩ | ⟨b, vs, fs, bs, h⟩
 · cases h
 · exact .inr ⟨b, vs, bs, h.own⟩
theorem bsliceT (H : AHeap) (t : Tm) : bsliceH H 1 [.int .i64 0, .int .i64 0, .int .i64 0, .int .i64 0] [(0, 4, tv t)] = some (.slice (some ⟨H.next, 0, some 0⟩) 1 1, H.alloc (tc t)) := by
 simp [bsliceH, fillV, cells_tv, tc]
theorem sl_one (H : AHeap) (t : Tm) : SlT (H.alloc (tc t)) (.slice (some ⟨H.next, 0, some 0⟩) 1 1) [t] := by
 have := Vec.lit (H := H) (n := 1) (sz := 4) (cells := tc t) rfl
 have h2 := Vec.sl this
 have e : tcs [t] = tc t := by simp [tcs]
 unfold SlT
 rw [e]
 exact h2
end Go.Proofs.YtmdeppkfboaepaaGreat
/- Systems of polynomials, part 5 of the walk: the specification's tests on terms, polynomials and systems; no condition beyond stated lengths. -/
namespace Go.Ab
theorem s_test1_I {P : Program} {lim : Nat} {Q : Post} {e : List Value} {H : AHeap} {ops : List AOper} (g : Bool) (I : AHeap → Prop) {o : Opd} {x y : ACode} (h : awpOps P lim ops (fun e' t' H' => o.ev e' t' = .bool g ∧ e' = e ∧ I H') e [] H)
   (h1 : ∀ H', I H' → g = true → awp P lim x Q e H') (h2 : ∀ H', I H' → g = false → awp P lim y Q e H') : awp P lim (.test ops o x y) Q e H := by
 refine s_test1 (awpOps.mono ?_ h)
 rintro e' t' H' ⟨h3, rfl, h4⟩
 rw [h3]
 exact Test.split (h1 H' h4) (h2 H' h4)
end Go.Ab
namespace Go.Proofs.YtmdeppkfboaepaaGreat
open Go.Ab
set_option linter.unusedSimpArgs false
set_option linter.unusedVariables false
theorem l1In_ok (lim : Nat) (a b c : Int) (H : AHeap) : ACalls Tryz.prog lim n_spec_l1In [.int .i64 a, .int .i64 b, .int .i64 c] H fun v H' => v = .bool (decide (b ≤ a) && decide (a ≤ c)) ∧ H' = H := by
 refine is_spec_l1In.go rfl ?_
 unfold c_spec_l1In
 refine s_reg ?_
 simp only [o_pure, o_nil, POp.ev, Opd.ev, env0, gu, setD, List.set, xsj, xel]
 refine s_reg ?_
 have e1 : (a ≥ b) = (b ≤ a) := rfl
 cases h1 : decide (b ≤ a)
 · simp only [o_pure, o_guard, gk_ft, o_nil, POp.ev, Opd.ev, gv, setD, List.set, xsj, xel, pickV, binV, ne_eq, xnt, if_false, e1, h1]
   refine s_ret1 ?_
   simp +decide only [pfr, resV, resOne, gv, xsj, xel]
   simp
 · simp only [o_pure, o_guard, gk_tt, o_nil, POp.ev, Opd.ev, gv, setD, List.set, xsj, xel, pickV, binV, ne_eq, xnt, if_false, e1, h1]
   refine s_ret1 ?_
   simp +decide only [pfr, resV, resOne, gv, xsj, xel]
   simp
structure BoxT (H H1 : AHeap) (p : Nat) (t : Tm) : Prop where
 ext : Ext H H1
 ge : H.next ≤ p
 lt : p < H1.next
 blk : H1.blk p = some (tc t)
theorem BoxT.mk' (H : AHeap) (t : Tm) : BoxT H (H.alloc (tc t)) H.next t := ⟨Ext.alloc _ _, Nat.le_refl _, Nat.lt_succ_self _, alloc_new _ _⟩
theorem BoxT.mono {H H1 H2 : AHeap} {p : Nat} {t : Tm} (h : BoxT H H1 p t) (hx : Ext H1 H2) : BoxT H H2 p t := ⟨h.ext.trans hx, h.ge, Nat.lt_of_lt_of_le h.lt hx.next, by rw [hx.blk _ h.lt]; exact h.blk⟩
theorem BoxT.c0 {H H1 : AHeap} {p : Nat} {t : Tm} (h : BoxT H H1 p t) : H1.cell p 0 = some (vi t.c) := cell_blk h.blk 0
theorem BoxT.c1 {H H1 : AHeap} {p : Nat} {t : Tm} (h : BoxT H H1 p t) : H1.cell p 1 = some (vi t.x) := cell_blk h.blk 1
theorem BoxT.c2 {H H1 : AHeap} {p : Nat} {t : Tm} (h : BoxT H H1 p t) : H1.cell p 2 = some (vi t.y) := cell_blk h.blk 2
theorem BoxT.c3 {H H1 : AHeap} {p : Nat} {t : Tm} (h : BoxT H H1 p t) : H1.cell p 3 = some (vi t.z) := cell_blk h.blk 3
theorem BoxT.all {H H1 : AHeap} {p : Nat} {t : Tm} (h : BoxT H H1 p t) : loadNV H1 4 (.pointer (some ⟨p, 0, none⟩)) = some (tv t) := load4 h.blk
theorem boxT (H : AHeap) (t : Tm) : boxH H (tv t) = some (.pointer (some ⟨H.next, 0, none⟩), H.alloc (tc t)) := rfl
theorem store4_new {lim : Nat} {H : AHeap} {p q r s : Value} {t : Tm} (hl : lim ≤ H.next) : storeH lim (H.alloc [p, q, r, s]) 4 (.pointer (some ⟨H.next, 0, none⟩)) (tv t) = some (undef, H.alloc (tc t)) := by
 unfold tv
 rw [store4 hl (alloc_new _ _), alloc_put]
 rfl
def okTm (t : Tm) : Bool := ((((decide (-1000 ≤ t.c) && decide (t.c ≤ 1000)) && (decide (0 ≤ t.x) && decide (t.x ≤ 4))) && (decide (0 ≤ t.y) && decide (t.y ≤ 4))) && (decide (0 ≤ t.z) && decide (t.z ≤ 4))) && decide (t.x + t.y + t.z ≤ 4)
theorem okTm_b {t : Tm} (h : okTm t = true) : -1000 ≤ t.c ∧ t.c ≤ 1000 ∧ 0 ≤ t.x ∧ t.x ≤ 4 ∧ 0 ≤ t.y ∧ t.y ≤ 4 ∧ 0 ≤ t.z ∧ t.z ≤ 4 := by
 simp only [okTm, Bool.and_eq_true, decide_eq_true_eq] at h
 omega
theorem poTerm_ok (lim : Nat) (t : Tm) (H : AHeap) : ACalls Tryz.prog lim n_spec_poTerm [tv t] H fun v H' => v = .bool (okTm t) ∧ Ext H H' := by
 refine is_spec_poTerm.go rfl ?_
 unfold c_spec_poTerm
 refine s_reg ?_
 simp only [o_pure, o_eff, o_nil, POp.ev, Opd.ev, EOp.ev, env0, gu, gv, setD, List.set, xsj, xel, boxT]
 have hB := BoxT.mk' H t
 generalize H.alloc (tc t) = H1 at hB ⊢
 generalize H.next = p at hB ⊢
 have hx := hB.ext
 refine s_reg ?_
 simp only [o_pure, o_callF, POp.ev, Opd.ev, gv, setD, List.map, xsj, xel, load1V, fadV, Nat.zero_add, hB.c0]
 refine (l1In_ok _ _ _ _ _).eq ?_
 unfold okTm
 cases h1 : decide (-1000 ≤ t.c) && decide (t.c ≤ 1000)
 · simp only [o_cont, o_pure, o_guard, gk_ft, o_nil, POp.ev, Opd.ev, gv, setD, List.set, xsj, xel, pickV]
   refine s_ret1 ?_
   simp +decide only [pfr, resV, resOne, gv, xsj, xel]
   exact ⟨by simp, hx⟩
 simp only [o_cont, o_pure, o_callF, o_guard, gk_tt, POp.ev, Opd.ev, gv, setD, List.map, xsj, xel, load1V, fadV, Nat.zero_add, hB.c1]
 refine (l1In_ok _ _ _ _ _).eq ?_
 cases h2 : decide (0 ≤ t.x) && decide (t.x ≤ 4)
 · simp only [o_cont, o_pure, o_guard, gk_ft, o_nil, POp.ev, Opd.ev, gv, setD, List.set, xsj, xel, pickV]
   refine s_ret1 ?_
   simp +decide only [pfr, resV, resOne, gv, xsj, xel]
   exact ⟨by simp, hx⟩
 simp only [o_cont, o_pure, o_callF, o_guard, gk_tt, POp.ev, Opd.ev, gv, setD, List.map, xsj, xel, pickV, load1V, fadV, Nat.zero_add, hB.c2]
 refine (l1In_ok _ _ _ _ _).eq ?_
 cases h3 : decide (0 ≤ t.y) && decide (t.y ≤ 4)
 · simp only [o_cont, o_pure, o_guard, gk_ft, o_nil, POp.ev, Opd.ev, gv, setD, List.set, xsj, xel, pickV]
   refine s_ret1 ?_
   simp +decide only [pfr, resV, resOne, gv, xsj, xel]
   exact ⟨by simp, hx⟩
 simp only [o_cont, o_pure, o_callF, o_guard, gk_tt, POp.ev, Opd.ev, gv, setD, List.map, xsj, xel, pickV, load1V, fadV, Nat.zero_add, hB.c3]
 refine (l1In_ok _ _ _ _ _).eq ?_
 cases h4 : decide (0 ≤ t.z) && decide (t.z ≤ 4)
 · simp only [o_cont, o_pure, o_guard, gk_ft, o_nil, POp.ev, Opd.ev, gv, setD, List.set, xsj, xel, pickV]
   refine s_ret1 ?_
   simp +decide only [pfr, resV, resOne, gv, xsj, xel]
   exact ⟨by simp, hx⟩
 simp only [Bool.and_eq_true, decide_eq_true_eq] at h2 h3 h4
 have w1 : IntKind.i64.wrap (t.x + t.y) = t.x + t.y := by rw [IntKind.wrap_i64]; omega
 have w2 : IntKind.i64.wrap (t.x + t.y + t.z) = t.x + t.y + t.z := by rw [IntKind.wrap_i64]; omega
 simp only [o_cont, o_pure, o_guard, gk_tt, o_nil, POp.ev, Opd.ev, gv, setD, List.set, xsj, xel, pickV, binV, load1V, fadV, ne_eq, xnt, if_false, Nat.zero_add, hB.c1, hB.c2, hB.c3, w1, w2]
 refine s_ret1 ?_
 simp +decide only [pfr, resV, resOne, gv, xsj, xel]
 exact ⟨by simp, hx⟩
def sgn3 (n : Int) : Int := if n > 0 then 1 else if n < 0 then -1 else 0
theorem l1Sign_ok (lim : Nat) (n : Int) (H : AHeap) : ACalls Tryz.prog lim n_spec_l1Sign [.int .i64 n] H fun v H' => v = .int .i64 (sgn3 n) ∧ H' = H := by
 refine is_spec_l1Sign.go rfl ?_
 unfold c_spec_l1Sign sgn3
 refine s_reg ?_
 simp only [o_pure, o_nil, POp.ev, Opd.ev, env0, gu, setD, List.set, xsj, xel]
 refine s_block ?_
 refine s_test1 ?_
 simp only [o_pure, o_nil, POp.ev, Opd.ev, gv, setD, xsj, xel, binV, ne_eq, xnt, if_false]
 refine Test.split (fun h => ?_) (fun h => ?_)
 · refine s_reg ?_
   simp only [o_pure, o_nil, POp.ev, Opd.ev, setD, List.set, xsj, xel]
   refine s_ret1 ?_
   simp +decide only [pqr, pbr, pfr, resV, resOne, gv, xsj, xel]
   rw [if_pos (by simpa using h)]
   trivial
 · refine s_test1 ?_
   simp only [o_pure, o_nil, POp.ev, Opd.ev, gv, setD, xsj, xel, binV, ne_eq, xnt, if_false]
   refine Test.split (fun h2 => ?_) (fun h2 => ?_)
   · refine s_reg ?_
     simp only [o_pure, o_nil, POp.ev, Opd.ev, setD, List.set, xsj, xel]
     refine s_ret1 ?_
     simp +decide only [pqr, pbr, pfr, resV, resOne, gv, xsj, xel]
     rw [if_neg (by simpa using h), if_pos (by simpa using h2)]
     trivial
   · refine s_skip1 ?_
     simp +decide only [pqn, pbn]
     refine s_reg ?_
     simp only [o_pure, o_nil, POp.ev, Opd.ev, setD, List.set, xsj, xel]
     refine s_ret1 ?_
     simp +decide only [pfr, resV, resOne, gv, xsj, xel]
     rw [if_neg (by simpa using h), if_neg (by simpa using h2)]
     trivial
def ordT (a b : Tm) : Int := if a.x ≠ b.x then sgn3 (a.x - b.x) else if a.y ≠ b.y then sgn3 (a.y - b.y) else sgn3 (a.z - b.z)
theorem poOrder_ok (lim : Nat) (a b : Tm) (H : AHeap) (ha : okTm a = true) (hb : okTm b = true) : ACalls Tryz.prog lim n_spec_poOrder [tv a, tv b] H fun v H' => v = .int .i64 (ordT a b) ∧ Ext H H' := by
 have b1 := okTm_b ha
 have b2 := okTm_b hb
 refine is_spec_poOrder.go rfl ?_
 unfold c_spec_poOrder ordT
 refine s_reg ?_
 simp only [o_pure, o_eff, o_nil, POp.ev, Opd.ev, EOp.ev, env0, gu, gv, setD, List.set, xsj, xel, ne_eq, boxT]
 have hA := BoxT.mk' H a
 have hB := BoxT.mk' (H.alloc (tc a)) b
 replace hA := hA.mono hB.ext
 generalize (H.alloc (tc a)).alloc (tc b) = H1 at hA hB ⊢
 generalize (H.alloc (tc a)).next = q at hB ⊢
 generalize H.next = p at hA ⊢
 have hx := hA.ext
 have w1 : IntKind.i64.wrap (a.x - b.x) = a.x - b.x := by rw [IntKind.wrap_i64]; omega
 have w2 : IntKind.i64.wrap (a.y - b.y) = a.y - b.y := by rw [IntKind.wrap_i64]; omega
 have w3 : IntKind.i64.wrap (a.z - b.z) = a.z - b.z := by rw [IntKind.wrap_i64]; omega
 refine s_block ?_
 refine s_test1 ?_
 simp only [o_pure, o_nil, POp.ev, Opd.ev, gv, setD, xsj, xel, binV, load1V, fadV, ne_eq, xnt, if_false, Nat.zero_add, hA.c1, hB.c1]
 refine Test.split (fun h => ?_) (fun h => ?_)
 · refine s_reg ?_
   simp only [o_pure, o_callF, POp.ev, Opd.ev, gv, setD, List.map, xsj, xel, binV, load1V, fadV, ne_eq, xnt, if_false, Nat.zero_add, hA.c1, hB.c1, w1]
   refine (l1Sign_ok _ _ _).eq ?_
   simp only [o_cont, o_pure, o_nil, POp.ev, Opd.ev, gv, setD, List.set, xsj, xel]
   refine s_ret1 ?_
   simp +decide only [pqr, pbr, pfr, resV, resOne, gv, xsj, xel]
   rw [if_pos (by simpa using h)]
   exact ⟨rfl, hx⟩
 · refine s_test1 ?_
   simp only [o_pure, o_nil, POp.ev, Opd.ev, gv, setD, xsj, xel, binV, load1V, fadV, ne_eq, xnt, if_false, Nat.zero_add, hA.c2, hB.c2]
   refine Test.split (fun h2 => ?_) (fun h2 => ?_)
   · refine s_reg ?_
     simp only [o_pure, o_callF, POp.ev, Opd.ev, gv, setD, List.map, xsj, xel, binV, load1V, fadV, ne_eq, xnt, if_false, Nat.zero_add, hA.c2, hB.c2, w2]
     refine (l1Sign_ok _ _ _).eq ?_
     simp only [o_cont, o_pure, o_nil, POp.ev, Opd.ev, gv, setD, List.set, xsj, xel]
     refine s_ret1 ?_
     simp +decide only [pqr, pbr, pfr, resV, resOne, gv, xsj, xel]
     rw [if_neg (by simpa using h), if_pos (by simpa using h2)]
     exact ⟨rfl, hx⟩
   · refine s_skip1 ?_
     simp +decide only [pqn, pbn]
     refine s_reg ?_
     simp only [o_pure, o_callF, POp.ev, Opd.ev, gv, setD, List.map, xsj, xel, binV, load1V, fadV, ne_eq, xnt, if_false, Nat.zero_add, hA.c3, hB.c3, w3]
     refine (l1Sign_ok _ _ _).eq ?_
     simp only [o_cont, o_pure, o_nil, POp.ev, Opd.ev, gv, setD, List.set, xsj, xel]
     refine s_ret1 ?_
     simp +decide only [pfr, resV, resOne, gv, xsj, xel]
     rw [if_neg (by simpa using h), if_neg (by simpa using h2)]
     exact ⟨rfl, hx⟩
def goodF : Option Tm → List Tm → Bool
 | _, [] => true
 | u, t :: l => okTm t && !decide (t.c = 0) && (match u with | none => true | some u => !decide (ordT u t ≥ 0)) && goodF (some t) l
def goodP (p : List Tm) : Bool := goodF none p && decide ((p.length : Int) ≤ 20)
def prevT (p : List Tm) : Nat → Option Tm
 | 0 => none
 | i + 1 => p[i]?
def stepT (p : List Tm) (i : Nat) (t : Tm) : Bool := okTm t && !decide (t.c = 0) && (match prevT p i with | none => true | some u => !decide (ordT u t ≥ 0))
theorem goodF_step {p : List Tm} {i : Nat} (h : i < p.length) : goodF (prevT p i) (p.drop i) = (stepT p i p[i] && goodF (prevT p (i + 1)) (p.drop (i + 1))) := by
 rw [List.drop_eq_getElem_cons h]
 simp only [goodF, stepT, prevT, List.getElem?_eq_getElem h]
theorem poGood_ok (lim : Nat) (s : Value) (p : List Tm) (H : AHeap) (hl : lim ≤ H.next) (hs : SlT H s p) (hn : p.length ≤ 1000000000) : ACalls Tryz.prog lim n_spec_poGood [s] H fun v H' => v = .bool (goodP p) ∧ Ext H H' := by
 refine is_spec_poGood.go rfl ?_
 unfold c_spec_poGood
 refine s_reg ?_
 simp only [o_pure, o_nil, POp.ev, Opd.ev, env0, gu, setD, List.set, xsj, xel]
 refine s_assoc (s_reg ?_)
 simp only [o_pure, o_nil, POp.ev, Opd.ev, gv, setD, List.set, xsj, xel, hs.lenV]
 refine s_block ?_
 refine s_loop1 (fun k e' H' => ∃ (i : Nat) (x y : Value), i + k = p.length ∧ goodF none p = goodF (prevT p i) (p.drop i) ∧ (∀ u, prevT p i = some u → okTm u = true) ∧ Ext H H' ∧ e' = [s, .bool false, x, y, s, .int .i64 p.length, .int .i64 i]) p.length ⟨0, _, _, by omega, rfl, (by intro u h; cases h), Ext.refl _, rfl⟩ ?_
 rintro k e' H' ⟨i, x, y, hik, hall, hprev, hx, rfl⟩
 have hnx := hx.next
 refine s_test ?_
 simp only [o_pure, o_nil, POp.ev, Opd.ev, gv, setD, xsj, xel, binV, ne_eq, xnt, if_false]
 refine Test.split (fun hlt => ?_) (fun hlt => ?_)
 · have hlt' : i < p.length := by simpa using hlt
   obtain ⟨b1, o1, h1, hat⟩ := (hs.ext hx).at hlt'
   rw [goodF_step hlt'] at hall
   refine s_skip1 ?_
   simp +decide only [pqn]
   refine s_block ?_
   refine s_reg ?_
   simp only [o_pure, o_eff, o_nil, POp.ev, Opd.ev, EOp.ev, gv, setD, List.set, xsj, xel, h1, hat.all, store4_new (lim := lim) (H := H') (by omega)]
   have hB := BoxT.mk' H' p[i]
   generalize H'.alloc (tc p[i]) = H1 at hB ⊢
   generalize H'.next = q at hB hnx ⊢
   have hx1 := hx.trans hB.ext
   refine s_test1_I (!stepT p i p[i]) (Ext H1) ?_ (fun H2 hx2 hg => ?_) (fun H2 hx2 hg => ?_)
   · simp only [o_pure, o_callF, POp.ev, Opd.ev, gv, setD, List.map, xsj, xel, hB.all]
     refine (poTerm_ok _ _ _).mono ?_
     rintro _ H2 ⟨rfl, hx2⟩
     have hB2 := hB.mono hx2
     unfold stepT
     cases h5 : okTm p[i]
     · simp only [o_cont, o_pure, o_guard, gk_tf, gk_u, o_nil, POp.ev, Opd.ev, gv, setD, xsj, xel, pickV, unV, Bool.not_false]
       simp [hx2]
     · cases h6 : decide (p[i].c = 0)
       · have h6' : (p[i].c == 0) = false := by simpa using h6
         cases i with
         | zero =>
           have d0 : decide (((0 : Nat) : Int) > 0) = false := by decide
           simp only [o_cont, o_pure, o_guard, gk_ff, gk_ft, o_nil, POp.ev, Opd.ev, gv, setD, xsj, xel, pickV, binV, load1V, unV, fadV, ne_eq, xnt, if_false, Bool.not_true, Bool.not_false, Nat.zero_add, hB2.c0, h6', d0]
           simp [prevT, hx2]
         | succ i =>
           have d0 : decide (((i + 1 : Nat) : Int) > 0) = true := decide_eq_true (by omega)
           have w1 : IntKind.i64.wrap (((i + 1 : Nat) : Int) - 1) = (i : Int) := by rw [IntKind.wrap_i64]; omega
           have hi : i < p.length := by omega
           obtain ⟨b2, o2, k1, hat2⟩ := ((hs.ext hx1).ext hx2).at hi
           have hpe : prevT p (i + 1) = some p[i] := List.getElem?_eq_getElem hi
           simp only [o_cont, o_pure, o_callF, o_guard, gk_tt, gk_ff, POp.ev, Opd.ev, gv, setD, List.map, xsj, xel, pickV, binV, load1V, unV, fadV, ne_eq, xnt, if_false, Bool.not_true, Bool.not_false, Nat.zero_add, hB2.c0, h6', d0, w1, k1, hat2.all, hB2.all]
           refine (poOrder_ok _ _ _ _ (hprev _ hpe) h5).mono ?_
           rintro _ H3 ⟨rfl, hx3⟩
           simp only [o_cont, o_pure, o_guard, gk_tt, gk_ff, o_nil, POp.ev, Opd.ev, gv, setD, xsj, xel, pickV, binV, ne_eq, xnt, if_false]
           simp [hpe, hx2.trans hx3]
       · have h6' : (p[i].c == 0) = true := by simpa using h6
         simp only [o_cont, o_pure, o_guard, gk_ff, gk_tf, gk_u, o_nil, POp.ev, Opd.ev, gv, setD, xsj, xel, pickV, binV, load1V, unV, fadV, ne_eq, xnt, if_false, Bool.not_true, Nat.zero_add, hB2.c0, h6']
         simp [hx2]
   · refine s_reg ?_
     simp only [o_pure, o_nil, POp.ev, Opd.ev, setD, List.set, xsj, xel]
     refine s_ret1 ?_
     simp +decide only [pqr, pbr, pfr, resV, resOne, gv, xsj, xel]
     simp only [Bool.not_eq_true'] at hg
     refine ⟨?_, hx1.trans hx2⟩
     simp [goodP, hall, hg]
   · refine s_skip1 ?_
     simp +decide only [pqn, pbn]
     refine s_reg1 ?_
     simp only [o_pure, o_nil, POp.ev, Opd.ev, gv, setD, List.set, xsj, xel, binV, ne_eq, xnt, if_false, add1 (i := i) (by omega)]
     simp +decide only [pqn]
     simp only [Bool.not_eq_false'] at hg
     rw [hg, Bool.true_and] at hall
     refine Round.mk (k - 1) (by omega) ⟨i + 1, _, _, by omega, hall, ?_, hx1.trans hx2, rfl⟩
     intro u hu
     simp only [prevT, List.getElem?_eq_getElem hlt', xsj] at hu
     subst hu
     simp only [stepT, Bool.and_eq_true] at hg
     exact hg.1.1
 · have hge : i = p.length := by simp at hlt; omega
   subst hge
   refine s_exit1 ?_
   simp +decide only [pqn, pqe, pbe, reduceIte]
   refine s_reg ?_
   simp only [o_pure, o_nil, POp.ev, Opd.ev, gv, setD, List.set, xsj, xel, binV, ne_eq, xnt, if_false, hs.lenV]
   refine s_ret1 ?_
   simp +decide only [pfr, resV, resOne, gv, xsj, xel]
   refine ⟨?_, hx⟩
   rw [List.drop_length] at hall
   simp [goodP, hall, goodF]
def pw (t : Tm) (k : Int) : Int := if k = 0 then t.x else if k = 1 then t.y else t.z
theorem poPower_ok (lim : Nat) (t : Tm) (k : Int) (H : AHeap) : ACalls Tryz.prog lim n_spec_poPower [tv t, .int .i64 k] H fun v H' => v = .int .i64 (pw t k) ∧ Ext H H' := by
 refine is_spec_poPower.go rfl ?_
 unfold c_spec_poPower pw
 refine s_reg ?_
 simp only [o_pure, o_eff, o_nil, POp.ev, Opd.ev, EOp.ev, env0, gu, gv, setD, List.set, xsj, xel, boxT]
 have hA := BoxT.mk' H t
 generalize H.alloc (tc t) = H1 at hA ⊢
 generalize H.next = p at hA ⊢
 have hx := hA.ext
 refine s_reg ?_
 simp only [o_pure, o_nil, POp.ev, Opd.ev, gv, setD, List.set, xsj, xel]
 refine s_block1 ?_
 refine s_test1 ?_
 simp only [o_pure, o_nil, POp.ev, Opd.ev, gv, setD, xsj, xel, binV, ne_eq, xnt, if_false]
 refine Test.split (fun h => ?_) (fun h => ?_)
 · refine s_reg ?_
   simp only [o_pure, o_nil, POp.ev, Opd.ev, gv, setD, List.set, xsj, xel, load1V, fadV, Nat.zero_add, hA.c1]
   refine s_ret1 ?_
   simp +decide only [pqr, pbr, pfr, resV, resOne, gv, xsj, xel]
   rw [if_pos (by simpa using h)]
   exact ⟨rfl, hx⟩
 · refine s_test1 ?_
   simp only [o_pure, o_nil, POp.ev, Opd.ev, gv, setD, xsj, xel, binV, ne_eq, xnt, if_false]
   refine Test.split (fun h2 => ?_) (fun h2 => ?_)
   · refine s_reg ?_
     simp only [o_pure, o_nil, POp.ev, Opd.ev, gv, setD, List.set, xsj, xel, load1V, fadV, Nat.zero_add, hA.c2]
     refine s_ret1 ?_
     simp +decide only [pqr, pbr, pfr, resV, resOne, gv, xsj, xel]
     rw [if_neg (by simpa using h), if_pos (by simpa using h2)]
     exact ⟨rfl, hx⟩
   · refine s_skip1 ?_
     simp +decide only [pqn, pbn]
     refine s_reg ?_
     simp only [o_pure, o_nil, POp.ev, Opd.ev, gv, setD, List.set, xsj, xel, load1V, fadV, Nat.zero_add, hA.c3]
     refine s_ret1 ?_
     simp +decide only [pfr, resV, resOne, gv, xsj, xel]
     rw [if_neg (by simpa using h), if_neg (by simpa using h2)]
     exact ⟨rfl, hx⟩
theorem l1Most_ok (lim : Nat) (a b : Int) (H : AHeap) : ACalls Tryz.prog lim n_spec_l1Most [.int .i64 a, .int .i64 b] H fun v H' => v = .int .i64 (if a > b then a else b) ∧ H' = H := by
 refine is_spec_l1Most.go rfl ?_
 unfold c_spec_l1Most
 refine s_reg ?_
 simp only [o_pure, o_nil, POp.ev, Opd.ev, env0, gu, setD, List.set, xsj, xel]
 refine s_test ?_
 simp only [o_pure, o_nil, POp.ev, Opd.ev, gv, setD, xsj, xel, binV, ne_eq, xnt, if_false]
 refine Test.split (fun h => ?_) (fun h => ?_)
 · refine s_reg ?_
   simp only [o_pure, o_nil, POp.ev, Opd.ev, gv, setD, List.set, xsj, xel]
   refine s_ret1 ?_
   simp +decide only [pqr, pfr, resV, resOne, gv, xsj, xel]
   rw [if_pos (by simpa using h)]
   trivial
 · refine s_skip1 ?_
   simp +decide only [pqn]
   refine s_reg ?_
   simp only [o_pure, o_nil, POp.ev, Opd.ev, gv, setD, List.set, xsj, xel]
   refine s_ret1 ?_
   simp +decide only [pfr, resV, resOne, gv, xsj, xel]
   rw [if_neg (by simpa using h)]
   trivial
def degF (k : Int) : Int → List Tm → Int
 | m, [] => m
 | m, t :: l => degF k (if m > pw t k then m else pw t k) l
theorem poDegreeIn_ok (lim : Nat) (s : Value) (p : List Tm) (k : Int) (H : AHeap) (hl : lim ≤ H.next) (hs : SlT H s p) (hn : p.length ≤ 1000000000) : ACalls Tryz.prog lim n_spec_poDegreeIn [s, .int .i64 k] H fun v H' => v = .int .i64 (degF k (-1) p) ∧ Ext H H' := by
 refine is_spec_poDegreeIn.go rfl ?_
 unfold c_spec_poDegreeIn
 refine s_reg ?_
 simp only [o_pure, o_nil, POp.ev, Opd.ev, env0, gu, setD, List.set, xsj, xel]
 refine s_reg ?_
 simp only [o_pure, o_nil, POp.ev, Opd.ev, setD, List.set, xsj, xel]
 refine s_assoc (s_reg ?_)
 simp only [o_pure, o_nil, POp.ev, Opd.ev, gv, setD, List.set, xsj, xel, hs.lenV]
 refine s_block ?_
 refine s_loop1 (fun j e' H' => ∃ (i : Nat) (m : Int) (y : Value), i + j = p.length ∧ degF k (-1) p = degF k m (p.drop i) ∧ Ext H H' ∧ e' = [s, .int .i64 k, .int .i64 0, .int .i64 m, y, s, .int .i64 p.length, .int .i64 i]) p.length ⟨0, -1, _, by omega, rfl, Ext.refl _, rfl⟩ ?_
 rintro j e' H' ⟨i, m, y, hik, hall, hx, rfl⟩
 have hnx := hx.next
 refine s_test ?_
 simp only [o_pure, o_nil, POp.ev, Opd.ev, gv, setD, xsj, xel, binV, ne_eq, xnt, if_false]
 refine Test.split (fun hlt => ?_) (fun hlt => ?_)
 · have hlt' : i < p.length := by simpa using hlt
   obtain ⟨b1, o1, h1, hat⟩ := (hs.ext hx).at hlt'
   rw [List.drop_eq_getElem_cons hlt', degF] at hall
   refine s_skip1 ?_
   simp +decide only [pqn]
   refine s_block ?_
   refine s_reg ?_
   simp only [o_pure, o_eff, o_nil, POp.ev, Opd.ev, EOp.ev, gv, setD, List.set, xsj, xel, h1, hat.all, store4_new (lim := lim) (H := H') (by omega)]
   have hB := BoxT.mk' H' p[i]
   generalize H'.alloc (tc p[i]) = H1 at hB ⊢
   generalize H'.next = q at hB hnx ⊢
   have hx1 := hx.trans hB.ext
   refine s_reg1 ?_
   simp only [o_pure, o_callF, POp.ev, Opd.ev, gv, setD, List.map, xsj, xel, hB.all]
   refine (poPower_ok _ _ _ _).mono ?_
   rintro _ H2 ⟨rfl, hx2⟩
   simp only [o_cont, o_callF, Opd.ev, gv, setD, List.map]
   refine (l1Most_ok _ _ _ _).eq ?_
   simp only [o_cont, o_pure, o_nil, POp.ev, Opd.ev, gv, setD, List.set, xsj, xel]
   simp +decide only [pqn, pbn]
   refine s_reg1 ?_
   simp only [o_pure, o_nil, POp.ev, Opd.ev, gv, setD, List.set, xsj, xel, binV, ne_eq, xnt, if_false, add1 (i := i) (by omega)]
   simp +decide only [pqn]
   exact Round.mk (j - 1) (by omega) ⟨i + 1, _, _, by omega, hall, hx1.trans hx2, rfl⟩
 · have hge : i = p.length := by simp at hlt; omega
   subst hge
   refine s_exit1 ?_
   simp +decide only [pqn, pqe, pbe, reduceIte]
   refine s_reg ?_
   simp only [o_pure, o_nil, POp.ev, Opd.ev, gv, setD, List.set, xsj, xel]
   refine s_ret1 ?_
   simp +decide only [pfr, resV, resOne, gv, xsj, xel]
   rw [List.drop_length, degF] at hall
   rw [hall]
   exact ⟨rfl, hx⟩
def fromB (k : Nat) (p : List Tm) : Bool := (decide (k > 0) || !decide (degF 0 (-1) p > 0)) && (decide (k > 1) || !decide (degF 1 (-1) p > 0)) && (decide (k > 2) || !decide (degF 2 (-1) p > 0))
theorem fromB_step {k : Nat} (p : List Tm) (h : k < 3) : fromB k p = (!decide (degF (k : Int) (-1) p > 0) && fromB (k + 1) p) := by
 match k, h with
 | 0, _ => simp [fromB, Bool.and_assoc]
 | 1, _ => simp [fromB]
 | 2, _ => simp [fromB]
theorem fromB_three {k : Nat} (p : List Tm) (h : 3 ≤ k) : fromB k p = true := by
 simp only [fromB, Bool.and_eq_true, Bool.or_eq_true, decide_eq_true_eq]
 omega
def sysF (n : Nat) : List (List Tm) → Bool
 | [] => true
 | p :: l => goodP p && fromB n p && sysF n l
def goodSS (ss : List (List Tm)) : Bool := sysF ss.length ss && (decide (1 ≤ (ss.length : Int)) && decide ((ss.length : Int) ≤ 3))
theorem poSystem_ok (lim : Nat) (s : Value) (ss : List (List Tm)) (H : AHeap) (hl : lim ≤ H.next) (hs : SlSS H s ss) (hn : ss.length ≤ 1000000) (hn2 : ∀ p ∈ ss, p.length ≤ 1000000) : ACalls Tryz.prog lim n_spec_poSystem [s] H fun v H' => v = .bool (goodSS ss) ∧ Ext H H' := by
 refine is_spec_poSystem.go rfl ?_
 unfold c_spec_poSystem
 refine s_reg ?_
 simp only [o_pure, o_nil, POp.ev, Opd.ev, env0, gu, setD, List.set, xsj, xel]
 refine s_assoc (s_reg ?_)
 simp only [o_pure, o_nil, POp.ev, Opd.ev, gv, setD, List.set, xsj, xel, hs.lenV]
 refine s_block ?_
 refine s_loop1 (fun j e' H' => ∃ (i : Nat) (x y : Value), i + j = ss.length ∧ sysF ss.length ss = sysF ss.length (ss.drop i) ∧ Ext H H' ∧ e' = [s, .bool false, x, y, s, .int .i64 ss.length, .int .i64 i]) ss.length ⟨0, _, _, by omega, rfl, Ext.refl _, rfl⟩ ?_
 rintro j e' H' ⟨i, x, y, hik, hall, hx, rfl⟩
 have hnx := hx.next
 refine s_test ?_
 simp only [o_pure, o_nil, POp.ev, Opd.ev, gv, setD, xsj, xel, binV, ne_eq, xnt, if_false]
 refine Test.split (fun hlt => ?_) (fun hlt => ?_)
 · have hlt' : i < ss.length := by simpa using hlt
   obtain ⟨b1, o1, s1, h1, h2, h3⟩ := (hs.ext hx).at hlt'
   have hpl := hn2 _ (List.getElem_mem hlt')
   rw [List.drop_eq_getElem_cons hlt', sysF] at hall
   refine s_skip1 ?_
   simp +decide only [pqn]
   refine s_block ?_
   refine s_reg ?_
   simp only [o_pure, o_nil, POp.ev, Opd.ev, gv, setD, List.set, xsj, xel, load1V, h1, h2]
   refine s_test ?_
   simp only [o_pure, o_callF, POp.ev, Opd.ev, gv, setD, List.map, xsj, xel]
   refine (poGood_ok lim _ _ _ (by omega) h3 (by omega)).mono ?_
   rintro _ H2 ⟨rfl, hx2⟩
   simp only [o_cont, o_pure, o_nil, POp.ev, Opd.ev, gv, setD, xsj, xel, unV]
   refine Test.split (fun hg => ?_) (fun hg => ?_)
   · refine s_reg ?_
     simp only [o_pure, o_nil, POp.ev, Opd.ev, setD, List.set, xsj, xel]
     refine s_ret1 ?_
     simp +decide only [pqr, pbr, pfr, resV, resOne, gv, xsj, xel]
     simp only [Bool.not_eq_true'] at hg
     refine ⟨?_, hx.trans hx2⟩
     simp [goodSS, hall, hg]
   · simp only [Bool.not_eq_false'] at hg
     rw [hg, Bool.true_and] at hall
     refine s_skip1 ?_
     simp +decide only [pqn]
     refine s_reg ?_
     simp only [o_pure, o_nil, POp.ev, Opd.ev, gv, setD, List.set, xsj, xel, hs.lenV]
     refine s_block1 ?_
     refine s_loop1 (fun j2 e' H2' => ∃ (k : Nat), k + j2 = ss.length + 3 ∧ (fromB ss.length ss[i] = fromB k ss[i]) ∧ Ext H2 H2' ∧ e' = [s, .bool false, s1, .int .i64 k, s, .int .i64 ss.length, .int .i64 i]) 3 ⟨ss.length, by omega, rfl, Ext.refl _, rfl⟩ ?_
     rintro j2 e' H2' ⟨k, hk, hfr, hx3, rfl⟩
     refine s_test ?_
     simp only [o_pure, o_nil, POp.ev, Opd.ev, gv, setD, xsj, xel, binV, ne_eq, xnt, if_false]
     refine Test.split (fun hlt3 => ?_) (fun hlt3 => ?_)
     · have hk3 : k < 3 := by simp at hlt3; omega
       rw [fromB_step _ hk3] at hfr
       refine s_skip1 ?_
       simp +decide only [pqn]
       refine s_block ?_
       refine s_test1 ?_
       simp only [o_pure, o_callF, POp.ev, Opd.ev, gv, setD, List.map, xsj, xel]
       have hn3 := hx3.next
       have hn2' := hx2.next
       refine (poDegreeIn_ok lim _ _ k _ (by omega) ((h3.ext hx2).ext hx3) (by omega)).mono ?_
       rintro _ H3 ⟨rfl, hx4⟩
       simp only [o_cont, o_pure, o_nil, POp.ev, Opd.ev, gv, setD, xsj, xel, binV, ne_eq, xnt, if_false]
       refine Test.split (fun hd => ?_) (fun hd => ?_)
       · refine s_reg ?_
         simp only [o_pure, o_nil, POp.ev, Opd.ev, setD, List.set, xsj, xel]
         refine s_ret1 ?_
         simp +decide only [pqr, pbr, pfr, resV, resOne, gv, xsj, xel]
         refine ⟨?_, ((hx.trans hx2).trans hx3).trans hx4⟩
         rw [hd] at hfr
         simp [goodSS, hall, hfr]
       · refine s_skip1 ?_
         simp +decide only [pqn, pbn]
         refine s_reg1 ?_
         simp only [o_pure, o_nil, POp.ev, Opd.ev, gv, setD, List.set, xsj, xel, binV, ne_eq, xnt, if_false, add1 (i := k) (by omega)]
         simp +decide only [pqn]
         rw [hd, Bool.not_false, Bool.true_and] at hfr
         exact Round.mk (j2 - 1) (by omega) ⟨k + 1, by omega, hfr, hx3.trans hx4, rfl⟩
     · have hk3 : 3 ≤ k := by simp at hlt3; omega
       rw [fromB_three _ hk3] at hfr
       refine s_exit1 ?_
       simp +decide only [pqn, pqe, pbn, pbe, reduceIte]
       refine s_reg1 ?_
       simp only [o_pure, o_nil, POp.ev, Opd.ev, gv, setD, List.set, xsj, xel, binV, ne_eq, xnt, if_false, add1 (i := i) (by omega)]
       simp +decide only [pqn]
       rw [hfr, Bool.true_and] at hall
       exact Round.mk (j - 1) (by omega) ⟨i + 1, _, _, by omega, hall, (hx.trans hx2).trans hx3, rfl⟩
 · have hge : i = ss.length := by simp at hlt; omega
   subst hge
   refine s_exit1 ?_
   simp +decide only [pqn, pqe, pbe, reduceIte]
   refine s_reg ?_
   simp only [o_pure, o_callF, POp.ev, Opd.ev, gv, setD, List.map, xsj, xel, hs.lenV]
   refine (l1In_ok _ _ _ _ _).eq ?_
   simp only [o_cont, o_pure, o_nil, POp.ev, Opd.ev, gv, setD, List.set, xsj, xel]
   refine s_ret1 ?_
   simp +decide only [pfr, resV, resOne, gv, xsj, xel]
   refine ⟨?_, hx⟩
   rw [List.drop_length, sysF] at hall
   simp only [goodSS, hall, Bool.true_and]
end Go.Proofs.YtmdeppkfboaepaaGreat
/- Systems of polynomials, part 6 of the walk: systems that grow, and the specification's swapped system; no condition beyond stated lengths. -/
namespace Go.Ab
theorem awp.mono {P : Program} {lim : Nat} : ∀ (c : ACode) {Q Q' : Post} {e : List Value} {H : AHeap}, (∀ ex e H, Q ex e H → Q' ex e H) → awp P lim c Q e H → awp P lim c Q' e H
 | .skip, _, _, _, _, hq, h => hq _ _ _ h
 | .reg ops, _, _, _, _, hq, h => awpOps.mono (fun _ _ _ h => hq _ _ _ h) h
 | .regT T, _, _, _, _, hq, h => awpT.mono (fun _ _ _ h => hq _ _ _ h) h
 | .test ops c a b, _, _, _, _, hq, h => by
   refine awpOps.mono ?_ h
   rintro e t H ⟨g, h1, h2⟩
   refine ⟨g, h1, ?_⟩
   cases g with
   | true => exact awp.mono a hq h2
   | false => exact awp.mono b hq h2
 | .seq a b, _, _, _, _, hq, h => by
   refine awp.mono a ?_ h
   intro ex e H h
   cases ex <;> first | exact awp.mono b hq h | exact hq _ _ _ h
 | .cond c a b, _, _, _, _, hq, ⟨g, h1, h2⟩ => by
   refine ⟨g, h1, ?_⟩
   cases g with
   | true => exact awp.mono a hq h2
   | false => exact awp.mono b hq h2
 | .block id c, _, _, _, _, hq, h => by
   refine awp.mono c ?_ h
   intro ex e H h
   cases ex with
   | exit i =>
     simp only [Post.block] at h ⊢
     split <;> rename_i hi
     · rw [if_pos hi] at h; exact hq _ _ _ h
     · rw [if_neg hi] at h; exact hq _ _ _ h
   | _ => exact hq _ _ _ h
 | .loop c, _, _, _, _, hq, ⟨I, k, h1, h2⟩ => by
   refine ⟨I, k, h1, fun k e H hI => awp.mono c ?_ (h2 k e H hI)⟩
   intro ex e H h
   cases ex <;> first | exact h | exact hq _ _ _ h
 | .exit id, _, _, _, _, hq, h => hq _ _ _ h
 | .ret, _, _, _, _, hq, h => hq _ _ _ h
 | .fail, _, _, _, _, _, h => h.elim
theorem s_cut1 {P : Program} {lim : Nat} {K : List Value → AHeap → Prop} {Q : Post} {e : List Value} {H : AHeap} {a : ACode} (I : List Value → AHeap → Prop) (h : awp P lim a (Post.seq I (fun _ _ _ => False)) e H) (h1 : ∀ e' H', I e' H' → K e' H') : awp P lim a (Post.seq K Q) e H := by
 refine awp.mono a ?_ h
 intro ex e H h
 cases ex <;> first | exact h1 _ _ h | exact h.elim
end Go.Ab
namespace Go.Proofs.YtmdeppkfboaepaaGreat
open Go.Ab
set_option linter.unusedSimpArgs false
set_option linter.unusedVariables false
def inU (n : Nat) (u : Int) : Bool := decide (0 ≤ u) && decide (u ≤ (n : Int) - 1)
theorem tfAsked_ok (lim : Nat) (s : Value) (ss : List (List Tm)) (u : Int) (H : AHeap) (hl : lim ≤ H.next) (hs : SlSS H s ss) (hn : ss.length ≤ 1000000) (hn2 : ∀ p ∈ ss, p.length ≤ 1000000) : ACalls Tryz.prog lim n_spec_tfAsked [s, .int .i64 u] H fun v H' => v = .bool (goodSS ss && inU ss.length u) ∧ Ext H H' := by
 refine is_spec_tfAsked.go rfl ?_
 unfold c_spec_tfAsked
 have hsub : IntKind.i64.wrap ((ss.length : Int) - 1) = (ss.length : Int) - 1 := by rw [IntKind.wrap_i64]; omega
 refine s_reg ?_
 simp only [o_pure, o_nil, POp.ev, Opd.ev, env0, gu, setD, List.set, xsj, xel]
 refine s_reg ?_
 simp only [o_pure, o_callF, POp.ev, Opd.ev, gv, setD, List.map, xsj, xel]
 refine (poSystem_ok lim _ _ _ hl hs hn hn2).mono ?_
 rintro _ H2 ⟨rfl, hx⟩
 cases hg : goodSS ss
 · simp only [o_cont, o_pure, o_guard, gk_ft, o_nil, POp.ev, Opd.ev, gv, setD, List.set, xsj, xel, pickV]
   refine s_ret1 ?_
   simp +decide only [pfr, resV, resOne, gv, xsj, xel]
   exact ⟨by simp, hx⟩
 · simp only [o_cont, o_pure, o_callF, o_guard, gk_tt, POp.ev, Opd.ev, gv, setD, List.map, xsj, xel, binV, ne_eq, xnt, if_false, hs.lenV, hsub]
   refine (l1In_ok _ _ _ _ _).eq ?_
   simp only [o_cont, o_pure, o_nil, POp.ev, Opd.ev, gv, setD, List.set, xsj, xel, pickV]
   refine s_ret1 ?_
   simp +decide only [pfr, resV, resOne, gv, xsj, xel]
   exact ⟨by simp [inU], hx⟩
theorem bslice0 (H : AHeap) : bsliceH H 0 [] [] = some (.slice (some ⟨H.next, 0, some 0⟩) 0 0, H.alloc []) := rfl
theorem own_terms {lim : Nat} {H : AHeap} {s : Value} {p : List Tm} (hl : lim ≤ H.next) (hs : SlT H s p) (hn : p.length ≤ 1000000000) :
   ∃ v' H' b, appendH lim (H.alloc []) 4 32 (.slice (some ⟨H.next, 0, some 0⟩) 0 0) s = some (v', H') ∧ VecT H' b v' p ∧ H.next ≤ b ∧ b < H'.next ∧ Ext H H' := by
 have h0 : Vec (H.alloc []) H.next (.slice (some ⟨H.next, 0, some 0⟩) 0 0) 0 4 [] := Vec.lit rfl
 obtain ⟨v', H', b', h1, h2, h3, h4, h5⟩ := h0.append (lim := lim) hl (hs.ext (Ext.alloc H [])) (by decide) (bytes := 32) (by omega)
 refine ⟨v', H', b', h1, by simpa [VecT] using h2, by rcases h3 with rfl | ⟨rfl, _⟩ <;> simp [alloc_next], ?_, Chg.ext (Ext.alloc H []) h4 (Nat.le_refl _)⟩
 rcases h3 with rfl | ⟨rfl, h6⟩
 · exact Nat.lt_of_lt_of_le (Nat.lt_succ_self _) h4.next
 · exact h6
theorem tfOwn_ok (lim : Nat) (s : Value) (p : List Tm) (H : AHeap) (hl : lim ≤ H.next) (hs : SlT H s p) (hn : p.length ≤ 1000000000) :
   ACalls Tryz.prog lim n_spec_tfOwn [s] H fun v H' => ∃ b, H.next ≤ b ∧ b ≤ H'.next ∧ VecT H' b v p ∧ Ext H H' := by
 refine is_spec_tfOwn.go rfl ?_
 unfold c_spec_tfOwn
 refine s_reg ?_
 simp only [o_pure, o_nil, POp.ev, Opd.ev, env0, gu, setD, List.set, xsj, xel]
 refine s_reg ?_
 obtain ⟨v', H', b, h1, h2, h3, h4, h5⟩ := own_terms hl hs hn
 simp only [o_pure, o_eff, o_nil, POp.ev, Opd.ev, EOp.ev, gv, setD, List.set, List.map, xsj, xel, bslice0, h1]
 refine s_ret1 ?_
 simp +decide only [pfr, resV, resOne, gv, xsj, xel]
 exact ⟨b, h3, by omega, h2, h5⟩
theorem clone_ok (lim : Nat) (s : Value) (p : List Tm) (H : AHeap) (hl : lim ≤ H.next) (hs : SlT H s p) (hn : p.length ≤ 1000000000) :
   ACalls Tryz.prog lim n_slices_Clone_S_impl_Term_impl_Term [s] H fun v H' => ∃ b, H.next ≤ b ∧ b ≤ H'.next ∧ VecT H' b v p ∧ Ext H H' := by
 refine is_slices_Clone_S_impl_Term_impl_Term.go rfl ?_
 unfold c_slices_Clone_S_impl_Term_impl_Term
 refine s_reg ?_
 simp only [o_pure, o_nil, POp.ev, Opd.ev, env0, gu, setD, List.set, xsj, xel]
 refine s_test ?_
 have hs2 := hs
 obtain ⟨_, a, cap, rfl, hc, hc0, _⟩ := hs2
 cases a with
 | none =>
   have := hc0 rfl
   have hl0 : p = [] := List.length_eq_zero_iff.1 (by omega)
   subst hl0
   simp only [o_pure, o_nil, POp.ev, Opd.ev, gv, setD, xms, xsj, xel, isNilV, if_false, Bool.false_eq_true]
   refine Test.true_ (s_reg ?_)
   simp only [o_pure, o_nil, POp.ev, Opd.ev, setD, List.set, xsj, xel]
   refine s_ret1 ?_
   simp +decide only [pqr, pfr, resV, resOne, gv, xsj, xel]
   exact ⟨H.next, Nat.le_refl _, Nat.le_refl _, Vec.nil _ _ _, Ext.refl _⟩
 | some ad =>
   obtain ⟨v', H', b, h1, h2, h3, h4, h5⟩ := own_terms hl hs hn
   simp only [o_pure, o_nil, POp.ev, Opd.ev, gv, setD, xms, xsj, xel, isNilV, if_false, Bool.false_eq_true]
   refine Test.false_ (s_skip1 ?_)
   simp +decide only [pqn]
   refine s_reg ?_
   simp only [o_pure, o_eff, o_nil, POp.ev, Opd.ev, EOp.ev, gv, setD, List.set, List.map, xsj, xel, bslice0, h1]
   refine s_ret1 ?_
   simp +decide only [pfr, resV, resOne, gv, xsj, xel]
   exact ⟨b, h3, by omega, h2, h5⟩
theorem bsliceV (H : AHeap) {x : Value} (z : Value) (hx : cellsV x = some [x]) : bsliceH H 1 [z] [(0, 1, x)] = some (.slice (some ⟨H.next, 0, some 0⟩) 1 1, H.alloc [x]) := by
 simp [bsliceH, fillV, hx]
theorem push1 {lim : Nat} {H : AHeap} {b n bytes : Nat} {v : Value} {cells : List Value} (h : Vec H b v n 1 cells) (x : Value) (hl : lim ≤ b) (hn : (n + 1) * bytes ≤ 140737488355328) :
   ∃ v' H' b', appendH lim (H.alloc [x]) 1 bytes v (.slice (some ⟨H.next, 0, some 0⟩) 1 1) = some (v', H') ∧ Vec H' b' v' (n + 1) 1 (cells ++ [x]) ∧ (b' = b ∨ H.next < b') ∧ b' < H'.next ∧ Chg b H H' ∧ H.next < H'.next := by
 have hx : Vec (H.alloc [x]) H.next (.slice (some ⟨H.next, 0, some 0⟩) 1 1) 1 1 [x] := Vec.lit rfl
 obtain ⟨v', H', b', h1, h2, h3, h4, h5⟩ := (h.ext (Ext.alloc H [x])).append (lim := lim) hl hx.sl (by decide) (bytes := bytes) hn
 refine ⟨v', H', b', h1, h2, ?_, (h2.blk (by omega)).elim fun _ h => h.2, (Chg.of_ext (Ext.alloc H [x])).trans h4, Nat.lt_of_lt_of_le (Nat.lt_succ_self _) h4.next⟩
 rcases h3 with rfl | ⟨rfl, _⟩
 · exact .inl rfl
 · exact .inr (Nat.lt_succ_self _)
structure GrowX (H : AHeap) (lo b : Nat) (vs : List Value) (bs : List Nat) (v : Value) (ss : List (List Tm)) : Prop where
 vec : Vec H b v ss.length 1 vs
 len : bs.length = ss.length
 nil : ss = [] → v = .slice none 0 0
 low : lo ≤ b
 hi : ss ≠ [] → b < H.next
 nodup : bs.Nodup
 nin : b ∉ bs
 rngs : ∀ c ∈ bs, lo ≤ c ∧ c < H.next
 el : ∀ (i : Nat) (p : List Tm), ss[i]? = some p → ∃ s c, vs[i]? = some s ∧ bs[i]? = some c ∧ VecT H c s p
theorem GrowX.nil' (H : AHeap) : GrowX H H.next H.next [] [] (.slice none 0 0) [] :=
 ⟨Vec.nil _ _ _, rfl, fun _ => rfl, Nat.le_refl _, fun h => absurd rfl h, List.nodup_nil, by simp, by simp, by intro i p h; simp at h⟩
theorem GrowX.own {H : AHeap} {lo b : Nat} {vs : List Value} {bs : List Nat} {v : Value} {ss : List (List Tm)} (h : GrowX H lo b vs bs v ss) : OwnSS H lo H.next v ss := by
 by_cases hs : ss = []
 · exact .inl ⟨h.nil hs, hs⟩
 · exact .inr ⟨b, vs, bs, h.vec, h.len, ⟨h.low, h.hi hs⟩, h.nodup, h.nin, h.rngs, h.el⟩
theorem GrowX.push {lim : Nat} {H0 H H2 : AHeap} {lo b c : Nat} {vs : List Value} {bs : List Nat} {v s : Value} {ss : List (List Tm)} {p : List Tm} (h : GrowX H lo b vs bs v ss) (hlim : lim ≤ lo) (hx0 : Ext H0 H) (hlo : H0.next ≤ lo) (hloH : lo ≤ H.next) (hx : Ext H H2)
   (hc1 : H.next ≤ c) (hc2 : c ≤ H2.next) (hp : VecT H2 c s p) (hn : ss.length ≤ 1000000) :
   ∃ v' H3 b', appendH lim (H2.alloc [s]) 1 24 v (.slice (some ⟨H2.next, 0, some 0⟩) 1 1) = some (v', H3) ∧ GrowX H3 lo b' (vs ++ [s]) (bs ++ [c]) v' (ss ++ [p]) ∧ Ext H0 H3 := by
 obtain ⟨h1, h2, hnil, h3, h4, h5, h6, h7, h8⟩ := h
 have hnx := hx.next
 have hclen := h1.clen
 obtain ⟨b0, hv0, hb0, hbc, hbn, hbl⟩ : ∃ b0, Vec H2 b0 v ss.length 1 vs ∧ lo ≤ b0 ∧ b0 ≠ c ∧ b0 ∉ bs ∧ (b0 < H.next ∨ H2.next < b0) := by
   by_cases hs : ss = []
   · subst hs
     have hv := hnil rfl
     subst hv
     have hvs : vs = [] := List.length_eq_zero_iff.1 (by simpa using hclen)
     subst hvs
     refine ⟨H2.next + 1, Vec.nil _ _ _, by omega, by omega, fun hm => ?_, .inr (by omega)⟩
     have := h7 _ hm
     omega
   · have := h4 hs
     exact ⟨b, h1.ext hx, h3, by omega, h6, .inl this⟩
 obtain ⟨v', H3, b', g1, g2, g3, g4, g5, g6⟩ := push1 hv0 (lim := lim) s (by omega) (bytes := 24) (by omega)
 have hbl' : b' = b0 ∨ H2.next < b' := g3
 refine ⟨v', H3, b', g1, ⟨by rw [List.length_append]; exact g2, by simp [h2], by simp, by omega, fun _ => g4, ?_, ?_, ?_, ?_⟩, Chg.ext (hx0.trans hx) g5 (by omega)⟩
 · refine List.nodup_append.2 ⟨h5, by simp, ?_⟩
   intro x hx' y hy
   simp at hy
   subst hy
   have := h7 x hx'
   omega
 · intro hm
   rcases List.mem_append.1 hm with hm | hm
   · rcases hbl' with rfl | hbl'
     · exact hbn hm
     · have := h7 _ hm
       omega
   · simp at hm
     omega
 · intro c' hc'
   rcases List.mem_append.1 hc' with hm | hm
   · have := h7 _ hm
     omega
   · simp at hm
     omega
 · intro j q hq
   by_cases hj : j < ss.length
   · rw [List.getElem?_append_left hj] at hq
     obtain ⟨s', c', q1, q2, q3⟩ := h8 j q hq
     have hm := List.mem_of_getElem? q2
     refine ⟨s', c', by rw [List.getElem?_append_left (by omega)]; exact q1, by rw [List.getElem?_append_left (by omega)]; exact q2, VecT.chg (VecT.ext q3 hx) g5 (fun e => hbn (e ▸ hm))⟩
   · rw [List.getElem?_append_right (by omega)] at hq
     have hji : j = ss.length := by
       have := (List.getElem?_eq_some_iff.1 hq).1
       simp at this; omega
     subst hji
     simp at hq
     subst hq
     exact ⟨s, c, by rw [List.getElem?_append_right (by omega)]; simp [hclen], by rw [List.getElem?_append_right (by omega)]; simp [h2], VecT.chg hp g5 (fun e => hbc e.symm)⟩
def swpL (ss : List (List Tm)) (i k : Nat) : List (List Tm) := (ss.set i (ss.getD k [])).set k (ss.getD i [])
theorem swpL_length (ss : List (List Tm)) (i k : Nat) : (swpL ss i k).length = ss.length := by simp [swpL]
theorem swpL_get {ss : List (List Tm)} {i k j : Nat} (hi : i < ss.length) (hk : k < ss.length) (hj : j < ss.length) : (swpL ss i k)[j]? = some (if j = i then ss[k] else if j = k then ss[i] else ss[j]) := by
 unfold swpL
 by_cases h1 : j = k
 · subst h1
   rw [List.getElem?_set_self (by simp; omega)]
   by_cases h2 : j = i
   · subst h2; simp [hi]
   · simp [h2, hi]
 · rw [List.getElem?_set_ne (Ne.symm h1)]
   by_cases h2 : j = i
   · subst h2
     rw [List.getElem?_set_self (by omega)]
     simp [hk]
   · rw [List.getElem?_set_ne (Ne.symm h2)]
     simp [h1, h2, hj]
def swR (ss : List (List Tm)) (i k : Int) : Option (List (List Tm)) := if goodSS ss && inU ss.length i && inU ss.length k then some (swpL ss i.toNat k.toNat) else none
def ResSS (H : AHeap) (lo : Nat) (v : Value) (r : Option (List (List Tm))) : Prop := ∃ x, v = .tuple #[x, .bool r.isSome] ∧ OwnSS H lo H.next x (r.getD [])
theorem sSwap_ok (lim : Nat) (s : Value) (ss : List (List Tm)) (i k : Int) (H : AHeap) (hl : lim ≤ H.next) (hs : SlSS H s ss) (hn : ss.length ≤ 1000000) (hn2 : ∀ p ∈ ss, p.length ≤ 1000000) :
   ACalls Tryz.prog lim n_spec_SwapEquations [s, .int .i64 i, .int .i64 k] H fun v H' => ResSS H' H.next v (swR ss i k) ∧ Ext H H' := by
 refine is_spec_SwapEquations.go rfl ?_
 unfold c_spec_SwapEquations
 refine s_reg ?_
 simp only [o_pure, o_nil, POp.ev, Opd.ev, env0, gu, setD, List.set, xsj, xel]
 refine s_test_I (!(goodSS ss && inU ss.length i && inU ss.length k)) (Ext H) ?_ (fun H1 hx hg => ?_) (fun H1 hx hg => ?_)
 · simp only [o_pure, o_callF, POp.ev, Opd.ev, gv, setD, List.map, xsj, xel]
   refine (tfAsked_ok lim _ _ _ _ hl hs hn hn2).mono ?_
   rintro _ H1 ⟨rfl, hx⟩
   have hnx := hx.next
   cases hgi : goodSS ss && inU ss.length i
   · simp only [o_cont, o_pure, o_guard, gk_tf, o_nil, POp.ev, Opd.ev, gv, setD, xsj, xel, pickV, unV, Bool.not_false]
     simp [hx]
   · simp only [o_cont, o_pure, o_callF, o_guard, gk_ff, POp.ev, Opd.ev, gv, setD, List.map, xsj, xel, unV, Bool.not_true]
     refine (tfAsked_ok lim _ _ _ _ (by omega) (hs.ext hx) hn hn2).mono ?_
     rintro _ H2 ⟨rfl, hx2⟩
     simp only [Bool.and_eq_true] at hgi
     simp only [o_cont, o_pure, o_guard, gk_ff, o_nil, POp.ev, Opd.ev, gv, setD, xsj, xel, pickV, unV, hgi.1, Bool.true_and]
     simp [hx.trans hx2]
 · simp only [Bool.not_eq_true'] at hg
   refine s_reg ?_
   simp only [o_pure, o_nil, POp.ev, Opd.ev, setD, List.set, xsj, xel]
   refine s_ret1 ?_
   simp +decide only [pqr, pfr, resV, resOne, resL, gv, xsj, xel, Option.bind_some, xms]
   refine ⟨⟨.slice none 0 0, ?_, ?_⟩, hx⟩
   · simp [swR, hg]
   · simp [swR, hg]
     exact .inl ⟨rfl, rfl⟩
 · simp only [Bool.not_eq_false'] at hg
   have hgi := hg
   simp only [inU, Bool.and_eq_true, decide_eq_true_eq] at hgi
   obtain ⟨⟨hgd, hi1, hi2⟩, hk1, hk2⟩ := hgi
   obtain ⟨i, rfl⟩ : ∃ n : Nat, i = n := ⟨i.toNat, by omega⟩
   obtain ⟨k, rfl⟩ : ∃ n : Nat, k = n := ⟨k.toNat, by omega⟩
   have hiL : i < ss.length := by omega
   have hkL : k < ss.length := by omega
   have hR : swR ss i k = some (swpL ss i k) := by unfold swR; rw [if_pos hg]; simp
   have hRl := swpL_length ss i k
   have hs1 := hs.ext hx
   have hnx1 := hx.next
   refine s_skip1 ?_
   simp +decide only [pqn]
   refine s_reg ?_
   simp only [o_pure, o_nil, POp.ev, Opd.ev, setD, List.set, xsj, xel]
   refine s_assoc (s_reg ?_)
   simp only [o_pure, o_nil, POp.ev, Opd.ev, gv, setD, List.set, xsj, xel, hs.lenV]
   refine s_block ?_
   refine s_loop1 (fun j e' H' => ∃ (n b : Nat) (vs : List Value) (bs : List Nat) (v x6 x7 x11 : Value), n + j = ss.length ∧ GrowX H' H1.next b vs bs v ((swpL ss i k).take n) ∧ Ext H1 H' ∧ e' = [s, .int .i64 i, .int .i64 k, .slice none 0 0, .bool false, v, x6, x7, s, .int .i64 ss.length, .int .i64 n, x11]) ss.length ⟨0, H1.next, [], [], _, _, _, _, by omega, GrowX.nil' _, Ext.refl _, rfl⟩ ?_
   rintro j e' H' ⟨n, b, vs, bs, v, x6, x7, x11, hnj, hG, hx', rfl⟩
   have hnx2 := hx'.next
   refine s_test ?_
   simp only [o_pure, o_nil, POp.ev, Opd.ev, gv, setD, xsj, xel, binV, ne_eq, xnt, if_false]
   refine Test.split (fun hlt => ?_) (fun hlt => ?_)
   · have hlt' : n < ss.length := by simpa using hlt
     obtain ⟨b1, o1, s1, u1, u2, u3⟩ := (hs1.ext hx').at hlt'
     obtain ⟨b2, o2, s2, k1, k2, k3⟩ := (hs1.ext hx').at hkL
     obtain ⟨b3, o3, s3, m1, m2, m3⟩ := (hs1.ext hx').at hiL
     have hget := swpL_get hiL hkL hlt'
     refine s_skip1 ?_
     simp +decide only [pqn]
     refine s_block ?_
     refine s_reg ?_
     simp only [o_pure, o_nil, POp.ev, Opd.ev, gv, setD, List.set, xsj, xel, load1V, u1, u2]
     refine s_reg ?_
     simp only [o_pure, o_nil, POp.ev, Opd.ev, gv, setD, List.set, xsj, xel]
     refine s_cut1 (fun e' H'' => ∃ s', SlT H' s' (if n = i then ss[k] else if n = k then ss[i] else ss[n]) ∧ H'' = H' ∧ e' = [s, .int .i64 i, .int .i64 k, .slice none 0 0, .bool false, v, .int .i64 n, s', s, .int .i64 ss.length, .int .i64 n, .int .i64 n]) ?_ ?_
     · refine s_block1 ?_
       by_cases e1 : n = i
       · have d1 : ((n : Int) == (i : Int)) = true := by simp [e1]
         refine s_test1 ?_
         simp only [o_pure, o_nil, POp.ev, Opd.ev, gv, setD, xsj, xel, binV, ne_eq, xnt, if_false, d1]
         refine Test.true_ (s_reg1 ?_)
         simp only [o_pure, o_nil, POp.ev, Opd.ev, gv, setD, List.set, xsj, xel, load1V, k1, k2]
         simp +decide only [pqn, pbn]
         exact ⟨s2, by rw [if_pos e1]; exact k3, trivial, rfl⟩
       · have d1 : ((n : Int) == (i : Int)) = false := by simp; omega
         refine s_test1 ?_
         simp only [o_pure, o_nil, POp.ev, Opd.ev, gv, setD, xsj, xel, binV, ne_eq, xnt, if_false, d1]
         refine Test.false_ ?_
         by_cases e2 : n = k
         · have d2 : ((n : Int) == (k : Int)) = true := by simp [e2]
           refine s_test1 ?_
           simp only [o_pure, o_nil, POp.ev, Opd.ev, gv, setD, xsj, xel, binV, ne_eq, xnt, if_false, d2]
           refine Test.true_ (s_reg1 ?_)
           simp only [o_pure, o_nil, POp.ev, Opd.ev, gv, setD, List.set, xsj, xel, load1V, m1, m2]
           simp +decide only [pqn, pbn]
           exact ⟨s3, by rw [if_neg e1, if_pos e2]; exact m3, trivial, rfl⟩
         · have d2 : ((n : Int) == (k : Int)) = false := by simp; omega
           refine s_test1 ?_
           simp only [o_pure, o_nil, POp.ev, Opd.ev, gv, setD, xsj, xel, binV, ne_eq, xnt, if_false, d2]
           refine Test.false_ (s_skip1 ?_)
           simp +decide only [pqn, pbn]
           exact ⟨s1, by rw [if_neg e1, if_neg e2]; exact u3, trivial, rfl⟩
     rintro e'' H'' ⟨s', hs', rfl, rfl⟩
     have hpl : (if n = i then ss[k] else if n = k then ss[i] else ss[n]).length ≤ 1000000 := by
       split
       · exact hn2 _ (List.getElem_mem _)
       · split
         · exact hn2 _ (List.getElem_mem _)
         · exact hn2 _ (List.getElem_mem _)
     generalize hpe : (if n = i then ss[k] else if n = k then ss[i] else ss[n]) = p at hs' hpl hget
     refine s_reg1 ?_
     simp only [o_pure, o_callF, POp.ev, Opd.ev, gv, setD, List.map, xsj, xel]
     refine (tfOwn_ok lim _ _ _ (by omega) hs' (by omega)).mono ?_
     rintro s4 H2 ⟨c, hc1, hc2, hv4, hx4⟩
     have hcv : cellsV s4 = some [s4] := Vec.cellsV hv4
     obtain ⟨v', H3, b', g1, g2, g3⟩ := hG.push (lim := lim) (by omega) hx' (Nat.le_refl _) (by omega) hx4 hc1 hc2 hv4 (by rw [List.length_take]; omega)
     simp only [o_cont, o_pure, o_eff, o_nil, POp.ev, Opd.ev, EOp.ev, gv, setD, List.set, List.map, xsj, xel, bsliceV _ _ hcv, g1]
     simp +decide only [pqn, pbn]
     refine s_reg1 ?_
     simp only [o_pure, o_nil, POp.ev, Opd.ev, gv, setD, List.set, xsj, xel, binV, ne_eq, xnt, if_false, add1 (i := n) (by omega)]
     simp +decide only [pqn]
     refine Round.mk (j - 1) (by omega) ⟨n + 1, b', vs ++ [s4], bs ++ [c], v', _, _, _, by omega, ?_, g3, rfl⟩
     rw [List.take_add_one, hget]
     exact g2
   · have hge : n = ss.length := by simp at hlt; omega
     subst hge
     refine s_exit1 ?_
     simp +decide only [pqn, pqe, pbe, reduceIte]
     refine s_reg ?_
     simp only [o_pure, o_nil, POp.ev, Opd.ev, gv, setD, List.set, xsj, xel]
     refine s_ret1 ?_
     simp +decide only [pfr, resV, resOne, resL, gv, xsj, xel, Option.bind_some, xms]
     rw [List.take_of_length_le (by omega)] at hG
     rw [hR]
     exact ⟨⟨v, rfl, hG.own.wide hnx1 (Nat.le_refl _)⟩, hx.trans hx'⟩
theorem inside_ok (lim : Nat) (a b c : Int) (H : AHeap) : ACalls Tryz.prog lim n_impl_inside [.int .i64 a, .int .i64 b, .int .i64 c] H fun v H' => v = .bool (decide (b ≤ a) && decide (a ≤ c)) ∧ H' = H := by
 refine is_impl_inside.go rfl ?_
 unfold c_impl_inside
 refine s_reg ?_
 simp only [o_pure, o_nil, POp.ev, Opd.ev, env0, gu, setD, List.set, xsj, xel]
 refine s_reg ?_
 have e1 : (a ≥ b) = (b ≤ a) := rfl
 cases h1 : decide (b ≤ a)
 · simp only [o_pure, o_guard, gk_ft, o_nil, POp.ev, Opd.ev, gv, setD, List.set, xsj, xel, pickV, binV, ne_eq, xnt, if_false, e1, h1]
   refine s_ret1 ?_
   simp +decide only [pfr, resV, resOne, gv, xsj, xel]
   simp
 · simp only [o_pure, o_guard, gk_tt, o_nil, POp.ev, Opd.ev, gv, setD, List.set, xsj, xel, pickV, binV, ne_eq, xnt, if_false, e1, h1]
   refine s_ret1 ?_
   simp +decide only [pfr, resV, resOne, gv, xsj, xel]
   simp
theorem degree_ok (lim : Nat) (t : Tm) (H : AHeap) (h1 : 0 ≤ t.x ∧ t.x ≤ 4) (h2 : 0 ≤ t.y ∧ t.y ≤ 4) (h3 : 0 ≤ t.z ∧ t.z ≤ 4) : ACalls Tryz.prog lim n_impl_Term_degree [tv t] H fun v H' => v = .int .i64 (t.x + t.y + t.z) ∧ Ext H H' := by
 refine is_impl_Term_degree.go rfl ?_
 unfold c_impl_Term_degree
 refine s_reg ?_
 simp only [o_pure, o_eff, o_nil, POp.ev, Opd.ev, EOp.ev, env0, gu, gv, setD, List.set, xsj, xel, boxT]
 have hB := BoxT.mk' H t
 generalize H.alloc (tc t) = H1 at hB ⊢
 generalize H.next = p at hB ⊢
 have hx := hB.ext
 have w1 : IntKind.i64.wrap (t.x + t.y) = t.x + t.y := by rw [IntKind.wrap_i64]; omega
 have w2 : IntKind.i64.wrap (t.x + t.y + t.z) = t.x + t.y + t.z := by rw [IntKind.wrap_i64]; omega
 refine s_reg ?_
 simp only [o_pure, o_nil, POp.ev, Opd.ev, gv, setD, List.set, xsj, xel, binV, load1V, fadV, ne_eq, xnt, if_false, Nat.zero_add, hB.c1, hB.c2, hB.c3, w1, w2]
 refine s_ret1 ?_
 simp +decide only [pfr, resV, resOne, gv, xsj, xel]
 exact ⟨trivial, hx⟩
def degB (t : Tm) : Bool := (((decide (0 ≤ t.x) && decide (t.x ≤ 4)) && (decide (0 ≤ t.y) && decide (t.y ≤ 4))) && (decide (0 ≤ t.z) && decide (t.z ≤ 4))) && decide (t.x + t.y + t.z ≤ 4)
theorem hasDegree_ok (lim : Nat) (t : Tm) (H : AHeap) : ACalls Tryz.prog lim n_impl_hasDegree [tv t] H fun v H' => v = .bool (degB t) ∧ Ext H H' := by
 refine is_impl_hasDegree.go rfl ?_
 unfold c_impl_hasDegree
 refine s_reg ?_
 simp only [o_pure, o_eff, o_nil, POp.ev, Opd.ev, EOp.ev, env0, gu, gv, setD, List.set, xsj, xel, boxT]
 have hB := BoxT.mk' H t
 generalize H.alloc (tc t) = H1 at hB ⊢
 generalize H.next = p at hB ⊢
 have hx := hB.ext
 refine s_reg ?_
 simp only [o_pure, o_callF, POp.ev, Opd.ev, gv, setD, List.map, xsj, xel, load1V, fadV, Nat.zero_add, hB.c1]
 refine (inside_ok _ _ _ _ _).eq ?_
 unfold degB
 cases h2 : decide (0 ≤ t.x) && decide (t.x ≤ 4)
 · simp only [o_cont, o_pure, o_guard, gk_ft, o_nil, POp.ev, Opd.ev, gv, setD, List.set, xsj, xel, pickV]
   refine s_ret1 ?_
   simp +decide only [pfr, resV, resOne, gv, xsj, xel]
   exact ⟨by simp, hx⟩
 simp only [o_cont, o_pure, o_callF, o_guard, gk_tt, POp.ev, Opd.ev, gv, setD, List.map, xsj, xel, load1V, fadV, Nat.zero_add, hB.c2]
 refine (inside_ok _ _ _ _ _).eq ?_
 cases h3 : decide (0 ≤ t.y) && decide (t.y ≤ 4)
 · simp only [o_cont, o_pure, o_guard, gk_ft, o_nil, POp.ev, Opd.ev, gv, setD, List.set, xsj, xel, pickV]
   refine s_ret1 ?_
   simp +decide only [pfr, resV, resOne, gv, xsj, xel]
   exact ⟨by simp, hx⟩
 simp only [o_cont, o_pure, o_callF, o_guard, gk_tt, POp.ev, Opd.ev, gv, setD, List.map, xsj, xel, pickV, load1V, fadV, Nat.zero_add, hB.c3]
 refine (inside_ok _ _ _ _ _).eq ?_
 cases h4 : decide (0 ≤ t.z) && decide (t.z ≤ 4)
 · simp only [o_cont, o_pure, o_guard, gk_ft, o_nil, POp.ev, Opd.ev, gv, setD, List.set, xsj, xel, pickV]
   refine s_ret1 ?_
   simp +decide only [pfr, resV, resOne, gv, xsj, xel]
   exact ⟨by simp, hx⟩
 simp only [Bool.and_eq_true, decide_eq_true_eq] at h2 h3 h4
 simp only [o_cont, o_pure, o_callF, o_guard, gk_tt, POp.ev, Opd.ev, gv, setD, List.map, xsj, xel, pickV, hB.all]
 refine (degree_ok _ _ _ h2 h3 h4).mono ?_
 rintro _ H2 ⟨rfl, hx2⟩
 simp only [o_cont, o_pure, o_guard, gk_tt, o_nil, POp.ev, Opd.ev, gv, setD, List.set, xsj, xel, pickV, binV, ne_eq, xnt, if_false]
 refine s_ret1 ?_
 simp +decide only [pfr, resV, resOne, gv, xsj, xel]
 exact ⟨by simp, hx.trans hx2⟩
def cmp3 (a b : Int) : Int := if a < b then -1 else if a > b then 1 else 0
theorem isNaN_ok (lim : Nat) (a : Int) (H : AHeap) : ACalls Tryz.prog lim n_cmp_isNaN_int [.int .i64 a] H fun v H' => v = .bool false ∧ H' = H := by
 refine is_cmp_isNaN_int.go rfl ?_
 unfold c_cmp_isNaN_int
 have h : (a != a) = false := by simp
 refine s_reg ?_
 simp only [o_pure, o_nil, POp.ev, Opd.ev, env0, gu, setD, List.set, xsj, xel]
 refine s_reg ?_
 simp only [o_pure, o_nil, POp.ev, Opd.ev, gv, setD, List.set, xsj, xel, binV, ne_eq, xnt, if_false, h]
 refine s_ret1 ?_
 simp +decide only [pfr, resV, resOne, gv, xsj, xel]
theorem compare_ok (lim : Nat) (a b : Int) (H : AHeap) : ACalls Tryz.prog lim n_cmp_Compare_int [.int .i64 a, .int .i64 b] H fun v H' => v = .int .i64 (cmp3 a b) ∧ H' = H := by
 refine is_cmp_Compare_int.go rfl ?_
 unfold c_cmp_Compare_int cmp3
 refine s_reg ?_
 simp only [o_pure, o_nil, POp.ev, Opd.ev, env0, gu, setD, List.set, xsj, xel]
 refine s_reg ?_
 simp only [o_pure, o_callF, POp.ev, Opd.ev, gv, setD, List.map, xsj, xel]
 refine (isNaN_ok _ _ _).eq ?_
 simp only [o_cont, o_pure, o_nil, POp.ev, Opd.ev, gv, setD, List.set, xsj, xel]
 refine s_reg ?_
 simp only [o_pure, o_callF, POp.ev, Opd.ev, gv, setD, List.map, xsj, xel]
 refine (isNaN_ok _ _ _).eq ?_
 simp only [o_cont, o_pure, o_nil, POp.ev, Opd.ev, gv, setD, List.set, xsj, xel]
 refine s_test ?_
 simp only [o_pure, o_nil, POp.ev, Opd.ev, gv, setD, xsj, xel]
 refine Test.false_ (s_skip1 ?_)
 simp +decide only [pqn]
 refine s_test ?_
 simp only [o_pure, o_nil, POp.ev, Opd.ev, gv, setD, xsj, xel]
 refine Test.false_ (s_skip1 ?_)
 simp +decide only [pqn]
 refine s_test ?_
 simp only [o_pure, o_nil, POp.ev, Opd.ev, gv, setD, xsj, xel, binV, ne_eq, xnt, if_false]
 refine Test.split (fun h => ?_) (fun h => ?_)
 · refine s_reg ?_
   simp only [o_pure, o_nil, POp.ev, Opd.ev, setD, List.set, xsj, xel]
   refine s_ret1 ?_
   simp +decide only [pqr, pfr, resV, resOne, gv, xsj, xel]
   rw [if_pos (by simpa using h)]
   trivial
 · refine s_skip1 ?_
   simp +decide only [pqn]
   refine s_test ?_
   simp only [o_pure, o_nil, POp.ev, Opd.ev, gv, setD, xsj, xel, binV, ne_eq, xnt, if_false]
   refine Test.split (fun h2 => ?_) (fun h2 => ?_)
   · refine s_reg ?_
     simp only [o_pure, o_nil, POp.ev, Opd.ev, setD, List.set, xsj, xel]
     refine s_ret1 ?_
     simp +decide only [pqr, pfr, resV, resOne, gv, xsj, xel]
     rw [if_neg (by simpa using h), if_pos (by simpa using h2)]
     trivial
   · refine s_skip1 ?_
     simp +decide only [pqn]
     refine s_reg ?_
     simp only [o_pure, o_nil, POp.ev, Opd.ev, setD, List.set, xsj, xel]
     refine s_ret1 ?_
     simp +decide only [pfr, resV, resOne, gv, xsj, xel]
     rw [if_neg (by simpa using h), if_neg (by simpa using h2)]
     trivial
def orL : List Int → Int
 | [] => 0
 | x :: l => if x ≠ 0 then x else orL l
theorem or_ok (lim : Nat) (s : Value) (l : List Int) (H : AHeap) (hs : Sl H s l.length 1 (l.map vi)) (hn : l.length ≤ 1000) : ACalls Tryz.prog lim n_cmp_Or_int [s] H fun v H' => v = .int .i64 (orL l) ∧ H' = H := by
 refine is_cmp_Or_int.go rfl ?_
 unfold c_cmp_Or_int
 refine s_reg ?_
 simp only [o_pure, o_nil, POp.ev, Opd.ev, env0, gu, setD, List.set, xsj, xel]
 refine s_reg ?_
 simp only [o_pure, o_nil, POp.ev, Opd.ev, setD, List.set, xsj, xel]
 refine s_assoc (s_reg ?_)
 simp only [o_pure, o_nil, POp.ev, Opd.ev, gv, setD, List.set, xsj, xel, hs.lenV]
 refine s_block ?_
 refine s_loop1 (fun k e' H' => H' = H ∧ ∃ (i : Nat) (y : Value), i + k = l.length ∧ orL l = orL (l.drop i) ∧ e' = [s, .int .i64 0, .int .i64 0, y, s, .int .i64 l.length, .int .i64 i]) l.length ⟨rfl, 0, _, by omega, rfl, rfl⟩ ?_
 rintro k e' H ⟨rfl, i, y, hik, hall, rfl⟩
 refine s_test ?_
 simp only [o_pure, o_nil, POp.ev, Opd.ev, gv, setD, xsj, xel, binV, ne_eq, xnt, if_false]
 refine Test.split (fun hlt => ?_) (fun hlt => ?_)
 · have hlt' : i < l.length := by simpa using hlt
   obtain ⟨b, o, h1, h2, h3⟩ := hs.cell .i64 (i := (i : Int)) (by omega) (by omega)
   rw [show (i : Int).toNat = i by omega, List.getElem?_map, List.getElem?_eq_getElem hlt'] at h3
   simp only [xms] at h3
   rw [List.drop_eq_getElem_cons hlt', orL] at hall
   refine s_skip1 ?_
   simp +decide only [pqn]
   refine s_block ?_
   refine s_reg ?_
   simp only [o_pure, o_nil, POp.ev, Opd.ev, gv, setD, List.set, xsj, xel, load1V, h1, h3]
   refine s_test1 ?_
   simp only [o_pure, o_nil, POp.ev, Opd.ev, gv, setD, xsj, xel, binV, ne_eq, xnt, if_false]
   refine Test.split (fun h => ?_) (fun h => ?_)
   · refine s_reg ?_
     simp only [o_pure, o_nil, POp.ev, Opd.ev, gv, setD, List.set, xsj, xel]
     refine s_ret1 ?_
     simp +decide only [pqr, pbr, pfr, resV, resOne, gv, xsj, xel]
     rw [if_pos (by simpa using h)] at hall
     rw [hall]
     trivial
   · refine s_skip1 ?_
     simp +decide only [pqn, pbn]
     refine s_reg1 ?_
     simp only [o_pure, o_nil, POp.ev, Opd.ev, gv, setD, List.set, xsj, xel, binV, ne_eq, xnt, if_false, add1 (i := i) (by omega)]
     simp +decide only [pqn]
     rw [if_neg (by simpa using h)] at hall
     exact Round.mk (k - 1) (by omega) ⟨rfl, i + 1, _, by omega, hall, rfl⟩
 · have hge : i = l.length := by simp at hlt; omega
   subst hge
   refine s_exit1 ?_
   simp +decide only [pqn, pqe, pbe, reduceIte]
   refine s_reg ?_
   simp only [o_pure, o_nil, POp.ev, Opd.ev, gv, setD, List.set, xsj, xel]
   refine s_ret1 ?_
   simp +decide only [pfr, resV, resOne, gv, xsj, xel]
   rw [List.drop_length, orL] at hall
   rw [hall]
   trivial
theorem fill3i (a b c : Value) (k l m : Int) : fillV [a, b, c] [(0, 1, .int .i64 k), (1, 1, .int .i64 l), (2, 1, .int .i64 m)] = some [vi k, vi l, vi m] := by
 simp [fillV, cellsV]
def cmpT (a b : Tm) : Int := orL [cmp3 a.x b.x, cmp3 a.y b.y, cmp3 a.z b.z]
theorem compareTerms_ok (lim : Nat) (a b : Tm) (H : AHeap) : ACalls Tryz.prog lim n_impl_compareTerms [tv a, tv b] H fun v H' => v = .int .i64 (cmpT a b) ∧ Ext H H' := by
 refine is_impl_compareTerms.go rfl ?_
 unfold c_impl_compareTerms
 refine s_reg ?_
 simp only [o_pure, o_eff, o_nil, POp.ev, Opd.ev, EOp.ev, env0, gu, gv, setD, List.set, xsj, xel, boxT]
 have hA := BoxT.mk' H a
 have hB := BoxT.mk' (H.alloc (tc a)) b
 replace hA := hA.mono hB.ext
 generalize (H.alloc (tc a)).alloc (tc b) = H1 at hA hB ⊢
 generalize (H.alloc (tc a)).next = q at hB ⊢
 generalize H.next = p at hA ⊢
 have hx := hA.ext
 refine s_reg ?_
 simp only [o_pure, o_callN, POp.ev, Opd.ev, gv, setD, List.map, xsj, xel, load1V, fadV, Nat.zero_add, hA.c1, hB.c1, hA.c2, hB.c2, hA.c3, hB.c3]
 refine (compare_ok _ _ _ _).use ?_
 rintro _ HH ⟨rfl, hh⟩ _
 subst HH
 simp only [o_cont, o_callN, Opd.ev, gv, setD, List.map]
 refine (compare_ok _ _ _ _).use ?_
 rintro _ HH ⟨rfl, hh⟩ _
 subst HH
 simp only [o_cont, o_callF, Opd.ev, gv, setD, List.map]
 refine (compare_ok _ _ _ _).eq ?_
 have hlit : Sl (H1.alloc [vi (cmp3 a.x b.x), vi (cmp3 a.y b.y), vi (cmp3 a.z b.z)]) (.slice (some ⟨H1.next, 0, some 0⟩) 3 3) 3 1 [vi (cmp3 a.x b.x), vi (cmp3 a.y b.y), vi (cmp3 a.z b.z)] := Vec.sl (Vec.lit rfl)
 have hx2 := Ext.alloc H1 [vi (cmp3 a.x b.x), vi (cmp3 a.y b.y), vi (cmp3 a.z b.z)]
 have hbs : bsliceH H1 3 [.int .i64 0, .int .i64 0, .int .i64 0] [(0, 1, .int .i64 (cmp3 a.x b.x)), (1, 1, .int .i64 (cmp3 a.y b.y)), (2, 1, .int .i64 (cmp3 a.z b.z))] = some (.slice (some ⟨H1.next, 0, some 0⟩) 3 3, H1.alloc [vi (cmp3 a.x b.x), vi (cmp3 a.y b.y), vi (cmp3 a.z b.z)]) := by
   simp only [bsliceH, fill3i, xms]
 simp only [o_cont, o_eff, o_callF, Opd.ev, EOp.ev, gv, setD, List.map, xsj, xel, hbs]
 refine (or_ok _ _ [cmp3 a.x b.x, cmp3 a.y b.y, cmp3 a.z b.z] _ hlit (by simp)).eq ?_
 simp only [o_cont, o_pure, o_nil, POp.ev, Opd.ev, gv, setD, List.set, xsj, xel]
 refine s_ret1 ?_
 simp +decide only [pfr, resV, resOne, gv, xsj, xel]
 exact ⟨rfl, hx.trans hx2⟩
theorem cmp3_eq (a b : Int) : cmp3 a b = sgn3 (a - b) := by
 unfold cmp3 sgn3
 rcases Int.lt_trichotomy a b with h | h | h
 · rw [if_pos h, if_neg (by omega), if_pos (by omega)]
 · rw [if_neg (by omega), if_neg (by omega), if_neg (by omega), if_neg (by omega)]
 · rw [if_neg (by omega), if_pos h, if_pos (by omega)]
theorem sgn3_ne (n : Int) : sgn3 n ≠ 0 ↔ n ≠ 0 := by
 unfold sgn3
 rcases Int.lt_trichotomy n 0 with h | h | h
 · rw [if_neg (by omega), if_pos h]; omega
 · rw [if_neg (by omega), if_neg (by omega)]; omega
 · rw [if_pos h]; omega
theorem cmpT_eq {a b : Tm} : cmpT a b = ordT a b := by
 unfold cmpT ordT
 rw [cmp3_eq, cmp3_eq, cmp3_eq]
 simp only [orL]
 have z : ∀ n : Int, n = 0 → sgn3 n = 0 := by rintro n rfl; simp [sgn3]
 by_cases h1 : a.x = b.x
 · have s1 := z (b.x - b.x) (by omega)
   simp only [s1, h1, ne_eq, xnt, if_false]
   by_cases h2 : a.y = b.y
   · have s2 := z (b.y - b.y) (by omega)
     simp only [s2, h2, xnt, if_false]
     by_cases h3 : sgn3 (a.z - b.z) = 0
     · simp only [h3, xnt, if_false]
     · simp only [h3, not_false_eq_true, if_true]
   · have s2 : sgn3 (a.y - b.y) ≠ 0 := (sgn3_ne _).2 (by omega)
     simp only [ne_eq] at s2
     simp only [s2, h2, not_false_eq_true, if_true]
 · have s1 : sgn3 (a.x - b.x) ≠ 0 := (sgn3_ne _).2 (by omega)
   simp only [ne_eq] at s1
   simp only [s1, h1, ne_eq, not_false_eq_true, if_true]
theorem stepT_impl (p : List Tm) (i : Nat) (t : Tm) : stepT p i t = (!decide (t.c = 0) && (decide (-1000 ≤ t.c) && decide (t.c ≤ 1000)) && degB t && (match prevT p i with | none => true | some u => !decide (ordT u t ≥ 0))) := by
 unfold stepT okTm degB
 cases prevT p i <;> cases decide (t.c = 0) <;> cases (decide (-1000 ≤ t.c) && decide (t.c ≤ 1000)) <;> simp
theorem isPoly_ok (lim : Nat) (s : Value) (p : List Tm) (H : AHeap) (hl : lim ≤ H.next) (hs : SlT H s p) (hn : p.length ≤ 1000000000) : ACalls Tryz.prog lim n_impl_isPoly [s] H fun v H' => v = .bool (goodP p) ∧ Ext H H' := by
 refine is_impl_isPoly.go rfl ?_
 unfold c_impl_isPoly
 refine s_reg ?_
 simp only [o_pure, o_nil, POp.ev, Opd.ev, env0, gu, setD, List.set, xsj, xel]
 refine s_assoc (s_reg ?_)
 simp only [o_pure, o_nil, POp.ev, Opd.ev, gv, setD, List.set, xsj, xel, hs.lenV]
 refine s_block ?_
 refine s_loop1 (fun k e' H' => ∃ (i : Nat) (x y : Value), i + k = p.length ∧ goodF none p = goodF (prevT p i) (p.drop i) ∧ Ext H H' ∧ e' = [s, .bool false, x, y, s, .int .i64 p.length, .int .i64 i]) p.length ⟨0, _, _, by omega, rfl, Ext.refl _, rfl⟩ ?_
 rintro k e' H' ⟨i, x, y, hik, hall, hx, rfl⟩
 have hnx := hx.next
 refine s_test ?_
 simp only [o_pure, o_nil, POp.ev, Opd.ev, gv, setD, xsj, xel, binV, ne_eq, xnt, if_false]
 refine Test.split (fun hlt => ?_) (fun hlt => ?_)
 · have hlt' : i < p.length := by simpa using hlt
   obtain ⟨b1, o1, h1, hat⟩ := (hs.ext hx).at hlt'
   rw [goodF_step hlt'] at hall
   refine s_skip1 ?_
   simp +decide only [pqn]
   refine s_block ?_
   refine s_reg ?_
   simp only [o_pure, o_eff, o_nil, POp.ev, Opd.ev, EOp.ev, gv, setD, List.set, xsj, xel, h1, hat.all, store4_new (lim := lim) (H := H') (by omega)]
   have hB := BoxT.mk' H' p[i]
   generalize H'.alloc (tc p[i]) = H1 at hB ⊢
   generalize H'.next = q at hB hnx ⊢
   have hx1 := hx.trans hB.ext
   refine s_test1_I (!stepT p i p[i]) (Ext H1) ?_ (fun H2 hx2 hg => ?_) (fun H2 hx2 hg => ?_)
   · rw [stepT_impl]
     cases h6 : decide (p[i].c = 0)
     · have h6' : (p[i].c == 0) = false := by simpa using h6
       simp only [o_pure, o_callF, o_guard, gk_ff, POp.ev, Opd.ev, gv, setD, List.map, xsj, xel, binV, load1V, fadV, ne_eq, xnt, if_false, Bool.not_false, Nat.zero_add, hB.c0, h6']
       refine (inside_ok _ _ _ _ _).eq ?_
       cases h7 : decide (-1000 ≤ p[i].c) && decide (p[i].c ≤ 1000)
       · simp only [o_cont, o_pure, o_guard, gk_ff, gk_tf, gk_u, o_nil, POp.ev, Opd.ev, gv, setD, xsj, xel, pickV, unV, Bool.not_false]
         simp [Ext.refl]
       · simp only [o_cont, o_pure, o_callF, o_guard, gk_ff, POp.ev, Opd.ev, gv, setD, List.map, xsj, xel, pickV, unV, Bool.not_true, hB.all]
         refine (hasDegree_ok _ _ _).mono ?_
         rintro _ H2 ⟨rfl, hx2⟩
         have hB2 := hB.mono hx2
         cases h5 : degB p[i]
         · simp only [o_cont, o_pure, o_guard, gk_ff, gk_tf, gk_u, o_nil, POp.ev, Opd.ev, gv, setD, xsj, xel, pickV, unV, Bool.not_false]
           simp [hx2]
         · cases i with
           | zero =>
             have d0 : decide (((0 : Nat) : Int) > 0) = false := by decide
             simp only [o_cont, o_pure, o_guard, gk_ff, gk_ft, o_nil, POp.ev, Opd.ev, gv, setD, xsj, xel, pickV, binV, unV, ne_eq, xnt, if_false, Bool.not_true, d0]
             simp [prevT, hx2]
           | succ i =>
             have d0 : decide (((i + 1 : Nat) : Int) > 0) = true := decide_eq_true (by omega)
             have w1 : IntKind.i64.wrap (((i + 1 : Nat) : Int) - 1) = (i : Int) := by rw [IntKind.wrap_i64]; omega
             have hi : i < p.length := by omega
             obtain ⟨b2, o2, k1, hat2⟩ := ((hs.ext hx1).ext hx2).at hi
             have hpe : prevT p (i + 1) = some p[i] := List.getElem?_eq_getElem hi
             simp only [o_cont, o_pure, o_callF, o_guard, gk_tt, gk_ff, POp.ev, Opd.ev, gv, setD, List.map, xsj, xel, pickV, binV, unV, ne_eq, xnt, if_false, Bool.not_true, d0, w1, k1, hat2.all, hB2.all]
             refine (compareTerms_ok _ _ _ _).mono ?_
             rintro _ H3 ⟨rfl, hx3⟩
             simp only [o_cont, o_pure, o_guard, gk_tt, gk_ff, o_nil, POp.ev, Opd.ev, gv, setD, xsj, xel, pickV, binV, ne_eq, xnt, if_false, cmpT_eq]
             simp [hpe, hx2.trans hx3]
     · have h6' : (p[i].c == 0) = true := by simpa using h6
       simp only [o_pure, o_guard, gk_tf, gk_u, o_nil, POp.ev, Opd.ev, gv, setD, xsj, xel, pickV, binV, load1V, fadV, ne_eq, xnt, if_false, Bool.not_true, Nat.zero_add, hB.c0, h6']
       simp [Ext.refl]
   · refine s_reg ?_
     simp only [o_pure, o_nil, POp.ev, Opd.ev, setD, List.set, xsj, xel]
     refine s_ret1 ?_
     simp +decide only [pqr, pbr, pfr, resV, resOne, gv, xsj, xel]
     simp only [Bool.not_eq_true'] at hg
     refine ⟨?_, hx1.trans hx2⟩
     simp [goodP, hall, hg]
   · refine s_skip1 ?_
     simp +decide only [pqn, pbn]
     refine s_reg1 ?_
     simp only [o_pure, o_nil, POp.ev, Opd.ev, gv, setD, List.set, xsj, xel, binV, ne_eq, xnt, if_false, add1 (i := i) (by omega)]
     simp +decide only [pqn]
     simp only [Bool.not_eq_false'] at hg
     rw [hg, Bool.true_and] at hall
     exact Round.mk (k - 1) (by omega) ⟨i + 1, _, _, by omega, hall, hx1.trans hx2, rfl⟩
 · have hge : i = p.length := by simp at hlt; omega
   subst hge
   refine s_exit1 ?_
   simp +decide only [pqn, pqe, pbe, reduceIte]
   refine s_reg ?_
   simp only [o_pure, o_nil, POp.ev, Opd.ev, gv, setD, List.set, xsj, xel, binV, ne_eq, xnt, if_false, hs.lenV]
   refine s_ret1 ?_
   simp +decide only [pfr, resV, resOne, gv, xsj, xel]
   refine ⟨?_, hx⟩
   rw [List.drop_length] at hall
   simp [goodP, hall, goodF]
def expV (t : Tm) : Value := .agg #[vi t.x, vi t.y, vi t.z]
theorem exponents_ok (lim : Nat) (t : Tm) (H : AHeap) (hl : lim ≤ H.next) : ACalls Tryz.prog lim n_impl_Term_exponents [tv t] H fun v H' => v = expV t ∧ Ext H H' := by
 refine is_impl_Term_exponents.go rfl ?_
 unfold c_impl_Term_exponents
 refine s_reg ?_
 simp only [o_eff, o_nil, Opd.ev, EOp.ev, env0, gu, gv, setD, List.set, xsj, xel, boxT]
 have hB := BoxT.mk' H t
 have hn1 : (H.alloc (tc t)).next = H.next + 1 := rfl
 generalize H.alloc (tc t) = H1 at hB hn1 ⊢
 have hx2 := Ext.alloc H1 [.int .i64 0, .int .i64 0, .int .i64 0]
 have hB2 := hB.mono hx2
 generalize hp : H.next = p at hB hB2 hn1 hl ⊢
 refine s_reg ?_
 simp only [o_pure, o_eff, o_nil, POp.ev, Opd.ev, EOp.ev, gv, setD, List.map, xms, xsj, xel, load1V, fadV, Nat.zero_add, hB2.c1, hB2.c2, hB2.c3, fill3i, store3 (lim := lim) (b := H1.next) (by omega) (alloc_new _ _)]
 refine s_ret1 ?_
 simp +decide only [pfr, resV, resOne, gv, xsj, xel, load3 (put_same _ _ _)]
 exact ⟨rfl, Chg.ext hB2.ext (Chg.put _ _ _) (by omega)⟩
def expF (n : Int) (t : Tm) (u : Nat) : Bool := (decide (u > 0) || !(decide (0 ≥ n) && decide (t.x > 0))) && (decide (u > 1) || !(decide (1 ≥ n) && decide (t.y > 0))) && (decide (u > 2) || !(decide (2 ≥ n) && decide (t.z > 0)))
def ex (t : Tm) (u : Nat) : Int := if u = 0 then t.x else if u = 1 then t.y else t.z
theorem expF_step {n : Int} {t : Tm} {u : Nat} (h : u < 3) : expF n t u = (!(decide ((u : Int) ≥ n) && decide (ex t u > 0)) && expF n t (u + 1)) := by
 match u, h with
 | 0, _ => simp [expF, ex, Bool.and_assoc]
 | 1, _ => simp [expF, ex]
 | 2, _ => simp [expF, ex]
theorem aix_exp {t : Tm} {u : Nat} (h : u < 3) : aix1V 3 1 (expV t) (.int .i64 u) = some (vi (ex t u)) := by
 match u, h with
 | 0, _ => rfl
 | 1, _ => rfl
 | 2, _ => rfl
def needF (n : Int) : List Tm → Bool
 | [] => true
 | t :: l => expF n t 0 && needF n l
theorem needs_ok (lim : Nat) (s : Value) (p : List Tm) (n : Int) (H : AHeap) (hl : lim ≤ H.next) (hs : SlT H s p) (hn : p.length ≤ 1000000000) : ACalls Tryz.prog lim n_impl_needsAtMost [s, .int .i64 n] H fun v H' => v = .bool (needF n p) ∧ Ext H H' := by
 refine is_impl_needsAtMost.go rfl ?_
 unfold c_impl_needsAtMost
 refine s_reg ?_
 simp only [o_pure, o_nil, POp.ev, Opd.ev, env0, gu, setD, List.set, xsj, xel]
 refine s_assoc (s_reg ?_)
 simp only [o_pure, o_nil, POp.ev, Opd.ev, gv, setD, List.set, xsj, xel, hs.lenV]
 refine s_block ?_
 refine s_loop1 (fun k e' H' => ∃ (i : Nat) (x3 x4 x5 x9 x10 : Value), i + k = p.length ∧ needF n p = needF n (p.drop i) ∧ Ext H H' ∧ e' = [s, .int .i64 n, .bool false, x3, x4, x5, s, .int .i64 p.length, .int .i64 i, x9, x10]) p.length ⟨0, _, _, _, _, _, by omega, rfl, Ext.refl _, rfl⟩ ?_
 rintro k e' H' ⟨i, x3, x4, x5, x9, x10, hik, hall, hx, rfl⟩
 have hnx := hx.next
 refine s_test ?_
 simp only [o_pure, o_nil, POp.ev, Opd.ev, gv, setD, xsj, xel, binV, ne_eq, xnt, if_false]
 refine Test.split (fun hlt => ?_) (fun hlt => ?_)
 · have hlt' : i < p.length := by simpa using hlt
   obtain ⟨b1, o1, h1, hat⟩ := (hs.ext hx).at hlt'
   rw [List.drop_eq_getElem_cons hlt', needF] at hall
   refine s_skip1 ?_
   simp +decide only [pqn]
   refine s_block ?_
   refine s_reg ?_
   simp only [o_pure, o_eff, o_nil, POp.ev, Opd.ev, EOp.ev, gv, setD, List.set, xsj, xel, h1, hat.all, store4_new (lim := lim) (H := H') (by omega)]
   have hB := BoxT.mk' H' p[i]
   generalize H'.alloc (tc p[i]) = H1 at hB ⊢
   generalize H'.next = q at hB hnx ⊢
   have hx1 := hx.trans hB.ext
   have hnx1 := hx1.next
   refine s_reg ?_
   simp only [o_pure, o_callF, POp.ev, Opd.ev, gv, setD, List.map, xsj, xel, hB.all]
   refine (exponents_ok lim _ _ (by omega)).mono ?_
   rintro _ H2 ⟨rfl, hx2⟩
   simp only [o_cont, o_pure, o_nil, POp.ev, Opd.ev, setD, List.set, xsj, xel]
   refine s_block1 ?_
   refine s_loop1 (fun j2 e' H2' => H2' = H2 ∧ ∃ (u : Nat) (x4 x5 : Value), u + j2 = 3 ∧ expF n p[i] 0 = expF n p[i] u ∧ e' = [s, .int .i64 n, .bool false, .pointer (some ⟨q, 0, none⟩), x4, x5, s, .int .i64 p.length, .int .i64 i, expV p[i], .int .i64 u]) 3 ⟨rfl, 0, _, _, by omega, rfl, rfl⟩ ?_
   rintro j2 e' H2 ⟨rfl, u, x4, x5, huj, hfr, rfl⟩
   refine s_test ?_
   simp only [o_pure, o_nil, POp.ev, Opd.ev, gv, setD, xsj, xel, binV, ne_eq, xnt, if_false]
   refine Test.split (fun hlt3 => ?_) (fun hlt3 => ?_)
   · have hu : u < 3 := by simp at hlt3; omega
     rw [expF_step hu] at hfr
     refine s_skip1 ?_
     simp +decide only [pqn]
     refine s_block ?_
     refine s_reg ?_
     simp only [o_pure, o_nil, POp.ev, Opd.ev, gv, setD, List.set, xsj, xel, aix_exp hu]
     refine s_test1_same (decide ((u : Int) ≥ n) && decide (ex p[i] u > 0)) ?_ (fun hg => ?_) (fun hg => ?_)
     · cases h7 : decide ((u : Int) ≥ n)
       · simp only [o_pure, o_guard, gk_ft, o_nil, POp.ev, Opd.ev, gv, setD, xsj, xel, pickV, binV, ne_eq, xnt, if_false, h7]
         simp
       · simp only [o_pure, o_guard, gk_tt, o_nil, POp.ev, Opd.ev, gv, setD, xsj, xel, pickV, binV, ne_eq, xnt, if_false, h7]
         simp
     · refine s_reg ?_
       simp only [o_pure, o_nil, POp.ev, Opd.ev, setD, List.set, xsj, xel]
       refine s_ret1 ?_
       simp +decide only [pqr, pbr, pfr, resV, resOne, gv, xsj, xel]
       rw [hg, Bool.not_true, Bool.false_and] at hfr
       rw [hfr, Bool.false_and] at hall
       rw [hall]
       exact ⟨rfl, hx1.trans hx2⟩
     · refine s_skip1 ?_
       simp +decide only [pqn, pbn]
       refine s_reg1 ?_
       simp only [o_pure, o_nil, POp.ev, Opd.ev, gv, setD, List.set, xsj, xel, binV, ne_eq, xnt, if_false, add1 (i := u) (by omega)]
       simp +decide only [pqn]
       rw [hg, Bool.not_false, Bool.true_and] at hfr
       exact Round.mk (j2 - 1) (by omega) ⟨rfl, u + 1, _, _, by omega, hfr, rfl⟩
   · have hu : u = 3 := by simp at hlt3; omega
     subst hu
     refine s_exit1 ?_
     simp +decide only [pqn, pqe, pbn, pbe, reduceIte]
     refine s_reg1 ?_
     simp only [o_pure, o_nil, POp.ev, Opd.ev, gv, setD, List.set, xsj, xel, binV, ne_eq, xnt, if_false, add1 (i := i) (by omega)]
     simp +decide only [pqn]
     have h3 : expF n p[i] 3 = true := by simp [expF]
     rw [h3] at hfr
     rw [hfr, Bool.true_and] at hall
     exact Round.mk (k - 1) (by omega) ⟨i + 1, _, _, _, _, _, by omega, hall, hx1.trans hx2, rfl⟩
 · have hge : i = p.length := by simp at hlt; omega
   subst hge
   refine s_exit1 ?_
   simp +decide only [pqn, pqe, pbe, reduceIte]
   refine s_reg ?_
   simp only [o_pure, o_nil, POp.ev, Opd.ev, setD, List.set, xsj, xel]
   refine s_ret1 ?_
   simp +decide only [pfr, resV, resOne, gv, xsj, xel]
   rw [List.drop_length, needF] at hall
   rw [hall]
   exact ⟨rfl, hx⟩
end Go.Proofs.YtmdeppkfboaepaaGreat
