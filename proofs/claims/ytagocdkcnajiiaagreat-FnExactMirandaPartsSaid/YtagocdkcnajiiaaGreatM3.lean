/- Parts of the proof of a statement of this seat: contracts of functions that the law calls, or the law's own row; no condition. -/
import Derived.Test.YtagocdkcnajiiaaGreatC
import Derived.Test.YtagocdkcnajiiaaGreatAbVec
import Derived.Test.YtagocdkcnajiiaaGreatM2
/- Parts of the proof of a statement of this seat: contracts of functions that the law calls, or the law's own row; no condition. -/
/- The reader of expressions, implementation: bases; no condition beyond stated ranges. -/
namespace Go.Proofs.YtagocdkcnajiiaaGreat
open Go.Ab
set_option linter.unusedSimpArgs false
set_option linter.unusedVariables false
def ResI (s : ByteArray) (q : Nat) (d : Int) (H0 : AHeap) (r : Option (St × V)) (v : Value) (H' : AHeap) : Prop :=
 Chg q H0 H' ∧ ∃ (X : V) (i' : Nat) (d' m' : Int) (f' t' : Bool), Good X ∧ IV H' H0.next v X ∧ i' ≤ s.size ∧ IRd H' q s i' d' m' f' t' ∧ (match r with
   | some r => f' = true ∧ i' = r.1.i ∧ d' = d ∧ m' = r.1.most ∧ t' = !r.1.large ∧ (r.1.large = false → X = r.2)
   | none => f' = false ∨ isD (ch s i') = true)
theorem ResI.cases {s : ByteArray} {q : Nat} {d : Int} {H0 H' : AHeap} {F : PF} {st : St} {v : Value} (hadv : Adv s F) (h : ResI s q d H0 (F st) v H') :
   Chg q H0 H' ∧ ∃ (X : V) (sl : Value) (i6 : Nat) (d6 m6 : Int) (f6 t6 : Bool), v = .agg #[.int .i64 X.den, sl] ∧ Good X ∧ SlF H' H0.next sl X.ts ∧ IRd H' q s i6 d6 m6 f6 t6 ∧ i6 ≤ s.size ∧
     ((F st = none ∧ (f6 = false ∨ isD (ch s i6) = true)) ∨ (∃ (l6 : Bool) (Y : V), F st = some (⟨i6, m6, l6⟩, Y) ∧ f6 = true ∧ d6 = d ∧ t6 = !l6 ∧ st.i < i6 ∧ Good Y ∧ (l6 = false → X = Y))) := by
 obtain ⟨c, X, i', d', m', f', t', gX, ⟨sl, rfl, fX⟩, hi, h1, hr⟩ := h
 refine ⟨c, X, sl, i', d', m', f', t', rfl, gX, fX, h1, hi, ?_⟩
 cases hf : F st with
 | none => rw [hf] at hr; exact .inl ⟨rfl, hr⟩
 | some r =>
   rw [hf] at hr
   obtain ⟨rfl, rfl, rfl, rfl, rfl, h2⟩ := hr
   obtain ⟨a1, a2, a3⟩ := hadv _ _ hf
   exact .inr ⟨r.1.large, r.2, rfl, rfl, rfl, rfl, a1, a3, h2⟩
def polyF (s : ByteArray) : Option V := (pRead s).bind fun r => if r.1.large = false ∧ goodP r.2.ts = true then some r.2 else none
def PolyR (s : ByteArray) (H : AHeap) (v : Value) (H' : AHeap) : Prop :=
 Ext H H' ∧ ∃ (sl : Value) (den : Int) (ok : Bool), v = .tuple #[sl, .int .i64 den, .bool ok] ∧ (match polyF s with | some V => ok = true ∧ den = V.den ∧ SlF H' H.next sl V.ts | none => ok = false ∧ den = 0 ∧ sl = .slice none 0 0)
def polyL (s : ByteArray) : List Tm := match polyF s with | some V => V.ts | none => []
def polyD (s : ByteArray) : Int := match polyF s with | some V => V.den | none => 0
theorem PolyR.all {s : ByteArray} {H H' : AHeap} {v : Value} (h : PolyR s H v H') : Ext H H' ∧ ∃ sl, v = .tuple #[sl, .int .i64 (polyD s), .bool (polyF s).isSome] ∧ SlF H' H.next sl (polyL s) := by
 obtain ⟨hx, sl, den, ok, rfl, hm⟩ := h
 refine ⟨hx, sl, ?_⟩
 unfold polyD polyL
 cases hp : polyF s with
 | none =>
   rw [hp] at hm
   obtain ⟨rfl, rfl, rfl⟩ := hm
   exact ⟨rfl, SlF.nil _ _⟩
 | some V =>
   rw [hp] at hm
   obtain ⟨rfl, rfl, h⟩ := hm
   exact ⟨rfl, h⟩
structure Sml (p : List Tm) : Prop where
 ok : ∀ t ∈ p, t.c ≠ 0 ∧ -1000 ≤ t.c ∧ t.c ≤ 1000
 len : p.length ≤ 20
theorem Sml.step {p : List Tm} (h : Sml p) {i : Nat} (hi : i < p.length) {g : Int} (h0 : 0 ≤ g) : 0 < (Int.gcd g p[i].c : Int) ∧ (Int.gcd g p[i].c : Int) ≤ 1000 := by
 have h1 := h.ok _ (List.getElem_mem hi)
 have h2 : Int.gcd g p[i].c ≠ 0 := by
   intro e
   have := (Int.gcd_eq_zero_iff.1 e).2
   exact h1.1 this
 refine ⟨by omega, ?_⟩
 have h3 : (Int.gcd g p[i].c : Int) ∣ p[i].c := Int.gcd_dvd_right ..
 have h4 := Int.le_of_dvd (b := (p[i].c.natAbs : Int)) (by omega) (Int.dvd_natAbs.2 h3)
 omega
def lsum {α : Type} (f : α → Int) : List α → Int
 | [] => 0
 | a :: l => f a + lsum f l
theorem lsum_append {α : Type} (f : α → Int) : ∀ a b : List α, lsum f (a ++ b) = lsum f a + lsum f b
 | [], b => by simp [lsum]
 | x :: a, b => by rw [List.cons_append, lsum, lsum, lsum_append f a b]; omega
theorem lsum_map {α β : Type} (f : β → Int) (g : α → β) : ∀ l : List α, lsum f (l.map g) = lsum (fun a => f (g a)) l
 | [] => rfl
 | a :: l => by rw [List.map_cons, lsum, lsum, lsum_map f g l]
theorem lsum_flatMap {α β : Type} (f : β → Int) (g : α → List β) : ∀ l : List α, lsum f (l.flatMap g) = lsum (fun a => lsum f (g a)) l
 | [] => rfl
 | a :: l => by rw [List.flatMap_cons, lsum_append, lsum, lsum_flatMap f g l]
theorem lsum_congr {α : Type} {f g : α → Int} : ∀ {l : List α}, (∀ a ∈ l, f a = g a) → lsum f l = lsum g l
 | [], _ => rfl
 | a :: l, h => by rw [lsum, lsum, h a (by simp), lsum_congr fun b hb => h b (by simp [hb])]
theorem lsum_mul {α : Type} (c : Int) (f : α → Int) : ∀ l : List α, lsum (fun a => c * f a) l = c * lsum f l
 | [] => by simp [lsum]
 | a :: l => by rw [lsum, lsum, lsum_mul c f l, Int.mul_add]
theorem lsum_mul_r {α : Type} (c : Int) (f : α → Int) (l : List α) : lsum (fun a => f a * c) l = lsum f l * c := by
 rw [Int.mul_comm, ← lsum_mul]
 exact lsum_congr fun a _ => Int.mul_comm _ _
theorem lsum_zero {α : Type} : ∀ l : List α, lsum (fun _ => 0) l = 0
 | [] => rfl
 | a :: l => by rw [lsum, lsum_zero l]; rfl
theorem lsum_add {α : Type} (f g : α → Int) : ∀ l : List α, lsum (fun a => f a + g a) l = lsum f l + lsum g l
 | [] => rfl
 | a :: l => by rw [lsum, lsum, lsum, lsum_add f g l]; omega
theorem lsum_swap {α β : Type} (f : α → β → Int) : ∀ (l : List α) (m : List β), lsum (fun a => lsum (f a) m) l = lsum (fun b => lsum (fun a => f a b) l) m
 | [], m => by simp only [lsum]; exact (lsum_zero m).symm
 | a :: l, m => by
   rw [lsum, lsum_swap f l m, ← lsum_add]
   rfl
theorem lsum_range_succ (f : Nat → Int) (n : Nat) : lsum f (List.range (n + 1)) = lsum f (List.range n) + f n := by
 rw [List.range_succ, lsum_append]
 simp [lsum]
theorem lsum_abs {α : Type} (f : α → Int) (M : Nat) : ∀ l : List α, (∀ a ∈ l, (f a).natAbs ≤ M) → (lsum f l).natAbs ≤ l.length * M
 | [], _ => by simp [lsum]
 | a :: l, h => by
   have h1 := h a (by simp)
   have h2 := lsum_abs f M l fun b hb => h b (by simp [hb])
   rw [lsum, List.length_cons, Nat.succ_mul]
   omega
theorem lsum_abs_le {α : Type} (f : α → Int) (g : α → Nat) : ∀ l : List α, (∀ a ∈ l, (f a).natAbs ≤ g a) → (lsum f l).natAbs ≤ (l.map g).sum
 | [], _ => by simp [lsum]
 | a :: l, h => by
   have h1 := h a (by simp)
   have h2 := lsum_abs_le f g l fun b hb => h b (by simp [hb])
   rw [lsum, List.map_cons, List.sum_cons]
   omega
def chs : Nat → Nat → Nat
 | _, 0 => 1
 | 0, _ + 1 => 0
 | n + 1, k + 1 => chs n k + chs n (k + 1)
def fac (d : Nat) : Nat := [1, 1, 2, 3, 12].getD d 0
def wgt (d i j : Nat) : Int := (chs i j : Int) * ((fac d / chs d j : Nat) : Int)
def prt (lo hi : Int) (e j : Nat) : Int := (chs e j : Int) * lo ^ (e - j) * (hi - lo) ^ j
def bta (d : Nat) (lo hi : Int) (e i : Nat) : Int := lsum (fun j => wgt d i j * prt lo hi e j) (List.range (d + 1))
theorem prt_same (lo : Int) (e : Nat) {j : Nat} (hj : 0 < j) : prt lo lo e j = 0 := by
 obtain ⟨k, rfl⟩ : ∃ k, j = k + 1 := ⟨j - 1, by omega⟩
 unfold prt
 rw [Int.sub_self, Int.pow_succ]
 simp
theorem prt_zero (lo hi : Int) (e : Nat) : prt lo hi e 0 = lo ^ e := by
 unfold prt
 have : chs e 0 = 1 := by cases e <;> rfl
 rw [this]
 simp
theorem wgt_zero (d i : Nat) : wgt d i 0 = fac d := by
 unfold wgt
 have h : ∀ e, chs e 0 = 1 := fun e => by cases e <;> rfl
 rw [h, h]
 simp
theorem bta_same (d : Nat) (lo : Int) (e i : Nat) : bta d lo lo e i = fac d * lo ^ e := by
 unfold bta
 have : ∀ n, lsum (fun j => wgt d i j * prt lo lo e j) (List.range (n + 1)) = fac d * lo ^ e := by
   intro n
   induction n with
   | zero => simp [lsum, List.range_succ, wgt_zero, prt_zero]
   | succ n ih =>
     rw [lsum_range_succ, ih, prt_same lo e (by omega)]
     simp
 exact this d
theorem pow_abs (a : Int) {M : Nat} (h : a.natAbs ≤ M) : ∀ n : Nat, (a ^ n).natAbs ≤ M ^ n
 | 0 => by simp
 | n + 1 => by
   rw [Int.pow_succ, Int.natAbs_mul, Nat.pow_succ]
   exact Nat.mul_le_mul (pow_abs a h n) h
def btaM (d e i : Nat) : Nat := ((List.range (d + 1)).map fun j => (chs i j * (fac d / chs d j)) * (chs e j * 128 ^ (e - j) * 256 ^ j)).sum
theorem btaM_all : ∀ d : Fin 5, ∀ e : Fin 5, ∀ i : Fin 5, i.val ≤ d.val → e.val ≤ d.val ∨ e.val = 0 ∨ True → btaM d.val e.val i.val ≤ 12 * 384 ^ e.val := by decide +kernel
theorem bta_abs {d e i : Nat} {lo hi : Int} (hd : d ≤ 4) (he : e ≤ 4) (hi' : i ≤ d) (h1 : lo.natAbs ≤ 128) (h2 : (hi - lo).natAbs ≤ 256) : (bta d lo hi e i).natAbs ≤ 12 * 384 ^ e := by
 refine Nat.le_trans ?_ (btaM_all ⟨d, by omega⟩ ⟨e, by omega⟩ ⟨i, by omega⟩ hi' (.inr (.inr trivial)))
 refine lsum_abs_le _ _ _ fun j _ => ?_
 unfold wgt prt
 simp only [Int.natAbs_mul, Int.natAbs_natCast]
 exact Nat.mul_le_mul_left _ (Nat.mul_le_mul (Nat.mul_le_mul_left _ (pow_abs _ h1 _)) (pow_abs _ h2 _))
structure Ax where
 lo : Int
 hi : Int
 d : Nat
def prodB : List Ax → List Nat → List Nat → Int
 | a :: xs, e :: es, i :: is => bta a.d a.lo a.hi e i * prodB xs es is
 | _, _, _ => 1
def prodP : List Ax → List Nat → List Nat → Int
 | a :: xs, e :: es, j :: js => prt a.lo a.hi e j * prodP xs es js
 | _, _, _ => 1
def prodW : List Ax → List Nat → List Nat → Int
 | a :: xs, i :: is, j :: js => wgt a.d i j * prodW xs is js
 | _, _, _ => 1
def placesL : List Nat → List (List Nat)
 | [] => [[]]
 | m :: ms => (List.range (m + 1)).flatMap fun n => (placesL ms).map (n :: ·)
theorem placesL_snoc : ∀ (ms : List Nat) (m : Nat), placesL (ms ++ [m]) = (placesL ms).flatMap fun l => (List.range (m + 1)).map fun n => l ++ [n]
 | [], m => by simp [placesL, List.flatMap_singleton']; induction (List.range (m + 1)) <;> simp_all
 | k :: ms, m => by
   rw [List.cons_append, placesL, placesL, placesL_snoc ms m, List.flatMap_assoc]
   congr 1
   funext n
   rw [List.flatMap_map, List.map_flatMap]
   congr 1
   funext l
   simp [List.map_map, Function.comp_def]
theorem placesL_len : ∀ (ms : List Nat) (l : List Nat), l ∈ placesL ms → l.length = ms.length
 | [], l, h => by simp [placesL] at h; simp [h]
 | m :: ms, l, h => by
   simp only [placesL, List.mem_flatMap, List.mem_map] at h
   obtain ⟨n, _, l', h1, rfl⟩ := h
   simp [placesL_len ms l' h1]
theorem dist : ∀ (xs : List Ax) (es is : List Nat), es.length = xs.length → is.length = xs.length →
   lsum (fun js => prodP xs es js * prodW xs is js) (placesL (xs.map (·.d))) = prodB xs es is
 | [], es, is, _, _ => by simp [placesL, lsum, prodP, prodW, prodB]
 | a :: xs, e :: es, i :: is, h1, h2 => by
   have ih := dist xs es is (by simpa using h1) (by simpa using h2)
   rw [List.map_cons, placesL, lsum_flatMap, prodB]
   have : ∀ n, lsum (fun js => prodP (a :: xs) (e :: es) js * prodW (a :: xs) (i :: is) js) ((placesL (xs.map (·.d))).map (n :: ·)) = (wgt a.d i n * prt a.lo a.hi e n) * prodB xs es is := by
     intro n
     rw [lsum_map, ← ih, ← lsum_mul]
     refine lsum_congr fun js _ => ?_
     simp only [prodP, prodW]
     simp only [Int.mul_assoc, Int.mul_comm, Int.mul_left_comm]
   simp only [this]
   rw [lsum_mul_r]
   rfl
 | a :: xs, [], is, h1, _ => by simp at h1
 | a :: xs, e :: es, [], _, h2 => by simp at h2
abbrev wr (a : Int) : Int := IntKind.i64.wrap a
theorem wr_id {a : Int} (h0 : -9223372036854775808 ≤ a) (h1 : a ≤ 9223372036854775807) : wr a = a := by
 show IntKind.i64.wrap a = a
 rw [IntKind.wrap_i64]; omega
theorem wr_ex (a : Int) : ∃ q : Int, wr a = a + 18446744073709551616 * q := by
 refine ⟨-((a + 9223372036854775808) / 18446744073709551616), ?_⟩
 show IntKind.i64.wrap a = _
 rw [IntKind.wrap_i64]; omega
theorem wr_shift (a q : Int) : wr (a + 18446744073709551616 * q) = wr a := by
 show IntKind.i64.wrap _ = IntKind.i64.wrap _
 rw [IntKind.wrap_i64, IntKind.wrap_i64]; omega
theorem wr_wr (a : Int) : wr (wr a) = wr a := by
 obtain ⟨q, h⟩ := wr_ex a
 conv => lhs; rw [h]
 exact wr_shift a q
theorem wr_add_l (a b : Int) : wr (wr a + b) = wr (a + b) := by
 obtain ⟨q, h⟩ := wr_ex a
 rw [h, show a + 18446744073709551616 * q + b = a + b + 18446744073709551616 * q by omega, wr_shift]
theorem wr_add_r (a b : Int) : wr (a + wr b) = wr (a + b) := by rw [Int.add_comm, wr_add_l, Int.add_comm]
theorem wr_mul_l (a b : Int) : wr (wr a * b) = wr (a * b) := by
 obtain ⟨q, h⟩ := wr_ex a
 rw [h, Int.add_mul, Int.mul_assoc, wr_shift]
theorem wr_mul_r (a b : Int) : wr (a * wr b) = wr (a * b) := by rw [Int.mul_comm, wr_mul_l, Int.mul_comm]
theorem wr_mul (a b : Int) : wr (wr a * wr b) = wr (a * b) := by rw [wr_mul_l, wr_mul_r]
theorem wr_add (a b : Int) : wr (wr a + wr b) = wr (a + b) := by rw [wr_add_l, wr_add_r]
def nar (a : Ax) : Ax := ⟨a.lo, a.hi, if a.lo = a.hi then 0 else a.d⟩
def mulF : List Ax → Int
 | [] => 1
 | a :: xs => (if a.lo = a.hi then (fac a.d : Int) else 1) * mulF xs
def rr : List Ax → List Nat → List Nat
 | a :: xs, i :: is => (if a.lo = a.hi then 0 else i) :: rr xs is
 | _, _ => []
theorem fac_pos {d : Nat} (h : d ≤ 4) : 0 < fac d := by
 have : ∀ x : Fin 5, 0 < fac x.val := by decide
 exact this ⟨d, by omega⟩
theorem mulF_pos : ∀ {xs : List Ax}, (∀ a ∈ xs, a.d ≤ 4) → 0 < mulF xs
 | [], _ => by decide
 | a :: xs, h => by
   have ih := mulF_pos (xs := xs) fun b hb => h b (by simp [hb])
   have := fac_pos (h a (by simp))
   rw [mulF]
   refine Int.mul_pos ?_ ih
   split
   · omega
   · decide
theorem prodB_nar : ∀ (xs : List Ax) (es is : List Nat), es.length = xs.length → is.length = xs.length → prodB xs es is = mulF xs * prodB (xs.map nar) es (rr xs is)
 | [], es, is, _, _ => by simp [prodB, mulF]
 | a :: xs, e :: es, i :: is, h1, h2 => by
   have ih := prodB_nar xs es is (by simpa using h1) (by simpa using h2)
   rw [prodB, ih, mulF, List.map_cons, rr, prodB]
   have : bta a.d a.lo a.hi e i = (if a.lo = a.hi then (fac a.d : Int) else 1) * bta (nar a).d (nar a).lo (nar a).hi e (if a.lo = a.hi then 0 else i) := by
     unfold nar
     by_cases h : a.lo = a.hi
     · simp only [h, if_true]
       rw [bta_same, bta_same]
       simp [fac]
     · simp only [h, if_false, Int.one_mul]
   rw [this]
   simp only [Int.mul_assoc, Int.mul_left_comm]
 | a :: xs, [], is, h1, _ => by simp at h1
 | a :: xs, e :: es, [], _, h2 => by simp at h2
theorem mem_placesL : ∀ {ms l : List Nat}, l ∈ placesL ms ↔ l.length = ms.length ∧ ∀ (s : Nat) (i m : Nat), l[s]? = some i → ms[s]? = some m → i ≤ m
 | [], l => by
   simp only [placesL, List.mem_singleton]
   constructor
   · rintro rfl; simp
   · rintro ⟨h, _⟩; exact List.length_eq_zero_iff.1 h
 | m :: ms, l => by
   simp only [placesL, List.mem_flatMap, List.mem_map, List.mem_range]
   constructor
   · rintro ⟨n, hn, l', h', rfl⟩
     obtain ⟨h1, h2⟩ := mem_placesL.1 h'
     refine ⟨by simp [h1], fun s i k hi hk => ?_⟩
     cases s with
     | zero => simp at hi hk; omega
     | succ s => exact h2 s i k (by simpa using hi) (by simpa using hk)
   · rintro ⟨h1, h2⟩
     cases l with
     | nil => simp at h1
     | cons n l =>
       refine ⟨n, by have := h2 0 n m rfl rfl; omega, l, mem_placesL.2 ⟨by simpa using h1, fun s i k hi hk => h2 (s + 1) i k (by simpa using hi) (by simpa using hk)⟩, rfl⟩
theorem rr_mem : ∀ {xs : List Ax} {is : List Nat}, is ∈ placesL (xs.map (·.d)) → rr xs is ∈ placesL ((xs.map nar).map (·.d))
 | [], is, h => by simp [placesL] at h; subst h; simp [rr, placesL]
 | a :: xs, is, h => by
   simp only [List.map_cons, placesL, List.mem_flatMap, List.mem_map, List.mem_range] at h ⊢
   obtain ⟨n, hn, l, hl, rfl⟩ := h
   have ih := rr_mem (xs := xs) (is := l) hl
   refine ⟨_, ?_, rr xs l, by simpa using ih, rfl⟩
   unfold nar
   by_cases h : a.lo = a.hi <;> simp [h] ; omega
theorem rr_sub : ∀ {xs : List Ax} {is : List Nat}, is ∈ placesL ((xs.map nar).map (·.d)) → is ∈ placesL (xs.map (·.d)) ∧ rr xs is = is
 | [], is, h => by simp [placesL] at h; subst h; simp [rr, placesL]
 | a :: xs, is, h => by
   simp only [List.map_cons, placesL, List.mem_flatMap, List.mem_map, List.mem_range] at h ⊢
   obtain ⟨n, hn, l, hl, rfl⟩ := h
   have ih := rr_sub (xs := xs) (is := l) (by simpa using hl)
   unfold nar at hn
   by_cases h : a.lo = a.hi
   · simp [h] at hn
     subst hn
     exact ⟨⟨0, by omega, l, ih.1, rfl⟩, by simp [rr, h, ih.2]⟩
   · simp [h] at hn
     exact ⟨⟨n, by omega, l, ih.1, rfl⟩, by simp [rr, h, ih.2]⟩
def sg (l : List Int) : Int := if ∀ v ∈ l, 0 < v then 1 else if ∀ v ∈ l, v < 0 then -1 else 0
theorem sg_congr {l m : List Int} (M : Int) (hM : 0 < M) (h1 : ∀ v ∈ l, ∃ u ∈ m, v = M * u) (h2 : ∀ u ∈ m, ∃ v ∈ l, v = M * u) : sg l = sg m := by
 have hp : ∀ u : Int, 0 < M * u ↔ 0 < u := fun u => ⟨fun h => by
   rcases Int.lt_trichotomy u 0 with hu | hu | hu
   · have := Int.mul_neg_of_pos_of_neg hM hu; omega
   · subst hu; simp at h
   · exact hu, fun h => Int.mul_pos hM h⟩
 have hn : ∀ u : Int, M * u < 0 ↔ u < 0 := fun u => ⟨fun h => by
   rcases Int.lt_trichotomy u 0 with hu | hu | hu
   · exact hu
   · subst hu; simp at h
   · have := Int.mul_pos hM hu; omega, fun h => Int.mul_neg_of_pos_of_neg hM h⟩
 have e1 : (∀ v ∈ l, 0 < v) ↔ (∀ u ∈ m, 0 < u) := by
   constructor
   · intro h u hu
     obtain ⟨v, hv, rfl⟩ := h2 u hu
     exact (hp u).1 (h _ hv)
   · intro h v hv
     obtain ⟨u, hu, rfl⟩ := h1 v hv
     exact (hp u).2 (h _ hu)
 have e2 : (∀ v ∈ l, v < 0) ↔ (∀ u ∈ m, u < 0) := by
   constructor
   · intro h u hu
     obtain ⟨v, hv, rfl⟩ := h2 u hu
     exact (hn u).1 (h _ hv)
   · intro h v hv
     obtain ⟨u, hu, rfl⟩ := h1 v hv
     exact (hn u).2 (h _ hu)
 unfold sg
 simp only [e1, e2]
def coef (cs : List (Int × List Nat)) (xs : List Ax) (is : List Nat) : Int := lsum (fun t => t.1 * prodB xs t.2 is) cs
theorem coef_nar {cs : List (Int × List Nat)} {xs : List Ax} {is : List Nat} (h : ∀ t ∈ cs, t.2.length = xs.length) (hi : is.length = xs.length) : coef cs xs is = mulF xs * coef cs (xs.map nar) (rr xs is) := by
 unfold coef
 rw [← lsum_mul]
 refine lsum_congr fun t ht => ?_
 rw [prodB_nar xs t.2 is (h t ht) hi]
 simp only [Int.mul_left_comm]
theorem sg_nar {cs : List (Int × List Nat)} {xs : List Ax} (h : ∀ t ∈ cs, t.2.length = xs.length) (hd : ∀ a ∈ xs, a.d ≤ 4) :
   sg ((placesL (xs.map (·.d))).map (coef cs xs)) = sg ((placesL ((xs.map nar).map (·.d))).map (coef cs (xs.map nar))) := by
 refine sg_congr (mulF xs) (mulF_pos hd) (fun v hv => ?_) (fun u hu => ?_)
 · obtain ⟨is, his, rfl⟩ := List.mem_map.1 hv
   refine ⟨_, List.mem_map.2 ⟨rr xs is, rr_mem his, rfl⟩, coef_nar h ?_⟩
   rw [placesL_len _ _ his, List.length_map]
 · obtain ⟨is, his, rfl⟩ := List.mem_map.1 hu
   obtain ⟨g1, g2⟩ := rr_sub his
   refine ⟨_, List.mem_map.2 ⟨is, g1, rfl⟩, ?_⟩
   rw [coef_nar h (by rw [placesL_len _ _ g1, List.length_map]), g2]
end Go.Proofs.YtagocdkcnajiiaaGreat
/- Slices of ints: round 1's contracts, for this seat; no condition beyond stated lengths. -/
namespace Go.Proofs.YtagocdkcnajiiaaGreat.Ints
open Go.Ab
set_option linter.unusedSimpArgs false
set_option linter.unusedVariables false
abbrev vi (n : Int) : Value := .int .i64 n
abbrev fil : Value := .int .i64 (-7000000000000000101)
def roomN (n : Nat) : Nat := if n % 6 = 5 then 0 else if n % 3 = 0 then 1 else n
def laid (l : List Int) : List Value := l.map vi ++ List.replicate (roomN l.length) fil
theorem roomN_le (n : Nat) : roomN n ≤ n + 1 := by
 unfold roomN
 split
 · omega
 · split <;> omega
theorem laid_length (l : List Int) : (laid l).length = l.length + roomN l.length := by simp [laid]
theorem roomBehind_ok (lim n : Nat) (H : AHeap) : ACalls Tryz.prog lim n_laws_roomBehind [.int .i64 n] H fun v H' => v = .int .i64 (roomN n) ∧ H' = H := by
 refine is_laws_roomBehind.go rfl ?_
 unfold c_laws_roomBehind
 refine s_reg ?_
 simp only [o_pure, o_nil, POp.ev, Opd.ev, env0, gu, setD, List.set, xsj, xel]
 refine s_test ?_
 have e6 : ¬ (6 : Int) = 0 := by decide
 have e3 : ¬ (3 : Int) = 0 := by decide
 have t6 : (n : Int).tmod 6 = ((n % 6 : Nat) : Int) := rfl
 have t3 : (n : Int).tmod 3 = ((n % 3 : Nat) : Int) := rfl
 simp only [o_pure, o_nil, POp.ev, Opd.ev, gv, setD, xsj, xel, binV, ne_eq, xnt, if_false, if_neg e6, t6]
 refine Test.split (fun h => ?_) (fun h => ?_)
 · refine s_reg ?_
   simp only [o_pure, o_nil, POp.ev, Opd.ev, setD, List.set, xsj, xel]
   refine s_ret1 ?_
   simp +decide only [pqr, pfr, resV, resOne, gv, xsj, xel]
   have : roomN n = 0 := by unfold roomN; rw [if_pos]; simp at h; omega
   simp [this]
 · refine s_skip1 ?_
   simp +decide only [pqn]
   refine s_test ?_
   simp only [o_pure, o_nil, POp.ev, Opd.ev, gv, setD, xsj, xel, binV, ne_eq, xnt, if_false, if_neg e3, t3]
   refine Test.split (fun h2 => ?_) (fun h2 => ?_)
   · refine s_reg ?_
     simp only [o_pure, o_nil, POp.ev, Opd.ev, setD, List.set, xsj, xel]
     refine s_ret1 ?_
     simp +decide only [pqr, pfr, resV, resOne, gv, xsj, xel]
     have : roomN n = 1 := by unfold roomN; rw [if_neg, if_pos]; simp at h2; omega; simp at h; omega
     simp [this]
   · refine s_skip1 ?_
     simp +decide only [pqn]
     refine s_reg ?_
     simp only [o_pure, o_nil, POp.ev, Opd.ev, gv, setD, List.set, xsj, xel]
     refine s_ret1 ?_
     simp +decide only [pfr, resV, resOne, gv, xsj, xel]
     have : roomN n = n := by unfold roomN; rw [if_neg, if_neg]; simp at h2; omega; simp at h; omega
     simp [this]
theorem toIntS_ok (lim : Nat) (s : Value) (l : List Int) (bare : Bool) (H : AHeap) (hl : lim ≤ H.next) (hs : Sl H s l.length 1 (l.map vi)) (hn : l.length ≤ 1000000) :
   ACalls Tryz.prog lim n_laws_toIntS [s, .bool bare] H fun v H' => if bare = true ∧ l.length = 0 then v = .slice none 0 0 ∧ H' = H else v = .slice (some ⟨H.next, 0, some 0⟩) l.length (l.length + roomN l.length) ∧ H' = H.alloc (laid l) := by
 refine is_laws_toIntS.go rfl ?_
 unfold c_laws_toIntS
 refine s_reg ?_
 simp only [o_pure, o_nil, POp.ev, Opd.ev, env0, gu, setD, List.set, xsj, xel]
 have hR := roomN_le l.length
 refine s_test_cut (decide (bare = true ∧ l.length = 0)) [s, .bool bare, .slice none 0 0, undef, undef, undef] H ?_ (fun h => ?_) (fun h => ?_)
 · cases bare
   · simp only [o_pure, o_guard, gk_ft, o_nil, POp.ev, Opd.ev, gv, setD, xsj, xel, pickV, Bool.false_eq_true]
     simp
   · simp only [o_pure, o_guard, gk_tt, o_nil, POp.ev, Opd.ev, gv, setD, xsj, xel, pickV, binV, ne_eq, xnt, if_false, hs.lenV]
     simp [nat_eq0]
 · refine s_reg ?_
   simp only [o_pure, o_nil, POp.ev, Opd.ev, setD, List.set, xsj, xel]
   refine s_ret1 ?_
   simp +decide only [pqr, pfr, resV, resOne, gv, xsj, xel]
   simp only [decide_eq_true_eq] at h
   simp [h]
 · simp only [decide_eq_false_iff_not] at h
   refine s_skip1 ?_
   simp +decide only [pqn]
   refine s_reg ?_
   simp only [o_pure, o_callF, POp.ev, Opd.ev, gv, setD, List.map, xsj, xel, hs.lenV]
   refine (roomBehind_ok _ _ _).mono ?_
   rintro v H1 ⟨rfl, rfl⟩
   have w1 := addN (i := l.length) (j := roomN l.length) (by omega)
   simp only [o_cont, o_pure, o_eff, o_nil, POp.ev, Opd.ev, EOp.ev, gv, setD, List.set, xsj, xel, binV, ne_eq, xnt, if_false, w1, mkslice_int 8 (l.length + roomN l.length) (l.length + roomN l.length) [.int .i64 0] (Nat.le_refl _) (by omega) (by omega)]
   have hlaid := laid_length l
   have hlg : ∀ i, i < l.length → (laid l)[i]? = (l.map vi)[i]? := fun i hi => List.getElem?_append_left (by simpa using hi)
   have hlg2 : ∀ i, l.length ≤ i → i < l.length + roomN l.length → (laid l)[i]? = some fil := fun i hi hj => by
     unfold laid
     rw [List.getElem?_append_right (by simpa using hi), List.getElem?_replicate, if_pos (by simp; omega)]
   refine s_assoc (s_reg ?_)
   simp only [o_pure, o_nil, POp.ev, Opd.ev, setD, List.set, xsj, xel, zerosL_one]
   refine s_block ?_
   refine s_loop1 (fun k e' H' => ∃ i, i + k = l.length ∧ H' = H1.alloc ((laid l).take i ++ List.replicate (l.length + roomN l.length - i) (vi 0)) ∧ e' = [s, .bool bare, .slice none 0 0, .slice (some ⟨H1.next, 0, some 0⟩) (l.length + roomN l.length) (l.length + roomN l.length), .int .i64 i, undef]) l.length ⟨0, by omega, by simp, rfl⟩ ?_
   rintro k e' H' ⟨i, hik, rfl, rfl⟩
   refine s_test ?_
   simp only [o_pure, o_nil, POp.ev, Opd.ev, gv, setD, xsj, xel, binV, ne_eq, xnt, if_false, hs.lenV]
   refine Test.split (fun hlt => ?_) (fun hlt => ?_)
   · have hlt' : i < l.length := by simpa using hlt
     refine s_skip1 ?_
     simp +decide only [pqn]
     refine s_block ?_
     refine s_reg1 ?_
     obtain ⟨bb, o, h1, h2, h3⟩ := hs.cell .i64 (i := i) (by omega) (by omega)
     have h3' : (H1.alloc ((laid l).take i ++ List.replicate (l.length + roomN l.length - i) (vi 0))).cell bb o = some (.int .i64 l[i]) := by
       unfold AHeap.cell
       rw [alloc_old _ _ h2]
       exact h3.trans (by simp [hlt'])
     simp only [o_pure, o_eff, o_nil, POp.ev, Opd.ev, EOp.ev, gv, setD, xsj, xel, load1V, h1, h3', iad_cell .i64 (show i < l.length + roomN l.length by omega), store_int (o := i) (H := H1.alloc ((laid l).take i ++ List.replicate (l.length + roomN l.length - i) (vi 0))) (lim := lim) .i64 l[i] hl (alloc_new _ _) (show i < _ by simp; omega), alloc_put, Nat.zero_add]
     rw [fill_set (by rw [hlg i hlt']; simp [hlt']) hlaid]
     simp +decide only [pqn, pbn]
     refine s_reg1 ?_
     simp only [o_pure, o_nil, POp.ev, Opd.ev, gv, setD, List.set, xsj, xel, binV, ne_eq, xnt, if_false, add1 (i := i) (by omega)]
     simp +decide only [pqn]
     exact Round.mk (k - 1) (by omega) ⟨i + 1, by omega, rfl, rfl⟩
   · have hge : i = l.length := by simp at hlt; omega
     subst hge
     refine s_exit1 ?_
     simp +decide only [pqn, pqe, pbe, reduceIte]
     refine s_assoc (s_reg ?_)
     simp only [o_pure, o_nil, POp.ev, Opd.ev, gv, setD, List.set, xsj, xel, hs.lenV]
     refine s_block ?_
     refine s_loop1 (fun k e' H' => ∃ i, l.length ≤ i ∧ i + k = l.length + roomN l.length ∧ H' = H1.alloc ((laid l).take i ++ List.replicate (l.length + roomN l.length - i) (vi 0)) ∧ e' = [s, .bool bare, .slice none 0 0, .slice (some ⟨H1.next, 0, some 0⟩) (l.length + roomN l.length) (l.length + roomN l.length), .int .i64 l.length, .int .i64 i]) (roomN l.length) ⟨l.length, by omega, by omega, rfl, rfl⟩ ?_
     rintro k e' H' ⟨i, hli, hik, rfl, rfl⟩
     refine s_test ?_
     simp only [o_pure, o_nil, POp.ev, Opd.ev, gv, setD, xsj, xel, binV, ne_eq, xnt, if_false, lenV]
     refine Test.split (fun hlt => ?_) (fun hlt => ?_)
     · have hlt' : i < l.length + roomN l.length := by simp at hlt; omega
       refine s_skip1 ?_
       simp +decide only [pqn]
       refine s_block ?_
       refine s_reg1 ?_
       simp only [o_pure, o_eff, o_nil, POp.ev, Opd.ev, EOp.ev, gv, setD, xsj, xel, iad_cell .i64 hlt', store_int (o := i) (H := H1.alloc ((laid l).take i ++ List.replicate (l.length + roomN l.length - i) (vi 0))) (lim := lim) .i64 (-7000000000000000101) hl (alloc_new _ _) (show i < _ by simp; omega), alloc_put, Nat.zero_add]
       rw [fill_set (hlg2 i hli hlt') hlaid]
       simp +decide only [pqn, pbn]
       refine s_reg1 ?_
       simp only [o_pure, o_nil, POp.ev, Opd.ev, gv, setD, List.set, xsj, xel, binV, ne_eq, xnt, if_false, add1 (i := i) (by omega)]
       simp +decide only [pqn]
       exact Round.mk (k - 1) (by omega) ⟨i + 1, by omega, by omega, rfl, rfl⟩
     · have hge : i = l.length + roomN l.length := by simp at hlt; omega
       subst hge
       refine s_exit1 ?_
       simp +decide only [pqn, pqe, pbe, reduceIte]
       refine s_reg ?_
       simp only [o_pure, o_nil, POp.ev, Opd.ev, gv, setD, List.set, Option.map_none, xms, xsj, xel, hs.lenV, slc_to .i64 (Nat.le_add_right l.length (roomN l.length)), fill_all hlaid]
       refine s_ret1 ?_
       simp +decide only [pfr, resV, resOne, gv, xsj, xel]
       rw [if_neg h]
       trivial
abbrev SlI (H : AHeap) (s : Value) (l : List Int) : Prop := Sl H s l.length 1 (l.map vi)
theorem SlI.get {H : AHeap} {s : Value} {l : List Int} (h : SlI H s l) {i : Nat} (hi : i < l.length) : ∃ b o, iadV 1 s (.int .i64 i) = some (.pointer (some ⟨b, o, none⟩)) ∧ b < H.next ∧ H.cell b o = some (.int .i64 l[i]) := by
 obtain ⟨b, o, h1, h2, h3⟩ := h.cell .i64 (i := i) (by omega) (by omega)
 exact ⟨b, o, h1, h2, h3.trans (by simp [hi])⟩
theorem SlI.slc {H : AHeap} {s : Value} {l : List Int} (h : SlI H s l) {lo hi : Option Value} {i j : Nat} (hij : i ≤ j) (hj : j ≤ l.length)
   (hlo : lo = none ∧ i = 0 ∨ ∃ k, lo = some (.int k i)) (hhi : hi = none ∧ j = l.length ∨ ∃ k, hi = some (.int k j)) : ∃ v, slcV 1 s lo hi none = some v ∧ SlI H v ((l.drop i).take (j - i)) := by
 obtain ⟨v, h1, h2⟩ := Sl.slc h hij hj hlo hhi
 refine ⟨v, h1, ?_⟩
 have e : ((l.drop i).take (j - i)).length = j - i := by simp; omega
 unfold SlI
 rw [e]
 simpa [List.map_take, List.map_drop] using h2
theorem l1In_ok (lim : Nat) (a b c : Int) (H : AHeap) : ACalls Tryz.prog lim n_spec_l1In [.int .i64 a, .int .i64 b, .int .i64 c] H fun v H' => v = .bool (decide (b ≤ a) && decide (a ≤ c)) ∧ H' = H := by
 refine is_spec_l1In.go rfl ?_
 unfold c_spec_l1In
 refine s_reg ?_
 simp only [o_pure, o_nil, POp.ev, Opd.ev, env0, gu, setD, List.set, xsj, xel]
 refine s_reg ?_
 by_cases h : a ≥ b
 · simp only [o_pure, o_guard, gk_tt, o_nil, POp.ev, Opd.ev, gv, setD, List.set, xsj, xel, pickV, binV, ne_eq, xnt, if_false, decide_eq_true h]
   refine s_ret1 ?_
   simp +decide only [pfr, resV, resOne, gv, xsj, xel]
   simp [h]
 · simp only [o_pure, o_guard, gk_ft, o_nil, POp.ev, Opd.ev, gv, setD, List.set, xsj, xel, pickV, binV, ne_eq, xnt, if_false, decide_eq_false h]
   refine s_ret1 ?_
   simp +decide only [pfr, resV, resOne, gv, xsj, xel]
   simp
theorem inside_ok (lim : Nat) (a b c : Int) (H : AHeap) : ACalls Tryz.prog lim n_impl_inside [.int .i64 a, .int .i64 b, .int .i64 c] H fun v H' => v = .bool (decide (b ≤ a) && decide (a ≤ c)) ∧ H' = H := by
 refine is_impl_inside.go rfl ?_
 unfold c_impl_inside
 refine s_reg ?_
 simp only [o_pure, o_nil, POp.ev, Opd.ev, env0, gu, setD, List.set, xsj, xel]
 refine s_reg ?_
 by_cases h : a ≥ b
 · simp only [o_pure, o_guard, gk_tt, o_nil, POp.ev, Opd.ev, gv, setD, List.set, xsj, xel, pickV, binV, ne_eq, xnt, if_false, decide_eq_true h]
   refine s_ret1 ?_
   simp +decide only [pfr, resV, resOne, gv, xsj, xel]
   simp [h]
 · simp only [o_pure, o_guard, gk_ft, o_nil, POp.ev, Opd.ev, gv, setD, List.set, xsj, xel, pickV, binV, ne_eq, xnt, if_false, decide_eq_false h]
   refine s_ret1 ?_
   simp +decide only [pfr, resV, resOne, gv, xsj, xel]
   simp
theorem l1Has_ok (lim : Nat) (s : Value) (l : List Int) (n : Int) (H : AHeap) (hs : SlI H s l) (hn : l.length ≤ 1000000000) :
   ACalls Tryz.prog lim n_spec_l1Has [s, .int .i64 n] H fun v H' => v = .bool (l.any (· == n)) ∧ H' = H := by
 refine is_spec_l1Has.go rfl ?_
 unfold c_spec_l1Has
 refine s_reg ?_
 simp only [o_pure, o_nil, POp.ev, Opd.ev, env0, gu, setD, List.set, xsj, xel]
 refine s_assoc (s_reg ?_)
 simp only [o_pure, o_nil, POp.ev, Opd.ev, gv, setD, List.set, xsj, xel, hs.lenV]
 refine s_block ?_
 refine s_loop1 (fun k e' H' => H' = H ∧ ∃ (i : Nat) (x : Value), i + k = l.length ∧ (l.any (· == n)) = ((l.drop i).any (· == n)) ∧ e' = [s, .int .i64 n, .bool false, x, s, .int .i64 l.length, .int .i64 i]) l.length ⟨rfl, 0, _, by omega, by simp, rfl⟩ ?_
 rintro k e' H' ⟨rfl, i, x, hik, hall, rfl⟩
 refine s_test ?_
 simp only [o_pure, o_nil, POp.ev, Opd.ev, gv, setD, xsj, xel, binV, ne_eq, xnt, if_false]
 refine Test.split (fun hlt => ?_) (fun hlt => ?_)
 · have hlt' : i < l.length := by simpa using hlt
   rw [List.drop_eq_getElem_cons hlt', List.any_cons] at hall
   refine s_skip1 ?_
   simp +decide only [pqn]
   refine s_block ?_
   refine s_reg ?_
   obtain ⟨bb, o, h1, h2, h3⟩ := hs.get hlt'
   simp only [o_pure, o_nil, POp.ev, Opd.ev, gv, setD, List.set, xsj, xel, load1V, h1, h3]
   refine s_test1 ?_
   simp only [o_pure, o_nil, POp.ev, Opd.ev, gv, setD, xsj, xel, binV, ne_eq, xnt, if_false]
   refine Test.split (fun hv => ?_) (fun hv => ?_)
   · refine s_reg ?_
     simp only [o_pure, o_nil, POp.ev, Opd.ev, setD, List.set, xsj, xel]
     refine s_ret1 ?_
     simp +decide only [pqr, pbr, pfr, resV, resOne, gv, xsj, xel]
     rw [hv, Bool.true_or] at hall
     simp [hall]
   · refine s_skip1 ?_
     simp +decide only [pqn, pbn]
     refine s_reg1 ?_
     simp only [o_pure, o_nil, POp.ev, Opd.ev, gv, setD, List.set, xsj, xel, binV, ne_eq, xnt, if_false, add1 (i := i) (by omega)]
     simp +decide only [pqn]
     rw [hv, Bool.false_or] at hall
     exact Round.mk (k - 1) (by omega) ⟨rfl, i + 1, _, by omega, hall, rfl⟩
 · refine s_exit1 ?_
   simp +decide only [pqn, pqe, pbe, reduceIte]
   have hge : l.length ≤ i := by simp at hlt; omega
   rw [List.drop_of_length_le hge] at hall
   refine s_reg ?_
   simp only [o_pure, o_nil, POp.ev, Opd.ev, setD, List.set, xsj, xel]
   refine s_ret1 ?_
   simp +decide only [pfr, resV, resOne, gv, xsj, xel]
   simp [hall]
theorem index_ok (lim : Nat) (s : Value) (l : List Int) (n : Int) (H : AHeap) (hs : SlI H s l) (hn : l.length ≤ 1000000000) :
   ACalls Tryz.prog lim n_slices_Index_S_int_int [s, .int .i64 n] H fun v H' => (∃ r : Int, v = .int .i64 r ∧ decide (r ≥ 0) = (l.any (· == n))) ∧ H' = H := by
 refine is_slices_Index_S_int_int.go rfl ?_
 unfold c_slices_Index_S_int_int
 refine s_reg ?_
 simp only [o_pure, o_nil, POp.ev, Opd.ev, env0, gu, setD, List.set, xsj, xel]
 refine s_assoc (s_reg ?_)
 simp only [o_pure, o_nil, POp.ev, Opd.ev, gv, setD, List.set, xsj, xel, hs.lenV]
 refine s_block ?_
 refine s_loop1 (fun k e' H' => H' = H ∧ ∃ (i : Nat) (x : Value), i + k = l.length ∧ (l.any (· == n)) = ((l.drop i).any (· == n)) ∧ e' = [s, .int .i64 n, .int .i64 0, x, .int .i64 l.length, .int .i64 i]) l.length ⟨rfl, 0, _, by omega, by simp, rfl⟩ ?_
 rintro k e' H' ⟨rfl, i, x, hik, hall, rfl⟩
 refine s_test ?_
 simp only [o_pure, o_nil, POp.ev, Opd.ev, gv, setD, xsj, xel, binV, ne_eq, xnt, if_false]
 refine Test.split (fun hlt => ?_) (fun hlt => ?_)
 · have hlt' : i < l.length := by simpa using hlt
   rw [List.drop_eq_getElem_cons hlt', List.any_cons] at hall
   refine s_skip1 ?_
   simp +decide only [pqn]
   refine s_block ?_
   refine s_reg ?_
   simp only [o_pure, o_nil, POp.ev, Opd.ev, gv, setD, List.set, xsj, xel]
   refine s_test1 ?_
   obtain ⟨bb, o, h1, h2, h3⟩ := hs.get hlt'
   simp only [o_pure, o_nil, POp.ev, Opd.ev, gv, setD, xsj, xel, binV, load1V, ne_eq, xnt, if_false, h1, h3]
   refine Test.split (fun hv => ?_) (fun hv => ?_)
   · refine s_reg ?_
     simp only [o_pure, o_nil, POp.ev, Opd.ev, gv, setD, List.set, xsj, xel]
     refine s_ret1 ?_
     simp +decide only [pqr, pbr, pfr, resV, resOne, gv, xsj, xel]
     rw [Bool.beq_comm] at hv
     simp only [beq_iff_eq] at hv
     refine ⟨⟨_, rfl, ?_⟩, trivial⟩
     rw [hall]
     simp [hv]
   · refine s_skip1 ?_
     simp +decide only [pqn, pbn]
     refine s_reg1 ?_
     simp only [o_pure, o_nil, POp.ev, Opd.ev, gv, setD, List.set, xsj, xel, binV, ne_eq, xnt, if_false, add1 (i := i) (by omega)]
     simp +decide only [pqn]
     have : (l[i] == n) = false := by simp at hv ⊢; omega
     rw [this, Bool.false_or] at hall
     exact Round.mk (k - 1) (by omega) ⟨rfl, i + 1, _, by omega, hall, rfl⟩
 · refine s_exit1 ?_
   simp +decide only [pqn, pqe, pbe, reduceIte]
   have hge : l.length ≤ i := by simp at hlt; omega
   rw [List.drop_of_length_le hge] at hall
   refine s_reg ?_
   simp only [o_pure, o_nil, POp.ev, Opd.ev, setD, List.set, xsj, xel]
   refine s_ret1 ?_
   simp +decide only [pfr, resV, resOne, gv, xsj, xel]
   refine ⟨⟨_, rfl, ?_⟩, trivial⟩
   simp [hall]
theorem contains_ok (lim : Nat) (s : Value) (l : List Int) (n : Int) (H : AHeap) (hs : SlI H s l) (hn : l.length ≤ 1000000000) :
   ACalls Tryz.prog lim n_slices_Contains_S_int_int [s, .int .i64 n] H fun v H' => v = .bool (l.any (· == n)) ∧ H' = H := by
 refine is_slices_Contains_S_int_int.go rfl ?_
 unfold c_slices_Contains_S_int_int
 refine s_reg ?_
 simp only [o_pure, o_nil, POp.ev, Opd.ev, env0, gu, setD, List.set, xsj, xel]
 refine s_reg ?_
 simp only [o_pure, o_callF, POp.ev, Opd.ev, gv, setD, List.map, xsj, xel]
 refine (index_ok _ _ _ _ _ hs hn).mono ?_
 rintro v H1 ⟨⟨r, rfl, hr⟩, rfl⟩
 simp only [o_cont, o_pure, o_nil, POp.ev, Opd.ev, gv, setD, List.set, xsj, xel, binV, ne_eq, xnt, if_false]
 refine s_ret1 ?_
 simp +decide only [pfr, resV, resOne, gv, xsj, xel]
 simp only [hr, and_self]
theorem eqIntS_ok (lim : Nat) (s t : Value) (l m : List Int) (H : AHeap) (hs : SlI H s l) (ht : SlI H t m) (hn : l.length ≤ 1000000000) :
   ACalls Tryz.prog lim n_laws_eqIntS [s, t] H fun v H' => v = .bool (decide (l = m)) ∧ H' = H := by
 refine is_laws_eqIntS.go rfl ?_
 unfold c_laws_eqIntS
 refine s_reg ?_
 simp only [o_pure, o_nil, POp.ev, Opd.ev, env0, gu, setD, List.set, xsj, xel]
 refine s_test ?_
 simp only [o_pure, o_nil, POp.ev, Opd.ev, gv, setD, xsj, xel, binV, ne_eq, xnt, if_false, hs.lenV, ht.lenV]
 refine Test.split (fun h => ?_) (fun h => ?_)
 · refine s_reg ?_
   simp only [o_pure, o_nil, POp.ev, Opd.ev, setD, List.set, xsj, xel]
   refine s_ret1 ?_
   simp +decide only [pqr, pfr, resV, resOne, gv, xsj, xel]
   have : l ≠ m := by rintro rfl; simp at h
   simp [this]
 · have hlen : l.length = m.length := by simp at h; omega
   refine s_skip1 ?_
   simp +decide only [pqn]
   refine s_assoc (s_reg ?_)
   simp only [o_pure, o_nil, POp.ev, Opd.ev, setD, List.set, xsj, xel]
   refine s_block ?_
   refine s_loop1 (fun k e' H' => H' = H ∧ ∃ (i : Nat), i + k = l.length ∧ (decide (l = m)) = decide (l.drop i = m.drop i) ∧ e' = [s, t, .bool false, .int .i64 i]) l.length ⟨rfl, 0, by omega, by simp, rfl⟩ ?_
   rintro k e' H' ⟨rfl, i, hik, hall, rfl⟩
   refine s_test ?_
   simp only [o_pure, o_nil, POp.ev, Opd.ev, gv, setD, xsj, xel, binV, ne_eq, xnt, if_false, hs.lenV]
   refine Test.split (fun hlt => ?_) (fun hlt => ?_)
   · have hlt' : i < l.length := by simpa using hlt
     have hlt2 : i < m.length := by omega
     rw [List.drop_eq_getElem_cons hlt', List.drop_eq_getElem_cons hlt2] at hall
     refine s_skip1 ?_
     simp +decide only [pqn]
     refine s_block ?_
     refine s_test1 ?_
     obtain ⟨bb, o, h1, h2, h3⟩ := hs.get hlt'
     obtain ⟨bb', o', h1', h2', h3'⟩ := ht.get hlt2
     simp only [o_pure, o_nil, POp.ev, Opd.ev, gv, setD, xsj, xel, binV, load1V, ne_eq, xnt, if_false, h1, h3, h1', h3']
     refine Test.split (fun hv => ?_) (fun hv => ?_)
     · refine s_reg ?_
       simp only [o_pure, o_nil, POp.ev, Opd.ev, setD, List.set, xsj, xel]
       refine s_ret1 ?_
       simp +decide only [pqr, pbr, pfr, resV, resOne, gv, xsj, xel]
       simp only [bne_iff_ne, ne_eq] at hv
       simp only [List.cons.injEq, hv, false_and, decide_false] at hall
       simp [hall]
     · refine s_skip1 ?_
       simp +decide only [pqn, pbn]
       refine s_reg1 ?_
       simp only [o_pure, o_nil, POp.ev, Opd.ev, gv, setD, List.set, xsj, xel, binV, ne_eq, xnt, if_false, add1 (i := i) (by omega)]
       simp +decide only [pqn]
       simp only [bne_eq_false_iff_eq] at hv
       exact Round.mk (k - 1) (by omega) ⟨rfl, i + 1, by omega, by rw [hall]; simp only [hv, List.cons.injEq, true_and], rfl⟩
   · refine s_exit1 ?_
     simp +decide only [pqn, pqe, pbe, reduceIte]
     have hge : l.length ≤ i := by simp at hlt; omega
     rw [List.drop_of_length_le hge, List.drop_of_length_le (by omega)] at hall
     refine s_reg ?_
     simp only [o_pure, o_nil, POp.ev, Opd.ev, setD, List.set, xsj, xel]
     refine s_ret1 ?_
     simp +decide only [pfr, resV, resOne, gv, xsj, xel]
     simp only [decide_true] at hall
     simp [hall]
theorem laid_slc {H : AHeap} {b : Nat} {l : List Int} (h : H.blk b = some (laid l)) (hb : b < H.next) :
   SlI H (.slice (some ⟨b, 0, some 0⟩) (l.length + roomN l.length) (l.length + roomN l.length)) (l ++ List.replicate (roomN l.length) (-7000000000000000101)) := by
 refine ⟨by simp, _, _, by simp, Nat.le_refl _, (by intro h; cases h), (by intro ad h; cases h; exact ⟨.inl rfl, hb⟩), fun _ => ⟨b, 0, some 0, [], [], rfl, ?_, rfl⟩⟩
 rw [h]
 simp [laid]
theorem intactIntS_ok (lim : Nat) (b c : Nat) (l : List Int) (H : AHeap) (h1 : H.blk b = some (laid l)) (h2 : H.blk c = some (laid l)) (hb : b < H.next) (hc : c < H.next) (hn : l.length ≤ 1000000) :
   ACalls Tryz.prog lim n_laws_intactIntS [.slice (some ⟨b, 0, some 0⟩) l.length (l.length + roomN l.length), .slice (some ⟨c, 0, some 0⟩) l.length (l.length + roomN l.length)] H fun v H' => v = .bool true ∧ H' = H := by
 refine is_laws_intactIntS.go rfl ?_
 unfold c_laws_intactIntS
 have hR := roomN_le l.length
 refine s_reg ?_
 simp only [o_pure, o_nil, POp.ev, Opd.ev, env0, gu, setD, List.set, xsj, xel]
 refine s_reg ?_
 simp only [o_pure, o_callF, POp.ev, Opd.ev, gv, setD, List.map, xsj, xel, lenV]
 refine (roomBehind_ok _ _ _).mono ?_
 rintro v H1 ⟨rfl, rfl⟩
 simp only [o_cont, o_pure, o_nil, POp.ev, Opd.ev, gv, setD, List.set, xsj, xel, binV, ne_eq, xnt, if_false, addN (i := l.length) (j := roomN l.length) (by omega)]
 refine s_reg ?_
 simp only [o_pure, o_callF, o_guard, gk_tt, POp.ev, Opd.ev, gv, setD, List.map, Option.map_none, xms, xsj, xel, binV, ne_eq, xnt, if_false, beq_self_eq_true, lenV, slc_to .i64 (Nat.le_refl (l.length + roomN l.length))]
 refine (eqIntS_ok _ _ _ _ _ _ (laid_slc h1 hb) (laid_slc h2 hc) (by simp; omega)).mono ?_
 rintro v H1 ⟨rfl, rfl⟩
 simp only [o_cont, o_pure, o_nil, POp.ev, Opd.ev, gv, setD, List.set, xsj, xel, pickV]
 refine s_ret1 ?_
 simp +decide only [pfr, resV, resOne, gv, xsj, xel]
 simp
abbrev VecI (H : AHeap) (b : Nat) (v : Value) (l : List Int) : Prop := Vec H b v l.length 1 (l.map vi)
theorem l1Own_ok (lim : Nat) (s : Value) (l : List Int) (H : AHeap) (hl : lim ≤ H.next) (hs : SlI H s l) (hn : l.length ≤ 1000000000) :
   ACalls Tryz.prog lim n_spec_l1Own [s] H fun v H' => ∃ b, H.next ≤ b ∧ b < H'.next ∧ VecI H' b v l ∧ Ext H H' := by
 refine is_spec_l1Own.go rfl ?_
 unfold c_spec_l1Own
 refine s_reg ?_
 simp only [o_pure, o_nil, POp.ev, Opd.ev, env0, gu, setD, List.set, xsj, xel]
 refine s_reg ?_
 have h0 : Vec (H.alloc []) H.next (.slice (some ⟨H.next, 0, some 0⟩) 0 0) 0 1 [] := Vec.lit rfl
 obtain ⟨v', H', b', h1, h2, h3, h4, h5⟩ := h0.append (lim := lim) hl (hs.keep (Keep.alloc H [] (Nat.le_refl _)) (Nat.le_refl _)) (by decide) (bytes := 8) (by omega)
 simp only [o_pure, o_eff, o_nil, POp.ev, Opd.ev, EOp.ev, gv, setD, List.set, List.map, xms, xsj, xel, bsliceH, fillV, h1]
 refine s_ret1 ?_
 simp +decide only [pfr, resV, resOne, gv, xsj, xel]
 have hx : Ext H H' := Chg.ext (Ext.alloc H []) h4 (Nat.le_refl _)
 refine ⟨b', by rcases h3 with rfl | ⟨rfl, _⟩ <;> simp [alloc_next], ?_, by simpa using h2, hx⟩
 rcases h3 with rfl | ⟨rfl, h6⟩
 · exact Nat.lt_of_lt_of_le (Nat.lt_succ_self _) h4.next
 · exact h6
def iota (k : Int) (n : Nat) : List Int := (List.range n).map fun (i : Nat) => k + (i : Int)
theorem iota_length (k : Int) (n : Nat) : (iota k n).length = n := by simp [iota]
theorem iota_get (k : Int) (n i : Nat) (h : i < n) : (iota k n)[i]? = some (k + (i : Int)) := by simp [iota, h]
theorem markIntS_ok (lim : Nat) (b : Nat) (s : Value) (l : List Int) (k : Int) (H : AHeap) (hl : lim ≤ b) (hs : VecI H b s l) (hn : l.length ≤ 1000000000) (h0 : 0 ≤ k) (hk : k ≤ 1000000000) :
   ACalls Tryz.prog lim n_laws_markIntS [s, .int .i64 k] H fun v H' => v = .int .i64 (k + l.length) ∧ VecI H' b s (iota k l.length) ∧ Chg b H H' ∧ H'.next = H.next := by
 refine is_laws_markIntS.go rfl ?_
 unfold c_laws_markIntS
 refine s_reg ?_
 simp only [o_pure, o_nil, POp.ev, Opd.ev, env0, gu, setD, List.set, xsj, xel]
 refine s_assoc (s_reg ?_)
 simp only [o_pure, o_nil, POp.ev, Opd.ev, setD, List.set, xsj, xel]
 refine s_block ?_
 refine s_loop1 (fun j e' H' => ∃ (i : Nat), i + j = l.length ∧ VecI H' b s ((iota k l.length).take i ++ l.drop i) ∧ Chg b H H' ∧ H'.next = H.next ∧ e' = [s, .int .i64 (k + i), .int .i64 0, .int .i64 i]) l.length ⟨0, by omega, by simpa using hs, Chg.refl _ _, rfl, by simp⟩ ?_
 rintro j e' H' ⟨i, hij, hv, hc, hnx, rfl⟩
 have hlen : ((iota k l.length).take i ++ l.drop i).length = l.length := by simp [iota_length]; omega
 refine s_test ?_
 simp only [o_pure, o_nil, POp.ev, Opd.ev, gv, setD, xsj, xel, binV, ne_eq, xnt, if_false, hv.lenV, hlen]
 refine Test.split (fun hlt => ?_) (fun hlt => ?_)
 · have hlt' : i < l.length := by simpa using hlt
   refine s_skip1 ?_
   simp +decide only [pqn]
   refine s_block ?_
   obtain ⟨cs, h1, h2⟩ := hv.put1 (lim := lim) (i := i) hl (cells_int .i64 (k + i)) (by omega)
   have hset : ((iota k l.length).take i ++ l.drop i).set i (k + i) = (iota k l.length).take (i + 1) ++ l.drop (i + 1) := by
     have e0 : i - ((iota k l.length).take i).length = 0 := by simp [iota_length]; omega
     rw [List.set_append_right _ _ (by simp [iota_length]; omega), e0, List.drop_eq_getElem_cons hlt', List.set_cons_zero, List.take_add_one, iota_get k _ _ hlt']
     simp
   have hv2 : VecI (H'.put b cs) b s ((iota k l.length).take (i + 1) ++ l.drop (i + 1)) := by
     unfold VecI
     rw [← hset, List.length_set, List.map_set]
     exact h2
   have hw : IntKind.i64.wrap (k + i + 1) = k + ((i + 1 : Nat) : Int) := by rw [IntKind.wrap_i64]; omega
   refine s_reg ?_
   simp only [o_pure, o_eff, o_nil, POp.ev, Opd.ev, EOp.ev, gv, setD, xsj, xel, hv.iad .i64 (show i < _ by omega), Nat.mul_one, h1]
   refine s_reg1 ?_
   simp only [o_pure, o_nil, POp.ev, Opd.ev, gv, setD, List.set, xsj, xel, binV, ne_eq, xnt, if_false, hw]
   simp +decide only [pqn, pbn]
   refine s_reg1 ?_
   simp only [o_pure, o_nil, POp.ev, Opd.ev, gv, setD, List.set, xsj, xel, binV, ne_eq, xnt, if_false, add1 (i := i) (by omega)]
   simp +decide only [pqn]
   exact Round.mk (j - 1) (by omega) ⟨i + 1, by omega, hv2, hc.trans (Chg.put _ _ _), hnx, rfl⟩
 · have hge : i = l.length := by simp at hlt; omega
   subst hge
   refine s_exit1 ?_
   simp +decide only [pqn, pqe, pbe, reduceIte]
   refine s_reg ?_
   simp only [o_pure, o_nil, POp.ev, Opd.ev, gv, setD, List.set, xsj, xel]
   refine s_ret1 ?_
   simp +decide only [pfr, resV, resOne, gv, xsj, xel]
   refine ⟨trivial, ?_, hc, hnx⟩
   rw [List.drop_length, List.append_nil, List.take_of_length_le (by rw [iota_length]; exact Nat.le_refl _)] at hv
   exact hv
def Laid (H : AHeap) (b : Nat) (v : Value) (l : List Int) : Prop := v = .slice (some ⟨b, 0, some 0⟩) l.length (l.length + roomN l.length) ∧ b < H.next ∧ H.blk b = some (laid l)
theorem Laid.vec {H : AHeap} {b : Nat} {v : Value} {l : List Int} (h : Laid H b v l) : VecI H b v l := by
 obtain ⟨rfl, h1, h2⟩ := h
 exact .inr ⟨_, _, List.replicate (roomN l.length) fil, rfl, .inl rfl, h1, h2, by simp, by omega, by simp⟩
theorem Laid.ext {H H' : AHeap} {b : Nat} {v : Value} {l : List Int} (h : Laid H b v l) (hx : Ext H H') : Laid H' b v l := ⟨h.1, Nat.lt_of_lt_of_le h.2.1 hx.next, by rw [hx.blk _ h.2.1]; exact h.2.2⟩
def CopyI (H : AHeap) (b : Nat) (v : Value) (l : List Int) (bare : Bool) : Prop := (bare = true ∧ l = [] ∧ v = .slice none 0 0) ∨ Laid H b v l
theorem CopyI.ext {H H' : AHeap} {b : Nat} {v : Value} {l : List Int} {bare : Bool} (h : CopyI H b v l bare) (hx : Ext H H') : CopyI H' b v l bare := h.imp id fun h => h.ext hx
theorem CopyI.sl {H : AHeap} {b : Nat} {v : Value} {l : List Int} {bare : Bool} (h : CopyI H b v l bare) : SlI H v l := by
 rcases h with ⟨_, rfl, rfl⟩ | h
 · exact Sl.nil _ _
 · exact h.vec.sl
end Go.Proofs.YtagocdkcnajiiaaGreat.Ints
/- Bernstein coefficients, the reference's small functions: ways to choose, powers, parts, one line; no condition beyond stated ranges. -/
namespace Go.Proofs.YtagocdkcnajiiaaGreat
open Go.Ab
set_option linter.unusedSimpArgs false
set_option linter.unusedVariables false
theorem chs_step : ∀ n : Fin 5, ∀ i : Fin 4, wr ((wr ((chs n.val i.val : Int) * ((n.val : Int) - (i.val : Int)))).tdiv ((i.val : Int) + 1)) = (chs n.val (i.val + 1) : Int) := by decide +kernel
theorem choose_ok (lim n k : Nat) (H : AHeap) (hn : n ≤ 4) (hk : k ≤ 4) : ACalls Tryz.prog lim n_spec_beChoose [.int .i64 n, .int .i64 k] H fun v H' => v = .int .i64 (chs n k : Int) ∧ H' = H := by
 refine is_spec_beChoose.go rfl ?_
 unfold c_spec_beChoose
 refine s_reg ?_
 simp only [o_pure, o_nil, POp.ev, Opd.ev, env0, gu, setD, List.set, xsj, xel]
 refine s_reg ?_
 simp only [o_pure, o_nil, POp.ev, Opd.ev, setD, List.set, xsj, xel]
 refine s_assoc (s_reg ?_)
 simp only [o_pure, o_nil, POp.ev, Opd.ev, setD, List.set, xsj, xel]
 refine s_block ?_
 have h0 : ((chs n 0 : Nat) : Int) = 1 := by cases n <;> rfl
 refine s_loop1 (fun j e' H' => ∃ i : Nat, i + j = k ∧ H' = H ∧ e' = [.int .i64 n, .int .i64 k, .int .i64 0, .int .i64 (chs n i : Int), .int .i64 i]) k ⟨0, by omega, rfl, by rw [h0]; rfl⟩ ?_
 rintro j e' H' ⟨i, hij, rfl, rfl⟩
 refine s_test ?_
 simp only [o_pure, o_nil, POp.ev, Opd.ev, gv, setD, xsj, xel, binV, ne_eq, xnt, if_false]
 refine Test.split (fun hlt => ?_) (fun hlt => ?_)
 · have hlt' : i < k := by simpa using hlt
   have hne : ¬ ((i : Int) + 1 = 0) := by omega
   have e1 : IntKind.i64.wrap ((n : Int) - (i : Int)) = (n : Int) - (i : Int) := wr_id (by omega) (by omega)
   have e2 : IntKind.i64.wrap ((i : Int) + 1) = (i : Int) + 1 := wr_id (by omega) (by omega)
   have e3 := chs_step ⟨n, by omega⟩ ⟨i, by omega⟩
   simp only [wr] at e3
   refine s_skip1 ?_
   simp +decide only [pqn]
   refine s_block1 ?_
   refine s_reg1 ?_
   simp only [o_pure, o_nil, POp.ev, Opd.ev, gv, setD, List.set, xsj, xel, binV, ne_eq, xnt, if_false, e1, e2, hne, e3]
   simp +decide only [pqn, pbn]
   refine s_reg1 ?_
   simp only [o_pure, o_nil, POp.ev, Opd.ev, gv, setD, List.set, xsj, xel, binV, ne_eq, xnt, if_false, add1 (i := i) (by omega)]
   simp +decide only [pqn]
   exact Round.mk (j - 1) (by omega) ⟨i + 1, by omega, rfl, rfl⟩
 · have hge : i = k := by simp at hlt; omega
   subst hge
   refine s_exit1 ?_
   simp +decide only [pqn, pqe, pbe, reduceIte]
   refine s_reg ?_
   simp only [o_pure, o_nil, POp.ev, Opd.ev, gv, setD, List.set, xsj, xel]
   refine s_ret1 ?_
   simp +decide only [pfr, resV, resOne, gv, xsj, xel]
theorem power_ok (lim : Nat) (a : Int) (n : Nat) (H : AHeap) (hn : n ≤ 1000000) : ACalls Tryz.prog lim n_spec_bePower [.int .i64 a, .int .i64 n] H fun v H' => v = .int .i64 (wr (a ^ n)) ∧ H' = H := by
 refine is_spec_bePower.go rfl ?_
 unfold c_spec_bePower
 refine s_reg ?_
 simp only [o_pure, o_nil, POp.ev, Opd.ev, env0, gu, setD, List.set, xsj, xel]
 refine s_reg ?_
 simp only [o_pure, o_nil, POp.ev, Opd.ev, setD, List.set, xsj, xel]
 refine s_block ?_
 refine s_loop1 (fun j e' H' => ∃ i : Nat, i + j = n ∧ H' = H ∧ e' = [.int .i64 a, .int .i64 j, .int .i64 0, .int .i64 (wr (a ^ i))]) n ⟨0, by omega, rfl, by rw [Int.pow_zero]; rfl⟩ ?_
 rintro j e' H' ⟨i, hij, rfl, rfl⟩
 refine s_test ?_
 simp only [o_pure, o_nil, POp.ev, Opd.ev, gv, setD, xsj, xel, binV, ne_eq, xnt, if_false]
 refine Test.split (fun hlt => ?_) (fun hlt => ?_)
 · have hlt' : 0 < j := by simp at hlt; omega
   obtain ⟨j, rfl⟩ : ∃ j', j = j' + 1 := ⟨j - 1, by omega⟩
   have e1 : IntKind.i64.wrap (((j + 1 : Nat) : Int) - 1) = (j : Int) := by rw [IntKind.wrap_i64]; omega
   have e2 : IntKind.i64.wrap (wr (a ^ i) * a) = wr (a ^ (i + 1)) := by rw [Int.pow_succ]; exact wr_mul_l _ _
   refine s_skip1 ?_
   simp +decide only [pqn]
   refine s_block1 ?_
   refine s_reg1 ?_
   simp only [o_pure, o_nil, POp.ev, Opd.ev, gv, setD, List.set, xsj, xel, binV, ne_eq, xnt, if_false, e2]
   simp +decide only [pqn, pbn]
   refine s_reg1 ?_
   simp only [o_pure, o_nil, POp.ev, Opd.ev, gv, setD, List.set, xsj, xel, binV, ne_eq, xnt, if_false, e1]
   simp +decide only [pqn]
   exact Round.mk j (by omega) ⟨i + 1, by omega, rfl, rfl⟩
 · have hge : j = 0 := by simp at hlt; omega
   subst hge
   obtain rfl : i = n := by omega
   refine s_exit1 ?_
   simp +decide only [pqn, pqe, pbe, reduceIte]
   refine s_reg ?_
   simp only [o_pure, o_nil, POp.ev, Opd.ev, gv, setD, List.set, xsj, xel]
   refine s_ret1 ?_
   simp +decide only [pfr, resV, resOne, gv, xsj, xel]
theorem wr_pow (a : Int) : ∀ n : Nat, wr ((wr a) ^ n) = wr (a ^ n)
 | 0 => by rw [Int.pow_zero, Int.pow_zero]
 | n + 1 => by rw [Int.pow_succ, Int.pow_succ, wr_mul_r, ← wr_mul_l, wr_pow a n, wr_mul_l]
theorem part_ok (lim : Nat) (lo hi : Int) (e j : Nat) (H : AHeap) (he : e ≤ 4) (hj : j ≤ e) : ACalls Tryz.prog lim n_spec_bePart [.int .i64 lo, .int .i64 hi, .int .i64 e, .int .i64 j] H fun v H' => v = .int .i64 (wr (prt lo hi e j)) ∧ H' = H := by
 refine is_spec_bePart.go rfl ?_
 unfold c_spec_bePart
 have e1 : IntKind.i64.wrap ((e : Int) - (j : Int)) = ((e - j : Nat) : Int) := by rw [IntKind.wrap_i64]; omega
 have e2 : IntKind.i64.wrap ((chs e j : Int) * wr (lo ^ (e - j))) = wr ((chs e j : Int) * lo ^ (e - j)) := wr_mul_r _ _
 have e3 : IntKind.i64.wrap (wr ((chs e j : Int) * lo ^ (e - j)) * wr (IntKind.i64.wrap (hi - lo) ^ j)) = wr (prt lo hi e j) := by
   rw [wr_pow]
   exact wr_mul _ _
 refine s_reg ?_
 simp only [o_pure, o_nil, POp.ev, Opd.ev, env0, gu, setD, List.set, xsj, xel]
 refine s_reg ?_
 simp only [o_pure, o_callF, POp.ev, Opd.ev, gv, setD, List.map, xsj, xel]
 refine (choose_ok lim e j H he (by omega)).eq ?_
 simp only [o_cont, o_pure, o_callF, POp.ev, Opd.ev, gv, setD, List.map, xsj, xel, binV, ne_eq, xnt, if_false, e1]
 refine (power_ok lim lo (e - j) H (by omega)).eq ?_
 simp only [o_cont, o_pure, o_callF, POp.ev, Opd.ev, gv, setD, List.map, xsj, xel, binV, ne_eq, xnt, if_false, e2]
 refine (power_ok lim (IntKind.i64.wrap (hi - lo)) j H (by omega)).eq ?_
 simp only [o_cont, o_pure, o_nil, POp.ev, Opd.ev, gv, setD, List.set, xsj, xel, binV, ne_eq, xnt, if_false, e3]
 refine s_ret1 ?_
 simp +decide only [pfr, resV, resOne, gv, xsj, xel]
theorem factor_ok (lim d : Nat) (H : AHeap) (hl : lim ≤ H.next) (hd : d ≤ 4) : ACalls Tryz.prog lim n_spec_beFactor [.int .i64 d] H fun v H' => v = .int .i64 (fac d : Int) ∧ Ext H H' := by
 refine is_spec_beFactor.go rfl ?_
 unfold c_spec_beFactor
 refine s_reg ?_
 simp only [o_pure, o_nil, POp.ev, Opd.ev, env0, gu, setD, List.set, xsj, xel]
 have hv : Vec (H.alloc [.int .i64 1, .int .i64 1, .int .i64 2, .int .i64 3, .int .i64 12]) H.next (.slice (some ⟨H.next, 0, some 0⟩) 5 5) 5 1 [.int .i64 1, .int .i64 1, .int .i64 2, .int .i64 3, .int .i64 12] := Vec.lit rfl
 obtain ⟨b, o, h1, h2, h3⟩ := hv.sl.cell .i64 (i := (d : Int)) (by omega) (by omega)
 have hx := Ext.alloc H [Value.int .i64 1, .int .i64 1, .int .i64 2, .int .i64 3, .int .i64 12]
 have h4 : (H.alloc [Value.int .i64 1, .int .i64 1, .int .i64 2, .int .i64 3, .int .i64 12]).cell b o = some (.int .i64 (fac d : Int)) := by
   rw [h3]
   match d, hd with
   | 0, _ => rfl
   | 1, _ => rfl
   | 2, _ => rfl
   | 3, _ => rfl
   | 4, _ => rfl
 have hb : bsliceH H 5 [.int .i64 0, .int .i64 0, .int .i64 0, .int .i64 0, .int .i64 0] [(0, 1, .int .i64 1), (1, 1, .int .i64 1), (2, 1, .int .i64 2), (3, 1, .int .i64 3), (4, 1, .int .i64 12)] = some (.slice (some ⟨H.next, 0, some 0⟩) 5 5, H.alloc [.int .i64 1, .int .i64 1, .int .i64 2, .int .i64 3, .int .i64 12]) := rfl
 refine s_reg ?_
 simp only [o_pure, o_eff, o_nil, POp.ev, Opd.ev, EOp.ev, gv, setD, List.set, List.map, xsj, xel, load1V, hb, h1, h4]
 refine s_ret1 ?_
 simp +decide only [pfr, resV, resOne, gv, xsj, xel]
 exact ⟨trivial, hx⟩
open Go.Ab Ints
theorem wr_nat {n : Nat} (h : n ≤ 9000000000000000000) : IntKind.i64.wrap (n : Int) = (n : Int) := wr_id (by omega) (by omega)
theorem at_ok (lim : Nat) (s : Value) (d0 d1 d2 i j k : Nat) (H : AHeap) (hs : SlI H s [(d0 : Int), (d1 : Int), (d2 : Int)]) (h1 : d1 ≤ 4) (h2 : d2 ≤ 4) (hi : i ≤ 4) (hj : j ≤ 4) (hk : k ≤ 4) :
   ACalls Tryz.prog lim n_spec_beAt [s, .int .i64 i, .int .i64 j, .int .i64 k] H fun v H' => v = .int .i64 (((i * (d1 + 1) + j) * (d2 + 1) + k : Nat) : Int) ∧ H' = H := by
 refine is_spec_beAt.go rfl ?_
 unfold c_spec_beAt
 obtain ⟨b1, o1, u1, _, u2⟩ := hs.get (i := 1) (by simp)
 obtain ⟨b2, o2, w1, _, w2⟩ := hs.get (i := 2) (by simp)
 have u1' : iadV 1 s (.int .i64 1) = some (.pointer (some ⟨b1, o1, none⟩)) := u1
 have w1' : iadV 1 s (.int .i64 2) = some (.pointer (some ⟨b2, o2, none⟩)) := w1
 have m1 : i * (d1 + 1) ≤ 20 := Nat.mul_le_mul hi (show d1 + 1 ≤ 5 by omega)
 have m2 : (i * (d1 + 1) + j) * (d2 + 1) ≤ 120 := Nat.mul_le_mul (show i * (d1 + 1) + j ≤ 24 by omega) (show d2 + 1 ≤ 5 by omega)
 have e1 : IntKind.i64.wrap ((d1 : Int) + 1) = ((d1 + 1 : Nat) : Int) := wr_nat (n := d1 + 1) (by omega)
 have e2 : IntKind.i64.wrap ((i : Int) * ((d1 + 1 : Nat) : Int)) = ((i * (d1 + 1) : Nat) : Int) := wr_nat (n := i * (d1 + 1)) (by omega)
 have e3 : IntKind.i64.wrap (((i * (d1 + 1) : Nat) : Int) + (j : Int)) = ((i * (d1 + 1) + j : Nat) : Int) := wr_nat (n := i * (d1 + 1) + j) (by omega)
 have e4 : IntKind.i64.wrap ((d2 : Int) + 1) = ((d2 + 1 : Nat) : Int) := wr_nat (n := d2 + 1) (by omega)
 have e5 : IntKind.i64.wrap (((i * (d1 + 1) + j : Nat) : Int) * ((d2 + 1 : Nat) : Int)) = (((i * (d1 + 1) + j) * (d2 + 1) : Nat) : Int) := wr_nat (n := (i * (d1 + 1) + j) * (d2 + 1)) (by omega)
 have e6 : IntKind.i64.wrap ((((i * (d1 + 1) + j) * (d2 + 1) : Nat) : Int) + (k : Int)) = (((i * (d1 + 1) + j) * (d2 + 1) + k : Nat) : Int) := wr_nat (n := (i * (d1 + 1) + j) * (d2 + 1) + k) (by omega)
 simp only [List.getElem_cons_succ, List.getElem_cons_zero] at u2 w2
 refine s_reg ?_
 simp only [o_pure, o_nil, POp.ev, Opd.ev, env0, gu, setD, List.set, xsj, xel]
 refine s_reg ?_
 simp only [o_pure, o_nil, POp.ev, Opd.ev, gv, setD, List.set, xsj, xel, binV, load1V, ne_eq, xnt, if_false, u1', u2, w1', w2, e1, e2, e3, e4, e5, e6]
 refine s_ret1 ?_
 simp +decide only [pfr, resV, resOne, gv, xsj, xel]
theorem wgt_code : ∀ d : Fin 5, ∀ i : Fin 5, ∀ j : Fin 5, i.val ≤ d.val → j.val ≤ i.val → chs d.val j.val ≠ 0 ∧ wr ((chs i.val j.val : Int) * wr ((fac d.val : Int).tdiv (chs d.val j.val : Int))) = wgt d.val i.val j.val := by decide +kernel
def oneF (d : Nat) (a : Nat → Int) (i : Nat) : Int := lsum (fun j => wgt d i j * a j) (List.range (i + 1))
theorem one_ok (lim : Nat) (s : Value) (l : List Int) (d : Nat) (H : AHeap) (hl : lim ≤ H.next) (hs : SlI H s l) (hd : d ≤ 4) (hn : l.length = d + 1) :
   ACalls Tryz.prog lim n_spec_beOne [s] H fun v H' => ∃ c, H.next ≤ c ∧ VecI H' c v ((List.range (d + 1)).map fun i => wr (oneF d (fun j => l.getD j 0) i)) ∧ Ext H H' := by
 refine is_spec_beOne.go rfl ?_
 unfold c_spec_beOne
 have e0 : IntKind.i64.wrap ((l.length : Int) - 1) = (d : Int) := by rw [IntKind.wrap_i64]; omega
 refine s_reg ?_
 simp only [o_pure, o_nil, POp.ev, Opd.ev, env0, gu, setD, List.set, xsj, xel]
 refine s_reg ?_
 simp only [o_pure, o_nil, POp.ev, Opd.ev, gv, setD, List.set, xsj, xel, binV, ne_eq, xnt, if_false, hs.lenV, e0]
 refine s_reg ?_
 simp only [o_pure, o_nil, POp.ev, Opd.ev, setD, List.set, xsj, xel]
 refine s_assoc (s_reg ?_)
 simp only [o_pure, o_nil, POp.ev, Opd.ev, gv, setD, List.set, xsj, xel, hs.lenV]
 refine s_block ?_
 refine s_loop1 (fun k e' H' => ∃ (i b : Nat) (v x4 x5 x6 : Value), i + k = d + 1 ∧ VecI H' b v ((List.range i).map fun i => wr (oneF d (fun j => l.getD j 0) i)) ∧ H.next ≤ b ∧ Ext H H' ∧ e' = [s, .slice none 0 0, .int .i64 d, v, x4, x5, x6, .int .i64 l.length, .int .i64 i]) (d + 1) ⟨0, H.next, _, _, _, _, by omega, Vec.nil _ _ _, Nat.le_refl _, Ext.refl _, rfl⟩ ?_
 rintro k e' H1 ⟨i, b, v, x4, x5, x6, hik, hv, hb, hx, rfl⟩
 have hn1 := hx.next
 refine s_test ?_
 simp only [o_pure, o_nil, POp.ev, Opd.ev, gv, setD, xsj, xel, binV, ne_eq, xnt, if_false]
 refine Test.split (fun hlt => ?_) (fun hlt => ?_)
 · have hlt' : i < d + 1 := by simp at hlt; omega
   refine s_skip1 ?_
   simp +decide only [pqn]
   refine s_block1 ?_
   refine s_reg ?_
   simp only [o_pure, o_nil, POp.ev, Opd.ev, gv, setD, List.set, xsj, xel]
   refine s_reg ?_
   simp only [o_pure, o_nil, POp.ev, Opd.ev, setD, List.set, xsj, xel]
   refine s_assoc (s_reg ?_)
   simp only [o_pure, o_nil, POp.ev, Opd.ev, setD, List.set, xsj, xel]
   refine s_block ?_
   refine s_loop1 (fun m e' H' => ∃ j : Nat, j + m = i + 1 ∧ Ext H1 H' ∧ e' = [s, .slice none 0 0, .int .i64 d, v, .int .i64 i, .int .i64 (wr (lsum (fun j => wgt d i j * l.getD j 0) (List.range j))), .int .i64 j, .int .i64 l.length, .int .i64 i]) (i + 1) ⟨0, by omega, Ext.refl _, rfl⟩ ?_
   rintro m e' H2 ⟨j, hjm, hx2, rfl⟩
   have hn2 := hx2.next
   refine s_test ?_
   simp only [o_pure, o_nil, POp.ev, Opd.ev, gv, setD, xsj, xel, binV, ne_eq, xnt, if_false]
   refine Test.split (fun hlt => ?_) (fun hlt => ?_)
   · have hlj : j ≤ i := by simpa using hlt
     have hjl : j < l.length := by omega
     obtain ⟨c0, c1⟩ := wgt_code ⟨d, by omega⟩ ⟨i, by omega⟩ ⟨j, by omega⟩ (show i ≤ d by omega) hlj
     simp only [wr] at c0 c1
     have c0' : ¬ ((chs d j : Int) = 0) := by omega
     obtain ⟨b1, o1, u1, _, u2⟩ := SlI.get (show SlI H2 s l from hs.keep (Keep.of_ext (hx.trans hx2) (Nat.le_refl _)) (Nat.le_refl _)) hjl
     refine s_skip1 ?_
     simp +decide only [pqn]
     refine s_block1 ?_
     refine s_reg1 ?_
     simp only [o_pure, o_callN, POp.ev, Opd.ev, gv, setD, List.map, xsj, xel, load1V, u1, u2]
     refine (choose_ok _ i j H2 (by omega) (by omega)).eq ?_
     simp only [o_cont, o_callN, Opd.ev, gv, setD, List.map]
     refine (factor_ok _ d H2 (Nat.le_refl _) hd).mono ?_
     rintro _ H3 ⟨rfl, hx3⟩
     simp only [o_cont, o_callN, Opd.ev, gv, setD, List.map]
     refine (choose_ok _ d j H3 (by omega) (by omega)).eq ?_
     have e5 : IntKind.i64.wrap (wr (lsum (fun j => wgt d i j * l.getD j 0) (List.range j)) + IntKind.i64.wrap (wgt d i j * l[j])) = wr (lsum (fun j => wgt d i j * l.getD j 0) (List.range (j + 1))) := by
       rw [lsum_range_succ, show l.getD j 0 = l[j] from by simp [hjl]]
       exact wr_add _ _
     simp only [o_cont, o_pure, o_nil, POp.ev, Opd.ev, gv, setD, List.set, xsj, xel, binV, ne_eq, xnt, if_false, c0', c1, e5]
     simp +decide only [pqn, pbn]
     refine s_reg1 ?_
     simp only [o_pure, o_nil, POp.ev, Opd.ev, gv, setD, List.set, xsj, xel, binV, ne_eq, xnt, if_false, add1 (i := j) (by omega)]
     simp +decide only [pqn]
     exact Round.mk (m - 1) (by omega) ⟨j + 1, by omega, hx2.trans hx3, rfl⟩
   · have hge : j = i + 1 := by simp at hlt; omega
     subst hge
     refine s_exit1 ?_
     simp +decide only [pqn, pqe, pbe, reduceIte]
     have hv2 : VecI H2 b v ((List.range i).map fun i => wr (oneF d (fun j => l.getD j 0) i)) := Vec.ext hv hx2
     have hv2' := hv2
     simp only [VecI, List.length_map, List.length_range] at hv2'
     obtain ⟨v', H6, b', e6, hv6, hb6', hlt6, c6, n6⟩ := push1 (lim := lim) (bytes := 8) hv2' (.int .i64 (wr (lsum (fun j => wgt d i j * l.getD j 0) (List.range (i + 1))))) (by omega) (by omega)
     have hbs := bsliceV H2 (.int .i64 0) (x := .int .i64 (wr (lsum (fun j => wgt d i j * l.getD j 0) (List.range (i + 1))))) rfl
     refine s_reg1 ?_
     simp only [o_pure, o_eff, o_nil, POp.ev, Opd.ev, EOp.ev, gv, setD, List.set, List.map, xsj, xel, hbs, e6]
     simp +decide only [pqn, pbn]
     refine s_reg1 ?_
     simp only [o_pure, o_nil, POp.ev, Opd.ev, gv, setD, List.set, xsj, xel, binV, ne_eq, xnt, if_false, add1 (i := i) (by omega)]
     simp +decide only [pqn]
     refine Round.mk (k - 1) (by omega) ⟨i + 1, b', v', _, _, _, by omega, ?_, by rcases hb6' with h | h <;> omega, Chg.ext (hx.trans hx2) c6 hb, rfl⟩
     rw [List.range_succ, List.map_append, List.map_cons, List.map_nil]
     show Vec H6 b' v' _ 1 _
     rw [List.length_append, List.length_map, List.length_range, List.map_append]
     exact hv6
 · have hge : i = d + 1 := by simp at hlt; omega
   subst hge
   refine s_exit1 ?_
   simp +decide only [pqn, pqe, pbe, reduceIte]
   refine s_reg ?_
   simp only [o_pure, o_nil, POp.ev, Opd.ev, gv, setD, List.set, xsj, xel]
   refine s_ret1 ?_
   simp +decide only [pfr, resV, resOne, gv, xsj, xel]
   exact ⟨b, hb, hv, hx⟩
theorem VecI.at {H : AHeap} {b : Nat} {v : Value} {l : List Int} (h : VecI H b v l) {i : Nat} (hi : i < l.length) : iadV 1 v (.int .i64 i) = some (.pointer (some ⟨b, i, none⟩)) ∧ H.cell b i = some (.int .i64 (l.getD i 0)) := by
 have hiad := Vec.iad h .i64 (i := i) (by omega)
 rw [Nat.mul_one] at hiad
 refine ⟨hiad, Vec.cell h ?_⟩
 rw [List.getElem?_map, List.getElem?_eq_getElem hi, show l.getD i 0 = l[i] from by simp [hi]]
 rfl
theorem VecI.put {lim : Nat} {H : AHeap} {b : Nat} {v : Value} {l : List Int} (h : VecI H b v l) (hl : lim ≤ b) {i : Nat} (hi : i < l.length) (x : Int) :
   ∃ cs, storeH lim H 1 (.pointer (some ⟨b, i, none⟩)) (.int .i64 x) = some (undef, H.put b cs) ∧ VecI (H.put b cs) b v (l.set i x) := by
 obtain ⟨cs, hst, hv'⟩ := Vec.put1 (lim := lim) h hl (i := i) (x := .int .i64 x) rfl (by omega)
 refine ⟨cs, hst, ?_⟩
 show Vec _ b v (l.set i x).length 1 ((l.set i x).map vi)
 rw [List.length_set, List.map_set]
 exact hv'
theorem VecI.snoc {H : AHeap} {b : Nat} {v : Value} {l : List Int} {x : Int} (h : Vec H b v (l.length + 1) 1 (l.map vi ++ [vi x])) : VecI H b v (l ++ [x]) := by
 show Vec H b v (l ++ [x]).length 1 ((l ++ [x]).map vi)
 rw [List.length_append, List.map_append]
 exact h
theorem getD_set (l : List Int) (i k : Nat) (x : Int) (hi : i < l.length) : (l.set i x).getD k 0 = if k = i then x else l.getD k 0 := by
 rw [List.getD_eq_getElem?_getD, List.getD_eq_getElem?_getD, List.getElem?_set]
 by_cases h : i = k
 · subst h
   simp [hi]
 · rw [if_neg h, if_neg (fun e => h e.symm)]
def Turned (d : Nat) (A : List Int) (pl : List Nat) (A' : List Int) : Prop :=
 A'.length = A.length ∧ (∀ i, i < pl.length → A'.getD (pl.getD i 0) 0 = wr (oneF d (fun j => A.getD (pl.getD j 0) 0) i)) ∧ ∀ x, x ∉ pl → A'.getD x 0 = A.getD x 0
theorem line_ok (lim : Nat) (v s : Value) (A : List Int) (pl : List Nat) (b c0 d : Nat) (H : AHeap) (hl : lim ≤ b) (hlH : lim ≤ H.next) (hv : VecI H b v A) (hs0 : VecI H c0 s (pl.map fun (n : Nat) => (n : Int))) (hcb : c0 ≠ b) (hd : d ≤ 4) (hn : pl.length = d + 1) (hA : A.length ≤ 1000) (hp : ∀ x ∈ pl, x < A.length) (hnd : pl.Nodup) :
   ACalls Tryz.prog lim n_spec_beLine [v, s] H fun _ H' => ∃ A', Turned d A pl A' ∧ VecI H' b v A' ∧ Chg b H H' := by
 refine is_spec_beLine.go rfl ?_
 unfold c_spec_beLine
 have hs : SlI H s (pl.map fun (n : Nat) => (n : Int)) := Vec.sl hs0
 have hbl : b < H.next := (Vec.blk hv (by
   intro e
   have := hp (pl.getD 0 0) (by rw [show pl.getD 0 0 = pl[0]'(by omega) from by simp [show 0 < pl.length by omega]]; exact List.getElem_mem _)
   omega)).elim fun _ h => h.2
 have hlen : (pl.map fun (n : Nat) => (n : Int)).length = pl.length := by simp
 have hsl := hs.lenV
 rw [hlen] at hsl
 refine s_reg ?_
 simp only [o_pure, o_nil, POp.ev, Opd.ev, env0, gu, setD, List.set, xsj, xel]
 refine s_assoc (s_reg ?_)
 simp only [o_pure, o_nil, POp.ev, Opd.ev, gv, setD, List.set, xsj, xel, hsl]
 refine s_cut (fun e' H' => ∃ (c : Nat) (ln x3 x4 x5 x6 x7 x8 : Value), VecI H' c ln (pl.map fun k => A.getD k 0) ∧ H.next ≤ c ∧ Ext H H' ∧ e' = [v, s, ln, x3, x4, x5, x6, x7, x8, undef, undef, undef]) ?_ ?_
 · refine s_block1 ?_
   refine s_loop1 (fun k e' H' => ∃ (i c : Nat) (ln x3 x4 x5 : Value), i + k = pl.length ∧ VecI H' c ln ((pl.take i).map fun k => A.getD k 0) ∧ H.next ≤ c ∧ Ext H H' ∧ e' = [v, s, ln, x3, x4, x5, s, .int .i64 pl.length, .int .i64 i, undef, undef, undef]) pl.length ⟨0, H.next, _, _, _, _, by omega, Vec.nil _ _ _, Nat.le_refl _, Ext.refl _, rfl⟩ ?_
   rintro k e' H1 ⟨i, c, ln, x3, x4, x5, hik, hln, hc, hx, rfl⟩
   have hn1 := hx.next
   refine s_test ?_
   simp only [o_pure, o_nil, POp.ev, Opd.ev, gv, setD, xsj, xel, binV, ne_eq, xnt, if_false]
   refine Test.split (fun hlt => ?_) (fun hlt => ?_)
   · have hlt' : i < pl.length := by simpa using hlt
     obtain ⟨b1, o1, u1, _, u2⟩ := SlI.get (show SlI H1 s _ from hs.keep (Keep.of_ext hx (Nat.le_refl _)) (Nat.le_refl _)) (show i < (pl.map fun (n : Nat) => (n : Int)).length by omega)
     rw [List.getElem_map] at u2
     obtain ⟨w1, w2⟩ := VecI.at (Vec.ext hv hx) (hp _ (List.getElem_mem hlt'))
     have hln' := hln
     simp only [VecI, List.length_map, List.length_take] at hln'
     rw [Nat.min_eq_left (by omega)] at hln'
     obtain ⟨v', H6, b', e6, hv6, hb6', hlt6, c6, n6⟩ := push1 (lim := lim) (bytes := 8) hln' (vi (A.getD pl[i] 0)) (by omega) (by omega)
     have hbs := bsliceV H1 (.int .i64 0) (x := vi (A.getD pl[i] 0)) rfl
     refine s_skip1 ?_
     simp +decide only [pqn]
     refine s_block1 ?_
     refine s_reg ?_
     simp only [o_pure, o_nil, POp.ev, Opd.ev, gv, setD, List.set, xsj, xel, load1V, u1, u2]
     refine s_reg1 ?_
     simp only [o_pure, o_eff, o_nil, POp.ev, Opd.ev, EOp.ev, gv, setD, List.set, List.map, xsj, xel, load1V, w1, w2, hbs, e6]
     simp +decide only [pqn, pbn]
     refine s_reg1 ?_
     simp only [o_pure, o_nil, POp.ev, Opd.ev, gv, setD, List.set, xsj, xel, binV, ne_eq, xnt, if_false, add1 (i := i) (by omega)]
     simp +decide only [pqn]
     refine Round.mk (k - 1) (by omega) ⟨i + 1, b', v', _, _, _, by omega, ?_, by rcases hb6' with h | h <;> omega, Chg.ext hx c6 hc, rfl⟩
     rw [List.take_succ_eq_append_getElem hlt', List.map_append, List.map_cons, List.map_nil]
     refine VecI.snoc ?_
     rw [List.length_map, List.length_take, Nat.min_eq_left (by omega)]
     exact hv6
   · have hge : i = pl.length := by simp at hlt; omega
     subst hge
     refine s_exit1 ?_
     simp +decide only [pqn, pqe, pbe, reduceIte]
     rw [List.take_length] at hln
     exact ⟨c, ln, _, _, _, _, _, _, hln, hc, hx, rfl⟩
 · rintro e' H1 ⟨c, ln, x3, x4, x5, x6, x7, x8, hln, hc, hx, rfl⟩
   have hn1 := hx.next
   refine s_reg ?_
   simp only [o_pure, o_callF, POp.ev, Opd.ev, gv, setD, List.map, xsj, xel]
   refine (one_ok lim ln _ d H1 (by omega) (Vec.sl hln) hd (by simpa using hn)).mono ?_
   rintro nw H2 ⟨c2, hc2, hnw, hx2⟩
   have hn2 := hx2.next
   have hx12 := hx.trans hx2
   have hnwl := (Vec.sl hnw).lenV
   simp only [List.length_map, List.length_range] at hnwl
   simp only [o_cont, o_pure, o_nil, POp.ev, Opd.ev, gv, setD, List.set, xsj, xel, hnwl]
   refine s_block1 ?_
   refine s_loop1 (fun k e' H' => ∃ (i : Nat) (B : List Int) (x4 x5 : Value), i + k = d + 1 ∧ B.length = A.length ∧ (∀ m, m < i → B.getD (pl.getD m 0) 0 = wr (oneF d (fun j => A.getD (pl.getD j 0) 0) m)) ∧ (∀ x, x ∉ pl → B.getD x 0 = A.getD x 0) ∧ VecI H' b v B ∧ Chg b H2 H' ∧ e' = [v, s, ln, x3, x4, x5, x6, x7, x8, nw, .int .i64 (d + 1 : Nat), .int .i64 i]) (d + 1) ⟨0, A, _, _, by omega, rfl, by intro m hm; omega, fun _ _ => rfl, Vec.ext hv hx12, Chg.refl _ _, rfl⟩ ?_
   rintro k e' H3 ⟨i, B, y4, y5, hik, hBl, hB1, hB2, hvB, hch, rfl⟩
   have hn3 := hch.next
   refine s_test ?_
   simp only [o_pure, o_nil, POp.ev, Opd.ev, gv, setD, xsj, xel, binV, ne_eq, xnt, if_false]
   refine Test.split (fun hlt => ?_) (fun hlt => ?_)
   · have hlt' : i < d + 1 := by simp at hlt; omega
     have hpi : i < pl.length := by omega
     have hpA := hp _ (List.getElem_mem hpi)
     have hgd : pl.getD i 0 = pl[i] := by simp [hpi]
     obtain ⟨w1, w2⟩ := VecI.at (Vec.chg hnw hch (by omega)) (i := i) (by simp; omega)
     obtain ⟨u1, u2⟩ := VecI.at (Vec.chg (Vec.ext hs0 hx12) hch hcb) (i := i) (by simp; omega)
     have e1 : ((List.range (d + 1)).map fun i => wr (oneF d (fun j => (pl.map fun k => A.getD k 0).getD j 0) i)).getD i 0 = wr (oneF d (fun j => A.getD (pl.getD j 0) 0) i) := by
       have h1 : ((List.range (d + 1)).map fun i => wr (oneF d (fun j => (pl.map fun k => A.getD k 0).getD j 0) i)).getD i 0 = wr (oneF d (fun j => (pl.map fun k => A.getD k 0).getD j 0) i) := by simp [hlt']
       rw [h1]
       congr 1
       unfold oneF
       refine lsum_congr fun j hj => ?_
       have hj' := List.mem_range.1 hj
       have : (pl.map fun k => A.getD k 0).getD j 0 = A.getD (pl.getD j 0) 0 := by simp [show j < pl.length by omega]
       exact congrArg (wgt d i j * ·) this
     have e2 : (pl.map fun (n : Nat) => (n : Int)).getD i 0 = ((pl[i] : Nat) : Int) := by simp [hpi]
     rw [e1] at w2
     rw [e2] at u2
     obtain ⟨q1, _⟩ := VecI.at hvB (i := pl[i]) (by omega)
     obtain ⟨cs, hst, hv'⟩ := VecI.put (lim := lim) hvB hl (i := pl[i]) (by omega) (wr (oneF d (fun j => A.getD (pl.getD j 0) 0) i))
     refine s_skip1 ?_
     simp +decide only [pqn]
     refine s_block1 ?_
     refine s_reg ?_
     simp only [o_pure, o_nil, POp.ev, Opd.ev, gv, setD, List.set, xsj, xel, load1V, w1, w2]
     refine s_reg1 ?_
     simp only [o_pure, o_eff, o_nil, POp.ev, Opd.ev, EOp.ev, gv, setD, xsj, xel, load1V, u1, u2, q1, hst]
     simp +decide only [pqn, pbn]
     refine s_reg1 ?_
     simp only [o_pure, o_nil, POp.ev, Opd.ev, gv, setD, List.set, xsj, xel, binV, ne_eq, xnt, if_false, add1 (i := i) (by omega)]
     simp +decide only [pqn]
     refine Round.mk (k - 1) (by omega) ⟨i + 1, _, _, _, by omega, by rw [List.length_set]; exact hBl, ?_, ?_, hv', hch.trans (Chg.put _ _ _), rfl⟩
     · intro m hm
       rw [getD_set _ _ _ _ (by omega)]
       by_cases hmi : m = i
       · subst hmi
         rw [if_pos hgd]
       · have hne : pl.getD m 0 ≠ pl[i] := by
           have hml : m < pl.length := by omega
           rw [show pl.getD m 0 = pl[m] from by simp [hml]]
           intro e
           exact hmi ((List.getElem_inj hnd).1 e)
         rw [if_neg hne]
         exact hB1 m (by omega)
     · intro x hx
       rw [getD_set _ _ _ _ (by omega), if_neg (fun e => hx (by rw [e]; exact List.getElem_mem hpi))]
       exact hB2 x hx
   · have hge : i = d + 1 := by simp at hlt; omega
     subst hge
     refine s_exit1 ?_
     simp +decide only [pqe, pbe, p_fin_normal, reduceIte, resV, resL, xsj, xel, xms]
     exact ⟨B, ⟨hBl, fun i hi => hB1 i (by omega), hB2⟩, hvB, (Chg.of_ext hx12).trans hch⟩
theorem radix {m a b a' b' : Nat} (hb : b < m) (hb' : b' < m) (h : a * m + b = a' * m + b') : a = a' ∧ b = b' := by
 have h1 : (a * m + b) % m = b := by rw [Nat.mul_comm, Nat.mul_add_mod, Nat.mod_eq_of_lt hb]
 have h2 : (a' * m + b') % m = b' := by rw [Nat.mul_comm, Nat.mul_add_mod, Nat.mod_eq_of_lt hb']
 have h3 : b = b' := by rw [← h1, ← h2, h]
 subst h3
 have h4 : a * m = a' * m := by omega
 exact ⟨Nat.eq_of_mul_eq_mul_right (by omega) h4, rfl⟩
def gp (d1 d2 x y z : Nat) : Nat := (x * (d1 + 1) + y) * (d2 + 1) + z
theorem gp_inj {d1 d2 x y z x' y' z' : Nat} (hy : y ≤ d1) (hz : z ≤ d2) (hy' : y' ≤ d1) (hz' : z' ≤ d2) (h : gp d1 d2 x y z = gp d1 d2 x' y' z') : x = x' ∧ y = y' ∧ z = z' := by
 unfold gp at h
 obtain ⟨h1, h2⟩ := radix (by omega) (by omega) h
 obtain ⟨h3, h4⟩ := radix (by omega) (by omega) h1
 exact ⟨h3, h4, h2⟩
theorem gp_lt {d0 d1 d2 x y z : Nat} (hx : x ≤ d0) (hy : y ≤ d1) (hz : z ≤ d2) : gp d1 d2 x y z < (d0 + 1) * (d1 + 1) * (d2 + 1) := by
 unfold gp
 have h1 : x * (d1 + 1) + y + 1 ≤ (d0 + 1) * (d1 + 1) := by
   have := Nat.mul_le_mul_right (d1 + 1) hx
   rw [Nat.succ_mul]
   omega
 have h2 := Nat.mul_le_mul_right (d2 + 1) h1
 rw [Nat.succ_mul] at h2
 omega
theorem wr_lsum {α : Type} (f : α → Int) : ∀ l : List α, wr (lsum (fun a => wr (f a)) l) = wr (lsum f l)
 | [] => rfl
 | a :: l => by rw [lsum, lsum, wr_add_l, ← wr_add_r, wr_lsum f l, wr_add_r]
theorem wr_oneF (d : Nat) (f : Nat → Int) (i : Nat) : wr (oneF d (fun j => wr (f j)) i) = wr (oneF d f i) := by
 unfold oneF
 rw [← wr_lsum, ← wr_lsum (fun j => wgt d i j * f j)]
 congr 1
 exact lsum_congr fun j _ => wr_mul_r _ _
theorem oneF_congr {d : Nat} {f g : Nat → Int} {i : Nat} (h : ∀ j, j ≤ i → f j = g j) : oneF d f i = oneF d g i := by
 unfold oneF
 exact lsum_congr fun j hj => by rw [h j (by have := List.mem_range.1 hj; omega)]
def IsG (d0 d1 d2 : Nat) (A : List Int) (f : Nat → Nat → Nat → Int) : Prop :=
 A.length = (d0 + 1) * (d1 + 1) * (d2 + 1) ∧ ∀ x y z, x ≤ d0 → y ≤ d1 → z ≤ d2 → A.getD (gp d1 d2 x y z) 0 = wr (f x y z)
theorem IsG.congr {d0 d1 d2 : Nat} {A : List Int} {f g : Nat → Nat → Nat → Int} (h : IsG d0 d1 d2 A f) (hfg : ∀ x y z, x ≤ d0 → y ≤ d1 → z ≤ d2 → f x y z = g x y z) : IsG d0 d1 d2 A g :=
 ⟨h.1, fun x y z hx hy hz => by rw [h.2 x y z hx hy hz, hfg x y z hx hy hz]⟩
def lnZ (d1 d2 i j : Nat) : List Nat := (List.range (d2 + 1)).map fun l => gp d1 d2 i j l
def lnY (d1 d2 i l : Nat) : List Nat := (List.range (d1 + 1)).map fun j => gp d1 d2 i j l
def lnX (d0 d1 d2 j l : Nat) : List Nat := (List.range (d0 + 1)).map fun i => gp d1 d2 i j l
theorem getD_map_range (g : Nat → Nat) (n i : Nat) (h : i < n) : ((List.range n).map g).getD i 0 = g i := by simp [h]
theorem IsG.turnZ {d0 d1 d2 i j : Nat} {A A' : List Int} {f : Nat → Nat → Nat → Int} (h : IsG d0 d1 d2 A f) (hi : i ≤ d0) (hj : j ≤ d1) (ht : Turned d2 A (lnZ d1 d2 i j) A') :
   IsG d0 d1 d2 A' fun x y z => if x = i ∧ y = j then oneF d2 (f x y) z else f x y z := by
 obtain ⟨t1, t2, t3⟩ := ht
 refine ⟨t1.trans h.1, fun x y z hx hy hz => ?_⟩
 by_cases hc : x = i ∧ y = j
 · obtain ⟨rfl, rfl⟩ := hc
   simp only [and_self, if_true]
   have := t2 z (by simp [lnZ]; omega)
   rw [lnZ, getD_map_range _ _ _ (by omega)] at this
   rw [this, ← wr_oneF d2 (f x y)]
   congr 1
   refine oneF_congr fun l hl => ?_
   rw [getD_map_range _ _ _ (by omega)]
   exact h.2 x y l hx hy (by omega)
 · simp only [hc, if_false]
   rw [t3, h.2 x y z hx hy hz]
   intro hm
   obtain ⟨l, hl, he⟩ := List.mem_map.1 hm
   have hl' := List.mem_range.1 hl
   obtain ⟨e1, e2, _⟩ := gp_inj hj (by omega) hy hz he
   exact hc ⟨e1.symm, e2.symm⟩
theorem IsG.turnY {d0 d1 d2 i l : Nat} {A A' : List Int} {f : Nat → Nat → Nat → Int} (h : IsG d0 d1 d2 A f) (hi : i ≤ d0) (hl : l ≤ d2) (ht : Turned d1 A (lnY d1 d2 i l) A') :
   IsG d0 d1 d2 A' fun x y z => if x = i ∧ z = l then oneF d1 (fun y => f x y z) y else f x y z := by
 obtain ⟨t1, t2, t3⟩ := ht
 refine ⟨t1.trans h.1, fun x y z hx hy hz => ?_⟩
 by_cases hc : x = i ∧ z = l
 · obtain ⟨rfl, rfl⟩ := hc
   simp only [and_self, if_true]
   have := t2 y (by simp [lnY]; omega)
   rw [lnY, getD_map_range _ _ _ (by omega)] at this
   rw [this, ← wr_oneF d1 (fun y => f x y z)]
   congr 1
   refine oneF_congr fun j hj => ?_
   rw [getD_map_range _ _ _ (by omega)]
   exact h.2 x j z hx (by omega) hz
 · simp only [hc, if_false]
   rw [t3, h.2 x y z hx hy hz]
   intro hm
   obtain ⟨j, hj, he⟩ := List.mem_map.1 hm
   have hj' := List.mem_range.1 hj
   obtain ⟨e1, _, e2⟩ := gp_inj (by omega) hl hy hz he
   exact hc ⟨e1.symm, e2.symm⟩
theorem IsG.turnX {d0 d1 d2 j l : Nat} {A A' : List Int} {f : Nat → Nat → Nat → Int} (h : IsG d0 d1 d2 A f) (hj : j ≤ d1) (hl : l ≤ d2) (ht : Turned d0 A (lnX d0 d1 d2 j l) A') :
   IsG d0 d1 d2 A' fun x y z => if y = j ∧ z = l then oneF d0 (fun x => f x y z) x else f x y z := by
 obtain ⟨t1, t2, t3⟩ := ht
 refine ⟨t1.trans h.1, fun x y z hx hy hz => ?_⟩
 by_cases hc : y = j ∧ z = l
 · obtain ⟨rfl, rfl⟩ := hc
   simp only [and_self, if_true]
   have := t2 x (by simp [lnX]; omega)
   rw [lnX, getD_map_range _ _ _ (by omega)] at this
   rw [this, ← wr_oneF d0 (fun x => f x y z)]
   congr 1
   refine oneF_congr fun i hi => ?_
   rw [getD_map_range _ _ _ (by omega)]
   exact h.2 i y z (by omega) hy hz
 · simp only [hc, if_false]
   rw [t3, h.2 x y z hx hy hz]
   intro hm
   obtain ⟨i, hi, he⟩ := List.mem_map.1 hm
   obtain ⟨_, e1, e2⟩ := gp_inj hj hl hy hz he
   exact hc ⟨e1.symm, e2.symm⟩
theorem ln_props {d0 d1 d2 : Nat} : (∀ i j, i ≤ d0 → j ≤ d1 → (lnZ d1 d2 i j).Nodup ∧ ∀ x ∈ lnZ d1 d2 i j, x < (d0 + 1) * (d1 + 1) * (d2 + 1)) ∧ (∀ i l, i ≤ d0 → l ≤ d2 → (lnY d1 d2 i l).Nodup ∧ ∀ x ∈ lnY d1 d2 i l, x < (d0 + 1) * (d1 + 1) * (d2 + 1)) ∧ (∀ j l, j ≤ d1 → l ≤ d2 → (lnX d0 d1 d2 j l).Nodup ∧ ∀ x ∈ lnX d0 d1 d2 j l, x < (d0 + 1) * (d1 + 1) * (d2 + 1)) := by
 have nd : ∀ (g : Nat → Nat) (n : Nat), (∀ a b, a < n → b < n → g a = g b → a = b) → ((List.range n).map g).Nodup := by
   intro g n hg
   unfold List.Nodup
   rw [List.pairwise_map]
   refine List.Pairwise.imp_of_mem ?_ (List.nodup_range (n := n))
   intro a b ha hb hne e
   exact hne (hg a b (List.mem_range.1 ha) (List.mem_range.1 hb) e)
 refine ⟨fun i j hi hj => ⟨nd _ _ fun a b ha hb e => (gp_inj hj (by omega) hj (by omega) e).2.2, fun x hx => ?_⟩, fun i l hi hl => ⟨nd _ _ fun a b ha hb e => (gp_inj (by omega) hl (by omega) hl e).2.1, fun x hx => ?_⟩, fun j l hj hl => ⟨nd _ _ fun a b ha hb e => (gp_inj hj hl hj hl e).1, fun x hx => ?_⟩⟩
 · obtain ⟨a, ha, rfl⟩ := List.mem_map.1 hx
   exact gp_lt hi hj (by have := List.mem_range.1 ha; omega)
 · obtain ⟨a, ha, rfl⟩ := List.mem_map.1 hx
   exact gp_lt hi (by have := List.mem_range.1 ha; omega) hl
 · obtain ⟨a, ha, rfl⟩ := List.mem_map.1 hx
   exact gp_lt (by have := List.mem_range.1 ha; omega) hj hl
def turn3 (d0 d1 d2 : Nat) (f : Nat → Nat → Nat → Int) (x y z : Nat) : Int := oneF d0 (fun x' => oneF d1 (fun y' => oneF d2 (f x' y') z) y) x
theorem chs_gt : ∀ i : Fin 5, ∀ j : Fin 5, i.val < j.val → chs i.val j.val = 0 := by decide
theorem oneF_bta {d i : Nat} (c lo hi : Int) (e : Nat) (hd : d ≤ 4) (hi' : i ≤ d) : oneF d (fun j => c * prt lo hi e j) i = c * bta d lo hi e i := by
 unfold oneF bta
 rw [← lsum_mul]
 have key : ∀ n, i + n ≤ d → lsum (fun j => wgt d i j * (c * prt lo hi e j)) (List.range (i + 1)) = lsum (fun j => c * (wgt d i j * prt lo hi e j)) (List.range (i + n + 1)) := by
   intro n
   induction n with
   | zero => intro _; exact lsum_congr fun j _ => Int.mul_left_comm _ _ _
   | succ n ih =>
     intro hn
     rw [ih (by omega), show i + (n + 1) + 1 = (i + n + 1) + 1 from rfl, lsum_range_succ _ (i + n + 1)]
     have h0 : wgt d i (i + n + 1) = 0 := by
       unfold wgt
       rw [chs_gt ⟨i, by omega⟩ ⟨i + n + 1, by omega⟩ (by show i < i + n + 1; omega)]
       simp
     rw [h0]
     simp
 have := key (d - i) (by omega)
 rw [show i + (d - i) + 1 = d + 1 by omega] at this
 exact this
theorem oneF_lsum {α : Type} (d i : Nat) (F : α → Nat → Int) (l : List α) : oneF d (fun j => lsum (fun t => F t j) l) i = lsum (fun t => oneF d (F t) i) l := by
 unfold oneF
 rw [lsum_swap (fun t j => wgt d i j * F t j)]
 exact lsum_congr fun j _ => (lsum_mul _ _ _).symm
def gridF (cs : List (Int × List Nat)) (a b c : Ax) (x y z : Nat) : Int := lsum (fun t => t.1 * prt a.lo a.hi (t.2.getD 0 0) x * prt b.lo b.hi (t.2.getD 1 0) y * prt c.lo c.hi (t.2.getD 2 0) z) cs
theorem turn_coef {cs : List (Int × List Nat)} {a b c : Ax} {x y z : Nat} (hcs : ∀ t ∈ cs, t.2.length = 3) (ha : a.d ≤ 4) (hb : b.d ≤ 4) (hc : c.d ≤ 4) (hx : x ≤ a.d) (hy : y ≤ b.d) (hz : z ≤ c.d) :
   turn3 a.d b.d c.d (gridF cs a b c) x y z = coef cs [a, b, c] [x, y, z] := by
 unfold turn3 gridF coef
 have e1 : ∀ x' y', oneF c.d (fun z => lsum (fun t : Int × List Nat => t.1 * prt a.lo a.hi (t.2.getD 0 0) x' * prt b.lo b.hi (t.2.getD 1 0) y' * prt c.lo c.hi (t.2.getD 2 0) z) cs) z = lsum (fun t : Int × List Nat => (t.1 * prt a.lo a.hi (t.2.getD 0 0) x' * bta c.d c.lo c.hi (t.2.getD 2 0) z) * prt b.lo b.hi (t.2.getD 1 0) y') cs := by
   intro x' y'
   rw [oneF_lsum]
   refine lsum_congr fun t _ => ?_
   rw [oneF_bta _ _ _ _ hc hz]
   simp only [Int.mul_assoc, Int.mul_comm, Int.mul_left_comm]
 have e2 : ∀ x', oneF b.d (fun y' => lsum (fun t : Int × List Nat => (t.1 * prt a.lo a.hi (t.2.getD 0 0) x' * bta c.d c.lo c.hi (t.2.getD 2 0) z) * prt b.lo b.hi (t.2.getD 1 0) y') cs) y = lsum (fun t : Int × List Nat => (t.1 * bta c.d c.lo c.hi (t.2.getD 2 0) z * bta b.d b.lo b.hi (t.2.getD 1 0) y) * prt a.lo a.hi (t.2.getD 0 0) x') cs := by
   intro x'
   rw [oneF_lsum]
   refine lsum_congr fun t _ => ?_
   rw [oneF_bta _ _ _ _ hb hy]
   simp only [Int.mul_assoc, Int.mul_comm, Int.mul_left_comm]
 simp only [e1, e2]
 rw [oneF_lsum]
 refine lsum_congr fun t ht => ?_
 rw [oneF_bta _ _ _ _ ha hx]
 have hl := hcs t ht
 obtain ⟨n, es⟩ := t
 match es, hl with
 | [e0, e1, e2], _ =>
   simp only [prodB, List.getD_cons_zero, List.getD_cons_succ, Int.mul_one]
   simp only [Int.mul_comm, Int.mul_left_comm]
end Go.Proofs.YtagocdkcnajiiaaGreat
