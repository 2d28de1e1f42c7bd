/- Parts of the proof of a statement of this seat: contracts of functions that the law calls, or the law's own row; no condition. -/
import Derived.Test.YtaimceodhhgnnaaM4
/- Lists of lists of ints: read, of one's own, growing; no condition. -/
namespace Go.Proofs.Ytaimceodhhgnnaa
open Go.Ab Ints
set_option linter.unusedSimpArgs false
set_option linter.unusedVariables false
theorem Ints.SlI.ext {H H' : AHeap} {v : Value} {l : List Int} (h : SlI H v l) (hx : Ext H H') : SlI H' v l := Sl.keep h (Keep.of_ext hx (Nat.le_refl _)) (Nat.le_refl _)
def SlKK (H : AHeap) (v : Value) (ss : List (List Int)) : Prop := ∃ vs : List Value, Sl H v ss.length 1 vs ∧ ∀ (i : Nat) (p : List Int), ss[i]? = some p → ∃ s, vs[i]? = some s ∧ SlI H s p
theorem SlKK.ext {H H' : AHeap} {v : Value} {ss : List (List Int)} (h : SlKK H v ss) (hx : Ext H H') : SlKK H' v ss := by
  obtain ⟨vs, h1, h2⟩ := h
  refine ⟨vs, h1.keep (Keep.of_ext hx (Nat.le_refl _)) (Nat.le_refl _), fun i p hp => ?_⟩
  obtain ⟨s, g1, g2⟩ := h2 i p hp
  exact ⟨s, g1, g2.ext hx⟩
theorem SlKK.lenV {H : AHeap} {v : Value} {ss : List (List Int)} (h : SlKK H v ss) : lenV v = some (.int .i64 ss.length) := by
  obtain ⟨vs, h1, _⟩ := h
  exact h1.lenV
theorem SlKK.at {H : AHeap} {v : Value} {ss : List (List Int)} (h : SlKK H v ss) {i : Nat} (hi : i < ss.length) : ∃ b o s, iadV 1 v (.int .i64 i) = some (.pointer (some ⟨b, o, none⟩)) ∧ H.cell b o = some s ∧ SlI H s ss[i] := by
  obtain ⟨vs, h1, h2⟩ := h
  obtain ⟨b, o, g1, g2, g3⟩ := h1.cell .i64 (i := (i : Int)) (by omega) (by omega)
  obtain ⟨s, k1, k2⟩ := h2 i _ (List.getElem?_eq_getElem hi)
  rw [show (i : Int).toNat = i by omega, k1] at g3
  exact ⟨b, o, s, g1, g3, k2⟩
theorem SlKK.nil (H : AHeap) : SlKK H (.slice none 0 0) [] := ⟨[], Sl.nil _ _, by intro i p h; simp at h⟩

/-- a system of one's own: its blocks lie within the bounds, each is another one -/
structure OwnK (H : AHeap) (lo hi b : Nat) (vs : List Value) (bs : List Nat) (v : Value) (ss : List (List Int)) : Prop where
  vec : Vec H b v ss.length 1 vs
  len : bs.length = ss.length
  rng : lo ≤ b ∧ b < hi
  nodup : bs.Nodup
  nin : b ∉ bs
  rngs : ∀ c ∈ bs, lo ≤ c ∧ c < hi
  el : ∀ (i : Nat) (p : List Int), ss[i]? = some p → ∃ s c, vs[i]? = some s ∧ bs[i]? = some c ∧ VecI H c s p
def OwnKK (H : AHeap) (lo hi : Nat) (v : Value) (ss : List (List Int)) : Prop := (v = .slice none 0 0 ∧ ss = []) ∨ ∃ b vs bs, OwnK H lo hi b vs bs v ss
theorem OwnK.keep {H H' : AHeap} {lo hi b : Nat} {vs : List Value} {bs : List Nat} {v : Value} {ss : List (List Int)} (h : OwnK H lo hi b vs bs v ss) (hn : H.next ≤ H'.next) (hb : ∀ c, c < H.next → lo ≤ c → c < hi → H'.blk c = H.blk c) : OwnK H' lo hi b vs bs v ss := by
  obtain ⟨h1, h2, h3, h4, h5, h6, h7⟩ := h
  refine ⟨h1.keep hn (fun hlt => hb b hlt h3.1 h3.2), h2, h3, h4, h5, h6, fun i p hp => ?_⟩
  obtain ⟨s, c, g1, g2, g3⟩ := h7 i p hp
  obtain ⟨k1, k2⟩ := h6 c (List.mem_of_getElem? g2)
  exact ⟨s, c, g1, g2, Vec.keep g3 hn (fun hlt => hb c hlt k1 k2)⟩
theorem OwnKK.keep {H H' : AHeap} {lo hi : Nat} {v : Value} {ss : List (List Int)} (h : OwnKK H lo hi v ss) (hn : H.next ≤ H'.next) (hb : ∀ c, c < H.next → lo ≤ c → c < hi → H'.blk c = H.blk c) : OwnKK H' lo hi v ss := by
  rcases h with h | ⟨b, vs, bs, h⟩
  · exact .inl h
  · exact .inr ⟨b, vs, bs, h.keep hn hb⟩
theorem OwnKK.ext {H H' : AHeap} {lo hi : Nat} {v : Value} {ss : List (List Int)} (h : OwnKK H lo hi v ss) (hx : Ext H H') : OwnKK H' lo hi v ss := h.keep hx.next fun c hc _ _ => hx.blk c hc
theorem OwnKK.out {H H' : AHeap} {lo hi lo' hi' : Nat} {v : Value} {ss : List (List Int)} (h : OwnKK H lo hi v ss) (hx : Out lo' hi' H H') (hd : hi ≤ lo' ∨ hi' ≤ lo) : OwnKK H' lo hi v ss :=
  h.keep hx.next fun c hc h1 h2 => hx.blk c hc (by omega)
theorem OwnKK.slss {H : AHeap} {lo hi : Nat} {v : Value} {ss : List (List Int)} (h : OwnKK H lo hi v ss) : SlKK H v ss := by
  rcases h with ⟨rfl, rfl⟩ | ⟨b, vs, bs, h1, h2, h3, h4, h5, h6, h7⟩
  · exact SlKK.nil _
  · refine ⟨vs, h1.sl, fun i p hp => ?_⟩
    obtain ⟨s, c, g1, g2, g3⟩ := h7 i p hp
    exact ⟨s, g1, Vec.sl g3⟩
theorem OwnKK.wide {H : AHeap} {lo hi lo' hi' : Nat} {v : Value} {ss : List (List Int)} (h : OwnKK H lo hi v ss) (h1 : lo' ≤ lo) (h2 : hi ≤ hi') : OwnKK H lo' hi' v ss := by
  rcases h with h | ⟨b, vs, bs, g1, g2, g3, g4, g5, g6, g7⟩
  · exact .inl h
  · exact .inr ⟨b, vs, bs, g1, g2, by omega, g4, g5, fun c hc => by have := g6 c hc; omega, g7⟩
/-- a system that grows -/
structure GrowK (H : AHeap) (lo b : Nat) (vs : List Value) (bs : List Nat) (v : Value) (ss : List (List Int)) : Prop where
  vec : Vec H b v ss.length 1 vs
  len : bs.length = ss.length
  nil : ss = [] → v = .slice none 0 0
  low : lo ≤ b
  hi : ss ≠ [] → b < H.next
  nodup : bs.Nodup
  nin : b ∉ bs
  rngs : ∀ c ∈ bs, lo ≤ c ∧ c < H.next
  el : ∀ (i : Nat) (p : List Int), ss[i]? = some p → ∃ s c, vs[i]? = some s ∧ bs[i]? = some c ∧ VecI H c s p
theorem GrowK.nil' (H : AHeap) : GrowK H H.next H.next [] [] (.slice none 0 0) [] :=
  ⟨Vec.nil _ _ _, rfl, fun _ => rfl, Nat.le_refl _, fun h => absurd rfl h, List.nodup_nil, by simp, by simp, by intro i p h; simp at h⟩
theorem GrowK.own {H : AHeap} {lo b : Nat} {vs : List Value} {bs : List Nat} {v : Value} {ss : List (List Int)} (h : GrowK H lo b vs bs v ss) : OwnKK H lo H.next v ss := by
  by_cases hs : ss = []
  · exact .inl ⟨h.nil hs, hs⟩
  · exact .inr ⟨b, vs, bs, h.vec, h.len, ⟨h.low, h.hi hs⟩, h.nodup, h.nin, h.rngs, h.el⟩
theorem GrowK.push {lim : Nat} {H0 H H2 : AHeap} {lo b c : Nat} {vs : List Value} {bs : List Nat} {v s : Value} {ss : List (List Int)} {p : List Int} (h : GrowK H lo b vs bs v ss) (hlim : lim ≤ lo) (hx0 : Ext H0 H) (hlo : H0.next ≤ lo) (hloH : lo ≤ H.next) (hx : Ext H H2)
    (hc1 : H.next ≤ c) (hc2 : c ≤ H2.next) (hp : VecI H2 c s p) (hn : ss.length ≤ 1000000) :
    ∃ v' H3 b', appendH lim (H2.alloc [s]) 1 24 v (.slice (some ⟨H2.next, 0, some 0⟩) 1 1) = some (v', H3) ∧ GrowK H3 lo b' (vs ++ [s]) (bs ++ [c]) v' (ss ++ [p]) ∧ Ext H0 H3 := by
  obtain ⟨h1, h2, hnil, h3, h4, h5, h6, h7, h8⟩ := h
  have hnx := hx.next
  have hclen := h1.clen
  -- the block that is appended to
  obtain ⟨b0, hv0, hb0, hbc, hbn, hbl⟩ : ∃ b0, Vec H2 b0 v ss.length 1 vs ∧ lo ≤ b0 ∧ b0 ≠ c ∧ b0 ∉ bs ∧ (b0 < H.next ∨ H2.next < b0) := by
    by_cases hs : ss = []
    · subst hs
      have hv := hnil rfl
      subst hv
      have hvs : vs = [] := List.length_eq_zero_iff.1 (by simpa using hclen)
      subst hvs
      refine ⟨H2.next + 1, Vec.nil _ _ _, by omega, by omega, fun hm => ?_, .inr (by omega)⟩
      have := h7 _ hm
      omega
    · have := h4 hs
      exact ⟨b, h1.ext hx, h3, by omega, h6, .inl this⟩
  obtain ⟨v', H3, b', g1, g2, g3, g4, g5, g6⟩ := push1 hv0 (lim := lim) s (by omega) (bytes := 24) (by omega)
  have hbl' : b' = b0 ∨ H2.next < b' := g3
  refine ⟨v', H3, b', g1, ⟨by rw [List.length_append]; exact g2, by simp [h2], by simp, by omega, fun _ => g4, ?_, ?_, ?_, ?_⟩, Chg.ext (hx0.trans hx) g5 (by omega)⟩
  · refine List.nodup_append.2 ⟨h5, by simp, ?_⟩
    intro x hx' y hy
    simp at hy
    subst hy
    have := h7 x hx'
    omega
  · intro hm
    rcases List.mem_append.1 hm with hm | hm
    · rcases hbl' with rfl | hbl'
      · exact hbn hm
      · have := h7 _ hm
        omega
    · simp at hm
      omega
  · intro c' hc'
    rcases List.mem_append.1 hc' with hm | hm
    · have := h7 _ hm
      omega
    · simp at hm
      omega
  · intro j q hq
    by_cases hj : j < ss.length
    · rw [List.getElem?_append_left hj] at hq
      obtain ⟨s', c', q1, q2, q3⟩ := h8 j q hq
      have hm := List.mem_of_getElem? q2
      refine ⟨s', c', by rw [List.getElem?_append_left (by omega)]; exact q1, by rw [List.getElem?_append_left (by omega)]; exact q2, Vec.chg (Vec.ext q3 hx) g5 (fun e => hbn (e ▸ hm))⟩
    · rw [List.getElem?_append_right (by omega)] at hq
      have hji : j = ss.length := by
        have := (List.getElem?_eq_some_iff.1 hq).1
        simp at this; omega
      subst hji
      simp at hq
      subst hq
      exact ⟨s, c, by rw [List.getElem?_append_right (by omega)]; simp [hclen], by rw [List.getElem?_append_right (by omega)]; simp [h2], Vec.chg hp g5 (fun e => hbc e.symm)⟩

end Go.Proofs.Ytaimceodhhgnnaa

/- Faces of a coarse box, the reference: the sign on a face; no condition beyond stated ranges. -/
namespace Go.Proofs.Ytaimceodhhgnnaa
open Go.Ab Ints
set_option linter.unusedSimpArgs false
set_option linter.unusedVariables false

/-- the ends on a face -/
def faceL (L U : List Int) (side : Nat) (up : Bool) : List Int := if up then L.set side (U.getD side 0) else L
def faceU (L U : List Int) (side : Nat) (up : Bool) : List Int := if up then U else U.set side (L.getD side 0)
/-- a coarse box, or a part of one that may lack length -/
structure Crs (k n : Nat) (L U : List Int) : Prop where
  hk : k ≤ 4
  n1 : 1 ≤ n
  n3 : n ≤ 3
  hL : L.length = n
  hU : U.length = n
  le : ∀ j, L.getD j 0 ≤ U.getD j 0
  bL : ∀ j, (L.getD j 0).natAbs ≤ 128
  bU : ∀ j, (U.getD j 0).natAbs ≤ 128
theorem Crs.face {k n : Nat} {L U : List Int} (h : Crs k n L U) {side : Nat} (hs : side < n) (up : Bool) : Crs k n (faceL L U side up) (faceU L U side up) := by
  obtain ⟨h1, h2, h3, h4, h5, h6, h7, h8⟩ := h
  cases up
  · refine ⟨h1, h2, h3, h4, by simp [faceU, h5], fun j => ?_, h7, fun j => ?_⟩
    · simp only [faceL, faceU, Bool.false_eq_true, if_false]
      rw [getD_set _ _ _ _ (by omega)]
      have := h6 j
      split
      · rename_i e; subst e; omega
      · exact this
    · simp only [faceU, Bool.false_eq_true, if_false]
      rw [getD_set _ _ _ _ (by omega)]
      split
      · exact h7 _
      · exact h8 _
  · refine ⟨h1, h2, h3, by simp [faceL, h4], h5, fun j => ?_, fun j => ?_, h8⟩
    · simp only [faceL, faceU, if_true]
      rw [getD_set _ _ _ _ (by omega)]
      have := h6 j
      split
      · rename_i e; subst e; omega
      · exact this
    · simp only [faceL, if_true]
      rw [getD_set _ _ _ _ (by omega)]
      split
      · exact h8 _
      · exact h7 _
theorem set_getD_self {l : List Int} {i : Nat} (h : i < l.length) : l.set i (l.getD i 0) = l := by
  rw [show l.getD i 0 = l[i] from by simp [h]]
  exact List.set_getElem_self h
theorem Crs.ax {k n : Nat} {L U : List Int} (h : Crs k n L U) (j d : Nat) (hd : d ≤ 4) : okAx ⟨L.getD j 0, U.getD j 0, d⟩ := by
  have := h.bL j
  have := h.bU j
  exact ⟨hd, by simpa using h.bL j, by simp only; omega⟩
/-- the reference's list on a part of a box has the sign told of three axes -/
theorem beListC_ok (lim : Nat) (s l h : Value) (p : List Tm) (L U : List Int) (k n : Nat) (H : AHeap) (hl : lim ≤ H.next) (hs : SlT H s p) (hL : SlI H l L) (hU : SlI H h U) (hc : Crs k n L U) (hp : goodP p = true) :
    ACalls Try.prog lim n_spec_beList [s, l, h, .int .i64 k] H fun v H' => ∃ (a dd : Value) (A : List Int), v = .tuple #[a, dd] ∧ A ≠ [] ∧ A.length ≤ 1000 ∧ sg A = sgn3A k p L U ∧ SlI H' a A ∧ Ext H H' := by
  obtain ⟨g1, g2, g3⟩ := goodP_ok hp
  have hb : ∀ t ∈ p, 0 ≤ t.x ∧ t.x ≤ 4 ∧ 0 ≤ t.y ∧ t.y ≤ 4 ∧ 0 ≤ t.z ∧ t.z ≤ 4 := fun t ht => (g1 t ht).2
  have hd := dgI_le hb
  have hlen : U.length = L.length := by rw [hc.hL, hc.hU]
  obtain ⟨d0, e0, x0⟩ := nar_axS (p := p) hc.le hlen 0
  obtain ⟨d1, e1, x1⟩ := nar_axS (p := p) hc.le hlen 1
  obtain ⟨d2, e2, x2⟩ := nar_axS (p := p) hc.le hlen 2
  have nd : ∀ j d, (⟨L.getD j 0, U.getD j 0, d⟩ : Ax) = nar (axI p L U j) → d ≤ 4 := by
    intro j d e
    have : d = (nar (axI p L U j)).d := by rw [← e]
    rw [this]
    unfold nar
    simp only
    split
    · omega
    · exact hd j
  refine (beListSign_ok lim s l h p L U k d0 d1 d2 H hl hs hL hU g3 (by rw [hc.hL]; exact hc.n3) hlen hc.hk (fun t ht => (g1 t ht).1) g2 e0 e1 e2 (hc.ax 0 d0 (nd _ _ x0)) (hc.ax 1 d1 (nd _ _ x1)) (hc.ax 2 d2 (nd _ _ x2))).mono ?_
  rintro _ H' ⟨a, dd, A, rfl, a1, a2, a3, a4, a5⟩
  refine ⟨a, dd, A, rfl, a1, a2, ?_, a4, a5⟩
  rw [a3, x0, x1, x2, sgn3A_nar hd]
  rfl
theorem miFace_ok (lim : Nat) (s v : Value) (p : List Tm) (L U : List Int) (k n side : Nat) (up : Bool) (H : AHeap) (hl : lim ≤ H.next) (hs : SlT H s p) (hv : BoxV H v k L U) (hc : Crs k n L U) (hp : goodP p = true) (hside : side < n) :
    ACalls Try.prog lim n_spec_miFace [s, v, .int .i64 side, .bool up] H fun v H' => v = .int .i64 (sgn3A k p (faceL L U side up) (faceU L U side up)) ∧ Ext H H' := by
  obtain ⟨ls, us, rfl, hls, hus⟩ := hv
  have hLn := hc.hL
  have hUn := hc.hU
  have hn3 := hc.n3
  refine is_spec_miFace.go rfl ?_
  unfold c_spec_miFace
  refine s_reg ?_
  simp only [o_pure, o_eff, o_nil, POp.ev, Opd.ev, EOp.ev, env0, gu, gv, setD, List.set, Option.map_some, Option.some.injEq, exists_eq_left', boxH, cellsV]
  have hx : Ext H (H.alloc [.int .i64 k, ls, us]) := Ext.alloc _ _
  have hls1 := SlI.ext hls hx
  have hus1 := SlI.ext hus hx
  have hbp : (H.alloc [.int .i64 k, ls, us]).blk H.next = some [.int .i64 k, ls, us] := alloc_new _ _
  have hbl : H.next < (H.alloc [.int .i64 k, ls, us]).next := Nat.lt_succ_self _
  generalize H.alloc [.int .i64 k, ls, us] = H1 at hx hls1 hus1 hbp hbl ⊢
  have hn1 := hx.next
  refine s_reg ?_
  simp only [o_pure, o_callN, POp.ev, Opd.ev, gv, setD, List.map, Option.some.injEq, exists_eq_left', load1V, fadV, List.getElem?_cons_zero, List.getElem?_cons_succ, Nat.zero_add, cell_blk hbp]
  refine (l1Own_ok _ ls L H1 (Nat.le_refl _) hls1 (by omega)).use ?_
  rintro lo H2 ⟨b, hb1, hb2, hlo, hx2⟩ _
  simp only [o_cont, o_callF, Opd.ev, gv, setD, List.map]
  refine (l1Own_ok lim us U H2 (by have := hx2.next; omega) (SlI.ext hus1 hx2) (by omega)).mono ?_
  rintro hi H3 ⟨c, hc1, hc2, hhi, hx3⟩
  have hn2 := hx2.next
  have hn3' := hx3.next
  have hlo3 := Vec.ext hlo hx3
  have hx03 := (hx.trans hx2).trans hx3
  simp only [o_cont, o_pure, o_nil, POp.ev, Opd.ev, gv, setD, List.set, Option.some.injEq, exists_eq_left']
  refine s_cut (fun e' H' => VecI H' b lo (faceL L U side up) ∧ VecI H' c hi U ∧ Ext H H' ∧ H1.next ≤ H'.next ∧ H'.blk H.next = some [.int .i64 k, ls, us] ∧ e' = [s, .agg #[.int .i64 k, ls, us], .int .i64 side, .bool up, .pointer (some ⟨H.next, 0, none⟩), .int .i64 0, lo, hi, undef]) ?_ ?_
  · refine s_test1 ?_
    simp only [o_pure, o_nil, POp.ev, Opd.ev, gv, setD, Option.some.injEq, exists_eq_left']
    have hbp3 : H3.blk H.next = some [.int .i64 k, ls, us] := by rw [hx3.blk _ (by omega), hx2.blk _ (by omega)]; exact hbp
    cases up
    · refine Test.false_ ?_
      refine s_skip1 ?_
      simp +decide only [p_seq_normal]
      exact ⟨hlo3, hhi, hx03, by omega, hbp3, trivial⟩
    · refine Test.true_ ?_
      obtain ⟨q1, q2⟩ := VecI.at hhi (i := side) (by omega)
      obtain ⟨w1, _⟩ := VecI.at hlo3 (i := side) (by omega)
      obtain ⟨cs, hst, hlo4⟩ := VecI.put (lim := lim) hlo3 (by omega) (i := side) (by omega) (U.getD side 0)
      have hch : Chg b H3 (H3.put b cs) := Chg.put _ _ _
      refine s_reg1 ?_
      simp only [o_pure, o_eff, o_nil, POp.ev, Opd.ev, EOp.ev, gv, setD, Option.some.injEq, exists_eq_left', load1V, q1, q2, w1, hst]
      simp +decide only [p_seq_normal]
      refine ⟨hlo4, Vec.chg hhi hch (by omega), Chg.ext hx03 hch (by omega), by have := hch.next; omega, ?_, trivial⟩
      rw [hch.blk _ (by omega) (by omega)]
      exact hbp3
  · rintro e' H4 ⟨g1, g2, g3, g4, g5, rfl⟩
    have hfc := hc.face hside up
    have hfl := hfc.hL
    obtain ⟨q1, q2⟩ := VecI.at g1 (i := side) (by omega)
    obtain ⟨w1, _⟩ := VecI.at g2 (i := side) (by omega)
    obtain ⟨cs, hst, g2'⟩ := VecI.put (lim := lim) g2 (by omega) (i := side) (by omega) ((faceL L U side up).getD side 0)
    have hch : Chg c H4 (H4.put c cs) := Chg.put _ _ _
    have eU : U.set side ((faceL L U side up).getD side 0) = faceU L U side up := by
      cases up
      · rfl
      · simp only [faceL, faceU, if_true]
        rw [getD_set _ _ _ _ (by omega), if_pos rfl]
        exact set_getD_self (by omega)
    rw [eU] at g2'
    refine s_reg ?_
    simp only [o_pure, o_eff, o_nil, POp.ev, Opd.ev, EOp.ev, gv, setD, Option.some.injEq, exists_eq_left', load1V, q1, q2, w1, hst]
    have g5' : (H4.put c cs).blk H.next = some [.int .i64 k, ls, us] := by rw [hch.blk _ (by omega) (by omega)]; exact g5
    have g3' := Chg.ext g3 hch (by omega)
    have g1' := Vec.chg g1 hch (by omega)
    have hn5 := g3'.next
    generalize H4.put c cs = H5 at g5' g3' g1' g2' hn5 ⊢
    refine s_reg ?_
    simp only [o_pure, o_callF, POp.ev, Opd.ev, gv, setD, List.map, Option.some.injEq, exists_eq_left', load1V, fadV, List.getElem?_cons_zero, Nat.zero_add, cell_blk g5']
    refine (beListC_ok lim s lo hi p _ _ k n H5 (by omega) (hs.ext g3') (Vec.sl g1') (Vec.sl g2') hfc hp).mono ?_
    rintro _ H6 ⟨a, dd, A, rfl, a1, a2, a3, a4, hx6⟩
    simp only [o_cont, o_pure, o_nil, POp.ev, Opd.ev, gv, setD, List.set, Option.some.injEq, exists_eq_left', extV, List.getElem?_toArray, List.getElem?_cons_zero, List.getElem?_cons_succ]
    refine s_reg ?_
    simp only [o_pure, o_callF, POp.ev, Opd.ev, gv, setD, List.map, Option.some.injEq, exists_eq_left']
    refine (beSign_ok lim a A H6 a4 a1 (by omega)).eq ?_
    simp only [o_cont, o_pure, o_nil, POp.ev, Opd.ev, gv, setD, List.set, Option.some.injEq, exists_eq_left', a3]
    refine s_ret1 ?_
    simp +decide only [p_fin_ret, resV, resOne, gv, Option.some.injEq, exists_eq_left']
    exact ⟨trivial, g3'.trans hx6⟩
end Go.Proofs.Ytaimceodhhgnnaa

/- Miranda's test, the reference: opposite sides, orders that pass, what is asked; no condition beyond stated ranges. -/
namespace Go.Proofs.Ytaimceodhhgnnaa
open Go.Ab Ints
set_option linter.unusedSimpArgs false
set_option linter.unusedVariables false

theorem sg_cases (l : List Int) : sg l = 1 ∨ sg l = -1 ∨ sg l = 0 := by
  unfold sg
  split
  · exact .inl rfl
  · split
    · exact .inr (.inl rfl)
    · exact .inr (.inr rfl)
/-- the sign on a face -/
def fcS (k : Nat) (p : List Tm) (L U : List Int) (side : Nat) (up : Bool) : Int := sgn3A k p (faceL L U side up) (faceU L U side up)
theorem fcS_cases (k : Nat) (p : List Tm) (L U : List Int) (side : Nat) (up : Bool) : fcS k p L U side up = 1 ∨ fcS k p L U side up = -1 ∨ fcS k p L U side up = 0 := sg_cases _
theorem fcS_wrap (k : Nat) (p : List Tm) (L U : List Int) (side : Nat) (a b : Bool) : IntKind.i64.wrap (fcS k p L U side a * fcS k p L U side b) = fcS k p L U side a * fcS k p L U side b := by
  rcases fcS_cases k p L U side a with h | h | h <;> rcases fcS_cases k p L U side b with h2 | h2 | h2 <;> rw [h, h2] <;> rfl
def oppB (k : Nat) (p : List Tm) (L U : List Int) (side : Nat) : Bool := decide (fcS k p L U side false * fcS k p L U side true < 0)
def passB (k : Nat) (ss : List (List Tm)) (L U : List Int) (order : List Int) : Bool := (List.range order.length).all fun side => oppB k (ss.getD (order.getD side 0).toNat []) L U side

theorem miOpposite_ok (lim : Nat) (s v : Value) (p : List Tm) (L U : List Int) (k n side : Nat) (H : AHeap) (hl : lim ≤ H.next) (hs : SlT H s p) (hv : BoxV H v k L U) (hc : Crs k n L U) (hp : goodP p = true) (hside : side < n) :
    ACalls Try.prog lim n_spec_miOpposite [s, v, .int .i64 side] H fun v H' => v = .bool (oppB k p L U side) ∧ Ext H H' := by
  obtain ⟨ls, us, rfl, hls, hus⟩ := hv
  refine is_spec_miOpposite.go rfl ?_
  unfold c_spec_miOpposite
  refine s_reg ?_
  simp only [o_pure, o_eff, o_nil, POp.ev, Opd.ev, EOp.ev, env0, gu, gv, setD, List.set, Option.map_some, Option.some.injEq, exists_eq_left', boxH, cellsV]
  have hx : Ext H (H.alloc [.int .i64 k, ls, us]) := Ext.alloc _ _
  have hls1 := SlI.ext hls hx
  have hus1 := SlI.ext hus hx
  have hbp : (H.alloc [.int .i64 k, ls, us]).blk H.next = some [.int .i64 k, ls, us] := alloc_new _ _
  generalize H.alloc [.int .i64 k, ls, us] = H1 at hx hls1 hus1 hbp ⊢
  have hn1 := hx.next
  refine s_reg ?_
  simp only [o_pure, o_callN, POp.ev, Opd.ev, gv, setD, List.map, Option.some.injEq, exists_eq_left', load3 hbp]
  refine (miFace_ok _ s _ p L U k n side false H1 (Nat.le_refl _) (hs.ext hx) ⟨_, _, rfl, hls1, hus1⟩ hc hp hside).use ?_
  rintro _ H2 ⟨rfl, hx2⟩ _
  have hn2 := hx2.next
  simp only [o_cont, o_callF, Opd.ev, gv, setD, List.map]
  refine (miFace_ok lim s _ p L U k n side true H2 (by omega) (hs.ext (hx.trans hx2)) ⟨_, _, rfl, SlI.ext hls1 hx2, SlI.ext hus1 hx2⟩ hc hp hside).mono ?_
  rintro _ H3 ⟨rfl, hx3⟩
  have hw := fcS_wrap k p L U side false true
  simp only [fcS] at hw
  simp only [o_cont, o_pure, o_nil, POp.ev, Opd.ev, gv, setD, List.set, Option.some.injEq, exists_eq_left', binV, ne_eq, not_true_eq_false, if_false, hw]
  refine s_ret1 ?_
  simp +decide only [p_fin_ret, resV, resOne, gv, Option.some.injEq, exists_eq_left']
  exact ⟨rfl, (hx.trans hx2).trans hx3⟩

theorem miPasses_ok (lim : Nat) (s v o : Value) (ss : List (List Tm)) (L U order : List Int) (k n : Nat) (H : AHeap) (hl : lim ≤ H.next) (hs : SlSS H s ss) (hv : BoxV H v k L U) (ho : SlI H o order) (hc : Crs k n L U) (hp : ∀ p ∈ ss, goodP p = true) (hn : ss.length = n) (hon : order.length = n) (hin : ∀ x ∈ order, 0 ≤ x ∧ x ≤ (n : Int) - 1) :
    ACalls Try.prog lim n_spec_miPasses [s, v, o] H fun v H' => v = .bool (passB k ss L U order) ∧ Ext H H' := by
  obtain ⟨ls, us, rfl, hls, hus⟩ := hv
  have hn3 := hc.n3
  refine is_spec_miPasses.go rfl ?_
  unfold c_spec_miPasses
  refine s_reg ?_
  simp only [o_pure, o_eff, o_nil, POp.ev, Opd.ev, EOp.ev, env0, gu, gv, setD, List.set, Option.map_some, Option.some.injEq, exists_eq_left', boxH, cellsV]
  have hx : Ext H (H.alloc [.int .i64 k, ls, us]) := Ext.alloc _ _
  have hls1 := SlI.ext hls hx
  have hus1 := SlI.ext hus hx
  have ho1 := SlI.ext ho hx
  have hbp : (H.alloc [.int .i64 k, ls, us]).blk H.next = some [.int .i64 k, ls, us] := alloc_new _ _
  have hbl : H.next < (H.alloc [.int .i64 k, ls, us]).next := Nat.lt_succ_self _
  generalize H.alloc [.int .i64 k, ls, us] = H1 at hx hls1 hus1 ho1 hbp hbl ⊢
  have hn1 := hx.next
  refine s_assoc (s_reg ?_)
  simp only [o_pure, o_nil, POp.ev, Opd.ev, gv, setD, List.set, Option.some.injEq, exists_eq_left', ho1.lenV]
  refine s_block ?_
  refine s_loop1 (fun j e' H' => ∃ (i : Nat) (x5 x6 : Value), i + j = order.length ∧ passB k ss L U order = ((List.range order.length).drop i).all (fun side => oppB k (ss.getD (order.getD side 0).toNat []) L U side) ∧ Ext H1 H' ∧ e' = [s, .agg #[.int .i64 k, ls, us], o, .pointer (some ⟨H.next, 0, none⟩), .bool false, x5, x6, o, .int .i64 order.length, .int .i64 i]) order.length ⟨0, _, _, by omega, rfl, Ext.refl _, rfl⟩ ?_
  rintro j e' H2 ⟨i, x5, x6, hij, hall, hx2, rfl⟩
  have hn2 := hx2.next
  refine s_test ?_
  simp only [o_pure, o_nil, POp.ev, Opd.ev, gv, setD, Option.some.injEq, exists_eq_left', binV, ne_eq, not_true_eq_false, if_false]
  refine Test.split (fun hlt => ?_) (fun hlt => ?_)
  · have hlt' : i < order.length := by simpa using hlt
    obtain ⟨b1, o1, u1, _, u2⟩ := SlI.get (SlI.ext ho1 hx2) hlt'
    have hg : order.getD i 0 = order[i] := by simp [hlt']
    obtain ⟨r1, r2⟩ := hin _ (List.getElem_mem hlt')
    obtain ⟨m, hm⟩ : ∃ m : Nat, order[i] = m := ⟨order[i].toNat, by omega⟩
    have hml : m < ss.length := by omega
    obtain ⟨b2, o2, s1, w1, w2, w3⟩ := (hs.ext (hx.trans hx2)).at hml
    rw [List.drop_eq_getElem_cons (by simpa using hlt'), List.all_cons, List.getElem_range, hg, hm, Int.toNat_natCast, show ss.getD m [] = ss[m] from by simp [hml]] at hall
    rw [hm] at u2
    have hbp2 : H2.blk H.next = some [.int .i64 k, ls, us] := by rw [hx2.blk _ hbl]; exact hbp
    refine s_skip1 ?_
    simp +decide only [p_seq_normal]
    refine s_block1 ?_
    refine s_reg ?_
    simp only [o_pure, o_nil, POp.ev, Opd.ev, gv, setD, List.set, Option.some.injEq, exists_eq_left', load1V, u1, u2]
    refine s_test1 ?_
    simp only [o_pure, o_callF, POp.ev, Opd.ev, gv, setD, List.map, Option.some.injEq, exists_eq_left', load1V, w1, w2, load3 hbp2]
    refine (miOpposite_ok lim s1 _ ss[m] L U k n i H2 (by omega) w3 ⟨_, _, rfl, SlI.ext hls1 hx2, SlI.ext hus1 hx2⟩ hc (hp _ (List.getElem_mem hml)) (by omega)).mono ?_
    rintro _ H3 ⟨rfl, hx3⟩
    simp only [o_cont, o_pure, o_nil, POp.ev, Opd.ev, gv, setD, Option.some.injEq, exists_eq_left', unV]
    refine Test.split (fun hb => ?_) (fun hb => ?_)
    · refine s_reg ?_
      simp only [o_pure, o_nil, POp.ev, Opd.ev, setD, List.set, Option.some.injEq, exists_eq_left']
      refine s_ret1 ?_
      simp +decide only [p_seq_ret, p_block_ret, p_fin_ret, resV, resOne, gv, Option.some.injEq, exists_eq_left']
      simp only [Bool.not_eq_true'] at hb
      rw [hb, Bool.false_and] at hall
      rw [hall]
      exact ⟨rfl, (hx.trans hx2).trans hx3⟩
    · refine s_skip1 ?_
      simp +decide only [p_seq_normal, p_block_normal]
      refine s_reg1 ?_
      simp only [o_pure, o_nil, POp.ev, Opd.ev, gv, setD, List.set, Option.some.injEq, exists_eq_left', binV, ne_eq, not_true_eq_false, if_false, add1 (i := i) (by omega)]
      simp +decide only [p_seq_normal]
      simp only [Bool.not_eq_false'] at hb
      rw [hb, Bool.true_and] at hall
      exact Round.mk (j - 1) (by omega) ⟨i + 1, _, _, by omega, hall, hx2.trans hx3, rfl⟩
  · have hge : i = order.length := by simp at hlt; omega
    subst hge
    refine s_exit1 ?_
    simp +decide only [p_seq_normal, p_seq_exit, p_block_exit, reduceIte]
    refine s_reg ?_
    simp only [o_pure, o_nil, POp.ev, Opd.ev, setD, List.set, Option.some.injEq, exists_eq_left']
    refine s_ret1 ?_
    simp +decide only [p_fin_ret, resV, resOne, gv, Option.some.injEq, exists_eq_left']
    rw [List.drop_of_length_le (by simp)] at hall
    rw [hall]
    exact ⟨rfl, hx.trans hx2⟩

/-- what Miranda's test asks -/
def askB (ss : List (List Tm)) (k : Int) (L U : List Int) : Bool := goodSS ss && goodB k L U && decide (k ≤ 4) && ((ss.length : Int) == (L.length : Int))
theorem miAsked_ok (lim : Nat) (s v : Value) (ss : List (List Tm)) (k : Int) (L U : List Int) (H : AHeap) (hl : lim ≤ H.next) (hs : SlSS H s ss) (hv : BoxV H v k L U) (hn : ss.length ≤ 1000000) (hn2 : ∀ p ∈ ss, p.length ≤ 1000000) (hL : L.length ≤ 1000000) (hU : U.length ≤ 1000000) :
    ACalls Try.prog lim n_spec_miAsked [s, v] H fun v H' => v = .bool (askB ss k L U) ∧ Ext H H' := by
  obtain ⟨ls, us, rfl, hls, hus⟩ := hv
  refine is_spec_miAsked.go rfl ?_
  unfold c_spec_miAsked
  refine s_reg ?_
  simp only [o_pure, o_eff, o_nil, POp.ev, Opd.ev, EOp.ev, env0, gu, gv, setD, List.set, Option.map_some, Option.some.injEq, exists_eq_left', boxH, cellsV]
  have hx : Ext H (H.alloc [.int .i64 k, ls, us]) := Ext.alloc _ _
  have hls1 := SlI.ext hls hx
  have hus1 := SlI.ext hus hx
  have hbp : (H.alloc [.int .i64 k, ls, us]).blk H.next = some [.int .i64 k, ls, us] := alloc_new _ _
  have hbl : H.next < (H.alloc [.int .i64 k, ls, us]).next := Nat.lt_succ_self _
  generalize H.alloc [.int .i64 k, ls, us] = H1 at hx hls1 hus1 hbp hbl ⊢
  have hn1 := hx.next
  refine s_reg ?_
  simp only [o_pure, o_callF, POp.ev, Opd.ev, gv, setD, List.map, Option.some.injEq, exists_eq_left']
  refine (poSystem_ok lim s ss H1 (by omega) (hs.ext hx) hn hn2).mono ?_
  rintro _ H2 ⟨rfl, hx2⟩
  have hn2' := hx2.next
  have hbp2 : H2.blk H.next = some [.int .i64 k, ls, us] := by rw [hx2.blk _ hbl]; exact hbp
  unfold askB
  cases h1 : goodSS ss
  · simp only [o_cont, o_pure, o_guard, gk_ft, o_nil, POp.ev, Opd.ev, gv, setD, List.set, Option.some.injEq, exists_eq_left', pickV]
    refine s_ret1 ?_
    simp +decide only [p_fin_ret, resV, resOne, gv, Option.some.injEq, exists_eq_left']
    exact ⟨by simp, hx.trans hx2⟩
  simp only [o_cont, o_pure, o_callF, o_guard, gk_tt, POp.ev, Opd.ev, gv, setD, List.map, Option.some.injEq, exists_eq_left', load3 hbp2]
  refine (bxGood_ok lim _ k L U H2 (by omega) ⟨_, _, rfl, SlI.ext hls1 hx2, SlI.ext hus1 hx2⟩ (by omega) (by omega)).mono ?_
  rintro _ H3 ⟨rfl, hx3⟩
  have hbp3 : H3.blk H.next = some [.int .i64 k, ls, us] := by rw [hx3.blk _ (by omega)]; exact hbp2
  cases h2 : goodB k L U
  · simp only [o_cont, o_pure, o_guard, gk_ft, o_nil, POp.ev, Opd.ev, gv, setD, List.set, Option.some.injEq, exists_eq_left', pickV]
    refine s_ret1 ?_
    simp +decide only [p_fin_ret, resV, resOne, gv, Option.some.injEq, exists_eq_left']
    exact ⟨by simp, (hx.trans hx2).trans hx3⟩
  simp only [o_cont, o_pure, o_guard, gk_tt, POp.ev, Opd.ev, gv, setD, Option.some.injEq, exists_eq_left', pickV, binV, load1V, fadV, ne_eq, not_true_eq_false, if_false, List.getElem?_cons_zero, Nat.zero_add, cell_blk hbp3]
  cases h3 : decide (k ≤ 4)
  · simp only [o_pure, o_guard, gk_ft, o_nil, POp.ev, Opd.ev, gv, setD, List.set, Option.some.injEq, exists_eq_left', pickV]
    refine s_ret1 ?_
    simp +decide only [p_fin_ret, resV, resOne, gv, Option.some.injEq, exists_eq_left']
    exact ⟨by simp, (hx.trans hx2).trans hx3⟩
  simp only [o_pure, o_guard, gk_tt, o_nil, POp.ev, Opd.ev, gv, setD, List.set, Option.some.injEq, exists_eq_left', pickV, binV, load1V, fadV, ne_eq, not_true_eq_false, if_false, List.getElem?_cons_zero, List.getElem?_cons_succ, Nat.zero_add, cell_blk hbp3, hs.lenV, hls.lenV]
  refine s_ret1 ?_
  simp +decide only [p_fin_ret, resV, resOne, gv, Option.some.injEq, exists_eq_left']
  exact ⟨by simp, (hx.trans hx2).trans hx3⟩
theorem rngB_get {m : Int} : ∀ {low high : List Int}, rngB m low high = true → high.length = low.length → 0 ≤ m → ∀ j, low.getD j 0 ≤ high.getD j 0 ∧ -m ≤ low.getD j 0 ∧ low.getD j 0 ≤ m ∧ -m ≤ high.getD j 0 ∧ high.getD j 0 ≤ m
  | [], high, _, hl, hm, j => by
    have : high = [] := List.length_eq_zero_iff.1 (by simpa using hl)
    subst this
    simp
    omega
  | x :: l, y :: h, hr, hl, hm, j => by
    simp only [rngB, Bool.and_eq_true, decide_eq_true_eq] at hr
    obtain ⟨⟨⟨⟨a1, a2⟩, a3, a4⟩, a5⟩, a6⟩ := hr
    cases j with
    | zero => simp; omega
    | succ j => simpa using rngB_get a6 (by simpa using hl) hm j
  | x :: l, [], _, hl, _, _ => by simp at hl
theorem askB_crs {ss : List (List Tm)} {k : Int} {L U : List Int} (h : askB ss k L U = true) : ∃ kn n : Nat, k = kn ∧ ss.length = n ∧ Crs kn n L U ∧ goodSS ss = true := by
  simp only [askB, Bool.and_eq_true, decide_eq_true_eq] at h
  obtain ⟨⟨⟨h1, h2⟩, h3⟩, h4⟩ := h
  have h4' : ss.length = L.length := by have := h4; simp at this; omega
  obtain ⟨g1, g2, g3, g4, g5, _, _⟩ := goodB_small h2
  simp only [goodB, Bool.and_eq_true, decide_eq_true_eq, Bool.not_eq_true', bne_eq_false_iff_eq] at h2
  have hr := h2.1.2
  obtain ⟨kn, rfl⟩ : ∃ kn : Nat, k = kn := ⟨k.toNat, by omega⟩
  rw [Int.toNat_natCast] at hr
  have hp := two_pow (n := kn) (m := 4) (by omega)
  have hR := rngB_get hr g5 (by omega)
  refine ⟨kn, ss.length, rfl, rfl, ⟨by omega, by omega, by omega, by omega, by omega, fun j => (hR j).1, fun j => ?_, fun j => ?_⟩, h1⟩
  · have := hR j; omega
  · have := hR j; omega
theorem sysF_pol (n : Nat) : ∀ {ss : List (List Tm)}, sysF n ss = true → ∀ p ∈ ss, goodP p = true ∧ fromB n p = true
  | [], _, p, h => by simp at h
  | a :: l, h, p, hp => by
    simp only [sysF, Bool.and_eq_true] at h
    rcases List.mem_cons.1 hp with rfl | hp
    · exact h.1
    · exact sysF_pol n h.2 p hp
theorem goodSS_pol {ss : List (List Tm)} (h : goodSS ss = true) : ∀ p ∈ ss, goodP p = true ∧ fromB ss.length p = true := by
  simp only [goodSS, Bool.and_eq_true] at h
  exact sysF_pol _ h.1
end Go.Proofs.Ytaimceodhhgnnaa

/- Bernstein coefficients, the program's small functions: ways to choose, common multiples, degrees; no condition beyond stated ranges. -/
namespace Go.Proofs.Ytaimceodhhgnnaa
open Go.Ab Ints
set_option linter.unusedSimpArgs false
set_option linter.unusedVariables false

theorem iChoose_ok (lim n k : Nat) (H : AHeap) (hn : n ≤ 4) (hk : k ≤ 4) : ACalls Try.prog lim n_impl_choose [.int .i64 n, .int .i64 k] H fun v H' => v = .int .i64 (chs n k : Int) ∧ H' = H := by
  refine is_impl_choose.go rfl ?_
  unfold c_impl_choose
  refine s_reg ?_
  simp only [o_pure, o_nil, POp.ev, Opd.ev, env0, gu, setD, List.set, Option.some.injEq, exists_eq_left']
  refine s_reg ?_
  simp only [o_pure, o_nil, POp.ev, Opd.ev, setD, List.set, Option.some.injEq, exists_eq_left']
  refine s_assoc (s_reg ?_)
  simp only [o_pure, o_nil, POp.ev, Opd.ev, gv, setD, List.set, Option.some.injEq, exists_eq_left']
  refine s_block ?_
  have h0 : ((chs n 0 : Nat) : Int) = 1 := by cases n <;> rfl
  refine s_loop1 (fun j e' H' => ∃ (i : Nat) (x4 : Value), i + j = k ∧ H' = H ∧ e' = [.int .i64 n, .int .i64 k, .int .i64 0, .int .i64 (chs n i : Int), x4, .int .i64 k, .int .i64 i]) k ⟨0, _, by omega, rfl, by rw [h0]; rfl⟩ ?_
  rintro j e' H' ⟨i, x4, hij, rfl, rfl⟩
  refine s_test ?_
  simp only [o_pure, o_nil, POp.ev, Opd.ev, gv, setD, Option.some.injEq, exists_eq_left', binV, ne_eq, not_true_eq_false, if_false]
  refine Test.split (fun hlt => ?_) (fun hlt => ?_)
  · have hlt' : i < k := by simpa using hlt
    have hne : ¬ ((i : Int) + 1 = 0) := by omega
    have e1 : IntKind.i64.wrap ((n : Int) - (i : Int)) = (n : Int) - (i : Int) := wr_id (by omega) (by omega)
    have e2 : IntKind.i64.wrap ((i : Int) + 1) = (i : Int) + 1 := wr_id (by omega) (by omega)
    have e3 := chs_step ⟨n, by omega⟩ ⟨i, by omega⟩
    simp only [wr] at e3
    refine s_skip1 ?_
    simp +decide only [p_seq_normal]
    refine s_block1 ?_
    refine s_reg ?_
    simp only [o_pure, o_nil, POp.ev, Opd.ev, gv, setD, List.set, Option.some.injEq, exists_eq_left']
    refine s_reg1 ?_
    simp only [o_pure, o_nil, POp.ev, Opd.ev, gv, setD, List.set, Option.some.injEq, exists_eq_left', binV, ne_eq, not_true_eq_false, if_false, e1, e2, hne, e3]
    simp +decide only [p_seq_normal, p_block_normal]
    refine s_reg1 ?_
    simp only [o_pure, o_nil, POp.ev, Opd.ev, gv, setD, List.set, Option.some.injEq, exists_eq_left', binV, ne_eq, not_true_eq_false, if_false, add1 (i := i) (by omega)]
    simp +decide only [p_seq_normal]
    exact Round.mk (j - 1) (by omega) ⟨i + 1, _, by omega, rfl, rfl⟩
  · have hge : i = k := by simp at hlt; omega
    subst hge
    refine s_exit1 ?_
    simp +decide only [p_seq_normal, p_seq_exit, p_block_exit, reduceIte]
    refine s_reg ?_
    simp only [o_pure, o_nil, POp.ev, Opd.ev, gv, setD, List.set, Option.some.injEq, exists_eq_left']
    refine s_ret1 ?_
    simp +decide only [p_fin_ret, resV, resOne, gv, Option.some.injEq, exists_eq_left']
theorem multiple_ok (lim d : Nat) (H : AHeap) (hd : d ≤ 4) : ACalls Try.prog lim n_impl_multiple [.int .i64 d] H fun v H' => v = .int .i64 (fac d : Int) ∧ H' = H := by
  refine is_impl_multiple.go rfl ?_
  unfold c_impl_multiple
  refine s_reg ?_
  simp only [o_pure, o_nil, POp.ev, Opd.ev, env0, gu, setD, List.set, Option.some.injEq, exists_eq_left']
  have hb : fillV [.int .i64 0, .int .i64 0, .int .i64 0, .int .i64 0, .int .i64 0] [(0, 1, .int .i64 1), (1, 1, .int .i64 1), (2, 1, .int .i64 2), (3, 1, .int .i64 3), (4, 1, .int .i64 12)] = some [.int .i64 1, .int .i64 1, .int .i64 2, .int .i64 3, .int .i64 12] := rfl
  have ha : aix1V 5 1 (.agg #[.int .i64 1, .int .i64 1, .int .i64 2, .int .i64 3, .int .i64 12]) (.int .i64 d) = some (.int .i64 (fac d : Int)) := by
    match d, hd with
    | 0, _ => rfl
    | 1, _ => rfl
    | 2, _ => rfl
    | 3, _ => rfl
    | 4, _ => rfl
  refine s_reg ?_
  simp only [o_pure, o_nil, POp.ev, Opd.ev, gv, setD, List.set, List.map, Option.map_some, Option.some.injEq, exists_eq_left', hb]
  simp only [Option.some.injEq, exists_eq_left', ha]
  refine s_ret1 ?_
  simp +decide only [p_fin_ret, resV, resOne, gv, Option.some.injEq, exists_eq_left']

theorem pw_ex (t : Tm) (u : Nat) : pw t (u : Int) = ex t u := by
  unfold pw ex
  match u with
  | 0 => rfl
  | 1 => rfl
  | u + 2 => rw [if_neg (by omega), if_neg (by omega), if_neg (by omega), if_neg (by omega)]
theorem degF_snoc (k : Int) (t : Tm) : ∀ (l : List Tm) (m : Int), degF k m (l ++ [t]) = if degF k m l > pw t k then degF k m l else pw t k
  | [], m => rfl
  | a :: l, m => by rw [List.cons_append, degF, degF_snoc k t l, degF]
theorem degA_snoc (t : Tm) : ∀ (l : List Tm) (m : Int), degA m (l ++ [t]) = if degA m l > t.x + t.y + t.z then degA m l else t.x + t.y + t.z
  | [], m => rfl
  | a :: l, m => by rw [List.cons_append, degA, degA_snoc t l, degA]
theorem max_eq (a b : Int) : (if b > a then b else a) = if a > b then a else b := by
  by_cases h : b > a
  · rw [if_pos h, if_neg (by omega)]
  · rw [if_neg h]
    by_cases h2 : a > b
    · rw [if_pos h2]
    · rw [if_neg h2]; omega

theorem degreeOf_ok (lim : Nat) (s : Value) (p : List Tm) (H : AHeap) (hl : lim ≤ H.next) (hs : SlT H s p) (hn : p.length ≤ 1000000000) (hp : ∀ t ∈ p, 0 ≤ t.x ∧ t.x ≤ 4 ∧ 0 ≤ t.y ∧ t.y ≤ 4 ∧ 0 ≤ t.z ∧ t.z ≤ 4) :
    ACalls Try.prog lim n_impl_degreeOf [s] H fun v H' => v = .int .i64 (degA (-1) p) ∧ Ext H H' := by
  refine is_impl_degreeOf.go rfl ?_
  unfold c_impl_degreeOf
  refine s_reg ?_
  simp only [o_pure, o_nil, POp.ev, Opd.ev, env0, gu, setD, List.set, Option.some.injEq, exists_eq_left']
  refine s_reg ?_
  simp only [o_pure, o_nil, POp.ev, Opd.ev, setD, List.set, Option.some.injEq, exists_eq_left']
  refine s_assoc (s_reg ?_)
  simp only [o_pure, o_nil, POp.ev, Opd.ev, gv, setD, List.set, Option.some.injEq, exists_eq_left', hs.lenV]
  refine s_block ?_
  refine s_loop1 (fun j e' H' => ∃ (i : Nat) (y : Value), i + j = p.length ∧ Ext H H' ∧ e' = [s, .int .i64 0, .int .i64 (degA (-1) (p.take i)), y, s, .int .i64 p.length, .int .i64 i]) p.length ⟨0, _, by omega, Ext.refl _, rfl⟩ ?_
  rintro j e' H' ⟨i, y, hik, hx, rfl⟩
  have hnx := hx.next
  refine s_test ?_
  simp only [o_pure, o_nil, POp.ev, Opd.ev, gv, setD, Option.some.injEq, exists_eq_left', binV, ne_eq, not_true_eq_false, if_false]
  refine Test.split (fun hlt => ?_) (fun hlt => ?_)
  · have hlt' : i < p.length := by simpa using hlt
    obtain ⟨b1, o1, h1, hat⟩ := (hs.ext hx).at hlt'
    obtain ⟨q1, q2, q3, q4, q5, q6⟩ := hp _ (List.getElem_mem hlt')
    refine s_skip1 ?_
    simp +decide only [p_seq_normal]
    refine s_block ?_
    refine s_reg ?_
    simp only [o_pure, o_eff, o_nil, POp.ev, Opd.ev, EOp.ev, gv, setD, List.set, Option.some.injEq, exists_eq_left', h1, hat.all, store4_new (lim := lim) (H := H') (by omega)]
    have hB := BoxT.mk' H' p[i]
    generalize H'.alloc (tc p[i]) = H1 at hB ⊢
    generalize H'.next = q at hB hnx ⊢
    have hx1 := hx.trans hB.ext
    refine s_reg1 ?_
    simp only [o_pure, o_callF, POp.ev, Opd.ev, gv, setD, List.map, Option.some.injEq, exists_eq_left', hB.all]
    refine (degree_ok _ _ _ ⟨q1, q2⟩ ⟨q3, q4⟩ ⟨q5, q6⟩).mono ?_
    rintro _ H2 ⟨rfl, hx2⟩
    simp only [o_cont, o_pure, o_nil, POp.ev, Opd.ev, gv, setD, List.set, Option.some.injEq, exists_eq_left', max2V]
    simp +decide only [p_seq_normal, p_block_normal]
    refine s_reg1 ?_
    simp only [o_pure, o_nil, POp.ev, Opd.ev, gv, setD, List.set, Option.some.injEq, exists_eq_left', binV, ne_eq, not_true_eq_false, if_false, add1 (i := i) (by omega)]
    simp +decide only [p_seq_normal]
    refine Round.mk (j - 1) (by omega) ⟨i + 1, .pointer (some ⟨q, 0, none⟩), by omega, hx1.trans hx2, ?_⟩
    rw [List.take_succ_eq_append_getElem hlt', degA_snoc, max_eq]
  · have hge : i = p.length := by simp at hlt; omega
    subst hge
    refine s_exit1 ?_
    simp +decide only [p_seq_normal, p_seq_exit, p_block_exit, reduceIte]
    refine s_reg ?_
    simp only [o_pure, o_nil, POp.ev, Opd.ev, gv, setD, List.set, Option.some.injEq, exists_eq_left']
    refine s_ret1 ?_
    simp +decide only [p_fin_ret, resV, resOne, gv, Option.some.injEq, exists_eq_left']
    rw [List.take_length]
    exact ⟨rfl, hx⟩

theorem aslc_to {q n : Nat} (h : n ≤ 3) : aslcV 3 1 (.pointer (some ⟨q, 0, none⟩)) none (some (.int .i64 n)) none = some (.slice (some ⟨q, 0, some 0⟩) n 3) := by
  match n, h with
  | 0, _ => rfl
  | 1, _ => rfl
  | 2, _ => rfl
  | 3, _ => rfl
theorem expV_agg (t : Tm) : expV t = .agg #[vi t.x, vi t.y, vi t.z] := rfl
theorem ex_cell {H : AHeap} {q : Nat} {t : Tm} (h : H.blk q = some [vi t.x, vi t.y, vi t.z]) {u : Nat} (hu : u < 3) : H.cell q (0 + u) = some (.int .i64 (ex t u)) := by
  rw [Nat.zero_add, cell_blk h]
  match u, hu with
  | 0, _ => rfl
  | 1, _ => rfl
  | 2, _ => rfl
theorem VecI.mk' (H : AHeap) (n : Nat) : VecI (H.alloc (List.replicate n (.int .i64 0))) H.next (.slice (some ⟨H.next, 0, some 0⟩) n n) (List.replicate n 0) := by
  show Vec _ _ _ (List.replicate n (0 : Int)).length 1 ((List.replicate n (0 : Int)).map vi)
  rw [List.length_replicate, List.map_replicate]
  exact Vec.lit (by simp)
theorem set_map_range {n u : Nat} (f g : Nat → Int) (hu : u < n) (h : ∀ k, k < n → k ≠ u → g k = f k) : ((List.range n).map f).set u (g u) = (List.range n).map g := by
  refine List.ext_getElem (by simp) fun k h1 h2 => ?_
  rw [List.getElem_set]
  simp only [List.getElem_map, List.getElem_range]
  simp only [List.length_set, List.length_map, List.length_range] at h1
  split
  · rename_i e; rw [e]
  · rename_i e; exact (h k h1 (fun e' => e e'.symm)).symm
theorem degreesOf_ok (lim : Nat) (s : Value) (p : List Tm) (n : Nat) (H : AHeap) (hl : lim ≤ H.next) (hs : SlT H s p) (hn : p.length ≤ 1000000000) (hn3 : n ≤ 3) :
    ACalls Try.prog lim n_impl_degreesOf [s, .int .i64 n] H fun v H' => ∃ b, H.next ≤ b ∧ b < H'.next ∧ VecI H' b v ((List.range n).map fun (k : Nat) => degF k 0 p) ∧ Ext H H' := by
  refine is_impl_degreesOf.go rfl ?_
  unfold c_impl_degreesOf
  refine s_reg ?_
  simp only [o_pure, o_nil, POp.ev, Opd.ev, env0, gu, setD, List.set, Option.some.injEq, exists_eq_left']
  have hmk := mkslice_int (H := H) 8 n n [.int .i64 0] (Nat.le_refl _) (by omega) (by omega)
  rw [zerosL_one] at hmk
  refine s_reg ?_
  simp only [o_pure, o_eff, o_nil, POp.ev, Opd.ev, EOp.ev, gv, setD, List.set, Option.some.injEq, exists_eq_left', hmk]
  have hv := VecI.mk' H n
  have hx := Ext.alloc H (List.replicate n (Value.int .i64 0))
  have hbl : H.next < (H.alloc (List.replicate n (Value.int .i64 0))).next := Nat.lt_succ_self _
  generalize H.alloc (List.replicate n (Value.int .i64 0)) = H1 at hv hx hbl ⊢
  generalize (Value.slice (some ⟨H.next, 0, some 0⟩) n n) = v at hv ⊢
  have e0 : List.replicate n (0 : Int) = (List.range n).map fun (k : Nat) => degF k 0 (p.take 0) := by
    refine List.ext_getElem (by simp) fun k h1 h2 => ?_
    simp [degF]
  rw [e0] at hv
  refine s_assoc (s_reg ?_)
  simp only [o_pure, o_nil, POp.ev, Opd.ev, gv, setD, List.set, Option.some.injEq, exists_eq_left', hs.lenV]
  refine s_block ?_
  refine s_loop1 (fun j e' H' => ∃ (i : Nat) (x4 x5 x6 x7 x11 x12 x13 : Value), i + j = p.length ∧ VecI H' H.next v ((List.range n).map fun (k : Nat) => degF k 0 (p.take i)) ∧ H.next < H'.next ∧ Ext H H' ∧ e' = [s, .int .i64 n, .slice none 0 0, v, x4, x5, x6, x7, s, .int .i64 p.length, .int .i64 i, x11, x12, x13]) p.length ⟨0, _, _, _, _, _, _, _, by omega, hv, hbl, hx, rfl⟩ ?_
  clear hv hx hbl
  rintro j e' H2 ⟨i, x4, x5, x6, x7, x11, x12, x13, hij, hv, hbl, hx, rfl⟩
  have hnx := hx.next
  refine s_test ?_
  simp only [o_pure, o_nil, POp.ev, Opd.ev, gv, setD, Option.some.injEq, exists_eq_left', binV, ne_eq, not_true_eq_false, if_false]
  refine Test.split (fun hlt => ?_) (fun hlt => ?_)
  · have hlt' : i < p.length := by simpa using hlt
    obtain ⟨b1, o1, h1, hat⟩ := (hs.ext hx).at hlt'
    refine s_skip1 ?_
    simp +decide only [p_seq_normal]
    refine s_block1 ?_
    refine s_reg ?_
    simp only [o_pure, o_eff, o_nil, POp.ev, Opd.ev, EOp.ev, gv, setD, List.set, Option.some.injEq, exists_eq_left', h1, hat.all, store4_new (lim := lim) (H := H2) (by omega)]
    have hB := BoxT.mk' H2 p[i]
    generalize H2.alloc (tc p[i]) = H3 at hB ⊢
    generalize H2.next = q at hB hnx hbl ⊢
    have hxB := hB.ext
    have hnB := hxB.next
    have hlB := hB.lt
    refine s_reg ?_
    simp only [o_pure, o_callF, POp.ev, Opd.ev, gv, setD, List.map, Option.some.injEq, exists_eq_left', hB.all]
    refine (exponents_ok lim _ _ (by omega)).mono ?_
    rintro _ H4 ⟨rfl, hx4⟩
    have hn4 := hx4.next
    simp only [o_cont, o_eff, o_nil, Opd.ev, EOp.ev, gv, setD, List.set, Option.some.injEq, exists_eq_left', expV_agg, store3_new (lim := lim) (H := H4) (by omega)]
    have hq : (H4.alloc [vi p[i].x, vi p[i].y, vi p[i].z]).blk H4.next = some [vi p[i].x, vi p[i].y, vi p[i].z] := alloc_new _ _
    have hx5 := Ext.alloc H4 [vi p[i].x, vi p[i].y, vi p[i].z]
    have hlt5 : H4.next < (H4.alloc [vi p[i].x, vi p[i].y, vi p[i].z]).next := Nat.lt_succ_self _
    generalize H4.alloc [vi p[i].x, vi p[i].y, vi p[i].z] = H5 at hq hx5 hlt5 ⊢
    generalize H4.next = r at hq hlt5 hn4 ⊢
    have hxa := ((hxB.trans hx4).trans hx5)
    have hv5 := Vec.ext hv hxa
    have hxt := hx.trans hxa
    have hvs : (List.range n).map (fun (k : Nat) => degF k 0 (p.take i)) = (List.range n).map (fun (k : Nat) => if k < 0 then degF k 0 (p.take (i + 1)) else degF k 0 (p.take i)) := by simp
    refine s_reg ?_
    simp only [o_pure, o_nil, POp.ev, Opd.ev, gv, setD, List.set, Option.map_none, Option.map_some, Option.some.injEq, exists_eq_left', aslc_to hn3, lenV]
    refine s_block1 ?_
    refine s_loop1 (fun j e' H' => ∃ (u : Nat) (x6 x7 : Value), u + j = n ∧ VecI H' H.next v ((List.range n).map fun (k : Nat) => if k < u then degF k 0 (p.take (i + 1)) else degF k 0 (p.take i)) ∧ H.next < H'.next ∧ Ext H H' ∧ H'.blk r = some [vi p[i].x, vi p[i].y, vi p[i].z] ∧ r < H'.next ∧ e' = [s, .int .i64 n, .slice none 0 0, v, .pointer (some ⟨q, 0, none⟩), .pointer (some ⟨r, 0, none⟩), x6, x7, s, .int .i64 p.length, .int .i64 i, .slice (some ⟨r, 0, some 0⟩) n 3, .int .i64 n, .int .i64 u]) n ⟨0, _, _, by omega, by rw [← hvs]; exact hv5, by have := hxt.next; omega, hxt, hq, hlt5, rfl⟩ ?_
    clear hv5 hxt hq hlt5
    rintro j2 e' H6 ⟨u, x6, x7, huj, hv, hbl6, hx6, hq, hrl, rfl⟩
    refine s_test ?_
    simp only [o_pure, o_nil, POp.ev, Opd.ev, gv, setD, Option.some.injEq, exists_eq_left', binV, ne_eq, not_true_eq_false, if_false]
    refine Test.split (fun hlt2 => ?_) (fun hlt2 => ?_)
    · have hu : u < n := by simpa using hlt2
      obtain ⟨w1, w2⟩ := VecI.at hv (i := u) (by simpa using hu)
      have hg : ((List.range n).map fun (k : Nat) => if k < u then degF k 0 (p.take (i + 1)) else degF k 0 (p.take i)).getD u 0 = degF u 0 (p.take i) := by simp [hu]
      rw [hg] at w2
      obtain ⟨cs, hst, hv'⟩ := VecI.put (lim := lim) hv hl (i := u) (by simpa using hu) (degF u 0 (p.take (i + 1)))
      have hmx : (if ex p[i] u > degF u 0 (p.take i) then ex p[i] u else degF u 0 (p.take i)) = degF u 0 (p.take (i + 1)) := by
        rw [List.take_succ_eq_append_getElem hlt', degF_snoc, max_eq, pw_ex]
      refine s_skip1 ?_
      simp +decide only [p_seq_normal]
      refine s_block1 ?_
      refine s_reg ?_
      simp only [o_pure, o_nil, POp.ev, Opd.ev, gv, setD, List.set, Option.some.injEq, exists_eq_left', load1V, iad_cell (i := u) .i64 hu, ex_cell hq (show u < 3 by omega)]
      refine s_reg1 ?_
      simp only [o_pure, o_eff, o_nil, POp.ev, Opd.ev, EOp.ev, gv, setD, Option.some.injEq, exists_eq_left', load1V, max2V, w1, w2, hmx, hst]
      simp +decide only [p_seq_normal, p_block_normal]
      have hch : Chg H.next H6 (H6.put H.next cs) := Chg.put _ _ _
      refine s_reg1 ?_
      simp only [o_pure, o_nil, POp.ev, Opd.ev, gv, setD, List.set, Option.some.injEq, exists_eq_left', binV, ne_eq, not_true_eq_false, if_false, add1 (i := u) (by omega)]
      simp +decide only [p_seq_normal]
      refine Round.mk (j2 - 1) (by omega) ⟨u + 1, _, _, by omega, ?_, hbl6, Chg.ext hx6 hch (Nat.le_refl _), ?_, hrl, rfl⟩
      · have es := set_map_range (n := n) (u := u) (fun (k : Nat) => if k < u then degF k 0 (p.take (i + 1)) else degF k 0 (p.take i)) (fun (k : Nat) => if k < u + 1 then degF k 0 (p.take (i + 1)) else degF k 0 (p.take i)) hu (fun k hk hne => by
          by_cases h : k < u
          · simp [h, show k < u + 1 by omega]
          · simp [h, show ¬ k < u + 1 by omega])
        simp only [show u < u + 1 by omega, if_true] at es
        rw [es] at hv'
        exact hv'
      · rw [put_ne _ _ (by omega)]
        exact hq
    · have hge : u = n := by simp at hlt2; omega
      subst hge
      refine s_exit1 ?_
      simp +decide only [p_seq_normal, p_seq_exit, p_block_normal, p_block_exit, reduceIte]
      refine s_reg1 ?_
      simp only [o_pure, o_nil, POp.ev, Opd.ev, gv, setD, List.set, Option.some.injEq, exists_eq_left', binV, ne_eq, not_true_eq_false, if_false, add1 (i := i) (by omega)]
      simp +decide only [p_seq_normal]
      refine Round.mk (j - 1) (by omega) ⟨i + 1, _, _, _, _, _, _, _, by omega, ?_, hbl6, hx6, rfl⟩
      have es : (List.range u).map (fun (k : Nat) => if k < u then degF k 0 (p.take (i + 1)) else degF k 0 (p.take i)) = (List.range u).map fun (k : Nat) => degF k 0 (p.take (i + 1)) := List.map_congr_left fun k hk => by rw [if_pos (List.mem_range.1 hk)]
      rw [es] at hv
      exact hv
  · have hge : i = p.length := by simp at hlt; omega
    subst hge
    refine s_exit1 ?_
    simp +decide only [p_seq_normal, p_seq_exit, p_block_exit, reduceIte]
    refine s_reg ?_
    simp only [o_pure, o_nil, POp.ev, Opd.ev, gv, setD, List.set, Option.some.injEq, exists_eq_left']
    refine s_ret1 ?_
    simp +decide only [p_fin_ret, resV, resOne, gv, Option.some.injEq, exists_eq_left']
    rw [List.take_length] at hv
    exact ⟨H.next, Nat.le_refl _, hbl, hv, hx⟩
end Go.Proofs.Ytaimceodhhgnnaa

/- Bernstein coefficients, the program's places: all lists of numbers up to those of a list, in order; no condition beyond stated ranges. -/
namespace Go.Proofs.Ytaimceodhhgnnaa
open Go.Ab Ints
set_option linter.unusedSimpArgs false
set_option linter.unusedVariables false

def zl (l : List Nat) : List Int := l.map fun (n : Nat) => (n : Int)
theorem zl_length (l : List Nat) : (zl l).length = l.length := by simp [zl]
theorem zl_snoc (l : List Nat) (n : Nat) : zl (l ++ [n]) = zl l ++ [(n : Int)] := by simp [zl]
theorem sum_const {α : Type} (c : Nat) : ∀ l : List α, (l.map fun _ => c).sum = l.length * c
  | [] => by simp
  | a :: l => by rw [List.map_cons, List.sum_cons, sum_const c l, List.length_cons, Nat.succ_mul]; omega
theorem placesL_length : ∀ {ms : List Nat}, (∀ m ∈ ms, m ≤ 4) → (placesL ms).length ≤ 5 ^ ms.length
  | [], _ => by simp [placesL]
  | m :: ms, h => by
    have ih := placesL_length (ms := ms) fun x hx => h x (by simp [hx])
    have hm := h m (by simp)
    have e : (placesL (m :: ms)).length = (m + 1) * (placesL ms).length := by
      rw [placesL, List.length_flatMap]
      simp only [List.length_map]
      rw [sum_const, List.length_range]
    rw [e, List.length_cons, Nat.pow_succ, Nat.mul_comm]
    exact Nat.mul_le_mul ih (by omega)
/-- the lists of the next round, made of the first of this one -/
def nxt (ll : List (List Nat)) (k : Nat) : List (List Int) := ll.flatMap fun l => (List.range (k + 1)).map fun n => zl (l ++ [n])
theorem nxt_length (ll : List (List Nat)) (k : Nat) : (nxt ll k).length = ll.length * (k + 1) := by
  unfold nxt
  rw [List.length_flatMap]
  simp only [List.length_map, List.length_range]
  rw [sum_const]
theorem nxt_snoc (ll : List (List Nat)) (l : List Nat) (k : Nat) : nxt (ll ++ [l]) k = nxt ll k ++ (List.range (k + 1)).map fun n => zl (l ++ [n]) := by
  simp [nxt]
theorem nxt_all (ms : List Nat) (k : Nat) : nxt (placesL ms) k = (placesL (ms ++ [k])).map zl := by
  rw [placesL_snoc, nxt, List.map_flatMap]
  congr 1
  funext l
  rw [List.map_map]
  rfl
theorem SlKK.atx {H : AHeap} {v : Value} {ss : List (List Int)} (h : SlKK H v ss) {i : Nat} (hi : i < ss.length) : ∃ b o s, iadV 1 v (.int .i64 i) = some (.pointer (some ⟨b, o, none⟩)) ∧ ∀ H', Ext H H' → H'.cell b o = some s ∧ SlI H' s ss[i] := by
  obtain ⟨vs, h1, h2⟩ := h
  obtain ⟨b, o, g1, g2, g3⟩ := h1.cell .i64 (i := (i : Int)) (by omega) (by omega)
  obtain ⟨s, k1, k2⟩ := h2 i _ (List.getElem?_eq_getElem hi)
  rw [show (i : Int).toNat = i by omega, k1] at g3
  refine ⟨b, o, s, g1, fun H' hx => ⟨?_, SlI.ext k2 hx⟩⟩
  rw [← g3]
  simp only [AHeap.cell, hx.blk _ g2]
theorem SlKK.one (H : AHeap) : SlKK (H.alloc [.slice none 0 0]) (.slice (some ⟨H.next, 0, some 0⟩) 1 1) [[]] := by
  refine ⟨[.slice none 0 0], Vec.sl (Vec.lit rfl), fun i p hp => ?_⟩
  match i, hp with
  | 0, hp =>
    simp at hp
    subst hp
    exact ⟨_, rfl, Sl.nil _ _⟩
theorem places_ok (lim : Nat) (s : Value) (ds : List Nat) (H : AHeap) (hl : lim ≤ H.next) (hs : SlI H s (zl ds)) (hd : ∀ m ∈ ds, m ≤ 4) (hn : ds.length ≤ 3) :
    ACalls Try.prog lim n_impl_places [s] H fun v H' => SlKK H' v ((placesL ds).map zl) ∧ Ext H H' := by
  refine is_impl_places.go rfl ?_
  unfold c_impl_places
  refine s_reg ?_
  simp only [o_pure, o_nil, POp.ev, Opd.ev, env0, gu, setD, List.set, Option.some.injEq, exists_eq_left']
  refine s_reg ?_
  simp only [o_pure, o_eff, o_nil, POp.ev, Opd.ev, EOp.ev, gv, setD, List.set, List.map, Option.some.injEq, exists_eq_left', bsliceV H (x := .slice none 0 0) (.slice none 0 0) rfl]
  have h0 := SlKK.one H
  have hx0 := Ext.alloc H [Value.slice none 0 0]
  generalize H.alloc [Value.slice none 0 0] = H1 at h0 hx0 ⊢
  generalize (Value.slice (some ⟨H.next, 0, some 0⟩) 1 1) = o1 at h0 ⊢
  have hsl := hs.lenV
  rw [zl_length] at hsl
  refine s_assoc (s_reg ?_)
  simp only [o_pure, o_nil, POp.ev, Opd.ev, gv, setD, List.set, Option.some.injEq, exists_eq_left', hsl]
  refine s_block ?_
  refine s_loop1 (fun j e' H' => ∃ (i : Nat) (out x3 x4 x5 x6 x10 x11 x12 x13 x14 : Value), i + j = ds.length ∧ SlKK H' out ((placesL (ds.take i)).map zl) ∧ Ext H H' ∧ e' = [s, .slice none 0 0, out, x3, x4, x5, x6, s, .int .i64 ds.length, .int .i64 i, x10, x11, x12, x13, x14]) ds.length ⟨0, o1, _, _, _, _, _, _, _, _, _, by omega, h0, hx0, rfl⟩ ?_
  clear h0 hx0
  rintro j e' H2 ⟨i, out, x3, x4, x5, x6, x10, x11, x12, x13, x14, hij, ho, hx, rfl⟩
  have hnx := hx.next
  refine s_test ?_
  simp only [o_pure, o_nil, POp.ev, Opd.ev, gv, setD, Option.some.injEq, exists_eq_left', binV, ne_eq, not_true_eq_false, if_false]
  refine Test.split (fun hlt => ?_) (fun hlt => ?_)
  · have hlt' : i < ds.length := by simpa using hlt
    obtain ⟨b1, o1, u1, _, u2⟩ := SlI.get (SlI.ext hs hx) (i := i) (by rw [zl_length]; exact hlt')
    have hk : (zl ds)[i]'(by rw [zl_length]; exact hlt') = ((ds[i] : Nat) : Int) := by simp [zl]
    rw [hk] at u2
    have hk4 := hd _ (List.getElem_mem hlt')
    have htake := List.take_succ_eq_append_getElem hlt'
    have hpl : (placesL (ds.take i)).length ≤ 25 := by
      have h1 := placesL_length (ms := ds.take i) fun m hm => hd m (List.mem_of_mem_take hm)
      have h2 : (5 : Nat) ^ (ds.take i).length ≤ 5 ^ 2 := Nat.pow_le_pow_right (by decide) (by rw [List.length_take]; omega)
      omega
    generalize ds[i] = k at *
    have hol := ho.lenV
    rw [List.length_map] at hol
    have w1 : IntKind.i64.wrap ((k : Int) + 1) = ((k + 1 : Nat) : Int) := wr_nat (n := k + 1) (by omega)
    refine s_skip1 ?_
    simp +decide only [p_seq_normal]
    refine s_block1 ?_
    refine s_reg ?_
    simp only [o_pure, o_nil, POp.ev, Opd.ev, gv, setD, List.set, Option.some.injEq, exists_eq_left', load1V, u1, u2]
    refine s_reg ?_
    simp only [o_pure, o_nil, POp.ev, Opd.ev, setD, List.set, Option.some.injEq, exists_eq_left']
    refine s_assoc (s_reg ?_)
    simp only [o_pure, o_nil, POp.ev, Opd.ev, gv, setD, List.set, Option.some.injEq, exists_eq_left', hol]
    refine s_block ?_
    refine s_loop1 (fun j2 e' H' => ∃ (m b : Nat) (vs : List Value) (bs : List Nat) (nx x5 x6 x13 x14 : Value), m + j2 = (placesL (ds.take i)).length ∧ GrowK H' H2.next b vs bs nx (nxt ((placesL (ds.take i)).take m) k) ∧ Ext H2 H' ∧ e' = [s, .slice none 0 0, out, .int .i64 k, nx, x5, x6, s, .int .i64 ds.length, .int .i64 i, out, .int .i64 (placesL (ds.take i)).length, .int .i64 m, x13, x14]) (placesL (ds.take i)).length ⟨0, H2.next, [], [], .slice none 0 0, _, _, _, _, by omega, GrowK.nil' H2, Ext.refl _, rfl⟩ ?_
    rintro j2 e' H3 ⟨m, b, vs, bs, nx, x5, x6, x13, x14, hmj, hg, hx3, rfl⟩
    have hn3 := hx3.next
    refine s_test ?_
    simp only [o_pure, o_nil, POp.ev, Opd.ev, gv, setD, Option.some.injEq, exists_eq_left', binV, ne_eq, not_true_eq_false, if_false]
    refine Test.split (fun hlt2 => ?_) (fun hlt2 => ?_)
    · have hml : m < (placesL (ds.take i)).length := by simpa using hlt2
      obtain ⟨b2, o2, ls, w2, w3⟩ := ho.atx (i := m) (by rw [List.length_map]; exact hml)
      simp only [List.getElem_map] at w3
      have hmt := List.take_succ_eq_append_getElem hml
      have hll := placesL_len _ _ (List.getElem_mem hml)
      have hll3 : (placesL (ds.take i))[m].length ≤ 3 := by rw [hll, List.length_take]; omega
      have hnl := nxt_length ((placesL (ds.take i)).take m) k
      rw [List.length_take, Nat.min_eq_left (by omega)] at hnl
      have hnl2 : m * (k + 1) ≤ 25 * 5 := Nat.mul_le_mul (by omega) (by omega)
      generalize (placesL (ds.take i))[m] = l at *
      refine s_skip1 ?_
      simp +decide only [p_seq_normal]
      refine s_block1 ?_
      refine s_reg ?_
      simp only [o_pure, o_nil, POp.ev, Opd.ev, gv, setD, List.set, Option.some.injEq, exists_eq_left', load1V, w2, (w3 _ hx3).1]
      refine s_reg ?_
      simp only [o_pure, o_nil, POp.ev, Opd.ev, gv, setD, List.set, Option.some.injEq, exists_eq_left', binV, ne_eq, not_true_eq_false, if_false, w1]
      refine s_block1 ?_
      refine s_loop1 (fun j3 e' H' => ∃ (n b : Nat) (vs : List Value) (bs : List Nat) (nx x6 : Value), n + j3 = k + 1 ∧ GrowK H' H2.next b vs bs nx (nxt ((placesL (ds.take i)).take m) k ++ (List.range n).map fun n => zl (l ++ [n])) ∧ Ext H2 H' ∧ e' = [s, .slice none 0 0, out, .int .i64 k, nx, ls, x6, s, .int .i64 ds.length, .int .i64 i, out, .int .i64 (placesL (ds.take i)).length, .int .i64 m, .int .i64 (k + 1 : Nat), .int .i64 n]) (k + 1) ⟨0, b, vs, bs, nx, _, by omega, by simpa using hg, hx3, rfl⟩ ?_
      clear hg
      rintro j3 e' H4 ⟨n, b, vs, bs, nx, x6, hnj, hg, hx4, rfl⟩
      have hn4 := hx4.next
      refine s_test ?_
      simp only [o_pure, o_nil, POp.ev, Opd.ev, gv, setD, Option.some.injEq, exists_eq_left', binV, ne_eq, not_true_eq_false, if_false]
      refine Test.split (fun hlt3 => ?_) (fun hlt3 => ?_)
      · have hnk : n < k + 1 := by simp at hlt3; omega
        have hlen : (nxt ((placesL (ds.take i)).take m) k ++ (List.range n).map fun n => zl (l ++ [n])).length ≤ 1000 := by
          rw [List.length_append, List.length_map, List.length_range, hnl]
          omega
        refine s_skip1 ?_
        simp +decide only [p_seq_normal]
        refine s_block1 ?_
        refine s_reg ?_
        simp only [o_pure, o_nil, POp.ev, Opd.ev, gv, setD, List.set, Option.some.injEq, exists_eq_left']
        refine s_reg1 ?_
        simp only [o_pure, o_callF, POp.ev, Opd.ev, gv, setD, List.map, Option.some.injEq, exists_eq_left']
        refine (Ints.clone_ok lim ls (zl l) H4 (by omega) (w3 _ hx4).2 (by rw [zl_length]; omega)).mono ?_
        rintro cl H5 ⟨c, hc1, hc2, hcl, hx5⟩
        have hn5 := hx5.next
        obtain ⟨v6, H6, c6, e6, hv6, hc6, hlt6, ch6, n6⟩ := push1 (lim := lim) (bytes := 8) hcl (.int .i64 (n : Int)) (by omega) (by rw [zl_length]; omega)
        have hx6 := Chg.ext hx5 ch6 hc1
        have hn6 := hx6.next
        have hv6' : VecI H6 c6 v6 (zl (l ++ [n])) := by
          rw [zl_snoc]
          exact VecI.snoc hv6
        obtain ⟨v7, H7, b7, e7, hg7, hx7⟩ := GrowK.push (lim := lim) hg (by omega) hx4 (Nat.le_refl _) hn4 hx6 (by rcases hc6 with h | h <;> omega) (by omega) hv6' (by omega)
        simp only [o_cont, o_pure, o_eff, o_nil, POp.ev, Opd.ev, EOp.ev, gv, setD, List.set, List.map, Option.some.injEq, exists_eq_left', bsliceV _ (.int .i64 0) (x := .int .i64 (n : Int)) rfl, e6, bsliceV _ (.slice none 0 0) (x := v6) (Vec.cellsV hv6'), e7]
        simp +decide only [p_seq_normal, p_block_normal]
        refine s_reg1 ?_
        simp only [o_pure, o_nil, POp.ev, Opd.ev, gv, setD, List.set, Option.some.injEq, exists_eq_left', binV, ne_eq, not_true_eq_false, if_false, add1 (i := n) (by omega)]
        simp +decide only [p_seq_normal]
        refine Round.mk (j3 - 1) (by omega) ⟨n + 1, b7, vs ++ [v6], bs ++ [c6], v7, .int .i64 n, by omega, ?_, hx7, rfl⟩
        rw [List.range_succ, List.map_append, ← List.append_assoc]
        exact hg7
      · have hge : n = k + 1 := by simp at hlt3; omega
        subst hge
        refine s_exit1 ?_
        simp +decide only [p_seq_normal, p_seq_exit, p_block_normal, p_block_exit, reduceIte]
        refine s_reg1 ?_
        simp only [o_pure, o_nil, POp.ev, Opd.ev, gv, setD, List.set, Option.some.injEq, exists_eq_left', binV, ne_eq, not_true_eq_false, if_false, add1 (i := m) (by omega)]
        simp +decide only [p_seq_normal]
        refine Round.mk (j2 - 1) (by omega) ⟨m + 1, b, vs, bs, nx, _, _, _, _, by omega, ?_, hx4, rfl⟩
        rw [hmt, nxt_snoc]
        exact hg
    · have hge : m = (placesL (ds.take i)).length := by simp at hlt2; omega
      subst hge
      refine s_exit1 ?_
      simp +decide only [p_seq_normal, p_seq_exit, p_block_exit, reduceIte]
      refine s_reg1 ?_
      simp only [o_pure, o_nil, POp.ev, Opd.ev, gv, setD, List.set, Option.some.injEq, exists_eq_left']
      simp +decide only [p_seq_normal, p_block_normal]
      refine s_reg1 ?_
      simp only [o_pure, o_nil, POp.ev, Opd.ev, gv, setD, List.set, Option.some.injEq, exists_eq_left', binV, ne_eq, not_true_eq_false, if_false, add1 (i := i) (by omega)]
      simp +decide only [p_seq_normal]
      refine Round.mk (j - 1) (by omega) ⟨i + 1, nx, _, _, _, _, _, _, _, _, _, by omega, ?_, hx.trans hx3, rfl⟩
      rw [htake, ← nxt_all]
      rw [List.take_length] at hg
      exact hg.own.slss
  · have hge : i = ds.length := by simp at hlt; omega
    subst hge
    refine s_exit1 ?_
    simp +decide only [p_seq_normal, p_seq_exit, p_block_exit, reduceIte]
    refine s_reg ?_
    simp only [o_pure, o_nil, POp.ev, Opd.ev, gv, setD, List.set, Option.some.injEq, exists_eq_left']
    refine s_ret1 ?_
    simp +decide only [p_fin_ret, resV, resOne, gv, Option.some.injEq, exists_eq_left']
    rw [List.take_length] at ho
    exact ⟨ho, hx⟩
end Go.Proofs.Ytaimceodhhgnnaa

/- Bernstein coefficients, plain law of the program's sums; no condition. -/
namespace Go.Proofs.Ytaimceodhhgnnaa
open Go.Ab Ints
set_option linter.unusedSimpArgs false
set_option linter.unusedVariables false

theorem prodP_take : ∀ (xs : List Ax) (es js : List Nat) (u : Nat) (hu : u < xs.length), es.length = xs.length → js.length = xs.length →
    prodP (xs.take (u + 1)) (es.take (u + 1)) (js.take (u + 1)) = prodP (xs.take u) (es.take u) (js.take u) * prt xs[u].lo xs[u].hi (es.getD u 0) (js.getD u 0)
  | [], _, _, _, hu, _, _ => by simp at hu
  | a :: xs, [], _, _, _, h, _ => by simp at h
  | a :: xs, e :: es, [], _, _, _, h => by simp at h
  | a :: xs, e :: es, j :: js, 0, _, _, _ => by simp [prodP]
  | a :: xs, e :: es, j :: js, u + 1, hu, h1, h2 => by
    simp only [List.take_succ_cons, prodP]
    rw [prodP_take xs es js u (by simpa using hu) (by simpa using h1) (by simpa using h2), Int.mul_assoc]
    simp
theorem prodW_take : ∀ (xs : List Ax) (is js : List Nat) (u : Nat) (hu : u < xs.length), is.length = xs.length → js.length = xs.length →
    prodW (xs.take (u + 1)) (is.take (u + 1)) (js.take (u + 1)) = prodW (xs.take u) (is.take u) (js.take u) * wgt xs[u].d (is.getD u 0) (js.getD u 0)
  | [], _, _, _, hu, _, _ => by simp at hu
  | a :: xs, [], _, _, _, h, _ => by simp at h
  | a :: xs, e :: es, [], _, _, _, h => by simp at h
  | a :: xs, e :: es, j :: js, 0, _, _, _ => by simp [prodW]
  | a :: xs, e :: es, j :: js, u + 1, hu, h1, h2 => by
    simp only [List.take_succ_cons, prodW]
    rw [prodW_take xs es js u (by simpa using hu) (by simpa using h1) (by simpa using h2), Int.mul_assoc]
    simp
/-- one number of the grid of powers, after some terms -/
def aF (n k : Nat) (p : List Tm) (L U : List Int) (i : Nat) (js : List Nat) : Int := wr (lsum (fun t => t.1 * prodP (axN p L U n) t.2 js) ((termsN n k p).take i))
/-- one coefficient, after some places -/
def oF (n k : Nat) (p : List Tm) (L U : List Int) (is : List Nat) (pl : List (List Nat)) : Int := wr (lsum (fun js => aF n k p L U p.length js * prodW (axN p L U n) is js) pl)
theorem termsN_length (n k : Nat) (p : List Tm) : (termsN n k p).length = p.length := by simp [termsN]
theorem aF_step {n k : Nat} {p : List Tm} {L U : List Int} {i : Nat} (hi : i < p.length) (js : List Nat) :
    aF n k p L U (i + 1) js = wr (aF n k p L U i js + wr ((tmC k (degA (-1) p) p[i]).1 * prodP (axN p L U n) ((tmC k (degA (-1) p) p[i]).2.take n) js)) := by
  unfold aF
  rw [List.take_succ_eq_append_getElem (by rw [termsN_length]; exact hi), lsum_append, wr_add]
  simp [termsN, lsum]
theorem oF_step {n k : Nat} {p : List Tm} {L U : List Int} (is js : List Nat) (pl : List (List Nat)) :
    oF n k p L U is (pl ++ [js]) = wr (oF n k p L U is pl + wr (aF n k p L U p.length js * prodW (axN p L U n) is js)) := by
  unfold oF
  rw [lsum_append, wr_add]
  simp [lsum]
theorem axN_length (p : List Tm) (L U : List Int) (n : Nat) : (axN p L U n).length = n := by simp [axN]
theorem axN_get {p : List Tm} {L U : List Int} {n u : Nat} (h : u < (axN p L U n).length) : (axN p L U n)[u] = axI p L U u := by simp [axN]
theorem axN_d (p : List Tm) (L U : List Int) (n : Nat) : (axN p L U n).map (·.d) = (List.range n).map (dgI p) := by
  simp [axN, axI, Function.comp_def]
theorem termsN_two {n k : Nat} {p : List Tm} (hn : n ≤ 3) : ∀ t ∈ termsN n k p, t.2.length = n := by
  intro t ht
  obtain ⟨u, _, rfl⟩ := List.mem_map.1 ht
  simp [tmC]
  omega
/-- all places: the coefficient -/
theorem oF_all {n k : Nat} {p : List Tm} {L U : List Int} (hn : n ≤ 3) {is : List Nat} (his : is.length = n) :
    oF n k p L U is (placesL ((axN p L U n).map (·.d))) = wr (coef (termsN n k p) (axN p L U n) is) := by
  unfold oF aF
  rw [show p.length = (termsN n k p).length from (termsN_length n k p).symm, List.take_length]
  rw [← wr_lsum (fun js => wr (lsum (fun t => t.1 * prodP (axN p L U n) t.2 js) (termsN n k p)) * prodW (axN p L U n) is js)]
  simp only [wr_mul_l]
  rw [wr_lsum (fun js => lsum (fun t => t.1 * prodP (axN p L U n) t.2 js) (termsN n k p) * prodW (axN p L U n) is js)]
  congr 1
  have e1 : ∀ js, lsum (fun t => t.1 * prodP (axN p L U n) t.2 js) (termsN n k p) * prodW (axN p L U n) is js = lsum (fun t => t.1 * (prodP (axN p L U n) t.2 js * prodW (axN p L U n) is js)) (termsN n k p) := by
    intro js
    rw [← lsum_mul_r]
    exact lsum_congr fun t _ => Int.mul_assoc _ _ _
  simp only [e1]
  rw [lsum_swap]
  unfold coef
  refine lsum_congr fun t ht => ?_
  rw [lsum_mul, dist _ _ _ (by rw [axN_length]; exact termsN_two hn t ht) (by rw [axN_length]; exact his)]
end Go.Proofs.Ytaimceodhhgnnaa

/- Bernstein coefficients, the program: the grid of powers; no condition beyond stated ranges. -/
namespace Go.Proofs.Ytaimceodhhgnnaa
open Go.Ab Ints
set_option linter.unusedSimpArgs false
set_option linter.unusedVariables false

/-- what stands while a term is laid into the grid -/
structure BnS (H2 H' : AHeap) (b q r : Nat) (av : Value) (A : List Int) (t : Tm) : Prop where
  ext : Ext H2 H'
  vec : VecI H' b av A
  bq : H'.blk q = some (tc t)
  br : H'.blk r = some [vi t.x, vi t.y, vi t.z]
  lt : q < H'.next ∧ r < H'.next
  ne : q ≠ b ∧ r ≠ b
theorem BnS.mono {H2 H' H'' : AHeap} {b q r : Nat} {av : Value} {A : List Int} {t : Tm} (h : BnS H2 H' b q r av A t) (hx : Ext H' H'') : BnS H2 H'' b q r av A t := by
  obtain ⟨h1, h2, h3, h4, h5, h6⟩ := h
  have := hx.next
  exact ⟨h1.trans hx, Vec.ext h2 hx, by rw [hx.blk _ h5.1]; exact h3, by rw [hx.blk _ h5.2]; exact h4, by omega, h6⟩
theorem BnS.put {lim : Nat} {H2 H' : AHeap} {b q r : Nat} {av : Value} {A : List Int} {t : Tm} (h : BnS H2 H' b q r av A t) (hl : lim ≤ b) (hb : H2.next ≤ b) {i : Nat} (hi : i < A.length) (x : Int) :
    ∃ cs, storeH lim H' 1 (.pointer (some ⟨b, i, none⟩)) (.int .i64 x) = some (undef, H'.put b cs) ∧ BnS H2 (H'.put b cs) b q r av (A.set i x) t := by
  obtain ⟨h1, h2, h3, h4, h5, h6⟩ := h
  obtain ⟨cs, g1, g2⟩ := VecI.put (lim := lim) h2 hl hi x
  exact ⟨cs, g1, Chg.ext h1 (Chg.put _ _ _) hb, g2, by rw [put_ne _ _ h6.1]; exact h3, by rw [put_ne _ _ h6.2]; exact h4, h5, h6⟩
theorem shl_c {k m : Nat} (c : Int) (h : k * m ≤ 60) : ¬ (((k * m : Nat) : Int) < 0) ∧ IntKind.i64.wrap (c * 2 ^ min ((k * m : Nat) : Int).toNat IntKind.i64.bits) = wr (c * ((2 : Int) ^ k) ^ m) := by
  have : min ((k * m : Nat) : Int).toNat IntKind.i64.bits = k * m := by
    show min ((k * m : Nat) : Int).toNat 64 = k * m
    omega
  rw [this, Int.pow_mul]
  exact ⟨by omega, rfl⟩
/-- the grid of powers, where terms before i are laid at all places, and term i at those before x -/
def gA (n k : Nat) (p : List Tm) (L U : List Int) (PL : List (List Nat)) (i x : Nat) : List Int := (List.range PL.length).map fun y => if y < x then aF n k p L U (i + 1) (PL.getD y []) else aF n k p L U i (PL.getD y [])
theorem gA_length (n k : Nat) (p : List Tm) (L U : List Int) (PL : List (List Nat)) (i x : Nat) : (gA n k p L U PL i x).length = PL.length := by simp [gA]
theorem gA_at {n k : Nat} {p : List Tm} {L U : List Int} {PL : List (List Nat)} {i x : Nat} (h : x < PL.length) : (gA n k p L U PL i x).getD x 0 = aF n k p L U i (PL.getD x []) := by simp [gA, h]
theorem gA_zero {n k : Nat} {p : List Tm} {L U : List Int} {PL : List (List Nat)} {i y : Nat} (h : y < PL.length) : (gA n k p L U PL i 0).getD y 0 = aF n k p L U i (PL.getD y []) := by simp [gA, h]
theorem gA_set {n k : Nat} {p : List Tm} {L U : List Int} {PL : List (List Nat)} {i x : Nat} (h : x < PL.length) : (gA n k p L U PL i x).set x (aF n k p L U (i + 1) (PL.getD x [])) = gA n k p L U PL i (x + 1) := by
  unfold gA
  have es := set_map_range (n := PL.length) (u := x) (fun y => if y < x then aF n k p L U (i + 1) (PL.getD y []) else aF n k p L U i (PL.getD y [])) (fun y => if y < x + 1 then aF n k p L U (i + 1) (PL.getD y []) else aF n k p L U i (PL.getD y [])) h (fun y hy hne => by
    by_cases h : y < x
    · simp [h, show y < x + 1 by omega]
    · simp [h, show ¬ y < x + 1 by omega])
  simp only [show x < x + 1 by omega, if_true] at es
  exact es
theorem gA_next (n k : Nat) (p : List Tm) (L U : List Int) (PL : List (List Nat)) (i : Nat) : gA n k p L U PL i PL.length = gA n k p L U PL (i + 1) 0 := by
  unfold gA
  refine List.map_congr_left fun y hy => ?_
  rw [if_pos (List.mem_range.1 hy), if_neg (by omega)]

theorem ints_zl (p : List Tm) (L U : List Int) (n : Nat) : ((List.range n).map fun (k : Nat) => degF k 0 p) = zl ((axN p L U n).map (·.d)) := by
  rw [axN_d, zl, List.map_map]
  exact List.map_congr_left fun k _ => (dgI_int p k).symm
theorem zl_at {H : AHeap} {v : Value} {l : List Nat} (h : SlI H v (zl l)) {i : Nat} (hi : i < l.length) : ∃ b o, iadV 1 v (.int .i64 i) = some (.pointer (some ⟨b, o, none⟩)) ∧ H.cell b o = some (.int .i64 ((l.getD i 0 : Nat) : Int)) := by
  obtain ⟨b, o, h1, _, h3⟩ := SlI.get h (i := i) (by rw [zl_length]; exact hi)
  refine ⟨b, o, h1, ?_⟩
  rw [h3]
  simp [zl, hi]
theorem ints_at {H : AHeap} {v : Value} {l : List Int} (h : SlI H v l) {i : Nat} (hi : i < l.length) : ∃ b o, iadV 1 v (.int .i64 i) = some (.pointer (some ⟨b, o, none⟩)) ∧ H.cell b o = some (.int .i64 (l.getD i 0)) := by
  obtain ⟨b, o, h1, _, h3⟩ := SlI.get h hi
  refine ⟨b, o, h1, ?_⟩
  rw [h3]
  simp [hi]
theorem ex_nat {t : Tm} {k : Nat} {deg : Int} (h : 0 ≤ t.x ∧ t.x ≤ 4 ∧ 0 ≤ t.y ∧ t.y ≤ 4 ∧ 0 ≤ t.z ∧ t.z ≤ 4) {n u : Nat} (hu : u < n) (hn : n ≤ 3) : ∃ e : Nat, ex t u = e ∧ e ≤ 4 ∧ ((tmC k deg t).2.take n).getD u 0 = e := by
  have h3 : u = 0 ∨ u = 1 ∨ u = 2 := by omega
  rcases h3 with rfl | rfl | rfl
  · refine ⟨t.x.toNat, by simp [ex]; omega, by omega, ?_⟩
    match n, hu with
    | n + 1, _ => simp [tmC]
  · refine ⟨t.y.toNat, by simp [ex]; omega, by omega, ?_⟩
    match n, hu with
    | n + 2, _ => simp [tmC]
  · refine ⟨t.z.toNat, by simp [ex]; omega, by omega, ?_⟩
    match n, hu with
    | n + 3, _ => simp [tmC]
theorem tm_two {k n : Nat} {deg : Int} {t : Tm} (hn : n ≤ 3) : ((tmC k deg t).2.take n).length = n := by simp [tmC]; omega
theorem places_bound {ms l : List Nat} (h : l ∈ placesL ms) (hm : ∀ m ∈ ms, m ≤ 4) {u : Nat} (hu : u < ms.length) : l.getD u 0 ≤ ms.getD u 0 ∧ ms.getD u 0 ≤ 4 := by
  obtain ⟨h1, h2⟩ := mem_placesL.1 h
  have e1 : ms[u]? = some ms[u] := List.getElem?_eq_getElem hu
  have e2 : l[u]? = some (l[u]'(by omega)) := List.getElem?_eq_getElem (by omega)
  have := h2 u _ _ e2 e1
  have h4 := hm _ (List.getElem_mem hu)
  simp only [List.getD_eq_getElem?_getD, e1, e2, Option.getD_some]
  exact ⟨this, h4⟩
theorem wgtI_code : ∀ d : Fin 5, ∀ i : Fin 5, ∀ j : Fin 5, i.val ≤ d.val → j.val ≤ d.val → chs d.val j.val ≠ 0 ∧ wr (wr ((fac d.val : Int).tdiv (chs d.val j.val : Int)) * (chs i.val j.val : Int)) = wgt d.val i.val j.val := by decide +kernel
/-- the coefficients, where those before x are told, and that at x after the first y places -/
def oG (n k : Nat) (p : List Tm) (L U : List Int) (PL : List (List Nat)) (x y : Nat) : List Int := (List.range PL.length).map fun z => if z < x then oF n k p L U (PL.getD z []) PL else if z = x then oF n k p L U (PL.getD z []) (PL.take y) else 0
theorem oG_length (n k : Nat) (p : List Tm) (L U : List Int) (PL : List (List Nat)) (x y : Nat) : (oG n k p L U PL x y).length = PL.length := by simp [oG]
theorem oG_at {n k : Nat} {p : List Tm} {L U : List Int} {PL : List (List Nat)} {x y : Nat} (h : x < PL.length) : (oG n k p L U PL x y).getD x 0 = oF n k p L U (PL.getD x []) (PL.take y) := by simp [oG, h]
theorem oG_set {n k : Nat} {p : List Tm} {L U : List Int} {PL : List (List Nat)} {x y : Nat} (h : x < PL.length) : (oG n k p L U PL x y).set x (oF n k p L U (PL.getD x []) (PL.take (y + 1))) = oG n k p L U PL x (y + 1) := by
  unfold oG
  have es := set_map_range (n := PL.length) (u := x) (fun z => if z < x then oF n k p L U (PL.getD z []) PL else if z = x then oF n k p L U (PL.getD z []) (PL.take y) else 0) (fun z => if z < x then oF n k p L U (PL.getD z []) PL else if z = x then oF n k p L U (PL.getD z []) (PL.take (y + 1)) else 0) h (fun z hz hne => by simp [hne])
  simp only [show ¬ x < x by omega, if_true, if_false] at es
  exact es
theorem oG_next (n k : Nat) (p : List Tm) (L U : List Int) (PL : List (List Nat)) (x : Nat) : oG n k p L U PL x PL.length = oG n k p L U PL (x + 1) 0 := by
  unfold oG
  refine List.map_congr_left fun z hz => ?_
  by_cases h1 : z < x
  · rw [if_pos h1, if_pos (by omega)]
  · rw [if_neg h1]
    by_cases h2 : z = x
    · subst h2
      rw [if_pos rfl, if_pos (by omega), List.take_length]
    · rw [if_neg h2, if_neg (by omega)]
      split <;> rfl
theorem oG_zero (n k : Nat) (p : List Tm) (L U : List Int) (PL : List (List Nat)) : List.replicate PL.length (0 : Int) = oG n k p L U PL 0 0 := by
  unfold oG
  refine List.ext_getElem (by simp) fun z h1 h2 => ?_
  simp only [List.getElem_replicate, List.getElem_map, List.getElem_range]
  rw [if_neg (by omega)]
  split <;> rfl
theorem oG_all {n k : Nat} {p : List Tm} {L U : List Int} {PL : List (List Nat)} (g : List Nat → Int) (h : ∀ is ∈ PL, oF n k p L U is PL = g is) : oG n k p L U PL PL.length 0 = PL.map g := by
  unfold oG
  refine List.ext_getElem (by simp) fun z h1 h2 => ?_
  simp only [List.getElem_map, List.getElem_range]
  have hz : z < PL.length := by simpa using h1
  rw [if_pos hz, ← h _ (List.getElem_mem hz)]
  simp [hz]
theorem bernstein_ok (lim : Nat) (s lo hi : Value) (p : List Tm) (L U : List Int) (k n : Nat) (H : AHeap) (hl : lim ≤ H.next) (hs : SlT H s p) (hlo : SlI H lo L) (hhi : SlI H hi U)
    (hg : goodP p = true) (hk : k ≤ 4) (hn3 : n ≤ 3) (hL : L.length = n) (hU : U.length = n) :
    ACalls Try.prog lim n_impl_bernstein [s, .int .i64 k, lo, hi] H fun v H' => ∃ b, VecI H' b v ((placesL ((axN p L U n).map (·.d))).map fun is => wr (coef (termsN n k p) (axN p L U n) is)) ∧ Ext H H' := by
  obtain ⟨gg1, gg2, gg3⟩ := goodP_ok hg
  have hbd : ∀ t ∈ p, 0 ≤ t.x ∧ t.x ≤ 4 ∧ 0 ≤ t.y ∧ t.y ≤ 4 ∧ 0 ≤ t.z ∧ t.z ≤ 4 := fun t ht => (gg1 t ht).2
  have hd := dgI_le hbd
  have hds : ∀ m ∈ (axN p L U n).map (·.d), m ≤ 4 := by
    rw [axN_d]
    intro m hm
    obtain ⟨j, _, rfl⟩ := List.mem_map.1 hm
    exact hd j
  have hdl : ((axN p L U n).map (·.d)).length = n := by rw [List.length_map, axN_length]
  have hN : (placesL ((axN p L U n).map (·.d))).length ≤ 125 := by
    have h1 := placesL_length hds
    have h2 : (5 : Nat) ^ ((axN p L U n).map (·.d)).length ≤ 5 ^ 3 := Nat.pow_le_pow_right (by decide) (by omega)
    omega
  refine is_impl_bernstein.go rfl ?_
  unfold c_impl_bernstein
  refine s_reg ?_
  simp only [o_pure, o_nil, POp.ev, Opd.ev, env0, gu, setD, List.set, Option.some.injEq, exists_eq_left']
  have hll := hlo.lenV
  rw [hL] at hll
  refine s_reg ?_
  simp only [o_pure, o_nil, POp.ev, Opd.ev, gv, setD, List.set, Option.some.injEq, exists_eq_left', hll]
  refine s_reg ?_
  simp only [o_pure, o_callF, POp.ev, Opd.ev, gv, setD, List.map, Option.some.injEq, exists_eq_left']
  refine (degreesOf_ok lim s p n H hl hs (by omega) hn3).mono ?_
  rintro dv H1 ⟨c, hc1, hc2, hdv, hx1⟩
  rw [ints_zl p L U n] at hdv
  have hn1 := hx1.next
  simp only [o_cont, o_pure, o_callF, POp.ev, Opd.ev, gv, setD, List.map, Option.some.injEq, exists_eq_left']
  refine (degreeOf_ok lim s p H1 (by omega) (hs.ext hx1) (by omega) hbd).mono ?_
  rintro _ H1' ⟨rfl, hx1'⟩
  have hn1' := hx1'.next
  simp only [o_cont, o_pure, o_nil, POp.ev, Opd.ev, gv, setD, List.set, Option.some.injEq, exists_eq_left']
  refine s_reg ?_
  simp only [o_pure, o_callF, POp.ev, Opd.ev, gv, setD, List.map, Option.some.injEq, exists_eq_left']
  refine (places_ok lim dv _ H1' (by omega) (Vec.sl (Vec.ext hdv hx1')) hds (by omega)).mono ?_
  rintro all H2 ⟨hall, hx2⟩
  have hn2 := hx2.next
  have hx12 := (hx1.trans hx1').trans hx2
  have hdv2 : SlI H2 dv (zl ((axN p L U n).map (·.d))) := Vec.sl (Vec.ext (Vec.ext hdv hx1') hx2)
  have hs2 := hs.ext hx12
  have hlo2 := SlI.ext hlo hx12
  have hhi2 := SlI.ext hhi hx12
  have hnH2 := hx12.next
  have hiE : ∀ is ∈ placesL ((axN p L U n).map (·.d)), is.length = n := fun is h => by rw [placesL_len _ _ h, hdl]
  have hbE : ∀ is ∈ placesL ((axN p L U n).map (·.d)), ∀ u, u < n → is.getD u 0 ≤ dgI p u ∧ is.getD u 0 ≤ 4 := fun is h u hu => by
    have h1 := places_bound h hds (u := u) (by omega)
    have h2 : ((axN p L U n).map (·.d)).getD u 0 = dgI p u := by rw [axN_d]; simp [hu]
    rw [h2] at h1
    omega
  have hFin : ∀ is ∈ placesL ((axN p L U n).map (·.d)), oF n k p L U is (placesL ((axN p L U n).map (·.d))) = wr (coef (termsN n k p) (axN p L U n) is) := fun is h => oF_all hn3 (hiE is h)
  have hdg : ∀ u, u < n → ((axN p L U n).map (·.d)).getD u 0 = dgI p u := fun u hu => by rw [axN_d]; simp [hu]
  generalize hDS : (axN p L U n).map (·.d) = DS at *
  generalize placesL DS = PL at *
  simp only [o_cont, o_pure, o_nil, POp.ev, Opd.ev, gv, setD, List.set, Option.some.injEq, exists_eq_left']
  have hmk := mkslice_int (H := H2) 8 PL.length PL.length [.int .i64 0] (Nat.le_refl _) (by omega) (by omega)
  rw [zerosL_one] at hmk
  have hal := hall.lenV
  rw [List.length_map] at hal
  refine s_reg ?_
  simp only [o_pure, o_eff, o_nil, POp.ev, Opd.ev, EOp.ev, gv, setD, List.set, Option.some.injEq, exists_eq_left', hal, hmk]
  have hv := VecI.mk' H2 PL.length
  have hx3 := Ext.alloc H2 (List.replicate PL.length (Value.int .i64 0))
  have hbl : H2.next < (H2.alloc (List.replicate PL.length (Value.int .i64 0))).next := Nat.lt_succ_self _
  generalize H2.alloc (List.replicate PL.length (Value.int .i64 0)) = H3 at hv hx3 hbl ⊢
  generalize (Value.slice (some ⟨H2.next, 0, some 0⟩) PL.length PL.length) = av at hv ⊢
  have e0 : List.replicate PL.length (0 : Int) = gA n k p L U PL 0 0 := by
    unfold gA
    refine List.ext_getElem (by simp) fun x h1 h2 => ?_
    simp [aF, lsum, wr]
    rfl
  rw [e0] at hv
  generalize hbE2 : H2.next = b at hv hbl
  refine s_cut (fun e' H' => ∃ (y10 y11 y12 y13 y14 y15 y16 y17 y28 y29 y30 y31 y32 y33 y34 y35 y36 y37 : Value), VecI H' b av (gA n k p L U PL p.length 0) ∧ Ext H2 H' ∧ b < H'.next ∧ e' = [s, .int .i64 k, lo, hi, .slice none 0 0, .int .i64 n, dv, .int .i64 (degA (-1) p), all, av, y10, y11, y12, y13, y14, y15, y16, y17, undef, undef, undef, undef, undef, undef, undef, s, .int .i64 p.length, .int .i64 p.length, y28, y29, y30, y31, y32, y33, y34, y35, y36, y37, undef, undef, undef, undef, undef, undef, undef, undef]) ?_ ?_
  · refine s_reg ?_
    simp only [o_pure, o_nil, POp.ev, Opd.ev, gv, setD, List.set, Option.some.injEq, exists_eq_left', hs2.lenV]
    refine s_block1 ?_
    refine s_loop1 (fun j e' H' => ∃ (i : Nat) (y10 y11 y12 y13 y14 y15 y16 y17 y28 y29 y30 y31 y32 y33 y34 y35 y36 y37 : Value), i + j = p.length ∧ VecI H' b av (gA n k p L U PL i 0) ∧ Ext H2 H' ∧ b < H'.next ∧ e' = [s, .int .i64 k, lo, hi, .slice none 0 0, .int .i64 n, dv, .int .i64 (degA (-1) p), all, av, y10, y11, y12, y13, y14, y15, y16, y17, undef, undef, undef, undef, undef, undef, undef, s, .int .i64 p.length, .int .i64 i, y28, y29, y30, y31, y32, y33, y34, y35, y36, y37, undef, undef, undef, undef, undef, undef, undef, undef]) p.length ⟨0, _, _, _, _, _, _, _, _, _, _, _, _, _, _, _, _, _, _, by omega, hv, hx3, hbl, rfl⟩ ?_
    clear hv hx3 hbl
    rintro j e' H4 ⟨i, y10, y11, y12, y13, y14, y15, y16, y17, y28, y29, y30, y31, y32, y33, y34, y35, y36, y37, hij, hv, hx, hbl, rfl⟩
    have hnx := hx.next
    refine s_test ?_
    simp only [o_pure, o_nil, POp.ev, Opd.ev, gv, setD, Option.some.injEq, exists_eq_left', binV, ne_eq, not_true_eq_false, if_false]
    refine Test.split (fun hlt => ?_) (fun hlt => ?_)
    · have hip : i < p.length := by simpa using hlt
      obtain ⟨b1, o1, h1, hat⟩ := (hs2.ext hx).at hip
      have hbi := hbd _ (List.getElem_mem hip)
      have hdi := (gg1 _ (List.getElem_mem hip)).1.2.2.2.2
      refine s_skip1 ?_
      simp +decide only [p_seq_normal]
      refine s_block1 ?_
      refine s_reg ?_
      simp only [o_pure, o_eff, o_nil, POp.ev, Opd.ev, EOp.ev, gv, setD, List.set, Option.some.injEq, exists_eq_left', h1, hat.all, store4_new (lim := lim) (H := H4) (by omega)]
      have hB := BoxT.mk' H4 p[i]
      generalize H4.alloc (tc p[i]) = H5 at hB ⊢
      generalize H4.next = q at hB hnx hbl ⊢
      have hxB := hB.ext
      have hnB := hxB.next
      have hlB := hB.lt
      have hgB := hB.ge
      have hbB := hB.blk
      refine s_reg ?_
      simp only [o_pure, o_callF, POp.ev, Opd.ev, gv, setD, List.map, Option.some.injEq, exists_eq_left', hB.all]
      refine (exponents_ok lim _ _ (by omega)).mono ?_
      rintro _ H6 ⟨rfl, hx6⟩
      have hn6 := hx6.next
      simp only [o_cont, o_eff, o_nil, Opd.ev, EOp.ev, gv, setD, List.set, Option.some.injEq, exists_eq_left', expV_agg, store3_new (lim := lim) (H := H6) (by omega)]
      have hq : (H6.alloc [vi p[i].x, vi p[i].y, vi p[i].z]).blk H6.next = some [vi p[i].x, vi p[i].y, vi p[i].z] := alloc_new _ _
      have hx7 := Ext.alloc H6 [vi p[i].x, vi p[i].y, vi p[i].z]
      have hlt7 : H6.next < (H6.alloc [vi p[i].x, vi p[i].y, vi p[i].z]).next := Nat.lt_succ_self _
      generalize H6.alloc [vi p[i].x, vi p[i].y, vi p[i].z] = H7 at hq hx7 hlt7 ⊢
      generalize H6.next = r at hq hlt7 hn6 ⊢
      have hxa := (hxB.trans hx6).trans hx7
      have hbq7 : H7.blk q = some (tc p[i]) := by rw [(hx6.trans hx7).blk _ hlB]; exact hbB
      have hS : BnS H2 H7 b q r av (gA n k p L U PL i 0) p[i] := ⟨hx.trans hxa, Vec.ext hv hxa, hbq7, hq, ⟨by omega, hlt7⟩, by omega, by omega⟩
      clear hbq7 hq hlt7 hxa hx7 hx6 hB hxB hbB hv
      refine s_reg ?_
      simp only [o_pure, o_nil, POp.ev, Opd.ev, gv, setD, List.set, Option.some.injEq, exists_eq_left', hal]
      refine s_block1 ?_
      refine s_loop1 (fun j e' H' => ∃ (x : Nat) (y12 y13 y14 y15 y16 y17 y31 y32 y33 y34 y35 y36 y37 : Value), x + j = PL.length ∧ BnS H2 H' b q r av (gA n k p L U PL i x) p[i] ∧ e' = [s, .int .i64 k, lo, hi, .slice none 0 0, .int .i64 n, dv, .int .i64 (degA (-1) p), all, av, .pointer (some ⟨q, 0, none⟩), .pointer (some ⟨r, 0, none⟩), y12, y13, y14, y15, y16, y17, undef, undef, undef, undef, undef, undef, undef, s, .int .i64 p.length, .int .i64 i, all, .int .i64 PL.length, .int .i64 x, y31, y32, y33, y34, y35, y36, y37, undef, undef, undef, undef, undef, undef, undef, undef]) PL.length ⟨0, _, _, _, _, _, _, _, _, _, _, _, _, _, by omega, hS, rfl⟩ ?_
      clear hS
      rintro j2 e' H8 ⟨x, y12, y13, y14, y15, y16, y17, y31, y32, y33, y34, y35, y36, y37, hxj, hS, rfl⟩
      have hx8 := hS.ext
      have hn8 := hx8.next
      refine s_test ?_
      simp only [o_pure, o_nil, POp.ev, Opd.ev, gv, setD, Option.some.injEq, exists_eq_left', binV, ne_eq, not_true_eq_false, if_false]
      refine Test.split (fun hlt2 => ?_) (fun hlt2 => ?_)
      · have hxl : x < PL.length := by simpa using hlt2
        have hjm := List.getElem_mem hxl
        have hgx : PL.getD x [] = PL[x] := by simp [hxl]
        obtain ⟨b2, o2, pw, w2, w3⟩ := hall.atx (i := x) (by rw [List.length_map]; exact hxl)
        simp only [List.getElem_map] at w3
        have hjl := hiE _ hjm
        have hjb := hbE _ hjm
        obtain ⟨m, hm⟩ : ∃ m : Nat, degA (-1) p - (p[i].x + p[i].y + p[i].z) = m := ⟨(degA (-1) p - (p[i].x + p[i].y + p[i].z)).toNat, by omega⟩
        have hm5 : m ≤ 4 := by omega
        have hkm : k * m ≤ 4 * 4 := Nat.mul_le_mul hk hm5
        have f1 : IntKind.i64.wrap (degA (-1) p - (p[i].x + p[i].y + p[i].z)) = (m : Int) := by rw [hm]; exact wr_nat (by omega)
        have f2 : IntKind.i64.wrap ((k : Int) * (m : Int)) = ((k * m : Nat) : Int) := wr_nat (n := k * m) (by omega)
        obtain ⟨f3, f4⟩ := shl_c (k := k) (m := m) p[i].c (by omega)
        have hct : p[i].c * ((2 : Int) ^ k) ^ m = (tmC k (degA (-1) p) p[i]).1 := by
          unfold tmC
          rw [show (degA (-1) p - p[i].x - p[i].y - p[i].z).toNat = m by omega]
        rw [hct] at f4
        refine s_skip1 ?_
        simp +decide only [p_seq_normal]
        refine s_block1 ?_
        refine s_reg ?_
        simp only [o_pure, o_nil, POp.ev, Opd.ev, gv, setD, List.set, Option.some.injEq, exists_eq_left', load1V, w2, (w3 _ hx8).1]
        refine s_reg ?_
        simp only [o_pure, o_callN, POp.ev, Opd.ev, gv, setD, List.map, Option.some.injEq, exists_eq_left', load1V, fadV, List.getElem?_cons_zero, Nat.zero_add, cell_blk hS.bq, load4 hS.bq, tc]
        refine (degree_ok _ p[i] H8 ⟨hbi.1, hbi.2.1⟩ ⟨hbi.2.2.1, hbi.2.2.2.1⟩ hbi.2.2.2.2).use ?_
        rintro _ H9 ⟨rfl, hx9⟩ _
        replace hS := hS.mono hx9
        simp only [o_cont, o_pure, o_nil, POp.ev, Opd.ev, gv, setD, List.set, Option.some.injEq, exists_eq_left', binV, ne_eq, not_true_eq_false, if_false, f1, f2, f3, f4]
        refine s_assoc (s_reg ?_)
        simp only [o_pure, o_nil, POp.ev, Opd.ev, gv, setD, List.set, Option.map_none, Option.map_some, Option.some.injEq, exists_eq_left', aslc_to hn3, lenV]
        have hx9' := hS.ext
        refine s_block ?_
        refine s_loop1 (fun j e' H' => ∃ (u : Nat) (y15 y16 y17 y34 y35 y36 y37 : Value), u + j = n ∧ H' = H9 ∧ e' = [s, .int .i64 k, lo, hi, .slice none 0 0, .int .i64 n, dv, .int .i64 (degA (-1) p), all, av, .pointer (some ⟨q, 0, none⟩), .pointer (some ⟨r, 0, none⟩), .int .i64 x, pw, .int .i64 (wr ((tmC k (degA (-1) p) p[i]).1 * prodP ((axN p L U n).take u) (((tmC k (degA (-1) p) p[i]).2.take n).take u) (PL[x].take u))), y15, y16, y17, undef, undef, undef, undef, undef, undef, undef, s, .int .i64 p.length, .int .i64 i, all, .int .i64 PL.length, .int .i64 x, .slice (some ⟨r, 0, some 0⟩) n 3, .int .i64 n, .int .i64 u, y34, y35, y36, y37, undef, undef, undef, undef, undef, undef, undef, undef]) n ⟨0, _, _, _, _, _, _, _, by omega, rfl, by simp only [List.take_zero, prodP, Int.mul_one]; rfl⟩ ?_
        rintro j3 e' H9 ⟨u, y15, y16, y17, y34, y35, y36, y37, huj, rfl, rfl⟩
        refine s_test ?_
        simp only [o_pure, o_nil, POp.ev, Opd.ev, gv, setD, Option.some.injEq, exists_eq_left', binV, ne_eq, not_true_eq_false, if_false]
        refine Test.split (fun hlt3 => ?_) (fun hlt3 => ?_)
        · have hun : u < n := by simpa using hlt3
          obtain ⟨e, he, he4, hee⟩ := ex_nat (k := k) (deg := degA (-1) p) hbi hun hn3
          have hcell := ex_cell hS.br (show u < 3 by omega)
          rw [he] at hcell
          obtain ⟨b3, o3, u1, u2⟩ := zl_at ((w3 _ hx9').2) (i := u) (by omega)
          have hj4 := (hjb u hun).2
          have hax : u < (axN p L U n).length := by rw [axN_length]; exact hun
          have hstep := prodP_take (axN p L U n) ((tmC k (degA (-1) p) p[i]).2.take n) PL[x] u hax (by rw [axN_length]; exact tm_two hn3) (by rw [axN_length]; exact hjl)
          rw [axN_get hax, hee] at hstep
          have hlx : (axI p L U u).lo = L.getD u 0 := rfl
          have hhx : (axI p L U u).hi = U.getD u 0 := rfl
          rw [hlx, hhx] at hstep
          obtain ⟨b4, o4, l1, l2⟩ := ints_at (SlI.ext hlo2 hx9') (i := u) (by omega)
          obtain ⟨b5, o5, m1, m2⟩ := ints_at (SlI.ext hhi2 hx9') (i := u) (by omega)
          refine s_skip1 ?_
          simp +decide only [p_seq_normal]
          refine s_block1 ?_
          refine s_reg ?_
          simp only [o_pure, o_nil, POp.ev, Opd.ev, gv, setD, List.set, Option.some.injEq, exists_eq_left', load1V, iad_cell (i := u) .i64 hun, hcell]
          refine s_reg ?_
          simp only [o_pure, o_nil, POp.ev, Opd.ev, gv, setD, List.set, Option.some.injEq, exists_eq_left', load1V, u1, u2]
          have f5 : IntKind.i64.wrap (wr ((tmC k (degA (-1) p) p[i]).1 * prodP ((axN p L U n).take u) (((tmC k (degA (-1) p) p[i]).2.take n).take u) (PL[x].take u)) * (chs e (PL[x].getD u 0) : Int)) = wr (((tmC k (degA (-1) p) p[i]).1 * prodP ((axN p L U n).take u) (((tmC k (degA (-1) p) p[i]).2.take n).take u) (PL[x].take u)) * (chs e (PL[x].getD u 0) : Int)) := wr_mul_l _ _
          refine s_reg ?_
          simp only [o_pure, o_callF, POp.ev, Opd.ev, gv, setD, List.map, Option.some.injEq, exists_eq_left']
          refine (iChoose_ok lim e (PL[x].getD u 0) H9 he4 hj4).eq ?_
          simp only [o_cont, o_pure, o_nil, POp.ev, Opd.ev, gv, setD, List.set, Option.some.injEq, exists_eq_left', binV, ne_eq, not_true_eq_false, if_false, f5]
          refine s_assoc (s_reg ?_)
          simp only [o_pure, o_nil, POp.ev, Opd.ev, gv, setD, List.set, Option.some.injEq, exists_eq_left']
          refine s_block ?_
          refine s_loop1 (fun j e' H'' => ∃ (q1 : Nat) (y36 y37 : Value), q1 + j = PL[x].getD u 0 ∧ H'' = H9 ∧ e' = [s, .int .i64 k, lo, hi, .slice none 0 0, .int .i64 n, dv, .int .i64 (degA (-1) p), all, av, .pointer (some ⟨q, 0, none⟩), .pointer (some ⟨r, 0, none⟩), .int .i64 x, pw, .int .i64 (wr (((tmC k (degA (-1) p) p[i]).1 * prodP ((axN p L U n).take u) (((tmC k (degA (-1) p) p[i]).2.take n).take u) (PL[x].take u)) * (chs e (PL[x].getD u 0) : Int) * (U.getD u 0 - L.getD u 0) ^ q1)), .int .i64 u, .int .i64 (e : Nat), .int .i64 (PL[x].getD u 0 : Nat), undef, undef, undef, undef, undef, undef, undef, s, .int .i64 p.length, .int .i64 i, all, .int .i64 PL.length, .int .i64 x, .slice (some ⟨r, 0, some 0⟩) n 3, .int .i64 n, .int .i64 u, .int .i64 (PL[x].getD u 0 : Nat), .int .i64 (q1 : Nat), y36, y37, undef, undef, undef, undef, undef, undef, undef, undef]) (PL[x].getD u 0) ⟨0, _, _, by omega, rfl, by rw [Int.pow_zero, Int.mul_one]; rfl⟩ ?_
          rintro j4 e' H9 ⟨q1, y36, y37, hqj, rfl, rfl⟩
          refine s_test ?_
          simp only [o_pure, o_nil, POp.ev, Opd.ev, gv, setD, Option.some.injEq, exists_eq_left', binV, ne_eq, not_true_eq_false, if_false]
          refine Test.split (fun hlt4 => ?_) (fun hlt4 => ?_)
          · have hql : q1 < PL[x].getD u 0 := by have := of_decide_eq_true hlt4; omega
            have f6 : IntKind.i64.wrap (wr (((tmC k (degA (-1) p) p[i]).1 * prodP ((axN p L U n).take u) (((tmC k (degA (-1) p) p[i]).2.take n).take u) (PL[x].take u)) * (chs e (PL[x].getD u 0) : Int) * (U.getD u 0 - L.getD u 0) ^ q1) * IntKind.i64.wrap (U.getD u 0 - L.getD u 0)) = wr (((tmC k (degA (-1) p) p[i]).1 * prodP ((axN p L U n).take u) (((tmC k (degA (-1) p) p[i]).2.take n).take u) (PL[x].take u)) * (chs e (PL[x].getD u 0) : Int) * (U.getD u 0 - L.getD u 0) ^ (q1 + 1)) := by
              rw [Int.pow_succ, ← Int.mul_assoc]
              exact wr_mul _ _
            refine s_skip1 ?_
            simp +decide only [p_seq_normal]
            refine s_block1 ?_
            refine s_reg1 ?_
            simp only [o_pure, o_nil, POp.ev, Opd.ev, gv, setD, List.set, Option.some.injEq, exists_eq_left', binV, load1V, ne_eq, not_true_eq_false, if_false, l1, l2, m1, m2, f6]
            simp +decide only [p_seq_normal, p_block_normal]
            refine s_reg1 ?_
            simp only [o_pure, o_nil, POp.ev, Opd.ev, gv, setD, List.set, Option.some.injEq, exists_eq_left', binV, ne_eq, not_true_eq_false, if_false, add1 (i := q1) (by omega)]
            simp +decide only [p_seq_normal]
            exact Round.mk (j4 - 1) (by omega) ⟨q1 + 1, _, _, by omega, rfl, rfl⟩
          · have hqe : q1 = PL[x].getD u 0 := by have := of_decide_eq_false hlt4; omega
            subst hqe
            have f7 : IntKind.i64.wrap ((e : Int) - ((PL[x].getD u 0 : Nat) : Int)) = (e : Int) - ((PL[x].getD u 0 : Nat) : Int) := wr_id (by omega) (by omega)
            refine s_exit1 ?_
            simp +decide only [p_seq_normal, p_seq_exit, p_block_normal, p_block_exit, reduceIte]
            refine s_reg ?_
            simp only [o_pure, o_nil, POp.ev, Opd.ev, gv, setD, List.set, Option.some.injEq, exists_eq_left', binV, ne_eq, not_true_eq_false, if_false, f7]
            refine s_block1 ?_
            refine s_loop1 (fun j e' H'' => ∃ (q1 : Nat), q1 + j = e - PL[x].getD u 0 ∧ H'' = H9 ∧ e' = [s, .int .i64 k, lo, hi, .slice none 0 0, .int .i64 n, dv, .int .i64 (degA (-1) p), all, av, .pointer (some ⟨q, 0, none⟩), .pointer (some ⟨r, 0, none⟩), .int .i64 x, pw, .int .i64 (wr (((tmC k (degA (-1) p) p[i]).1 * prodP ((axN p L U n).take u) (((tmC k (degA (-1) p) p[i]).2.take n).take u) (PL[x].take u)) * (chs e (PL[x].getD u 0) : Int) * (U.getD u 0 - L.getD u 0) ^ (PL[x].getD u 0) * L.getD u 0 ^ q1)), .int .i64 u, .int .i64 (e : Nat), .int .i64 (PL[x].getD u 0 : Nat), undef, undef, undef, undef, undef, undef, undef, s, .int .i64 p.length, .int .i64 i, all, .int .i64 PL.length, .int .i64 x, .slice (some ⟨r, 0, some 0⟩) n 3, .int .i64 n, .int .i64 u, .int .i64 (PL[x].getD u 0 : Nat), .int .i64 (PL[x].getD u 0 : Nat), .int .i64 ((e : Int) - (PL[x].getD u 0 : Nat)), .int .i64 (q1 : Nat), undef, undef, undef, undef, undef, undef, undef, undef]) (e - PL[x].getD u 0) ⟨0, by omega, rfl, by rw [Int.pow_zero, Int.mul_one]; rfl⟩ ?_
            rintro j5 e' H9 ⟨q1, hqj5, rfl, rfl⟩
            refine s_test ?_
            simp only [o_pure, o_nil, POp.ev, Opd.ev, gv, setD, Option.some.injEq, exists_eq_left', binV, ne_eq, not_true_eq_false, if_false]
            refine Test.split (fun hlt5 => ?_) (fun hlt5 => ?_)
            · have hql : q1 < e - PL[x].getD u 0 := by have := of_decide_eq_true hlt5; omega
              have f8 : IntKind.i64.wrap (wr (((tmC k (degA (-1) p) p[i]).1 * prodP ((axN p L U n).take u) (((tmC k (degA (-1) p) p[i]).2.take n).take u) (PL[x].take u)) * (chs e (PL[x].getD u 0) : Int) * (U.getD u 0 - L.getD u 0) ^ (PL[x].getD u 0) * L.getD u 0 ^ q1) * L.getD u 0) = wr (((tmC k (degA (-1) p) p[i]).1 * prodP ((axN p L U n).take u) (((tmC k (degA (-1) p) p[i]).2.take n).take u) (PL[x].take u)) * (chs e (PL[x].getD u 0) : Int) * (U.getD u 0 - L.getD u 0) ^ (PL[x].getD u 0) * L.getD u 0 ^ (q1 + 1)) := by
                rw [Int.pow_succ, ← Int.mul_assoc]
                exact wr_mul_l _ _
              refine s_skip1 ?_
              simp +decide only [p_seq_normal]
              refine s_block1 ?_
              refine s_reg1 ?_
              simp only [o_pure, o_nil, POp.ev, Opd.ev, gv, setD, List.set, Option.some.injEq, exists_eq_left', binV, load1V, ne_eq, not_true_eq_false, if_false, l1, l2, f8]
              simp +decide only [p_seq_normal, p_block_normal]
              refine s_reg1 ?_
              simp only [o_pure, o_nil, POp.ev, Opd.ev, gv, setD, List.set, Option.some.injEq, exists_eq_left', binV, ne_eq, not_true_eq_false, if_false, add1 (i := q1) (by omega)]
              simp +decide only [p_seq_normal]
              exact Round.mk (j5 - 1) (by omega) ⟨q1 + 1, by omega, rfl, rfl⟩
            · have hqe5 : q1 = e - PL[x].getD u 0 := by have := of_decide_eq_false hlt5; omega
              subst hqe5
              have f9 : ((tmC k (degA (-1) p) p[i]).1 * prodP ((axN p L U n).take u) (((tmC k (degA (-1) p) p[i]).2.take n).take u) (PL[x].take u)) * (chs e (PL[x].getD u 0) : Int) * (U.getD u 0 - L.getD u 0) ^ (PL[x].getD u 0) * L.getD u 0 ^ (e - PL[x].getD u 0) = ((tmC k (degA (-1) p) p[i]).1 * prodP ((axN p L U n).take (u + 1)) (((tmC k (degA (-1) p) p[i]).2.take n).take (u + 1)) (PL[x].take (u + 1))) := by
                rw [hstep]
                unfold prt
                simp only [Int.mul_assoc, Int.mul_comm, Int.mul_left_comm]
              rw [f9]
              refine s_exit1 ?_
              simp +decide only [p_seq_normal, p_seq_exit, p_block_normal, p_block_exit, reduceIte]
              refine s_reg1 ?_
              simp only [o_pure, o_nil, POp.ev, Opd.ev, gv, setD, List.set, Option.some.injEq, exists_eq_left', binV, ne_eq, not_true_eq_false, if_false, add1 (i := u) (by omega)]
              simp +decide only [p_seq_normal]
              exact Round.mk (j3 - 1) (by omega) ⟨u + 1, _, _, _, _, _, _, _, by omega, rfl, rfl⟩
        · have hun : u = n := by simp at hlt3; omega
          subst hun
          refine s_exit1 ?_
          simp +decide only [p_seq_normal, p_seq_exit, p_block_normal, p_block_exit, reduceIte]
          have t1 : (axN p L U u).take u = axN p L U u := List.take_of_length_le (by rw [axN_length]; exact Nat.le_refl _)
          have t2 : ((tmC k (degA (-1) p) p[i]).2.take u).take u = (tmC k (degA (-1) p) p[i]).2.take u := List.take_of_length_le (by rw [tm_two hn3]; exact Nat.le_refl _)
          have t3 : PL[x].take u = PL[x] := List.take_of_length_le (by rw [hjl]; exact Nat.le_refl _)
          rw [t1, t2, t3]
          obtain ⟨w4, w5⟩ := VecI.at hS.vec (i := x) (by rw [gA_length]; exact hxl)
          rw [gA_at hxl, hgx] at w5
          have f10 := (aF_step (n := u) (k := k) (L := L) (U := U) hip PL[x]).symm
          obtain ⟨cs, hst, hS'⟩ := hS.put (lim := lim) (by omega) (by omega) (i := x) (by rw [gA_length]; exact hxl) (aF u k p L U (i + 1) PL[x])
          rw [← hgx, gA_set hxl] at hS'
          simp only [wr] at f10
          refine s_reg1 ?_
          simp only [o_pure, o_eff, o_nil, POp.ev, Opd.ev, EOp.ev, gv, setD, Option.some.injEq, exists_eq_left', binV, load1V, ne_eq, not_true_eq_false, if_false, w4, w5, f10, hst]
          simp +decide only [p_seq_normal, p_block_normal]
          refine s_reg1 ?_
          simp only [o_pure, o_nil, POp.ev, Opd.ev, gv, setD, List.set, Option.some.injEq, exists_eq_left', binV, ne_eq, not_true_eq_false, if_false, add1 (i := x) (by omega)]
          simp +decide only [p_seq_normal]
          exact Round.mk (j2 - 1) (by omega) ⟨x + 1, _, _, _, _, _, _, _, _, _, _, _, _, _, by omega, hS', rfl⟩
      · have hxl : x = PL.length := by simp at hlt2; omega
        subst hxl
        have hvv := hS.vec
        rw [gA_next] at hvv
        have hltt := hS.lt
        refine s_exit1 ?_
        simp +decide only [p_seq_normal, p_seq_exit, p_block_normal, p_block_exit, reduceIte]
        refine s_reg1 ?_
        simp only [o_pure, o_nil, POp.ev, Opd.ev, gv, setD, List.set, Option.some.injEq, exists_eq_left', binV, ne_eq, not_true_eq_false, if_false, add1 (i := i) (by omega)]
        simp +decide only [p_seq_normal]
        refine Round.mk (j - 1) (by omega) ⟨i + 1, _, _, _, _, _, _, _, _, _, _, _, _, _, _, _, _, _, _, by omega, hvv, hS.ext, by omega, rfl⟩
    · have hip : i = p.length := by simp at hlt; omega
      subst hip
      refine s_exit1 ?_
      simp +decide only [p_seq_normal, p_seq_exit, p_block_exit, reduceIte]
      exact ⟨_, _, _, _, _, _, _, _, _, _, _, _, _, _, _, _, _, _, hv, hx, hbl, rfl⟩
  · rintro e' H4 ⟨y10, y11, y12, y13, y14, y15, y16, y17, y28, y29, y30, y31, y32, y33, y34, y35, y36, y37, hv4, hx4, hbl4, rfl⟩
    have hn4 := hx4.next
    have hmk4 := mkslice_int (H := H4) 8 PL.length PL.length [.int .i64 0] (Nat.le_refl _) (by omega) (by omega)
    rw [zerosL_one] at hmk4
    refine s_reg ?_
    simp only [o_pure, o_eff, o_nil, POp.ev, Opd.ev, EOp.ev, gv, setD, List.set, Option.some.injEq, exists_eq_left', hal, hmk4]
    have ho := VecI.mk' H4 PL.length
    rw [oG_zero n k p L U PL] at ho
    have hx5 := Ext.alloc H4 (List.replicate PL.length (Value.int .i64 0))
    generalize H4.alloc (List.replicate PL.length (Value.int .i64 0)) = H5 at ho hx5 ⊢
    generalize (Value.slice (some ⟨H4.next, 0, some 0⟩) PL.length PL.length) = ov at ho ⊢
    generalize hb2 : H4.next = b2 at ho
    refine s_assoc (s_reg ?_)
    simp only [o_pure, o_nil, POp.ev, Opd.ev, gv, setD, List.set, Option.some.injEq, exists_eq_left', hal]
    refine s_block ?_
    refine s_loop1 (fun j e' H' => ∃ (x : Nat) (y19 y20 y21 y22 y23 y24 y41 y42 y43 y44 y45 : Value), x + j = PL.length ∧ VecI H' b2 ov (oG n k p L U PL x 0) ∧ Ext H4 H' ∧ e' = [s, .int .i64 k, lo, hi, .slice none 0 0, .int .i64 n, dv, .int .i64 (degA (-1) p), all, av, y10, y11, y12, y13, y14, y15, y16, y17, ov, y19, y20, y21, y22, y23, y24, s, .int .i64 p.length, .int .i64 p.length, y28, y29, y30, y31, y32, y33, y34, y35, y36, y37, all, .int .i64 PL.length, .int .i64 x, y41, y42, y43, y44, y45]) PL.length ⟨0, _, _, _, _, _, _, _, _, _, _, _, by omega, ho, hx5, rfl⟩ ?_
    clear ho hx5
    rintro j e' H6 ⟨x, y19, y20, y21, y22, y23, y24, y41, y42, y43, y44, y45, hxj, ho, hx6, rfl⟩
    refine s_test ?_
    simp only [o_pure, o_nil, POp.ev, Opd.ev, gv, setD, Option.some.injEq, exists_eq_left', binV, ne_eq, not_true_eq_false, if_false]
    refine Test.split (fun hlt => ?_) (fun hlt => ?_)
    · have hxl : x < PL.length := by simpa using hlt
      have hjm := List.getElem_mem hxl
      have hgx : PL.getD x [] = PL[x] := by simp [hxl]
      obtain ⟨b3, o3, pi, w2, w3⟩ := hall.atx (i := x) (by rw [List.length_map]; exact hxl)
      simp only [List.getElem_map] at w3
      have hil := hiE _ hjm
      have hib := hbE _ hjm
      refine s_skip1 ?_
      simp +decide only [p_seq_normal]
      refine s_block1 ?_
      refine s_reg ?_
      simp only [o_pure, o_nil, POp.ev, Opd.ev, gv, setD, List.set, Option.some.injEq, exists_eq_left', load1V, w2, (w3 _ (hx4.trans hx6)).1]
      refine s_reg ?_
      simp only [o_pure, o_nil, POp.ev, Opd.ev, gv, setD, List.set, Option.some.injEq, exists_eq_left', hal]
      refine s_block1 ?_
      refine s_loop1 (fun j e' H' => ∃ (y : Nat) (y21 y22 y23 y24 y44 y45 : Value), y + j = PL.length ∧ VecI H' b2 ov (oG n k p L U PL x y) ∧ Ext H4 H' ∧ e' = [s, .int .i64 k, lo, hi, .slice none 0 0, .int .i64 n, dv, .int .i64 (degA (-1) p), all, av, y10, y11, y12, y13, y14, y15, y16, y17, ov, .int .i64 x, pi, y21, y22, y23, y24, s, .int .i64 p.length, .int .i64 p.length, y28, y29, y30, y31, y32, y33, y34, y35, y36, y37, all, .int .i64 PL.length, .int .i64 x, all, .int .i64 PL.length, .int .i64 y, y44, y45]) PL.length ⟨0, _, _, _, _, _, _, by omega, ho, hx6, rfl⟩ ?_
      clear ho hx6
      rintro j2 e' H7 ⟨y, y21, y22, y23, y24, y44, y45, hyj, ho, hx7, rfl⟩
      refine s_test ?_
      simp only [o_pure, o_nil, POp.ev, Opd.ev, gv, setD, Option.some.injEq, exists_eq_left', binV, ne_eq, not_true_eq_false, if_false]
      refine Test.split (fun hlt2 => ?_) (fun hlt2 => ?_)
      · have hyl : y < PL.length := by simpa using hlt2
        have hym := List.getElem_mem hyl
        have hgy : PL.getD y [] = PL[y] := by simp [hyl]
        obtain ⟨b4, o4, pj, v2, v3⟩ := hall.atx (i := y) (by rw [List.length_map]; exact hyl)
        simp only [List.getElem_map] at v3
        have hjl := hiE _ hym
        have hjb := hbE _ hym
        have hav := Vec.ext hv4 hx7
        obtain ⟨a1, a2⟩ := VecI.at hav (i := y) (by rw [gA_length]; exact hyl)
        rw [gA_zero hyl, hgy] at a2
        refine s_skip1 ?_
        simp +decide only [p_seq_normal]
        refine s_block1 ?_
        refine s_reg ?_
        simp only [o_pure, o_nil, POp.ev, Opd.ev, gv, setD, List.set, Option.some.injEq, exists_eq_left', load1V, v2, (v3 _ (hx4.trans hx7)).1]
        refine s_reg ?_
        simp only [o_pure, o_nil, POp.ev, Opd.ev, gv, setD, List.set, Option.some.injEq, exists_eq_left', load1V, a1, a2]
        refine s_assoc (s_reg ?_)
        simp only [o_pure, o_nil, POp.ev, Opd.ev, gv, setD, List.set, Option.some.injEq, exists_eq_left']
        refine s_block ?_
        have ha0 : aF n k p L U p.length PL[y] = wr (aF n k p L U p.length PL[y]) := (wr_wr _).symm
        refine s_loop1 (fun j e' H' => ∃ (u : Nat) (y24 : Value), u + j = n ∧ H' = H7 ∧ e' = [s, .int .i64 k, lo, hi, .slice none 0 0, .int .i64 n, dv, .int .i64 (degA (-1) p), all, av, y10, y11, y12, y13, y14, y15, y16, y17, ov, .int .i64 x, pi, .int .i64 y, pj, .int .i64 (wr (aF n k p L U p.length PL[y] * prodW ((axN p L U n).take u) (PL[x].take u) (PL[y].take u))), y24, s, .int .i64 p.length, .int .i64 p.length, y28, y29, y30, y31, y32, y33, y34, y35, y36, y37, all, .int .i64 PL.length, .int .i64 x, all, .int .i64 PL.length, .int .i64 y, .int .i64 n, .int .i64 u]) n ⟨0, y24, by omega, rfl, by simp only [List.take_zero, prodW, Int.mul_one, ← ha0]; rfl⟩ ?_
        rintro j3 e' H7 ⟨u, y24, huj, rfl, rfl⟩
        refine s_test ?_
        simp only [o_pure, o_nil, POp.ev, Opd.ev, gv, setD, Option.some.injEq, exists_eq_left', binV, ne_eq, not_true_eq_false, if_false]
        refine Test.split (fun hlt3 => ?_) (fun hlt3 => ?_)
        · have hun : u < n := by have := of_decide_eq_true hlt3; omega
          have hax : u < (axN p L U n).length := by rw [axN_length]; exact hun
          have hstep := prodW_take (axN p L U n) PL[x] PL[y] u hax (by rw [axN_length]; exact hil) (by rw [axN_length]; exact hjl)
          rw [axN_get hax] at hstep
          have hdx : (axI p L U u).d = dgI p u := rfl
          rw [hdx] at hstep
          have hx24 := hx4.trans hx7
          obtain ⟨c1, d1, k1, k2⟩ := zl_at (SlI.ext hdv2 hx24) (i := u) (by omega)
          rw [hdg u hun] at k2
          obtain ⟨c2, d2, k3, k4⟩ := zl_at ((w3 _ hx24).2) (i := u) (by omega)
          obtain ⟨c3, d3, k5, k6⟩ := zl_at ((v3 _ hx24).2) (i := u) (by omega)
          have hd4 := hd u
          have hi2 := hib u hun
          have hj2 := hjb u hun
          obtain ⟨q1, q2⟩ := wgtI_code ⟨dgI p u, by omega⟩ ⟨PL[x].getD u 0, by omega⟩ ⟨PL[y].getD u 0, by omega⟩ hi2.1 hj2.1
          simp only [wr] at q1 q2
          have q1' : ¬ ((chs (dgI p u) (PL[y].getD u 0) : Int) = 0) := by omega
          have f1 : IntKind.i64.wrap (wr (aF n k p L U p.length PL[y] * prodW ((axN p L U n).take u) (PL[x].take u) (PL[y].take u)) * wgt (dgI p u) (PL[x].getD u 0) (PL[y].getD u 0)) = wr (aF n k p L U p.length PL[y] * prodW ((axN p L U n).take (u + 1)) (PL[x].take (u + 1)) (PL[y].take (u + 1))) := by
            rw [hstep, ← Int.mul_assoc]
            exact wr_mul_l _ _
          refine s_skip1 ?_
          simp +decide only [p_seq_normal]
          refine s_block1 ?_
          refine s_reg ?_
          simp only [o_pure, o_nil, POp.ev, Opd.ev, gv, setD, List.set, Option.some.injEq, exists_eq_left']
          refine s_reg1 ?_
          simp only [o_pure, o_callN, POp.ev, Opd.ev, gv, setD, List.map, Option.some.injEq, exists_eq_left', load1V, k1, k2, k3, k4, k5, k6]
          refine (multiple_ok _ (dgI p u) H7 hd4).use ?_
          rintro _ HH ⟨rfl, hh⟩ _
          subst HH
          simp only [o_cont, o_callN, Opd.ev, gv, setD, List.map]
          refine (iChoose_ok _ (dgI p u) (PL[y].getD u 0) H7 hd4 (by omega)).use ?_
          rintro _ HH ⟨rfl, hh⟩ _
          subst HH
          simp only [o_cont, o_pure, o_callF, POp.ev, Opd.ev, gv, setD, List.map, Option.some.injEq, exists_eq_left', binV, ne_eq, not_true_eq_false, if_false, q1']
          refine (iChoose_ok _ (PL[x].getD u 0) (PL[y].getD u 0) H7 (by omega) (by omega)).eq ?_
          simp only [o_cont, o_pure, o_nil, POp.ev, Opd.ev, gv, setD, List.set, Option.some.injEq, exists_eq_left', binV, ne_eq, not_true_eq_false, if_false, q2, f1]
          simp +decide only [p_seq_normal, p_block_normal]
          refine s_reg1 ?_
          simp only [o_pure, o_nil, POp.ev, Opd.ev, gv, setD, List.set, Option.some.injEq, exists_eq_left', binV, ne_eq, not_true_eq_false, if_false, add1 (i := u) (by omega)]
          simp +decide only [p_seq_normal]
          exact Round.mk (j3 - 1) (by omega) ⟨u + 1, _, by omega, rfl, rfl⟩
        · have hun : u = n := by have := of_decide_eq_false hlt3; omega
          subst hun
          refine s_exit1 ?_
          simp +decide only [p_seq_normal, p_seq_exit, p_block_normal, p_block_exit, reduceIte]
          have t1 : (axN p L U u).take u = axN p L U u := List.take_of_length_le (by rw [axN_length]; exact Nat.le_refl _)
          have t2 : PL[x].take u = PL[x] := List.take_of_length_le (by rw [hil]; exact Nat.le_refl _)
          have t3 : PL[y].take u = PL[y] := List.take_of_length_le (by rw [hjl]; exact Nat.le_refl _)
          rw [t1, t2, t3]
          obtain ⟨w4, w5⟩ := VecI.at ho (i := x) (by rw [oG_length]; exact hxl)
          rw [oG_at hxl, hgx] at w5
          have f10 := (oF_step (n := u) (k := k) (p := p) (L := L) (U := U) PL[x] PL[y] (PL.take y)).symm
          rw [← List.take_succ_eq_append_getElem hyl] at f10
          obtain ⟨cs, hst, ho'⟩ := VecI.put (lim := lim) ho (by omega) (i := x) (by rw [oG_length]; exact hxl) (oF u k p L U PL[x] (PL.take (y + 1)))
          rw [← hgx, oG_set hxl] at ho'
          simp only [wr] at f10
          refine s_reg1 ?_
          simp only [o_pure, o_eff, o_nil, POp.ev, Opd.ev, EOp.ev, gv, setD, Option.some.injEq, exists_eq_left', binV, load1V, ne_eq, not_true_eq_false, if_false, w4, w5, f10, hst]
          simp +decide only [p_seq_normal, p_block_normal]
          refine s_reg1 ?_
          simp only [o_pure, o_nil, POp.ev, Opd.ev, gv, setD, List.set, Option.some.injEq, exists_eq_left', binV, ne_eq, not_true_eq_false, if_false, add1 (i := y) (by omega)]
          simp +decide only [p_seq_normal]
          exact Round.mk (j2 - 1) (by omega) ⟨y + 1, _, _, _, _, _, _, by omega, ho', Chg.ext hx7 (Chg.put _ _ _) (by omega), rfl⟩
      · have hyl : y = PL.length := by simp at hlt2; omega
        subst hyl
        rw [oG_next] at ho
        refine s_exit1 ?_
        simp +decide only [p_seq_normal, p_seq_exit, p_block_normal, p_block_exit, reduceIte]
        refine s_reg1 ?_
        simp only [o_pure, o_nil, POp.ev, Opd.ev, gv, setD, List.set, Option.some.injEq, exists_eq_left', binV, ne_eq, not_true_eq_false, if_false, add1 (i := x) (by omega)]
        simp +decide only [p_seq_normal]
        exact Round.mk (j - 1) (by omega) ⟨x + 1, _, _, _, _, _, _, _, _, _, _, _, by omega, ho, hx7, rfl⟩
    · have hxl : x = PL.length := by simp at hlt; omega
      subst hxl
      rw [oG_all _ hFin] at ho
      refine s_exit1 ?_
      simp +decide only [p_seq_normal, p_seq_exit, p_block_exit, reduceIte]
      refine s_reg ?_
      simp only [o_pure, o_nil, POp.ev, Opd.ev, gv, setD, List.set, Option.some.injEq, exists_eq_left']
      refine s_ret1 ?_
      simp +decide only [p_fin_ret, resV, resOne, gv, Option.some.injEq, exists_eq_left']
      exact ⟨b2, ho, hx12.trans (hx4.trans hx6)⟩
end Go.Proofs.Ytaimceodhhgnnaa
