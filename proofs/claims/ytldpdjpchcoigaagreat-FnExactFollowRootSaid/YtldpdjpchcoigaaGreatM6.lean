/- Parts of the proof of a statement of this seat: contracts of functions that the law calls, or the law's own row; no condition. -/
import Derived.Test.YtldpdjpchcoigaaGreatAbArg
import Derived.Test.YtldpdjpchcoigaaGreatRows
import Derived.WalkKit
import Derived.ProofKit
import Derived.OpenShut
import Derived.ShutString
import Derived.ChangeOld
import Derived.Below
import Derived.SizedLaws
import Derived.Test.YtldpdjpchcoigaaGreatM5
/- Families, the program: at a moment, signs, slopes, what holds in a step; no condition beyond stated ranges. -/
namespace Go.Proofs.YtldpdjpchcoigaaGreat
open Go.Ab Ints
set_option linter.unusedSimpArgs false
set_option linter.unusedVariables false

theorem fam_get (p q : List Int) (i F : Int) (hp : p.length ≤ 6) (hq : q.length ≤ 6) (m : Nat) : (fam p q i F).getD m 0 = p.getD m 0 * F + q.getD m 0 * i := by
  by_cases h : m < 6
  · exact map_range_getD _ _ h
  · rw [getD_ge (by rw [fam_len]; omega), getD_ge (p := p) (by omega), getD_ge (p := q) (by omega)]
    simp
theorem familyAt_ok (lim : Nat) (s u : Value) (p q : List Int) (fine : Nat) (i : Int) (H : AHeap) (hl : lim ≤ H.next) (h : Fam H s u p q fine) (hi : i.natAbs ≤ 16) :
    ACalls Tryz.prog lim n_impl_familyAt [s, u, .int .i64 i, .int .i64 (fine : Int)] H fun v H' => (∃ b, H.next ≤ b ∧ VecI H' b v (strip (fam p q i (2 ^ fine)))) ∧ Ext H H' := by
  have hFp := h.pow
  obtain ⟨hs, hu, hn, hn2, hA, hB, hf⟩ := h
  refine is_impl_familyAt.go rfl ?_
  unfold c_impl_familyAt
  have bi : IntKind.i64.bits = 64 := rfl
  have m1 : min ((fine : Int)).toNat IntKind.i64.bits = fine := by rw [bi]; omega
  have nn : ¬ ((fine : Int) < 0) := by omega
  have hF := pow_le2 hf
  have hF0 := pow_pos2 fine
  have hF16 : (2 : Int) ^ 4 = 16 := by decide
  have w1 : IntKind.i64.wrap (1 * 2 ^ fine) = 2 ^ fine := by rw [Int.one_mul]; exact wr_id (by omega) (by omega)
  refine s_reg ?_
  simp only [o_pure, o_nil, POp.ev, Opd.ev, env0, gu, setD, List.set, Option.some.injEq, exists_eq_left']
  refine s_reg ?_
  simp only [o_pure, o_eff, o_callF, POp.ev, Opd.ev, EOp.ev, gv, setD, List.map, Option.some.injEq, exists_eq_left', binV, if_false, nn, m1, w1, bslice1]
  have hw1 := Vec.lit (H := H) (n := 1) (sz := 1) (cells := [Value.int .i64 (2 ^ fine)]) rfl
  have hg1 := Ext.alloc H [Value.int .i64 (2 ^ fine)]
  have hgn1 : (H.alloc [Value.int .i64 (2 ^ fine)]).next = H.next + 1 := rfl
  have hw1' : SlI (H.alloc [Value.int .i64 (2 ^ fine)]) (.slice (some ⟨H.next, 0, some 0⟩) 1 1) [2 ^ fine] := hw1.sl
  have b1 : p.length * (1000 * 16) ≤ 4611686018427387904 := Nat.le_trans (Nat.mul_le_mul_right _ hn) (by decide)
  have b2 : q.length * (1000 * 16) ≤ 4611686018427387904 := Nat.le_trans (Nat.mul_le_mul_right _ hn2) (by decide)
  refine (multiply_ok lim s _ p [2 ^ fine] 1000 16 _ (by omega) (SlI.ext hs hg1) hw1' (by omega) (by simp) hA (by intro x hx; rw [List.mem_singleton.1 hx]; first | exact hFp | exact hi) b1).mono ?_
  rintro v1 G1 ⟨⟨c1, hc1, hv1⟩, hg2⟩
  have hn2' := hg2.next
  simp only [o_cont, o_pure, o_eff, o_callF, POp.ev, Opd.ev, EOp.ev, gv, setD, List.map, Option.some.injEq, exists_eq_left', bslice1]
  have hg3 := Ext.alloc G1 [Value.int .i64 i]
  have hgn3 : (G1.alloc [Value.int .i64 i]).next = G1.next + 1 := rfl
  have hw2 := Vec.lit (H := G1) (n := 1) (sz := 1) (cells := [Value.int .i64 i]) rfl
  have hw2' : SlI (G1.alloc [Value.int .i64 i]) (.slice (some ⟨G1.next, 0, some 0⟩) 1 1) [i] := hw2.sl
  refine (multiply_ok lim u _ q [i] 1000 16 _ (by omega) (SlI.ext hu ((hg1.trans hg2).trans hg3)) hw2' (by omega) (by simp) hB (by intro x hx; rw [List.mem_singleton.1 hx]; first | exact hFp | exact hi) b2).mono ?_
  rintro v2 G2 ⟨⟨c2, hc2, hv2⟩, hg4⟩
  have hn4 := hg4.next
  have l1 := mulS_len p [2 ^ fine]
  have l2 := mulS_len q [i]
  simp only [List.length_cons, List.length_nil] at l1 l2
  have a1 := mulS_abs (p := p) (q := [2 ^ fine]) hA (B := 16) (by intro x hx; rw [List.mem_singleton.1 hx]; first | exact hFp | exact hi)
  have a2 := mulS_abs (p := q) (q := [i]) hB (B := 16) (by intro x hx; rw [List.mem_singleton.1 hx]; first | exact hFp | exact hi)
  simp only [o_cont, o_callF, Opd.ev, gv, setD, List.map]
  refine (addSingle_ok lim v1 v2 (mulS p [2 ^ fine]) (mulS q [i]) G2 (by omega) (SlI.ext hv1.sl (hg3.trans hg4)) hv2.sl (by omega) (by omega) (fun x hx => by have := a1 x hx; omega) (fun x hx => by have := a2 x hx; omega)).mono ?_
  rintro v3 G3 ⟨⟨c3, hc3, hv3⟩, hg5⟩
  simp only [o_cont, o_pure, o_nil, POp.ev, Opd.ev, gv, setD, List.set, Option.some.injEq, exists_eq_left']
  refine s_ret1 ?_
  simp +decide only [p_fin_ret, resV, resOne, gv, Option.some.injEq, exists_eq_left']
  have e : addS (mulS p [2 ^ fine]) (mulS q [i]) = strip (fam p q i (2 ^ fine)) := by
    refine strip_congr fun m => ?_
    have h1 := addS_get (mulS p [2 ^ fine]) (mulS q [i]) m
    unfold addS at h1
    rw [strip_get] at h1
    rw [h1, mulS_get, mulS_get, conv_one, conv_one, fam_get p q i _ hn hn2]
  rw [← e]
  exact ⟨⟨c3, by omega, hv3⟩, (((hg1.trans hg2).trans hg3).trans hg4).trans hg5⟩
theorem sg_strip (f : List Int) (d : Int × Nat) : sgn3 (hv d.1 (2 ^ d.2) (strip f)) = sgA f d := by
  unfold sgA
  rw [hv_strip d.1 (2 ^ d.2) (p := f) (q := f) (fun _ => rfl)]
  have hc : (0 : Int) < (2 ^ d.2) ^ (f.length - (strip f).length) := by
    rw [← Int.pow_mul]
    have := pow_pos2 (d.2 * (f.length - (strip f).length))
    omega
  rw [Int.mul_comm, sgn3_mul hc]
/-- the sign of a stripped list -/
theorem signS_ok (lim : Nat) (s : Value) (f : List Int) (d : Int × Nat) (H : AHeap) (hl : lim ≤ H.next) (hs : SlI H s (strip f)) (hn : f.length ≤ 6) (hf : ∀ x ∈ f, x.natAbs ≤ 32000) (hN : d.1.natAbs ≤ 100000) (hK : d.2 ≤ 6) :
    ACalls Tryz.prog lim n_impl_signAt [s, dV d] H fun v H' => v = .int .i64 (sgA f d) ∧ Ext H H' := by
  have h1 := strip_len f
  refine (signAt_ok lim s (strip f) d.1 d.2 H hl hs (by omega) (strip_all (P := fun x => x.natAbs ≤ 4611686018427387904) fun x hx => by have := hf x hx; omega) (by omega) (by omega)).mono ?_
  rintro v H' ⟨rfl, hx⟩
  exact ⟨by rw [sg_strip], hx⟩
theorem familySign_ok (lim : Nat) (s u : Value) (p q : List Int) (fine : Nat) (d : Int × Nat) (i k : Int) (H : AHeap) (hl : lim ≤ H.next) (h : Fam H s u p q fine) (hi : i.natAbs ≤ 16) (hi2 : k.natAbs ≤ 16) (hd : d.1.natAbs ≤ 256) (hk : d.2 ≤ 5) :
    ACalls Tryz.prog lim n_impl_familySign [s, u, dV d, .int .i64 i, .int .i64 k, .int .i64 (fine : Int)] H fun v H' => v = .int .i64 (bothA (fam p q i (2 ^ fine)) (fam p q k (2 ^ fine)) d) ∧ Ext H H' := by
  refine is_impl_familySign.go rfl ?_
  have hdv : dV d = .agg #[.int .i64 d.1, .int .i64 (d.2 : Int)] := rfl
  unfold c_impl_familySign
  rw [hdv]
  refine s_reg ?_
  simp only [o_pure, o_eff, o_nil, POp.ev, Opd.ev, EOp.ev, env0, gu, gv, setD, List.set, Option.map_some, Option.some.injEq, exists_eq_left', boxH, cellsV]
  have hx := Ext.alloc H [.int .i64 d.1, .int .i64 (d.2 : Int)]
  have hb := alloc_new H [.int .i64 d.1, .int .i64 (d.2 : Int)]
  have hbl : H.next < (H.alloc [.int .i64 d.1, .int .i64 (d.2 : Int)]).next := Nat.lt_succ_self _
  generalize H.alloc [.int .i64 d.1, .int .i64 (d.2 : Int)] = H1 at hx hb hbl ⊢
  have h1 := h.ext hx
  have hn1 := hx.next
  refine s_reg ?_
  simp only [o_pure, o_callN, POp.ev, Opd.ev, gv, setD, List.map, Option.some.injEq, exists_eq_left', load2 hb]
  rw [← hdv]
  refine (familyAt_ok _ s u p q fine i H1 (Nat.le_refl _) h1 hi).use ?_
  rintro f1 G1 ⟨⟨c1, hc1, hf1⟩, hg1⟩ _
  have hn2 := hg1.next
  simp only [o_cont, o_callF, Opd.ev, gv, setD, List.map]
  refine (signS_ok lim f1 _ d G1 (by omega) hf1.sl (by rw [fam_len]; omega) (h.abs hi) (by omega) (by omega)).mono ?_
  rintro _ H2 ⟨rfl, hx2⟩
  have hn3 := hx2.next
  replace hb := ((hg1.trans hx2).blk _ hbl).trans hb
  have h2 := (h1.ext hg1).ext hx2
  simp only [o_cont, o_pure, o_nil, POp.ev, Opd.ev, gv, setD, List.set, Option.some.injEq, exists_eq_left']
  unfold bothA
  refine s_test ?_
  simp only [o_pure, o_callN, POp.ev, Opd.ev, gv, setD, List.map, Option.some.injEq, exists_eq_left', load2 hb]
  rw [← hdv]
  refine (familyAt_ok _ s u p q fine k H2 (Nat.le_refl _) h2 hi2).use ?_
  rintro f2 G2 ⟨⟨c2, hc2, hf2⟩, hg2⟩ _
  have hn4 := hg2.next
  simp only [o_cont, o_callF, Opd.ev, gv, setD, List.map]
  refine (signS_ok lim f2 _ d G2 (by omega) hf2.sl (by rw [fam_len]; omega) (h.abs hi2) (by omega) (by omega)).mono ?_
  rintro _ H3 ⟨rfl, hx3⟩
  simp only [o_cont, o_pure, o_nil, POp.ev, Opd.ev, gv, setD, Option.some.injEq, exists_eq_left', binV, ne_eq, not_true_eq_false, if_false]
  have hx03 := (((hx.trans hg1).trans hx2).trans hg2).trans hx3
  refine Test.split (fun hh => ?_) (fun hh => ?_)
  · refine s_reg ?_
    simp only [o_pure, o_nil, POp.ev, Opd.ev, setD, List.set, Option.some.injEq, exists_eq_left']
    refine s_ret1 ?_
    simp +decide only [p_seq_ret, p_fin_ret, resV, resOne, gv, Option.some.injEq, exists_eq_left']
    exact ⟨by rw [if_neg (by simpa using hh)], hx03⟩
  · refine s_skip1 ?_
    simp +decide only [p_seq_normal]
    refine s_reg ?_
    simp only [o_pure, o_nil, POp.ev, Opd.ev, gv, setD, List.set, Option.some.injEq, exists_eq_left']
    refine s_ret1 ?_
    simp +decide only [p_fin_ret, resV, resOne, gv, Option.some.injEq, exists_eq_left']
    exact ⟨by rw [if_pos (by simpa using hh)], hx03⟩
def allL (L1 L2 : List Int) : Nat → List Int
  | 0 => []
  | 1 => L1
  | _ + 2 => L1 ++ L2
/-- a list in a block older than a heap, or none -/
def AlV (G : AHeap) (c : Nat) (al : Value) (L : List Int) (H : AHeap) : Prop := (al = .slice none 0 0 ∧ L = []) ∨ (c < G.next ∧ VecI H c al L)
theorem AlV.of {G : AHeap} {c : Nat} {al : Value} {L : List Int} (h : VecI G c al L) : AlV G c al L G := by
  rcases h with ⟨h1, _, h3⟩ | h
  · exact .inl ⟨h1, List.map_eq_nil_iff.1 h3⟩
  · have h' := h
    obtain ⟨_, _, _, _, _, h4, _⟩ := h'
    exact .inr ⟨h4, .inr h⟩
theorem AlV.ext {G H H' : AHeap} {c : Nat} {al : Value} {L : List Int} (h : AlV G c al L H) (hx : Ext H H') : AlV G c al L H' :=
  h.imp id fun h => ⟨h.1, Vec.ext h.2 hx⟩
theorem AlV.chg {G H H' : AHeap} {c b : Nat} {al : Value} {L : List Int} (h : AlV G c al L H) (hx : Chg b H H') (hn : G.next ≤ H.next) (hb : G.next ≤ b) : AlV G c al L H' :=
  h.imp id fun h => ⟨h.1, Vec.chg h.2 hx (by have := h.1; omega)⟩
theorem AlV.vec {G H : AHeap} {c lo : Nat} {al : Value} {L : List Int} (h : AlV G c al L H) (hn : True) (hq : lo < c) : ∃ c', lo < c' ∧ VecI H c' al L := by
  rcases h with ⟨rfl, rfl⟩ | h
  · exact ⟨lo + 1, by omega, Vec.nil _ _ _⟩
  · exact ⟨c, hq, h.2⟩
theorem slopeSign_ok (lim : Nat) (s u : Value) (p q : List Int) (fine : Nat) (a b : Int × Nat) (i : Nat) (H : AHeap) (hl : lim ≤ H.next) (h : Fam H s u p q fine) (hi : i ≤ 15) (ha : Fit a) (hb : Fit b) :
    ACalls Tryz.prog lim n_impl_slopeSign [s, u, tv (iv a b), .int .i64 i, .int .i64 (fine : Int)] H fun v H' => v = .int .i64 (slopeA (fam p q i (2 ^ fine)) (fam p q (i + 1 : Nat) (2 ^ fine)) a b) ∧ Ext H H' := by
  refine is_impl_slopeSign.go rfl ?_
  have hda : tv (iv a b) = .agg #[vi a.1, vi a.2, vi b.1, vi b.2] := rfl
  unfold c_impl_slopeSign
  rw [hda]
  refine s_reg ?_
  simp only [o_pure, o_eff, o_nil, POp.ev, Opd.ev, EOp.ev, env0, gu, gv, setD, List.set, Option.map_some, Option.some.injEq, exists_eq_left', boxH, cellsV]
  have hx := Ext.alloc H [vi a.1, vi a.2, vi b.1, vi b.2]
  have hb0 := alloc_new H [vi a.1, vi a.2, vi b.1, vi b.2]
  have hbl : H.next < (H.alloc [vi a.1, vi a.2, vi b.1, vi b.2]).next := Nat.lt_succ_self _
  generalize H.alloc [vi a.1, vi a.2, vi b.1, vi b.2] = H1 at hx hb0 hbl ⊢
  generalize hq0 : H.next = q0 at *
  have hn1 := hx.next
  refine s_reg ?_
  simp only [o_pure, o_nil, POp.ev, Opd.ev, setD, List.set, Option.some.injEq, exists_eq_left']
  refine s_assoc (s_reg ?_)
  simp only [o_pure, o_nil, POp.ev, Opd.ev, gv, setD, List.set, Option.some.injEq, exists_eq_left']
  refine s_block ?_
  refine s_loop1 (fun w e' H' => ∃ (j c : Nat) (al x9 : Value), j + w = 2 ∧ q0 < c ∧ VecI H' c al (allL (ovr (fam p q i (2 ^ fine)) a b) (ovr (fam p q (i + 1 : Nat) (2 ^ fine)) a b) j) ∧ H'.blk q0 = some [vi a.1, vi a.2, vi b.1, vi b.2] ∧ q0 < H'.next ∧ Ext H H' ∧
    e' = [s, u, .agg #[vi a.1, vi a.2, vi b.1, vi b.2], .int .i64 i, .int .i64 (fine : Int), .pointer (some ⟨q0, 0, none⟩), .int .i64 0, al, .int .i64 ((i + j : Nat) : Int), x9]) 2 ⟨0, q0 + 1, _, _, by omega, by omega, Vec.nil _ _ _, hb0, hbl, hx, rfl⟩ ?_
  clear hx hb0 hbl
  rintro w e' G ⟨j, c, al, x9, hjw, hqc, hv, hb0, hbl, hx, rfl⟩
  have hnx := hx.next
  refine s_test ?_
  simp only [o_pure, o_nil, POp.ev, Opd.ev, gv, setD, Option.some.injEq, exists_eq_left', binV, ne_eq, not_true_eq_false, if_false, add1 (i := i) (by omega)]
  refine Test.split (fun hlt => ?_) (fun hlt => ?_)
  · have hj : j ≤ 1 := by have := of_decide_eq_true hlt; omega
    have hij : i + j ≤ 16 := by omega
    refine s_skip1 ?_
    simp +decide only [p_seq_normal]
    refine s_block ?_
    refine s_reg ?_
    simp only [o_pure, o_callF, POp.ev, Opd.ev, gv, setD, List.map, Option.some.injEq, exists_eq_left']
    refine (familyAt_ok lim s u p q fine ((i + j : Nat) : Int) G (by omega) (h.ext hx) (by omega)).mono ?_
    rintro f1 G1 ⟨⟨c1, hc1, hf1⟩, hg1⟩
    have hn2 := hg1.next
    have habs := h.abs (i := ((i + j : Nat) : Int)) (by omega)
    have hfl := fam_len p q ((i + j : Nat) : Int) (2 ^ fine)
    have hfg : ∀ f, f = fam p q ((i + j : Nat) : Int) (2 ^ fine) → allL (ovr (fam p q i (2 ^ fine)) a b) (ovr (fam p q (i + 1 : Nat) (2 ^ fine)) a b) (j + 1) = allL (ovr (fam p q i (2 ^ fine)) a b) (ovr (fam p q (i + 1 : Nat) (2 ^ fine)) a b) j ++ ovr f a b := by
      rintro f rfl
      match j, hj with
      | 0, _ => rfl
      | 1, _ => rfl
    generalize fam p q ((i + j : Nat) : Int) (2 ^ fine) = f at hf1 habs hfl hfg
    have hsl := strip_len f
    simp only [o_cont, o_callF, Opd.ev, gv, setD, List.map]
    refine (deriveSingle_ok lim f1 (strip f) 32000 G1 (by omega) hf1.sl (by omega) (strip_all habs) (by omega)).mono ?_
    rintro d1 G2 ⟨⟨c2, hc2, hd1⟩, hg2⟩
    have hn3 := hg2.next
    simp only [o_cont, o_pure, o_nil, POp.ev, Opd.ev, gv, setD, List.set, Option.some.injEq, exists_eq_left']
    have hdg : ∀ m, m < 5 → (strip (derL (strip f) (strip f).length)).getD m 0 = ((m : Int) + 1) * f.getD (m + 1) 0 := fun m _ => by rw [strip_get, derL_get, strip_get]
    have hdl : (strip (derL (strip f) (strip f).length)).length ≤ 5 := by
      have := strip_len (derL (strip f) (strip f).length)
      rw [derL_len] at this
      omega
    generalize strip (derL (strip f) (strip f).length) = D at hd1 hdg hdl
    generalize hLe : allL (ovr (fam p q i (2 ^ fine)) a b) (ovr (fam p q (i + 1 : Nat) (2 ^ fine)) a b) j = L at hv hfg
    have hLl : L.length ≤ 10 := by
      rw [← hLe]
      match j, hj with
      | 0, _ => simp [allL]
      | 1, _ => show (ovr (fam p q i (2 ^ fine)) a b).length ≤ 10; rw [ovr_len]; decide
    have hal2 := ((AlV.of hv).ext hg1).ext hg2
    have hx2 := hx.trans hg1
    replace hb0 := (hg1.blk _ hbl).trans hb0
    -- the padded derivative
    refine s_cut (fun e' H' => ∃ (dv : Value), SlI H' dv (der f) ∧ AlV G c al L H' ∧ Ext G1 H' ∧ e' = [s, u, .agg #[vi a.1, vi a.2, vi b.1, vi b.2], .int .i64 i, .int .i64 (fine : Int), .pointer (some ⟨q0, 0, none⟩), .int .i64 0, al, .int .i64 ((i + j : Nat) : Int), dv]) ?_ ?_
    · refine s_block1 ?_
      refine s_loop1 (fun w e' H' => ∃ (z c3 : Nat) (dv : Value), D.length + z + w = 5 ∧ G1.next ≤ c3 ∧ VecI H' c3 dv (D ++ List.replicate z 0) ∧ AlV G c al L H' ∧ Ext G1 H' ∧
        e' = [s, u, .agg #[vi a.1, vi a.2, vi b.1, vi b.2], .int .i64 i, .int .i64 (fine : Int), .pointer (some ⟨q0, 0, none⟩), .int .i64 0, al, .int .i64 ((i + j : Nat) : Int), dv]) (5 - D.length) ⟨0, c2, d1, by omega, hc2, by simpa using hd1, hal2, hg2, rfl⟩ ?_
      rintro w2 e' G3 ⟨z, c3, dv, hz, hc3, hv3, hal3, hx3, rfl⟩
      have hn4 := hx3.next
      have hzl : (D ++ List.replicate z 0).length = D.length + z := by simp
      refine s_test ?_
      simp only [o_pure, o_nil, POp.ev, Opd.ev, gv, setD, Option.some.injEq, exists_eq_left', binV, ne_eq, not_true_eq_false, if_false, Vec.lenV hv3, hzl]
      refine Test.split (fun hlt2 => ?_) (fun hlt2 => ?_)
      · have hzz : D.length + z < 5 := by have := of_decide_eq_true hlt2; omega
        obtain ⟨v', G4, b', t1, t2, t3, t4, t5⟩ := VecI.push (lim := lim) hv3 0 (by omega) (by omega)
        have hn5 := t5.next
        refine s_skip1 ?_
        simp +decide only [p_seq_normal]
        refine s_block1 ?_
        refine s_reg1 ?_
        simp only [o_pure, o_eff, o_nil, POp.ev, Opd.ev, EOp.ev, gv, setD, List.set, List.map, Option.some.injEq, exists_eq_left', bslice1, t1]
        simp +decide only [p_seq_normal, p_block_normal]
        refine Round.mk (w2 - 1) (by omega) ⟨z + 1, b', v', by omega, by rcases t3 with rfl | t3 <;> omega, ?_, hal3.chg t5 (by omega) (by omega), Chg.ext hx3 t5 hc3, rfl⟩
        rw [List.replicate_succ', ← List.append_assoc]
        exact t2
      · have hzz : D.length + z = 5 := by have := of_decide_eq_false hlt2; omega
        refine s_exit1 ?_
        simp +decide only [p_seq_normal, p_seq_exit, p_block_exit, reduceIte]
        refine ⟨dv, ?_, hal3, hx3, rfl⟩
        have eo : D ++ List.replicate z 0 = der f := by
          unfold der
          refine list_of (by rw [hzl, hzz]) fun m hm => ?_
          rw [pad_get, hdg m hm]
        rw [← eo]
        exact hv3.sl
    · rintro e' G3 ⟨dv, hdv, hal3, hx3, rfl⟩
      have hn4 := hx3.next
      have hb3 := (hx3.blk _ (by omega)).trans hb0
      refine s_reg1 ?_
      simp only [o_pure, o_callF, POp.ev, Opd.ev, gv, setD, List.map, Option.some.injEq, exists_eq_left', load4 hb3]
      rw [← hda]
      refine (overInterval_ok lim dv (der f) a b G3 (by omega) hdv (der_len _) (fun x hx => der_abs habs x hx) ha hb).mono ?_
      rintro ov G4 ⟨hov, hg4⟩
      have hn5 := hg4.next
      obtain ⟨c4, hq4, hv4⟩ := (hal3.ext hg4).vec trivial hqc
      obtain ⟨v', G5, b', t1, t2, t3, t4⟩ := VecI.appendL (lim := lim) hv4 (by omega) hov (by rw [over_len, der_len]; omega)
      simp only [o_cont, o_pure, o_eff, o_nil, POp.ev, Opd.ev, EOp.ev, gv, setD, List.set, Option.some.injEq, exists_eq_left', t1]
      simp +decide only [p_seq_normal, p_block_normal]
      refine s_reg1 ?_
      simp only [o_pure, o_nil, POp.ev, Opd.ev, gv, setD, List.set, Option.some.injEq, exists_eq_left', binV, ne_eq, not_true_eq_false, if_false, add1 (i := i + j) (by omega)]
      simp +decide only [p_seq_normal]
      have hb5 := (t4.blk q0 (by omega) (by omega)).trans ((hg4.blk _ (by omega)).trans hb3)
      have hn6 := t4.next
      refine Round.mk (w - 1) (by omega) ⟨j + 1, b', v', dv, by omega, by rcases t3 with rfl | t3 <;> omega, ?_, hb5, by omega, Chg.ext ((hx2.trans hx3).trans hg4) t4 (by omega), rfl⟩
      rw [hfg f rfl]
      exact t2
  · have hj : j = 2 := by have := of_decide_eq_false hlt; omega
    subst hj
    refine s_exit1 ?_
    simp +decide only [p_seq_normal, p_seq_exit, p_block_exit, reduceIte]
    have hl2 : (allL (ovr (fam p q i (2 ^ fine)) a b) (ovr (fam p q (i + 1 : Nat) (2 ^ fine)) a b) 2).length = 10 := by
      show (ovr (fam p q i (2 ^ fine)) a b ++ ovr (fam p q (i + 1 : Nat) (2 ^ fine)) a b).length = 10
      rw [List.length_append, ovr_len, ovr_len]
    refine s_reg ?_
    simp only [o_pure, o_callF, POp.ev, Opd.ev, gv, setD, List.map, Option.some.injEq, exists_eq_left']
    refine (commonSign_ok lim al _ G hv.sl (fun e => by rw [e] at hl2; cases hl2) (by omega)).eq ?_
    simp only [o_cont, o_pure, o_nil, POp.ev, Opd.ev, gv, setD, List.set, Option.some.injEq, exists_eq_left']
    refine s_ret1 ?_
    simp +decide only [p_fin_ret, resV, resOne, gv, Option.some.injEq, exists_eq_left']
    exact ⟨rfl, hx⟩
end Go.Proofs.YtldpdjpchcoigaaGreat

/- Families, the program: what holds in a step, the first interval that holds; no condition beyond stated ranges. -/
namespace Go.Proofs.YtldpdjpchcoigaaGreat
open Go.Ab Ints
set_option linter.unusedSimpArgs false
set_option linter.unusedVariables false

theorem stepHolds_ok (lim : Nat) (s u : Value) (p q : List Int) (fine : Nat) (a b : Int × Nat) (i : Nat) (H : AHeap) (hl : lim ≤ H.next) (h : Fam H s u p q fine) (hi : i ≤ 15) (ha : Fit a) (hb : Fit b) :
    ACalls Tryz.prog lim n_impl_stepHolds [s, u, tv (iv a b), .int .i64 i, .int .i64 (fine : Int)] H fun v H' => v = .bool (holdA (fam p q i (2 ^ fine)) (fam p q (i + 1 : Nat) (2 ^ fine)) a b) ∧ Ext H H' := by
  refine is_impl_stepHolds.go rfl ?_
  have hda : tv (iv a b) = .agg #[vi a.1, vi a.2, vi b.1, vi b.2] := rfl
  have ha' : dV a = .agg #[.int .i64 a.1, .int .i64 (a.2 : Int)] := rfl
  have hb' : dV b = .agg #[.int .i64 b.1, .int .i64 (b.2 : Int)] := rfl
  unfold c_impl_stepHolds
  rw [hda]
  refine s_reg ?_
  simp only [o_pure, o_eff, o_nil, POp.ev, Opd.ev, EOp.ev, env0, gu, gv, setD, List.set, Option.map_some, Option.some.injEq, exists_eq_left', boxH, cellsV]
  have hx := Ext.alloc H [vi a.1, vi a.2, vi b.1, vi b.2]
  have hb0 := alloc_new H [vi a.1, vi a.2, vi b.1, vi b.2]
  have hbl : H.next < (H.alloc [vi a.1, vi a.2, vi b.1, vi b.2]).next := Nat.lt_succ_self _
  generalize H.alloc [vi a.1, vi a.2, vi b.1, vi b.2] = H1 at hx hb0 hbl ⊢
  have hn1 := hx.next
  refine s_reg ?_
  simp only [o_pure, o_callN, POp.ev, Opd.ev, gv, setD, List.map, Option.some.injEq, exists_eq_left', binV, fadV, ne_eq, not_true_eq_false, if_false, Nat.zero_add, Nat.add_zero, (two4 hb0).1, (two4 hb0).2, add1 (i := i) (by omega)]
  rw [← ha', ← hb']
  refine (familySign_ok _ s u p q fine a i (i + 1 : Nat) H1 (Nat.le_refl _) (h.ext hx) (by omega) (by omega) ha.2.1 ha.1).use ?_
  rintro _ H2 ⟨rfl, hx2⟩ _
  have hn2 := hx2.next
  simp only [o_cont, o_callF, Opd.ev, gv, setD, List.map]
  refine (familySign_ok lim s u p q fine b i (i + 1 : Nat) H2 (by omega) (h.ext (hx.trans hx2)) (by omega) (by omega) hb.2.1 hb.1).mono ?_
  rintro _ H3 ⟨rfl, hx3⟩
  have hn3 := hx3.next
  have hm := mul_small (bothA_small (fam p q i (2 ^ fine)) (fam p q (i + 1 : Nat) (2 ^ fine)) a) (bothA_small (fam p q i (2 ^ fine)) (fam p q (i + 1 : Nat) (2 ^ fine)) b)
  have hx03 := (hx.trans hx2).trans hx3
  replace hb0 := ((hx2.trans hx3).blk _ hbl).trans hb0
  unfold holdA
  simp only [o_cont, o_pure, o_nil, POp.ev, Opd.ev, gv, setD, List.set, Option.some.injEq, exists_eq_left', ne_eq]
  refine s_reg ?_
  simp only [o_pure, o_guard, POp.ev, Opd.ev, gv, setD, Option.some.injEq, exists_eq_left', binV, ne_eq, not_true_eq_false, if_false]
  generalize bothA (fam p q i (2 ^ fine)) (fam p q (i + 1 : Nat) (2 ^ fine)) a * bothA (fam p q i (2 ^ fine)) (fam p q (i + 1 : Nat) (2 ^ fine)) b = m at hm ⊢
  have w1 : IntKind.i64.wrap m = m := wr_id (by omega) (by omega)
  cases hD : decide (m < 0)
  · simp only [o_pure, o_guard, gk_ft, o_nil, POp.ev, Opd.ev, gv, setD, List.set, Option.some.injEq, exists_eq_left', pickV, w1, hD]
    refine s_ret1 ?_
    simp +decide only [p_fin_ret, resV, resOne, gv, Option.some.injEq, exists_eq_left']
    exact ⟨by simp, hx03⟩
  · simp only [o_pure, o_callF, o_guard, gk_tt, POp.ev, Opd.ev, gv, setD, List.map, Option.some.injEq, exists_eq_left', w1, hD, load4 hb0]
    rw [← hda]
    refine (slopeSign_ok lim s u p q fine a b i H3 (by omega) (h.ext hx03) hi ha hb).mono ?_
    rintro _ H4 ⟨rfl, hx4⟩
    simp only [o_cont, o_pure, o_guard, gk_tt, o_nil, POp.ev, Opd.ev, gv, setD, List.set, Option.some.injEq, exists_eq_left', pickV, binV, ne_eq, not_true_eq_false, if_false]
    refine s_ret1 ?_
    simp +decide only [p_fin_ret, resV, resOne, gv, Option.some.injEq, exists_eq_left']
    have e : ∀ x : Int, (x != 0) = decide (x ≠ 0) := fun x => by by_cases hx : x = 0 <;> simp [hx]
    exact ⟨by rw [e, Bool.true_and], hx03.trans hx4⟩
theorem pow_dn (j : Nat) (h : j ≤ 5) : ((2 : Int) ^ j).natAbs ≤ 32 := by
  have := pow_le2 h
  have := pow_pos2 j
  have : (2 : Int) ^ 5 = 32 := by decide
  omega
theorem wid_succ (x : Int × Int) (j : Nat) : wid x (j + 1) = (if -256 > (wid x j).1 + -(2 ^ j) then -256 else (wid x j).1 + -(2 ^ j), if 256 < (wid x j).2 + 2 ^ j then 256 else (wid x j).2 + 2 ^ j) := by
  rw [← Int.sub_eq_add_neg]
  rfl
theorem findStep_ok (lim : Nat) (s u : Value) (p q : List Int) (fine : Nat) (x : Int × Int) (i : Nat) (H : AHeap) (hl : lim ≤ H.next) (h : Fam H s u p q fine) (hi : i ≤ 15) (hr : Rng x) (hxx : x.1 < x.2) :
    ACalls Tryz.prog lim n_impl_findStep [s, u, tv (ivT x), .int .i64 i, .int .i64 (fine : Int)] H fun v H' => v = findV (find7 (fam p q i (2 ^ fine)) (fam p q (i + 1 : Nat) (2 ^ fine)) x) ∧ Ext H H' := by
  refine is_impl_findStep.go rfl ?_
  unfold c_impl_findStep
  have hxv : ∀ x, tv (ivT x) = .agg #[vi (dn x.1).1, vi (dn x.1).2, vi (dn x.2).1, vi (dn x.2).2] := fun _ => rfl
  have dv : ∀ l, dV (dn l) = .agg #[vi (dn l).1, vi (dn l).2] := fun l => rfl
  rw [hxv x]
  refine s_reg ?_
  simp only [o_pure, o_eff, o_nil, POp.ev, Opd.ev, EOp.ev, env0, gu, gv, setD, List.set, Option.map_some, Option.some.injEq, exists_eq_left', boxH, cellsV]
  have hx1 := Ext.alloc H [vi (dn x.1).1, vi (dn x.1).2, vi (dn x.2).1, vi (dn x.2).2]
  have hb1 := alloc_new H [vi (dn x.1).1, vi (dn x.1).2, vi (dn x.2).1, vi (dn x.2).2]
  have hl1 : (H.alloc [vi (dn x.1).1, vi (dn x.1).2, vi (dn x.2).1, vi (dn x.2).2]).next = H.next + 1 := rfl
  generalize H.alloc [vi (dn x.1).1, vi (dn x.1).2, vi (dn x.2).1, vi (dn x.2).2] = H1 at hx1 hb1 hl1 ⊢
  have hx2 := Ext.alloc H1 [vi 0, vi 0, vi 0, vi 0]
  have hb2 := alloc_new H1 [vi 0, vi 0, vi 0, vi 0]
  have hl2 : (H1.alloc [vi 0, vi 0, vi 0, vi 0]).next = H1.next + 1 := rfl
  replace hb1 := (hx2.blk _ (by omega)).trans hb1
  generalize H1.alloc [vi 0, vi 0, vi 0, vi 0] = H2 at hx2 hb1 hb2 hl2 ⊢
  have x02 := hx1.trans hx2
  generalize hq5 : H.next = q5 at *
  generalize hr6 : H1.next = r6 at *
  have hb5l : q5 < H2.next := by omega
  have hb6l : r6 < H2.next := by omega
  -- the interval that stands when question k is asked
  refine s_assoc (s_reg ?_)
  simp only [o_pure, o_nil, POp.ev, Opd.ev, setD, List.set, Option.some.injEq, exists_eq_left']
  refine s_block ?_
  refine s_loop1 (fun w e' H' => ∃ (k : Nat) (x8 x9 x10 x11 : Value), k + w = 7 ∧ H'.blk q5 = some [vi (dn (wid x (k - 1)).1).1, vi (dn (wid x (k - 1)).1).2, vi (dn (wid x (k - 1)).2).1, vi (dn (wid x (k - 1)).2).2] ∧ q5 < H'.next ∧ H'.blk r6 = some [vi 0, vi 0, vi 0, vi 0] ∧ r6 < H'.next ∧ Ext H H' ∧
    find7 (fam p q i (2 ^ fine)) (fam p q (i + 1 : Nat) (2 ^ fine)) x = findN (fam p q i (2 ^ fine)) (fam p q (i + 1 : Nat) (2 ^ fine)) x w k ∧
    e' = [s, u, .agg #[vi (dn x.1).1, vi (dn x.1).2, vi (dn x.2).1, vi (dn x.2).2], .int .i64 i, .int .i64 (fine : Int), .pointer (some ⟨q5, 0, none⟩), .pointer (some ⟨r6, 0, none⟩), .bool false, x8, x9, x10, x11, .int .i64 (k : Int)]) 7 ⟨0, _, _, _, _, by omega, hb1, hb5l, hb2, hb6l, x02, rfl, rfl⟩ ?_
  clear hb1 hb2 hb5l hb6l x02 hx1 hx2
  rintro w e' G ⟨k, x8, x9, x10, x11, hkw, hb5, hq5l, hb6, hr6l, hx, hfind, rfl⟩
  have hn0 := hx.next
  refine s_test ?_
  simp only [o_pure, o_nil, POp.ev, Opd.ev, gv, setD, Option.some.injEq, exists_eq_left', binV, ne_eq, not_true_eq_false, if_false]
  refine Test.split (fun hlt => ?_) (fun hlt => ?_)
  · have hk : k ≤ 6 := by have := of_decide_eq_true hlt; omega
    obtain ⟨w', rfl⟩ : ∃ w', w = w' + 1 := ⟨w - 1, by omega⟩
    rw [findN] at hfind
    refine s_skip1 ?_
    simp +decide only [p_seq_normal]
    refine s_block ?_
    refine s_reg ?_
    simp only [o_pure, o_nil, POp.ev, Opd.ev, gv, setD, List.set, Option.some.injEq, exists_eq_left']
    -- the interval is widened, but for the first question
    refine s_cut (fun e' H' => ∃ (x9 x10 x11 : Value), H'.blk q5 = some [vi (dn (wid x k).1).1, vi (dn (wid x k).1).2, vi (dn (wid x k).2).1, vi (dn (wid x k).2).2] ∧ q5 < H'.next ∧ H'.blk r6 = some [vi 0, vi 0, vi 0, vi 0] ∧ r6 < H'.next ∧ Ext H H' ∧
      e' = [s, u, .agg #[vi (dn x.1).1, vi (dn x.1).2, vi (dn x.2).1, vi (dn x.2).2], .int .i64 i, .int .i64 (fine : Int), .pointer (some ⟨q5, 0, none⟩), .pointer (some ⟨r6, 0, none⟩), .bool false, .int .i64 (k : Int), x9, x10, x11, .int .i64 (k : Int)]) ?_ ?_
    · refine s_test1 ?_
      simp only [o_pure, o_nil, POp.ev, Opd.ev, gv, setD, Option.some.injEq, exists_eq_left', binV, ne_eq, not_true_eq_false, if_false]
      refine Test.split (fun hg => ?_) (fun hg => ?_)
      · obtain ⟨j, rfl⟩ : ∃ j, k = j + 1 := ⟨k - 1, by have := of_decide_eq_true hg; omega⟩
        rw [Nat.add_sub_cancel] at hb5
        obtain ⟨⟨y1, y2⟩, y3⟩ := wid_rng hr hxx j
        have hws := wid_succ x j
        have hpd := pow_dn j (by omega)
        generalize wid x j = y at *
        have bi : IntKind.i64.bits = 64 := rfl
        have ej : IntKind.i64.wrap (((j + 1 : Nat) : Int) - 1) = (j : Int) := by rw [show ((j + 1 : Nat) : Int) - 1 = (j : Int) by omega]; exact wr_nat (by omega)
        have m1 : min ((j : Int)).toNat IntKind.i64.bits = j := by rw [bi]; omega
        have nn : ¬ ((j : Int) < 0) := by omega
        have w1 : IntKind.i64.wrap (1 * 2 ^ j) = 2 ^ j := by rw [Int.one_mul]; exact wr_id (by omega) (by omega)
        refine s_reg ?_
        simp only [o_pure, o_eff, o_nil, POp.ev, Opd.ev, EOp.ev, gv, setD, List.set, List.map, Option.map_some, Option.some.injEq, exists_eq_left', binV, ne_eq, not_true_eq_false, if_false, ej, m1, nn, w1, fill2, store2_new (lim := lim) (H := G) (show lim ≤ G.next by omega)]
        have hg1 := Ext.alloc G [vi (2 ^ j), vi 5]
        have hb9 := alloc_new G [vi (2 ^ j), vi 5]
        have hl9 : (G.alloc [vi (2 ^ j), vi 5]).next = G.next + 1 := rfl
        replace hb5 := (hg1.blk _ (by omega)).trans hb5
        replace hb6 := (hg1.blk _ (by omega)).trans hb6
        generalize G.alloc [vi (2 ^ j), vi 5] = G1 at hg1 hb5 hb6 hb9 hl9 ⊢
        generalize hq9 : G.next = q9 at *
        refine s_reg ?_
        simp only [o_pure, o_callN, POp.ev, Opd.ev, gv, setD, List.map, Option.some.injEq, exists_eq_left', load1V, fadV, List.getElem?_cons_zero, List.getElem?_cons_succ, Nat.zero_add, cell_blk hb9]
        refine (wideOf_ok _ (2 ^ j) G1 (Nat.le_refl _) (by omega)).use ?_
        rintro _ G2 ⟨rfl, hg2⟩ _
        have hn2 := hg2.next
        simp only [o_cont, o_callF, Opd.ev, gv, setD, List.map]
        refine (fit_ok lim _ _ 5 G2 (by omega) (by omega) (by omega)).mono ?_
        rintro _ G3 ⟨rfl, hg3⟩
        have hn3 := hg3.next
        rw [bsg_abs]
        have hdj : dnorm (2 ^ j) 5 = dn (2 ^ j) := rfl
        rw [hdj]
        replace hb5 := ((hg2.trans hg3).blk _ (by omega)).trans hb5
        replace hb6 := ((hg2.trans hg3).blk _ (by omega)).trans hb6
        replace hb9 := ((hg2.trans hg3).blk _ (by omega)).trans hb9
        simp only [o_cont, o_pure, o_eff, o_nil, POp.ev, Opd.ev, EOp.ev, gv, setD, Option.some.injEq, exists_eq_left', extV, List.getElem?_toArray, List.getElem?_cons_zero, List.getElem?_cons_succ, dv, store2 (lim := lim) (show lim ≤ q9 by omega) hb9]
        have c4 := Chg.put q9 G3 [vi (dn (2 ^ j)).1, vi (dn (2 ^ j)).2]
        have h9 := put_same G3 q9 [vi (dn (2 ^ j)).1, vi (dn (2 ^ j)).2]
        have n4 : (G3.put q9 [vi (dn (2 ^ j)).1, vi (dn (2 ^ j)).2]).next = G3.next := rfl
        replace hb5 := (c4.blk q5 (by omega) (by omega)).trans hb5
        replace hb6 := (c4.blk r6 (by omega) (by omega)).trans hb6
        generalize G3.put q9 [vi (dn (2 ^ j)).1, vi (dn (2 ^ j)).2] = G4 at c4 h9 n4 hb5 hb6 ⊢
        have hx4 : Ext H G4 := Chg.ext (((hx.trans hg1).trans hg2).trans hg3) c4 (by omega)
        -- the lower end: two orders
        refine s_regT_cut (fun e' H' => ∃ (q10 : Nat), H'.blk q10 = some [vi (dn (y.1 + -(2 ^ j))).1, vi (dn (y.1 + -(2 ^ j))).2] ∧ q10 < H'.next ∧ G4.next ≤ q10 ∧ Ext G4 H' ∧
          e' = [s, u, .agg #[vi (dn x.1).1, vi (dn x.1).2, vi (dn x.2).1, vi (dn x.2).2], .int .i64 i, .int .i64 (fine : Int), .pointer (some ⟨q5, 0, none⟩), .pointer (some ⟨r6, 0, none⟩), .bool false, .int .i64 ((j + 1 : Nat) : Int), .pointer (some ⟨q9, 0, none⟩), .pointer (some ⟨q10, 0, none⟩), x11, .int .i64 ((j + 1 : Nat) : Int)]) ?_ ?_
        · simp only [o_pure, o_eff, o_callF, o_callN, t_op, t_alt, t_nil, o_nil, POp.ev, Opd.ev, EOp.ev, gv, setD, List.set, List.map, Option.some.injEq, exists_eq_left', fadV, extV, Nat.add_zero, (two4 hb5).1, load2 h9]
          rw [← dv (2 ^ j), ← dv y.1]
          have mins : ∀ (G5 : AHeap) (K : Value → AHeap → Prop), (∀ G6, Ext G5 G6 → K (dV (dn (-(2 ^ j)))) G6) → ACalls Tryz.prog G5.next n_impl_minus [dV (dn (2 ^ j))] G5 K := by
            intro G5 K hK
            refine (minus_ok _ (2 ^ j) G5 (Nat.le_refl _) (by omega)).mono ?_
            rintro _ G6 ⟨rfl, hg6⟩
            exact hK G6 hg6
          have sums : ∀ (G5 : AHeap) (K : Value → AHeap → Prop), G4.next ≤ G5.next → (∀ G6, Ext G5 G6 → K (.tuple #[dV (dn (y.1 + -(2 ^ j))), .bool true]) G6) → ACalls Tryz.prog lim n_impl_sumOf [dV (dn y.1), dV (dn (-(2 ^ j)))] G5 K := by
            intro G5 K hn5 hK
            refine (sumOf_ok lim y.1 (-(2 ^ j)) G5 (by omega) (by omega) (by omega)).mono ?_
            rintro _ G6 ⟨rfl, hg6⟩
            exact hK G6 hg6
          refine ⟨?_, ?_⟩
          · refine (mins G4 _ fun G5 h5 => ?_)
            have hn5 := h5.next
            simp only [o_cont, o_nil, gv, setD, List.set]
            refine ⟨?_, ?_⟩
            · refine sums G5 _ hn5 fun G6 h6 => ?_
              have hn6 := h6.next
              simp only [o_cont, o_nil, gv, setD, List.set, Option.some.injEq, exists_eq_left', List.getElem?_toArray, List.getElem?_cons_zero, List.getElem?_cons_succ, dv, store2_new (lim := lim) (H := G6) (show lim ≤ G6.next by omega)]
              exact ⟨G6.next, alloc_new _ _, Nat.lt_succ_self _, by omega, (h5.trans h6).trans (Ext.alloc _ _), rfl⟩
            · have ha := Ext.alloc G5 [Value.int .i64 0, .int .i64 0]
              have hq := alloc_new G5 [Value.int .i64 0, .int .i64 0]
              have hln : (G5.alloc [Value.int .i64 0, .int .i64 0]).next = G5.next + 1 := rfl
              refine sums _ _ (by omega) fun G6 h6 => ?_
              have hn6 := h6.next
              replace hq := (h6.blk _ (by omega)).trans hq
              simp only [o_cont, o_nil, gv, setD, Option.some.injEq, exists_eq_left', List.getElem?_toArray, List.getElem?_cons_zero, List.getElem?_cons_succ, dv, store2 (lim := lim) (show lim ≤ G5.next by omega) hq]
              exact ⟨G5.next, put_same _ _ _, by rw [put_next]; omega, by omega, Chg.ext ((h5.trans ha).trans h6) (Chg.put _ _ _) (by omega), rfl⟩
          · have ha := Ext.alloc G4 [Value.int .i64 0, .int .i64 0]
            have hq := alloc_new G4 [Value.int .i64 0, .int .i64 0]
            have hln : (G4.alloc [Value.int .i64 0, .int .i64 0]).next = G4.next + 1 := rfl
            refine mins _ _ fun G5 h5 => ?_
            have hn5 := h5.next
            simp only [o_cont, o_nil, gv, setD]
            refine sums _ _ (by omega) fun G6 h6 => ?_
            have hn6 := h6.next
            replace hq := ((h5.trans h6).blk _ (by omega)).trans hq
            simp only [o_cont, o_nil, gv, setD, Option.some.injEq, exists_eq_left', List.getElem?_toArray, List.getElem?_cons_zero, List.getElem?_cons_succ, dv, store2 (lim := lim) (show lim ≤ G4.next by omega) hq]
            exact ⟨G4.next, put_same _ _ _, by rw [put_next]; omega, by omega, Chg.ext ((ha.trans h5).trans h6) (Chg.put _ _ _) (by omega), rfl⟩
        · rintro e' G5 ⟨q10, h10, hq10, hq10', h5, rfl⟩
          have hn5 := h5.next
          replace hb5 := (h5.blk _ (by omega)).trans hb5
          replace hb6 := (h5.blk _ (by omega)).trans hb6
          replace h9 := (h5.blk _ (by omega)).trans h9
          refine s_reg ?_
          simp only [o_pure, o_callF, POp.ev, Opd.ev, gv, setD, List.map, Option.some.injEq, exists_eq_left', fadV, Nat.zero_add, (two4 hb5).2, load2 h9]
          rw [← dv (2 ^ j), ← dv y.2]
          refine (sumOf_ok lim y.2 (2 ^ j) G5 (by omega) (by omega) (by omega)).mono ?_
          rintro _ G6 ⟨rfl, h6⟩
          have hn6 := h6.next
          simp only [o_cont, o_pure, o_eff, o_nil, POp.ev, Opd.ev, EOp.ev, gv, setD, List.set, Option.some.injEq, exists_eq_left', extV, List.getElem?_toArray, List.getElem?_cons_zero, List.getElem?_cons_succ, dv, store2_new (lim := lim) (H := G6) (show lim ≤ G6.next by omega)]
          have h7 := Ext.alloc G6 [vi (dn (y.2 + 2 ^ j)).1, vi (dn (y.2 + 2 ^ j)).2]
          have h11 := alloc_new G6 [vi (dn (y.2 + 2 ^ j)).1, vi (dn (y.2 + 2 ^ j)).2]
          have hl11 : (G6.alloc [vi (dn (y.2 + 2 ^ j)).1, vi (dn (y.2 + 2 ^ j)).2]).next = G6.next + 1 := rfl
          generalize G6.alloc [vi (dn (y.2 + 2 ^ j)).1, vi (dn (y.2 + 2 ^ j)).2] = G7 at h7 h11 hl11 ⊢
          have h57 := h6.trans h7
          replace hb5 := (h57.blk _ (by omega)).trans hb5
          replace hb6 := (h57.blk _ (by omega)).trans hb6
          replace h10 := (h57.blk _ (by omega)).trans h10
          have hx7 := (hx4.trans h5).trans h57
          refine s_reg1 ?_
          simp only [o_pure, o_callN, POp.ev, Opd.ev, gv, setD, List.map, Option.some.injEq, exists_eq_left', load2 h10, load2 h11]
          refine (integer_ok _ (-8) G7 (Nat.le_refl _)).use ?_
          rintro _ G8 ⟨rfl, h8⟩ _
          have hn8 := h8.next
          simp only [o_cont, o_callN, Opd.ev, gv, setD, List.map]
          rw [← dv, ← dn_m8]
          refine (greater_ok _ (y.1 + -(2 ^ j)) (-256) G8 (Nat.le_refl _) (by omega) (by omega)).use ?_
          rintro _ G9 ⟨rfl, h9'⟩ _
          have hn9 := h9'.next
          simp only [o_cont, o_callN, Opd.ev, setD, List.map]
          refine (integer_ok _ 8 G9 (Nat.le_refl _)).use ?_
          rintro _ G10 ⟨rfl, h10'⟩ _
          have hn10 := h10'.next
          simp only [o_cont, o_callF, Opd.ev, gv, setD, List.map]
          rw [← dv, ← dn_8]
          refine (lesser_ok lim (y.2 + 2 ^ j) 256 G10 (by omega) (by omega) (by omega)).mono ?_
          rintro _ G11 ⟨rfl, h11'⟩
          have hn11 := h11'.next
          have h711 := ((h8.trans h9').trans h10').trans h11'
          replace hb5 := (h711.blk _ (by omega)).trans hb5
          replace hb6 := (h711.blk _ (by omega)).trans hb6
          simp only [o_cont, o_pure, o_eff, o_nil, POp.ev, Opd.ev, EOp.ev, gv, setD, List.map, Option.map_some, Option.some.injEq, exists_eq_left', dv, fill22, store4 (lim := lim) (show lim ≤ q5 by omega) hb5]
          simp +decide only [p_seq_normal]
          refine ⟨.pointer (some ⟨q9, 0, none⟩), .pointer (some ⟨q10, 0, none⟩), .pointer (some ⟨G6.next, 0, none⟩), ?_, by rw [put_next]; omega, by rw [put_ne _ _ (by omega)]; exact hb6, by rw [put_next]; omega, Chg.ext (hx7.trans h711) (Chg.put _ _ _) (by omega), rfl⟩
          rw [hws]
          exact put_same _ _ _
      · have hk0 : k = 0 := by have := of_decide_eq_false hg; omega
        subst hk0
        refine s_skip1 ?_
        simp +decide only [p_seq_normal]
        exact ⟨x9, x10, x11, hb5, hq5l, hb6, hr6l, hx, rfl⟩
    · rintro e' G1 ⟨x9, x10, x11, hb5, hq5l, hb6, hr6l, hx1, rfl⟩
      have hn1 := hx1.next
      obtain ⟨⟨y1, y2⟩, y3⟩ := wid_rng hr hxx k
      have hfa := Rng.fit1 ⟨y1, y2⟩ y3
      have hfb := Rng.fit2 ⟨y1, y2⟩ y3
      have hiv : ivT (wid x k) = iv (dn (wid x k).1) (dn (wid x k).2) := rfl
      have hk1 : k + 1 - 1 = k := by omega
      have tvy : tv (iv (dn (wid x k).1) (dn (wid x k).2)) = .agg #[vi (dn (wid x k).1).1, vi (dn (wid x k).1).2, vi (dn (wid x k).2).1, vi (dn (wid x k).2).2] := rfl
      refine s_test1 ?_
      simp only [o_pure, o_callF, POp.ev, Opd.ev, gv, setD, List.map, Option.some.injEq, exists_eq_left', load4 hb5]
      rw [← tvy]
      refine (stepHolds_ok lim s u p q fine _ _ i G1 (by omega) (h.ext hx1) hi hfa hfb).mono ?_
      rintro _ G2 ⟨rfl, hg2⟩
      have hn2 := hg2.next
      replace hb5 := (hg2.blk _ (by omega)).trans hb5
      replace hb6 := (hg2.blk _ (by omega)).trans hb6
      simp only [o_cont, o_nil, gv, setD]
      refine Test.split (fun hh => ?_) (fun hh => ?_)
      · rw [if_pos hh] at hfind
        refine s_reg ?_
        simp only [o_pure, o_eff, o_nil, POp.ev, Opd.ev, EOp.ev, gv, setD, List.set, Option.some.injEq, exists_eq_left', load4 hb5, store4 (lim := lim) (show lim ≤ r6 by omega) hb6]
        refine s_ret1 ?_
        simp +decide only [p_seq_ret, p_block_ret, p_fin_ret, resV, resOne, resL, gv, Option.some.injEq, exists_eq_left', Option.bind_some, Option.map_some, resL, load4 (put_same _ _ _)]
        refine ⟨?_, Chg.ext (hx1.trans hg2) (Chg.put _ _ _) (by omega)⟩
        rw [hfind]
        show _ = Value.tuple #[tv (ivT (wid x k)), Value.bool true]
        rw [hiv]
        rfl
      · rw [if_neg (by simpa using hh)] at hfind
        refine s_skip1 ?_
        simp +decide only [p_seq_normal, p_block_normal]
        refine s_reg1 ?_
        simp only [o_pure, o_nil, POp.ev, Opd.ev, gv, setD, List.set, Option.some.injEq, exists_eq_left', binV, ne_eq, not_true_eq_false, if_false, add1 (i := k) (by omega)]
        simp +decide only [p_seq_normal]
        exact Round.mk w' (by omega) ⟨k + 1, .int .i64 (k : Int), x9, x10, x11, by omega, by rw [hk1]; exact hb5, by omega, hb6, by omega, hx1.trans hg2, hfind, rfl⟩
  · have hk : k = 7 := by have := of_decide_eq_false hlt; omega
    obtain rfl : w = 0 := by omega
    rw [findN] at hfind
    refine s_exit1 ?_
    simp +decide only [p_seq_normal, p_seq_exit, p_block_exit, reduceIte]
    have hf4 : fillV [vi 0, vi 0, vi 0, vi 0] [] = some [vi 0, vi 0, vi 0, vi 0] := rfl
    refine s_reg ?_
    simp only [o_pure, o_eff, o_nil, POp.ev, Opd.ev, EOp.ev, gv, setD, List.set, List.map, Option.map_some, Option.some.injEq, exists_eq_left', hf4, store4 (lim := lim) (show lim ≤ r6 by omega) hb6]
    refine s_ret1 ?_
    simp +decide only [p_fin_ret, resV, resOne, resL, gv, Option.some.injEq, exists_eq_left', Option.bind_some, Option.map_some, resL, load4 (put_same _ _ _)]
    refine ⟨?_, Chg.ext hx (Chg.put _ _ _) (by omega)⟩
    rw [hfind]
    rfl
end Go.Proofs.YtldpdjpchcoigaaGreat

/- Families, the program: narrowed intervals; no condition beyond stated ranges. -/
namespace Go.Proofs.YtldpdjpchcoigaaGreat
open Go.Ab Ints
set_option linter.unusedSimpArgs false
set_option linter.unusedVariables false

theorem sg_eq {a b : Int} (ha : a ≠ 0) (hb : b ≠ 0) (h1 : -1 ≤ a ∧ a ≤ 1) (h2 : -1 ≤ b ∧ b ≤ 1) : (b == a) = !decide (a * b < 0) := by
  obtain rfl | rfl : a = -1 ∨ a = 1 := by omega
  all_goals
    obtain rfl | rfl : b = -1 ∨ b = 1 := by omega
    all_goals decide
theorem narrowAt_ok (lim : Nat) (s : Value) (f : List Int) (x0 : Int × Int) (H : AHeap) (hl : lim ≤ H.next) (hs : SlI H s (strip f)) (hn : f.length ≤ 6) (hf : ∀ x ∈ f, x.natAbs ≤ 32000) (hr : Rng x0) (hxx : x0.1 < x0.2) (hc : sgA f (dn x0.1) * sgA f (dn x0.2) < 0) :
    ACalls Tryz.prog lim n_impl_narrowAt [s, tv (ivT x0)] H fun v H' => v = .tuple #[tv (ivT (narN f (x0.2 - x0.1).toNat x0)), .bool true] ∧ Ext H H' := by
  refine is_impl_narrowAt.go rfl ?_
  unfold c_impl_narrowAt
  have hxv : ∀ x, tv (ivT x) = .agg #[vi (dn x.1).1, vi (dn x.1).2, vi (dn x.2).1, vi (dn x.2).2] := fun _ => rfl
  have dv : ∀ l, dV (dn l) = .agg #[vi (dn l).1, vi (dn l).2] := fun l => rfl
  have dv2 : ∀ d : Int × Nat, dV d = .agg #[vi d.1, vi d.2] := fun d => rfl
  rw [hxv x0]
  refine s_reg ?_
  simp only [o_pure, o_eff, o_nil, POp.ev, Opd.ev, EOp.ev, env0, gu, gv, setD, List.set, Option.map_some, Option.some.injEq, exists_eq_left', boxH, cellsV]
  have hx1 := Ext.alloc H [vi (dn x0.1).1, vi (dn x0.1).2, vi (dn x0.2).1, vi (dn x0.2).2]
  have hb1 := alloc_new H [vi (dn x0.1).1, vi (dn x0.1).2, vi (dn x0.2).1, vi (dn x0.2).2]
  have hl1 : (H.alloc [vi (dn x0.1).1, vi (dn x0.1).2, vi (dn x0.2).1, vi (dn x0.2).2]).next = H.next + 1 := rfl
  generalize H.alloc [vi (dn x0.1).1, vi (dn x0.1).2, vi (dn x0.2).1, vi (dn x0.2).2] = H1 at hx1 hb1 hl1 ⊢
  have hx2 := Ext.alloc H1 [vi 0, vi 0, vi 0, vi 0]
  have hb2 := alloc_new H1 [vi 0, vi 0, vi 0, vi 0]
  have hl2 : (H1.alloc [vi 0, vi 0, vi 0, vi 0]).next = H1.next + 1 := rfl
  replace hb1 := (hx2.blk _ (by omega)).trans hb1
  generalize H1.alloc [vi 0, vi 0, vi 0, vi 0] = H2 at hx2 hb1 hb2 hl2 ⊢
  have x02 := hx1.trans hx2
  generalize hq5 : H.next = q5 at *
  generalize hr6 : H1.next = r6 at *
  have s1 := sgA_small f (dn x0.1)
  have s2 := sgA_small f (dn x0.2)
  have hlow : sgA f (dn x0.1) ≠ 0 := by intro e; rw [e] at hc; simp at hc
  have sgn : ∀ (l : Int) (G : AHeap) (K : Value → AHeap → Prop), Ext H G → lim ≤ G.next → l.natAbs ≤ 1000 → (∀ G', Ext G G' → K (.int .i64 (sgA f (dn l))) G') → ACalls Tryz.prog lim n_impl_signAt [s, dV (dn l)] G K := by
    intro l G K hG hlG hla hK
    have h1 := dn_abs l
    have h2 := dn_K l
    refine (signS_ok lim s f (dn l) G hlG (SlI.ext hs hG) hn hf (by omega) (by omega)).mono ?_
    rintro _ G' ⟨rfl, hg⟩
    exact hK G' hg
  refine s_cut (fun e' H' => e' = [s, .agg #[vi (dn x0.1).1, vi (dn x0.1).2, vi (dn x0.2).1, vi (dn x0.2).2], .pointer (some ⟨q5, 0, none⟩), .pointer (some ⟨r6, 0, none⟩), .bool false, undef, undef] ∧ Ext H2 H') ?_ ?_
  · refine s_test1 ?_
    simp only [o_pure, o_callN, POp.ev, Opd.ev, gv, setD, List.map, Option.some.injEq, exists_eq_left', fadV, Nat.zero_add, Nat.add_zero, (two4 hb1).1, (two4 hb1).2]
    rw [← dv, ← dv]
    have h1 := dn_abs x0.1
    have h2 := dn_K x0.1
    have r1 := hr.lo
    have r2 := hr.hi
    refine (signS_ok _ s f (dn x0.1) H2 (Nat.le_refl _) (SlI.ext hs x02) hn hf (by omega) (by omega)).use ?_
    rintro _ H3 ⟨rfl, h3⟩ _
    have hn3 := h3.next
    simp only [o_cont, o_callF, Opd.ev, gv, setD, List.map]
    refine sgn x0.2 H3 _ (x02.trans h3) (by omega) (by omega) fun H4 h4 => ?_
    have hm := mul_small s1 s2
    have w1 : IntKind.i64.wrap (sgA f (dn x0.1) * sgA f (dn x0.2)) = sgA f (dn x0.1) * sgA f (dn x0.2) := wr_id (by omega) (by omega)
    have d0 : decide (sgA f (dn x0.1) * sgA f (dn x0.2) ≥ 0) = false := decide_eq_false (by omega)
    simp only [o_cont, o_pure, o_nil, POp.ev, Opd.ev, gv, setD, Option.some.injEq, exists_eq_left', binV, ne_eq, not_true_eq_false, if_false, w1, d0]
    refine Test.false_ (s_skip1 ?_)
    simp +decide only [p_seq_normal]
    exact ⟨trivial, h3.trans h4⟩
  rintro e' H5 ⟨rfl, h25⟩
  have hn5 := h25.next
  replace hb1 := (h25.blk _ (by omega)).trans hb1
  replace hb2 := (h25.blk _ (by omega)).trans hb2
  have x05 := x02.trans h25
  have hb5l : q5 < H5.next := by omega
  have hb6l : r6 < H5.next := by omega
  clear hc s2 h25 hx1 hx2 x02
  refine s_block1 ?_
  refine s_loop1 (fun w e' H' => ∃ (x : Int × Int) (x5 x6 : Value), Rng x ∧ x.1 < x.2 ∧ x.2 - x.1 ≤ w ∧ sgA f (dn x.1) ≠ 0 ∧ narN f (x0.2 - x0.1).toNat x0 = narN f w x ∧
    H'.blk q5 = some [vi (dn x.1).1, vi (dn x.1).2, vi (dn x.2).1, vi (dn x.2).2] ∧ q5 < H'.next ∧ H'.blk r6 = some [vi 0, vi 0, vi 0, vi 0] ∧ r6 < H'.next ∧ Ext H H' ∧
    e' = [s, .agg #[vi (dn x0.1).1, vi (dn x0.1).2, vi (dn x0.2).1, vi (dn x0.2).2], .pointer (some ⟨q5, 0, none⟩), .pointer (some ⟨r6, 0, none⟩), .bool false, x5, x6]) (x0.2 - x0.1).toNat
    ⟨x0, _, _, hr, hxx, by omega, hlow, rfl, hb1, hb5l, hb2, hb6l, x05, rfl⟩ ?_
  clear hb1 hb2 hb5l hb6l x05 hlow s1
  rintro w e' G ⟨x, x5, x6, hr, hxx, hw, hlow, hnar, hb5, hq5l, hb6, hr6l, hx, rfl⟩
  obtain ⟨r1, r2⟩ := hr
  have hn0 := hx.next
  obtain ⟨w', rfl⟩ : ∃ w', w = w' + 1 := ⟨w - 1, by omega⟩
  rw [narN] at hnar
  refine s_block1 ?_
  refine s_reg ?_
  simp only [o_pure, o_callF, POp.ev, Opd.ev, gv, setD, List.map, Option.some.injEq, exists_eq_left', fadV, ne_eq, Nat.zero_add, Nat.add_zero, (two4 hb5).1, (two4 hb5).2]
  rw [← dv, ← dv]
  refine (middleOf_ok lim x.1 x.2 G (by omega) (by omega) (by omega)).mono ?_
  rintro _ G1 ⟨rfl, hg1⟩
  have hn1 := hg1.next
  simp only [o_cont, o_pure, o_eff, o_nil, POp.ev, Opd.ev, EOp.ev, gv, setD, List.set, Option.some.injEq, exists_eq_left', extV, List.getElem?_toArray, List.getElem?_cons_zero, List.getElem?_cons_succ, dv2, store2_new (lim := lim) (H := G1) (by omega)]
  have hg2 := Ext.alloc G1 [vi (dnorm (x.1 + x.2) 6).1, vi (dnorm (x.1 + x.2) 6).2]
  have hb7 := alloc_new G1 [vi (dnorm (x.1 + x.2) 6).1, vi (dnorm (x.1 + x.2) 6).2]
  have hl7 : (G1.alloc [vi (dnorm (x.1 + x.2) 6).1, vi (dnorm (x.1 + x.2) 6).2]).next = G1.next + 1 := rfl
  generalize G1.alloc [vi (dnorm (x.1 + x.2) 6).1, vi (dnorm (x.1 + x.2) 6).2] = G2 at hg2 hb7 hl7 ⊢
  generalize hq7 : G1.next = q7 at *
  have hxG2 := (hx.trans hg1).trans hg2
  replace hb5 := ((hg1.trans hg2).blk _ hq5l).trans hb5
  replace hb6 := ((hg1.trans hg2).blk _ hr6l).trans hb6
  have hmv := dnorm_val (x.1 + x.2) 6
  have hma := dnorm_abs (x.1 + x.2) 6
  refine s_reg ?_
  simp only [o_pure, o_callF, POp.ev, Opd.ev, gv, setD, List.map, Option.some.injEq, exists_eq_left', load2 hb7]
  rw [← dv2]
  refine (signS_ok lim s f _ G2 (by omega) (SlI.ext hs hxG2) hn hf (by omega) (by omega)).mono ?_
  rintro _ G3 ⟨rfl, hg3⟩
  have hn3 := hg3.next
  simp only [o_cont, o_pure, o_nil, POp.ev, Opd.ev, gv, setD, List.set, Option.some.injEq, exists_eq_left']
  replace hb5 := (hg3.blk _ (by omega)).trans hb5
  replace hb6 := (hg3.blk _ (by omega)).trans hb6
  replace hb7 := (hg3.blk _ (by omega)).trans hb7
  have hxG3 := hxG2.trans hg3
  have stop : ∀ (e : List Value), narN f (x0.2 - x0.1).toNat x0 = x → gv e 3 = .pointer (some ⟨r6, 0, none⟩) → gv e 4 = .bool true →
      FinP [.cN 3 4, .v 4] (fun v H' => v = .tuple #[tv (ivT (narN f (x0.2 - x0.1).toNat x0)), .bool true] ∧ Ext H H') .ret e (G3.put r6 [vi (dn x.1).1, vi (dn x.1).2, vi (dn x.2).1, vi (dn x.2).2]) := by
    intro e hn h3 h4
    simp only [p_fin_ret, resV, resL, resOne, h3, h4, load4 (put_same _ _ _), Option.bind_some, Option.map_some, Option.some.injEq, exists_eq_left']
    rw [hn]
    exact ⟨rfl, Chg.ext hxG3 (Chg.put _ _ _) (by omega)⟩
  by_cases hodd : (x.1 + x.2) % 2 = 1
  · rw [if_pos (.inl hodd)] at hnar
    have hm := half_odd hodd
    have d6 : decide ((((dnorm (x.1 + x.2) 6).2 : Nat) : Int) > 5) = true := by rw [hm]; rfl
    refine s_test ?_
    simp only [o_pure, o_guard, gk_tf, o_nil, POp.ev, Opd.ev, gv, setD, Option.some.injEq, exists_eq_left', pickV, binV, load1V, fadV, ne_eq, not_true_eq_false, if_false, List.getElem?_cons_zero, List.getElem?_cons_succ, Nat.zero_add, cell_blk hb7, d6]
    refine Test.true_ ?_
    refine s_reg ?_
    simp only [o_pure, o_eff, o_nil, POp.ev, Opd.ev, EOp.ev, gv, setD, List.set, Option.some.injEq, exists_eq_left', load4 hb5, store4 (lim := lim) (show lim ≤ r6 by omega) hb6]
    refine s_ret1 ?_
    simp only [p_seq_ret, p_block_ret]
    exact stop _ hnar rfl rfl
  · have heven : (x.1 + x.2) % 2 = 0 := by omega
    have hm := half_even heven
    have hk5 := dn_K ((x.1 + x.2) / 2)
    have hmm : x.1 < (x.1 + x.2) / 2 ∧ (x.1 + x.2) / 2 < x.2 := by omega
    rw [hm] at hb7 ⊢
    generalize (x.1 + x.2) / 2 = m at *
    have hab := dn_abs m
    have d6 : decide ((((dn m).2 : Nat) : Int) > 5) = false := by simp; omega
    refine s_test ?_
    simp only [o_pure, o_guard, gk_ff, o_nil, POp.ev, Opd.ev, gv, setD, Option.some.injEq, exists_eq_left', pickV, binV, load1V, fadV, ne_eq, not_true_eq_false, if_false, List.getElem?_cons_zero, List.getElem?_cons_succ, Nat.zero_add, cell_blk hb7, d6]
    refine Test.split (fun hh => ?_) (fun hh => ?_)
    · rw [if_pos (.inr (by simpa using hh))] at hnar
      refine s_reg ?_
      simp only [o_pure, o_eff, o_nil, POp.ev, Opd.ev, EOp.ev, gv, setD, List.set, Option.some.injEq, exists_eq_left', load4 hb5, store4 (lim := lim) (show lim ≤ r6 by omega) hb6]
      refine s_ret1 ?_
      simp only [p_seq_ret, p_block_ret]
      exact stop _ hnar rfl rfl
    · have hne : ¬ sgA f (dn m) = 0 := by simpa using hh
      rw [if_neg (fun hc => hc.elim hodd hne)] at hnar
      clear stop
      have hse := sg_eq hlow hne (sgA_small f (dn x.1)) (sgA_small f (dn m))
      refine s_skip1 ?_
      simp +decide only [p_seq_normal]
      refine s_test1 ?_
      simp only [o_pure, o_callF, POp.ev, Opd.ev, gv, setD, List.map, Option.some.injEq, exists_eq_left', fadV, Nat.add_zero, (two4 hb5).1]
      rw [← dv]
      refine sgn x.1 G3 _ hxG3 (by omega) (by omega) fun G4 hg4 => ?_
      have hn4 := hg4.next
      replace hb5 := (hg4.blk _ (by omega)).trans hb5
      replace hb6 := (hg4.blk _ (by omega)).trans hb6
      replace hb7 := (hg4.blk _ (by omega)).trans hb7
      have hxG4 := hxG3.trans hg4
      simp only [o_cont, o_pure, o_nil, POp.ev, Opd.ev, gv, setD, Option.some.injEq, exists_eq_left', binV, ne_eq, not_true_eq_false, if_false, hse]
      refine Test.split (fun hc => ?_) (fun hc => ?_)
      · rw [if_neg (by simpa using hc)] at hnar
        refine s_reg1 ?_
        simp only [o_pure, o_eff, o_nil, POp.ev, Opd.ev, EOp.ev, gv, setD, Option.some.injEq, exists_eq_left', fadV, Nat.zero_add, load2 hb7, put4a (lim := lim) (show lim ≤ q5 by omega) hb5]
        simp +decide only [p_seq_normal, p_block_normal]
        exact Round.mk w' (by omega) ⟨(m, x.2), _, _, ⟨by simp only; omega, r2⟩, hmm.2, by simp only; omega, hne, hnar, put_same _ _ _, by rw [put_next]; omega, by rw [put_ne _ _ (by omega)]; exact hb6, by rw [put_next]; omega, Chg.ext hxG4 (Chg.put _ _ _) (by omega), rfl⟩
      · rw [if_pos (by simpa using hc)] at hnar
        refine s_reg1 ?_
        simp only [o_pure, o_eff, o_nil, POp.ev, Opd.ev, EOp.ev, gv, setD, Option.some.injEq, exists_eq_left', fadV, Nat.zero_add, load2 hb7, put4b (lim := lim) (show lim ≤ q5 by omega) hb5]
        simp +decide only [p_seq_normal, p_block_normal]
        exact Round.mk w' (by omega) ⟨(x.1, m), _, _, ⟨r1, by simp only; omega⟩, hmm.1, by simp only; omega, hlow, hnar, put_same _ _ _, by rw [put_next]; omega, by rw [put_ne _ _ (by omega)]; exact hb6, by rw [put_next]; omega, Chg.ext hxG4 (Chg.put _ _ _) (by omega), rfl⟩
end Go.Proofs.YtldpdjpchcoigaaGreat

/- FollowRoot, the program: for all arguments; no condition beyond stated lengths. -/
namespace Go.Proofs.YtldpdjpchcoigaaGreat
open Go.Ab Ints
set_option linter.unusedSimpArgs false
set_option linter.unusedVariables false

theorem hold_cross {f g : List Int} {a b : Int × Nat} (h : holdA f g a b = true) : sgA g a * sgA g b < 0 := by
  simp only [holdA, Bool.and_eq_true, decide_eq_true_eq] at h
  have h1 := h.1
  have key : ∀ d, bothA f g d ≠ 0 → bothA f g d = sgA g d := by
    intro d hd
    unfold bothA at hd ⊢
    split at hd
    · rename_i e; rw [if_pos e, e]
    · exact absurd rfl hd
  have n1 : bothA f g a ≠ 0 := by intro e; rw [e] at h1; simp at h1
  have n2 : bothA f g b ≠ 0 := by intro e; rw [e] at h1; simp at h1
  rw [key a n1, key b n2] at h1
  exact h1
theorem iFollow_ok (lim : Nat) (s u : Value) (p q : List Int) (t : Tm) (fine : Int) (H : AHeap) (hl : lim ≤ H.next) (hs : SlI H s p) (hu : SlI H u q) (hn : p.length ≤ 1000000000) (hn2 : q.length ≤ 1000000000) :
    ACalls Tryz.prog lim n_impl_FollowRoot [s, u, tv t, .int .i64 fine] H fun v H' => TrkV H.next H' v (folR p q t fine) ∧ Ext H H' := by
  refine is_impl_FollowRoot.go rfl ?_
  unfold c_impl_FollowRoot
  have htv : tv t = .agg #[vi t.c, vi t.x, vi t.y, vi t.z] := rfl
  have hxv : ∀ x, tv (ivT x) = .agg #[vi (dn x.1).1, vi (dn x.1).2, vi (dn x.2).1, vi (dn x.2).2] := fun _ => rfl
  rw [htv]
  refine s_reg ?_
  simp only [o_pure, o_eff, o_nil, POp.ev, Opd.ev, EOp.ev, env0, gu, gv, setD, List.set, Option.map_some, Option.some.injEq, exists_eq_left', boxH, cellsV]
  have hx1 := Ext.alloc H [vi t.c, vi t.x, vi t.y, vi t.z]
  have hb1 := alloc_new H [vi t.c, vi t.x, vi t.y, vi t.z]
  have hl1 : (H.alloc [vi t.c, vi t.x, vi t.y, vi t.z]).next = H.next + 1 := rfl
  generalize H.alloc [vi t.c, vi t.x, vi t.y, vi t.z] = H1 at hx1 hb1 hl1 ⊢
  have no : ∀ (H2 : AHeap) (e : List Value), Ext H H2 → folR p q t fine = none → gv e 5 = .slice none 0 0 → gv e 6 = .bool false →
      FinP [.v 5, .v 6] (fun v H' => TrkV H.next H' v (folR p q t fine) ∧ Ext H H') .ret e H2 := by
    intro H2 e h2 hn h5 h6
    simp only [p_fin_ret, resV, resL, resOne, h5, h6, Option.bind_some, Option.map_some, Option.some.injEq, exists_eq_left']
    rw [hn]
    exact ⟨⟨.slice none 0 0, H.next, rfl, Nat.le_refl _, Vec.nil _ _ _⟩, h2⟩
  cases hA : askF p q fine
  · have hn0 : folR p q t fine = none := by simp [folR, hA]
    refine s_test ?_
    simp only [o_pure, o_callF, POp.ev, Opd.ev, gv, setD, List.map, Option.some.injEq, exists_eq_left']
    refine (isFamily_ok _ s u p q fine H1 (SlI.ext hs hx1) (SlI.ext hu hx1) hn hn2).eq ?_
    simp only [o_cont, o_pure, o_guard, gk_tf, o_nil, POp.ev, Opd.ev, gv, setD, Option.some.injEq, exists_eq_left', pickV, unV, Bool.not_false, hA]
    refine Test.true_ ?_
    refine s_reg ?_
    simp only [o_pure, o_nil, POp.ev, Opd.ev, setD, List.set, Option.some.injEq, exists_eq_left']
    refine s_ret1 ?_
    simp only [p_seq_ret]
    exact no _ _ hx1 hn0 rfl rfl
  refine s_test ?_
  simp only [o_pure, o_callF, POp.ev, Opd.ev, gv, setD, List.map, Option.some.injEq, exists_eq_left']
  refine (isFamily_ok _ s u p q fine H1 (SlI.ext hs hx1) (SlI.ext hu hx1) hn hn2).eq ?_
  simp only [o_cont, o_pure, o_callF, o_guard, gk_ff, POp.ev, Opd.ev, gv, setD, List.map, Option.some.injEq, exists_eq_left', unV, Bool.not_true, hA, load4 hb1]
  rw [← htv]
  refine (isFit_ok lim t H1 (by omega)).mono ?_
  rintro _ H2 ⟨rfl, hx2⟩
  have hn2' := hx2.next
  simp only [o_cont, o_pure, o_guard, gk_ff, o_nil, POp.ev, Opd.ev, gv, setD, Option.some.injEq, exists_eq_left', pickV, unV]
  cases hB : fitB t
  · have hn0 : folR p q t fine = none := by simp [folR, hB]
    refine Test.true_ ?_
    refine s_reg ?_
    simp only [o_pure, o_nil, POp.ev, Opd.ev, setD, List.set, Option.some.injEq, exists_eq_left']
    refine s_ret1 ?_
    simp only [p_seq_ret]
    exact no _ _ (hx1.trans hx2) hn0 rfl rfl
  refine Test.false_ (s_skip1 ?_)
  simp +decide only [p_seq_normal]
  have hx02 := hx1.trans hx2
  obtain ⟨f, rfl, hF⟩ := ask_fam (SlI.ext hs hx02) (SlI.ext hu hx02) hA
  obtain ⟨x0, htx, hr, hxx⟩ := fit_all hB
  replace hb1 := (hx2.blk _ (by omega)).trans hb1
  have hR : folR p q t (f : Int) = trk (folN p q (2 ^ f) (2 ^ f) 0 x0) := by
    rw [htx] at hB ⊢
    simp only [folR, hA, hB, ivX_T, Int.toNat_natCast]
    rfl
  rw [hR] at no ⊢
  have hbx : H2.blk H.next = some [vi (dn x0.1).1, vi (dn x0.1).2, vi (dn x0.2).1, vi (dn x0.2).2] := by
    rw [hb1, htx]; rfl
  clear hb1 hR hB
  have hf := hF.hf
  have hpn : ((2 ^ f : Nat) : Int) = (2 : Int) ^ f := pow_nat f
  have hp16 : 2 ^ f ≤ 2 ^ 4 := Nat.pow_le_pow_right (by decide) hf
  generalize hq4 : H.next = q4 at *
  have bi : IntKind.i64.bits = 64 := rfl
  have m1 : min ((f : Int)).toNat IntKind.i64.bits = f := by rw [bi]; omega
  have nn : ¬ ((f : Int) < 0) := by omega
  have w1 : IntKind.i64.wrap (1 * 2 ^ f) = ((2 ^ f : Nat) : Int) := by rw [Int.one_mul, ← hpn]; exact wr_nat (by omega)
  refine s_reg ?_
  simp only [o_pure, o_nil, POp.ev, Opd.ev, setD, List.set, Option.some.injEq, exists_eq_left']
  refine s_assoc (s_reg ?_)
  simp only [o_pure, o_nil, POp.ev, Opd.ev, gv, setD, List.set, Option.some.injEq, exists_eq_left', binV, if_false, nn, m1, w1]
  refine s_block ?_
  refine s_loop1 (fun w e' H' => ∃ (i : Nat) (xb : Int × Int) (done : List (Int × Int)) (b : Nat) (v x8 x9 x10 x11 x12 : Value), i + w = 2 ^ f ∧ done.length = i ∧ Rng xb ∧ xb.1 < xb.2 ∧
    ((i = 0 ∧ xb = x0 ∧ folN p q (2 ^ f) (2 ^ f) 0 x0 = (folN p q (2 ^ f) w i x0).map (done ++ ·)) ∨
     (∃ (d' : List (Int × Int)) (y : Int × Int), done = d' ++ [y] ∧ Rng y ∧ y.1 < y.2 ∧ sgA (fam p q i (2 ^ f)) (dn y.1) * sgA (fam p q i (2 ^ f)) (dn y.2) < 0 ∧
        folN p q (2 ^ f) (2 ^ f) 0 x0 = (folN p q (2 ^ f) w i (narN (fam p q i (2 ^ f)) (y.2 - y.1).toNat y)).map (done ++ ·))) ∧
    H'.blk q4 = some [vi (dn xb.1).1, vi (dn xb.1).2, vi (dn xb.2).1, vi (dn xb.2).2] ∧ q4 < H'.next ∧ q4 < b ∧ (b < H'.next ∨ v = .slice none 0 0 ∧ done = []) ∧ VecT H' b v (done.map ivT) ∧ Ext H H' ∧
    e' = [s, u, tv t, .int .i64 (f : Int), .pointer (some ⟨q4, 0, none⟩), .slice none 0 0, .bool false, v, x8, x9, x10, x11, x12, .int .i64 ((2 ^ f : Nat) : Int), .int .i64 (i : Int)]) (2 ^ f)
    ⟨0, x0, [], q4 + 1, _, _, _, _, _, _, by omega, rfl, hr, hxx, .inl ⟨rfl, rfl, by cases folN p q (2 ^ f) (2 ^ f) 0 x0 <;> simp⟩, hbx, by omega, by omega, .inr ⟨rfl, rfl⟩, Vec.nil _ _ _, hx02, rfl⟩ ?_
  clear hbx hr hxx hx02 hx1 hx2
  rintro w e' G ⟨i, xb, done, b, v, x8, x9, x10, x11, x12, hiw, hdl, hrb, hxxb, hst, hb4, hq4l, hqb, hbl, hv, hx, rfl⟩
  have hn0 := hx.next
  refine s_test ?_
  simp only [o_pure, o_nil, POp.ev, Opd.ev, gv, setD, Option.some.injEq, exists_eq_left', binV, ne_eq, not_true_eq_false, if_false]
  refine Test.split (fun hlt => ?_) (fun hlt => ?_)
  · have hlt' : i < 2 ^ f := by have := of_decide_eq_true hlt; omega
    obtain ⟨w', rfl⟩ : ∃ w', w = w' + 1 := ⟨w - 1, by omega⟩
    refine s_skip1 ?_
    simp +decide only [p_seq_normal]
    refine s_block ?_
    refine s_reg ?_
    simp only [o_pure, o_nil, POp.ev, Opd.ev, gv, setD, List.set, Option.some.injEq, exists_eq_left']
    -- the interval from which the step starts
    refine s_cut (fun e' H' => ∃ (x : Int × Int) (x9 x10 : Value), Rng x ∧ x.1 < x.2 ∧ folN p q (2 ^ f) (2 ^ f) 0 x0 = (folN p q (2 ^ f) (w' + 1) i x).map (done ++ ·) ∧
      H'.blk q4 = some [vi (dn x.1).1, vi (dn x.1).2, vi (dn x.2).1, vi (dn x.2).2] ∧ q4 < H'.next ∧ (b < H'.next ∨ v = .slice none 0 0 ∧ done = []) ∧ VecT H' b v (done.map ivT) ∧ Ext H H' ∧
      e' = [s, u, tv t, .int .i64 (f : Int), .pointer (some ⟨q4, 0, none⟩), .slice none 0 0, .bool false, v, .int .i64 (i : Int), x9, x10, x11, x12, .int .i64 ((2 ^ f : Nat) : Int), .int .i64 (i : Int)]) ?_ ?_
    · refine s_test1 ?_
      simp only [o_pure, o_nil, POp.ev, Opd.ev, gv, setD, Option.some.injEq, exists_eq_left', binV, ne_eq, not_true_eq_false, if_false]
      refine Test.split (fun hg => ?_) (fun hg => ?_)
      · have hi0 : 0 < i := by have := of_decide_eq_true hg; omega
        obtain ⟨d', y, hd, hry, hyy, hcr, hfol⟩ : ∃ (d' : List (Int × Int)) (y : Int × Int), done = d' ++ [y] ∧ Rng y ∧ y.1 < y.2 ∧ sgA (fam p q i (2 ^ f)) (dn y.1) * sgA (fam p q i (2 ^ f)) (dn y.2) < 0 ∧
            folN p q (2 ^ f) (2 ^ f) 0 x0 = (folN p q (2 ^ f) (w' + 1) i (narN (fam p q i (2 ^ f)) (y.2 - y.1).toNat y)).map (done ++ ·) := by
          rcases hst with ⟨h, _⟩ | h
          · omega
          · exact h
        have hdl' : d'.length = i - 1 := by rw [hd] at hdl; simp at hdl; omega
        have hbn : b < G.next := by
          rcases hbl with h | ⟨_, h⟩
          · exact h
          · rw [h] at hdl; simp at hdl; omega
        obtain ⟨hrz, hzz⟩ := narN_rng (f := fam p q i (2 ^ f)) (y.2 - y.1).toNat hry hyy
        have habs := hF.abs (i := (i : Int)) (by omega)
        have hlast : i - 1 < (done.map ivT).length := by rw [List.length_map]; omega
        obtain ⟨v1, v2⟩ := VecT.at hv hlast
        have hget : (done.map ivT)[i - 1] = ivT y := by
          rw [List.getElem_map]
          congr 1
          simp only [hd, List.getElem_append, hdl', Nat.lt_irrefl, dif_neg, not_false_eq_true, Nat.sub_self, List.getElem_cons_zero]
        rw [hget] at v2
        have ei : IntKind.i64.wrap ((i : Int) - 1) = ((i - 1 : Nat) : Int) := by rw [show (i : Int) - 1 = ((i - 1 : Nat) : Int) by omega]; exact wr_nat (by omega)
        have fams : ∀ (G5 : AHeap) (K : Value → AHeap → Prop), Ext G G5 → (∀ fv G6, SlI G6 fv (strip (fam p q i (2 ^ f))) → Ext G5 G6 → K fv G6) → ACalls Tryz.prog G5.next n_impl_familyAt [s, u, .int .i64 (i : Int), .int .i64 (f : Int)] G5 K := by
          intro G5 K h5 hK
          refine (familyAt_ok _ s u p q f i G5 (Nat.le_refl _) ⟨SlI.ext hs (hx.trans h5), SlI.ext hu (hx.trans h5), hF.hn, hF.hn2, hF.hA, hF.hB, hF.hf⟩ (by omega)).mono ?_
          rintro fv G6 ⟨⟨c, hc, hfv⟩, h6⟩
          exact hK fv G6 hfv.sl h6
        have nars : ∀ (fv : Value) (G5 : AHeap) (K : Value → AHeap → Prop), G.next ≤ G5.next → SlI G5 fv (strip (fam p q i (2 ^ f))) → (∀ G6, Ext G5 G6 → K (.tuple #[tv (ivT (narN (fam p q i (2 ^ f)) (y.2 - y.1).toNat y)), .bool true]) G6) → ACalls Tryz.prog lim n_impl_narrowAt [fv, tv (ivT y)] G5 K := by
          intro fv G5 K h5 hfv hK
          refine (narrowAt_ok lim fv _ y G5 (by omega) hfv (by rw [fam_len]; omega) habs hry hyy hcr).mono ?_
          rintro _ G6 ⟨rfl, h6⟩
          exact hK G6 h6
        generalize narN (fam p q i (2 ^ f)) (y.2 - y.1).toNat y = z at *
        refine s_regT_cut (fun e' H' => ∃ (q9 : Nat), H'.blk q9 = some [vi (dn z.1).1, vi (dn z.1).2, vi (dn z.2).1, vi (dn z.2).2] ∧ q9 < H'.next ∧ G.next ≤ q9 ∧ Ext G H' ∧
          e' = [s, u, tv t, .int .i64 (f : Int), .pointer (some ⟨q4, 0, none⟩), .slice none 0 0, .bool false, v, .int .i64 (i : Int), .pointer (some ⟨q9, 0, none⟩), .bool true, x11, x12, .int .i64 ((2 ^ f : Nat) : Int), .int .i64 (i : Int)]) ?_ ?_
        · simp only [o_pure, o_eff, o_callF, o_callN, t_op, t_alt, t_nil, o_nil, POp.ev, Opd.ev, EOp.ev, gv, setD, List.set, List.map, Option.some.injEq, exists_eq_left', binV, extV, ne_eq, not_true_eq_false, if_false, ei, v1, v2.all]
          refine ⟨?_, ?_⟩
          · refine fams G _ (Ext.refl _) fun fv G5 hfv h5 => ?_
            have hn5 := h5.next
            simp only [o_cont, o_nil, gv, setD, List.set]
            refine ⟨?_, ?_⟩
            · refine nars fv G5 _ hn5 hfv fun G6 h6 => ?_
              have hn6 := h6.next
              simp only [o_cont, o_nil, gv, setD, List.set, Option.some.injEq, exists_eq_left', List.getElem?_toArray, List.getElem?_cons_zero, List.getElem?_cons_succ, hxv z, store4_new (lim := lim) (H := G6) (show lim ≤ G6.next by omega)]
              exact ⟨G6.next, alloc_new _ _, Nat.lt_succ_self _, by omega, (h5.trans h6).trans (Ext.alloc _ _), rfl⟩
            · have ha := Ext.alloc G5 [Value.int .i64 0, .int .i64 0, .int .i64 0, .int .i64 0]
              have hq := alloc_new G5 [Value.int .i64 0, .int .i64 0, .int .i64 0, .int .i64 0]
              have hln : (G5.alloc [Value.int .i64 0, .int .i64 0, .int .i64 0, .int .i64 0]).next = G5.next + 1 := rfl
              refine nars fv _ _ (by omega) (SlI.ext hfv ha) fun G6 h6 => ?_
              have hn6 := h6.next
              replace hq := (h6.blk _ (by omega)).trans hq
              simp only [o_cont, o_nil, gv, setD, List.set, Option.some.injEq, exists_eq_left', List.getElem?_toArray, List.getElem?_cons_zero, List.getElem?_cons_succ, hxv z, store4 (lim := lim) (show lim ≤ G5.next by omega) hq]
              exact ⟨G5.next, put_same _ _ _, by rw [put_next]; omega, by omega, Chg.ext ((h5.trans ha).trans h6) (Chg.put _ _ _) (by omega), rfl⟩
          · have ha := Ext.alloc G [Value.int .i64 0, .int .i64 0, .int .i64 0, .int .i64 0]
            have hq := alloc_new G [Value.int .i64 0, .int .i64 0, .int .i64 0, .int .i64 0]
            have hln : (G.alloc [Value.int .i64 0, .int .i64 0, .int .i64 0, .int .i64 0]).next = G.next + 1 := rfl
            refine fams _ _ ha fun fv G5 hfv h5 => ?_
            have hn5 := h5.next
            simp only [o_cont, o_nil, gv, setD]
            refine nars fv G5 _ (by omega) hfv fun G6 h6 => ?_
            have hn6 := h6.next
            replace hq := ((h5.trans h6).blk _ (by omega)).trans hq
            simp only [o_cont, o_nil, gv, setD, List.set, Option.some.injEq, exists_eq_left', List.getElem?_toArray, List.getElem?_cons_zero, List.getElem?_cons_succ, hxv z, store4 (lim := lim) (show lim ≤ G.next by omega) hq]
            exact ⟨G.next, put_same _ _ _, by rw [put_next]; omega, by omega, Chg.ext ((ha.trans h5).trans h6) (Chg.put _ _ _) (by omega), rfl⟩
        · rintro e' G5 ⟨q9, h9, hq9, hq9', h5, rfl⟩
          have hn5 := h5.next
          replace hb4 := (h5.blk _ (by omega)).trans hb4
          replace hv := Vec.ext hv h5
          refine s_test ?_
          simp only [o_pure, o_nil, POp.ev, Opd.ev, gv, setD, Option.some.injEq, exists_eq_left', unV, Bool.not_true]
          refine Test.false_ (s_skip1 ?_)
          simp +decide only [p_seq_normal]
          refine s_reg1 ?_
          simp only [o_pure, o_eff, o_nil, POp.ev, Opd.ev, EOp.ev, gv, setD, Option.some.injEq, exists_eq_left', load4 h9, store4 (lim := lim) (show lim ≤ q4 by omega) hb4]
          simp +decide only [p_seq_normal]
          exact ⟨z, _, _, hrz, hzz, hfol, put_same _ _ _, by rw [put_next]; omega, .inl (by rw [put_next]; omega), Vec.chg hv (Chg.put _ _ _) (by omega), Chg.ext (hx.trans h5) (Chg.put _ _ _) (by omega), rfl⟩
      · have hi0 : i = 0 := by have := of_decide_eq_false hg; omega
        obtain ⟨_, hxb, hfol⟩ : i = 0 ∧ xb = x0 ∧ folN p q (2 ^ f) (2 ^ f) 0 x0 = (folN p q (2 ^ f) (w' + 1) i x0).map (done ++ ·) := by
          rcases hst with h | ⟨d', y, hd, _⟩
          · exact h
          · rw [hd] at hdl; simp at hdl; omega
        subst hxb
        refine s_skip1 ?_
        simp +decide only [p_seq_normal]
        exact ⟨xb, x9, x10, hrb, hxxb, hfol, hb4, hq4l, hbl, hv, hx, rfl⟩
    · clear hst hb4 hq4l hbl hv hx hn0 hrb hxxb
      rintro e' G1 ⟨x, x9, x10, hr, hxx, hfol, hb4, hq4l, hbl, hv, hx, rfl⟩
      have hn0 := hx.next
      have hfs : folN p q (2 ^ f) (w' + 1) i x = (find7 (fam p q i (2 ^ f)) (fam p q (i + 1 : Nat) (2 ^ f)) x).bind fun y => (folN p q (2 ^ f) w' (i + 1) (narN (fam p q (i + 1 : Nat) (2 ^ f)) (y.2 - y.1).toNat y)).map (y :: ·) := by rw [folN]
      have hFG : Fam G1 s u p q f := ⟨SlI.ext hs hx, SlI.ext hu hx, hF.hn, hF.hn2, hF.hA, hF.hB, hF.hf⟩
      refine s_reg ?_
      simp only [o_pure, o_callF, POp.ev, Opd.ev, gv, setD, List.map, Option.some.injEq, exists_eq_left', load4 hb4]
      rw [← hxv x]
      refine (findStep_ok lim s u p q f x i G1 (by omega) hFG (by omega) hr hxx).mono ?_
      rintro _ G2 ⟨rfl, hg2⟩
      have hn1 := hg2.next
      cases hfd : find7 (fam p q i (2 ^ f)) (fam p q (i + 1 : Nat) (2 ^ f)) x with
      | none =>
        rw [hfs, hfd] at hfol
        simp only [o_cont, o_pure, o_eff, o_nil, POp.ev, Opd.ev, EOp.ev, gv, setD, List.set, Option.some.injEq, exists_eq_left', extV, List.getElem?_toArray, List.getElem?_cons_zero, List.getElem?_cons_succ, findV, store4_new (lim := lim) (H := G2) (show lim ≤ G2.next by omega), tv]
        refine s_test ?_
        simp only [o_pure, o_nil, POp.ev, Opd.ev, gv, setD, Option.some.injEq, exists_eq_left', unV, Bool.not_false]
        refine Test.true_ ?_
        refine s_reg ?_
        simp only [o_pure, o_nil, POp.ev, Opd.ev, setD, List.set, Option.some.injEq, exists_eq_left']
        refine s_ret1 ?_
        simp only [p_seq_ret, p_block_ret]
        exact no _ _ ((hx.trans hg2).trans (Ext.alloc _ _)) (by rw [hfol]; rfl) rfl rfl
      | some y =>
        rw [hfs, hfd, Option.bind_some] at hfol
        obtain ⟨hry, hyy, hhold⟩ := findN_rng hr hxx 7 0 hfd
        simp only [o_cont, o_pure, o_eff, o_nil, POp.ev, Opd.ev, EOp.ev, gv, setD, List.set, Option.some.injEq, exists_eq_left', extV, List.getElem?_toArray, List.getElem?_cons_zero, List.getElem?_cons_succ, findV, hxv y, store4_new (lim := lim) (H := G2) (show lim ≤ G2.next by omega)]
        have hg3 := Ext.alloc G2 [vi (dn y.1).1, vi (dn y.1).2, vi (dn y.2).1, vi (dn y.2).2]
        have hb11 := alloc_new G2 [vi (dn y.1).1, vi (dn y.1).2, vi (dn y.2).1, vi (dn y.2).2]
        have hl11 : (G2.alloc [vi (dn y.1).1, vi (dn y.1).2, vi (dn y.2).1, vi (dn y.2).2]).next = G2.next + 1 := rfl
        generalize G2.alloc [vi (dn y.1).1, vi (dn y.1).2, vi (dn y.2).1, vi (dn y.2).2] = G3 at hg3 hb11 hl11 ⊢
        have hxG3 := (hx.trans hg2).trans hg3
        replace hb4 := ((hg2.trans hg3).blk _ hq4l).trans hb4
        replace hv := Vec.ext hv (hg2.trans hg3)
        refine s_test ?_
        simp only [o_pure, o_nil, POp.ev, Opd.ev, gv, setD, Option.some.injEq, exists_eq_left', unV, Bool.not_true]
        refine Test.false_ (s_skip1 ?_)
        simp +decide only [p_seq_normal]
        obtain ⟨b1, hv1, hqb1, hbn⟩ : ∃ b1, VecT G3 b1 v (done.map ivT) ∧ q4 < b1 ∧ b1 ≠ G2.next := by
          rcases hbl with hbl | ⟨rfl, rfl⟩
          · exact ⟨b, hv, hqb, by omega⟩
          · exact ⟨G3.next + 1, Vec.nil _ _ _, by omega, by omega⟩
        obtain ⟨v', G4, b', g1, g2, g3, g4, g5⟩ := VecT.push (lim := lim) hv1 (ivT y) (by omega) (by rw [List.length_map]; omega)
        refine s_reg1 ?_
        simp only [o_pure, o_eff, o_nil, POp.ev, Opd.ev, EOp.ev, gv, setD, List.set, List.map, Option.some.injEq, exists_eq_left', load4 hb11]
        rw [← hxv y]
        simp only [bslice_tm, g1, Option.some.injEq, exists_eq_left']
        simp +decide only [p_seq_normal, p_block_normal]
        have hn3 := g5.next
        replace hb4 := (g5.blk _ (by omega) (by omega)).trans hb4
        refine s_reg1 ?_
        simp only [o_pure, o_nil, POp.ev, Opd.ev, gv, setD, List.set, Option.some.injEq, exists_eq_left', binV, ne_eq, not_true_eq_false, if_false, add1 (i := i) (by omega)]
        simp +decide only [p_seq_normal]
        refine Round.mk w' (by omega) ⟨i + 1, x, done ++ [y], b', v', _, _, _, _, _, by omega, by simp [hdl], hr, hxx, .inr ⟨done, y, rfl, hry, hyy, hold_cross hhold, ?_⟩, hb4, by omega, by rcases g3 with rfl | g3 <;> omega, .inl g4, by rw [List.map_append]; exact g2, Chg.ext hxG3 g5 (by omega), rfl⟩
        rw [hfol]
        generalize narN (fam p q (i + 1 : Nat) (2 ^ f)) (y.2 - y.1).toNat y = z
        cases folN p q (2 ^ f) w' (i + 1) z <;> simp
  · have hge : w = 0 := by have := of_decide_eq_false hlt; omega
    subst hge
    refine s_exit1 ?_
    simp +decide only [p_seq_normal, p_seq_exit, p_block_exit, reduceIte]
    refine s_reg ?_
    simp only [o_pure, o_nil, POp.ev, Opd.ev, gv, setD, List.set, Option.some.injEq, exists_eq_left']
    refine s_ret1 ?_
    simp +decide only [p_fin_ret, resV, resOne, resL, gv, Option.some.injEq, exists_eq_left', Option.bind_some, Option.map_some, resL]
    refine ⟨?_, hx⟩
    have hfol : folN p q (2 ^ f) (2 ^ f) 0 x0 = some done := by
      rcases hst with ⟨_, _, h⟩ | ⟨d', y, _, _, _, _, h⟩ <;> rw [h, folN] <;> simp
    rw [hfol]
    exact ⟨v, b, rfl, by omega, hv⟩
end Go.Proofs.YtldpdjpchcoigaaGreat

/- FnExactFollowRoot, the law's contract: for all arguments the law answers true; no condition. -/
namespace Go.Proofs.YtldpdjpchcoigaaGreat
open Go.Ab Ints
set_option linter.unusedSimpArgs false
set_option linter.unusedVariables false
theorem folR_len {p q : List Int} {t : Tm} {fine : Int} : ((folR p q t fine).getD []).length ≤ 16 := by
  unfold folR
  split
  · rename_i h
    simp only [Bool.and_eq_true] at h
    obtain ⟨h1, _⟩ := h
    simp only [askF, Bool.and_eq_true, decide_eq_true_eq] at h1
    have hf : fine.toNat ≤ 4 := by omega
    have hp : 2 ^ fine.toNat ≤ 2 ^ 4 := Nat.pow_le_pow_right (by decide) hf
    unfold trk
    cases hR : folN p q (2 ^ fine.toNat) (2 ^ fine.toNat) 0 (ivX t) with
    | none => simp
    | some l =>
      have := folN_len p q _ _ _ _ _ hR
      simp only [Option.map_some, Option.getD_some, List.length_map]
      omega
  · simp
theorem CopyI.laid {H : AHeap} {b : Nat} {v : Value} {l : List Int} (h : CopyI H b v l false) : Laid H b v l := by
  rcases h with ⟨h, _⟩ | h
  · cases h
  · exact h
theorem lawFollowRoot_ok (lim : Nat) (s u : Value) (p q : List Int) (t : Tm) (fine : Int) (H : AHeap) (hl : lim ≤ H.next) (hs : SlI H s p) (hu : SlI H u q) (hn : p.length ≤ 20000000000000) (hn2 : q.length ≤ 20000000000000) :
    ACalls Tryz.prog lim n_laws_FnExactFollowRoot [s, u, tv t, .int .i64 fine] H fun v H' => v = .bool true := by
  refine is_laws_FnExactFollowRoot.go rfl ?_
  unfold c_laws_FnExactFollowRoot
  have htv : tv t = .agg #[vi t.c, vi t.x, vi t.y, vi t.z] := rfl
  rw [htv]
  refine s_reg ?_
  simp only [o_pure, o_eff, o_nil, POp.ev, Opd.ev, EOp.ev, env0, gu, gv, setD, List.set, Option.map_some, Option.some.injEq, exists_eq_left', boxH, cellsV]
  have hx1 := Ext.alloc H [vi t.c, vi t.x, vi t.y, vi t.z]
  have hb1 := alloc_new H [vi t.c, vi t.x, vi t.y, vi t.z]
  have hl1 : (H.alloc [vi t.c, vi t.x, vi t.y, vi t.z]).next = H.next + 1 := rfl
  generalize H.alloc [vi t.c, vi t.x, vi t.y, vi t.z] = H1 at hx1 hb1 hl1 ⊢
  generalize hq4 : H.next = q4 at *
  have w1 := addN (i := p.length) (j := q.length) (by omega)
  refine s_test ?_
  simp only [o_pure, o_nil, POp.ev, Opd.ev, gv, setD, Option.some.injEq, exists_eq_left', binV, ne_eq, not_true_eq_false, if_false, Sl.lenV (SlI.ext hs hx1), Sl.lenV (SlI.ext hu hx1), w1]
  refine Test.split (fun h => ?_) (fun h => ?_)
  · refine s_reg ?_
    simp only [o_pure, o_nil, POp.ev, Opd.ev, setD, List.set, Option.some.injEq, exists_eq_left']
    refine s_ret1 ?_
    simp +decide only [p_seq_ret, p_fin_ret, resV, resOne, gv, Option.some.injEq, exists_eq_left']
  have hnn : p.length + q.length ≤ 1000000 := by have := of_decide_eq_false h; omega
  clear h w1 hn hn2
  have hn : p.length ≤ 1000000 := by omega
  have hn2 : q.length ≤ 1000000 := by omega
  refine s_skip1 ?_
  simp +decide only [p_seq_normal]
  have keep : ∀ G, Ext H1 G → SlI G s p ∧ SlI G u q ∧ G.blk q4 = some [vi t.c, vi t.x, vi t.y, vi t.z] ∧ lim ≤ G.next ∧ q4 < G.next := fun G hg => by
    have := hg.next
    exact ⟨SlI.ext hs (hx1.trans hg), SlI.ext hu (hx1.trans hg), (hg.blk _ (by omega)).trans hb1, by omega, by omega⟩
  have hrs := folR_len (p := p) (q := q) (t := t) (fine := fine)
  generalize hR : folR p q t fine = R at hrs
  generalize hok : R.isSome = ok
  generalize hrr : R.getD [] = r at hrs
  have hne : (!(ok == ok)) = false := by simp
  -- the reference on copies
  obtain ⟨ks, ku, kb, kn, kq⟩ := keep _ (Ext.refl _)
  refine s_reg ?_
  simp only [o_pure, o_callN, POp.ev, Opd.ev, gv, setD, List.map, Option.some.injEq, exists_eq_left', load4 kb]
  refine (toIntC_ok _ s p false H1 (Nat.le_refl _) ks hn).use ?_
  rintro a1 A1 ⟨ha1, hxA1⟩ _
  obtain ⟨ks, ku, kb, kn, kq⟩ := keep _ hxA1
  simp only [o_cont, o_callN, Opd.ev, gv, setD, List.map]
  refine (toIntC_ok _ u q false A1 (Nat.le_refl _) ku hn2).use ?_
  rintro a2 A2 ⟨ha2, hxA2⟩ _
  obtain ⟨ks, ku, kb, kn, kq⟩ := keep _ (hxA1.trans hxA2)
  simp only [o_cont, o_callF, Opd.ev, gv, setD, List.map]
  rw [← htv]
  refine (toInterval_ok lim t A2 kn).mono ?_
  rintro _ A3 ⟨rfl, hxA3⟩
  have hxA := (hxA1.trans hxA2).trans hxA3
  obtain ⟨ks, ku, kb, kn, kq⟩ := keep _ hxA
  simp only [o_cont, o_callF, Opd.ev, gv, setD, List.map]
  refine (sFollow_ok lim a1 a2 p q t fine A3 kn (ha1.ext (hxA2.trans hxA3)).sl (ha2.ext hxA3).sl (by omega) (by omega)).mono ?_
  rintro _ G1 ⟨hw0, hxG1'⟩
  rw [hR] at hw0
  obtain ⟨wv, bw0, rfl, hbw0, hw0⟩ := hw0
  rw [hrr] at hw0
  have hxG1 := hxA.trans hxG1'
  obtain ⟨ks, ku, kb, kn, kq⟩ := keep _ hxG1
  obtain ⟨bw, hw, hbw1, hbw2⟩ : ∃ bw, VecT G1 bw wv r ∧ q4 ≤ bw ∧ bw < G1.next := by
    have hw0' := hw0
    rcases hw0 with ⟨h1, _, h3⟩ | ⟨_, _, _, _, _, h4, _⟩
    · refine ⟨q4, ?_, Nat.le_refl _, kq⟩
      have : r.length = 0 := by
        have := Vec.clen hw0'
        rw [h3] at this
        have h5 : 0 = r.length * 4 := this
        omega
      have hr0 : r = [] := List.length_eq_zero_iff.1 this
      rw [h1, hr0]
      exact Vec.nil _ _ _
    · have := hxA.next
      exact ⟨bw0, hw0', by omega, h4⟩
  clear hw0 ha1 ha2
  simp only [o_cont, o_pure, o_nil, POp.ev, Opd.ev, gv, setD, List.set, Option.some.injEq, exists_eq_left', extV, List.getElem?_toArray, List.getElem?_cons_zero, List.getElem?_cons_succ, hok]
  -- the program on its own copies
  refine s_reg ?_
  simp only [o_pure, o_callF, POp.ev, Opd.ev, gv, setD, List.map, Option.some.injEq, exists_eq_left']
  refine (toIntC_ok lim s p false G1 kn ks hn).mono ?_
  rintro x8 G2 ⟨hX, hxG2'⟩
  replace hX := CopyI.laid hX
  have hxG2 := hxG1.trans hxG2'
  obtain ⟨ks, ku, kb, kn, kq⟩ := keep _ hxG2
  have hX8 := hX.2.1
  simp only [o_cont, o_pure, o_nil, POp.ev, Opd.ev, gv, setD, List.set, Option.some.injEq, exists_eq_left']
  refine s_reg ?_
  simp only [o_pure, o_callF, POp.ev, Opd.ev, gv, setD, List.map, Option.some.injEq, exists_eq_left']
  refine (toIntC_ok lim u q false G2 kn ku hn2).mono ?_
  rintro x9 G3 ⟨hY, hxG3'⟩
  replace hY := CopyI.laid hY
  have hxG3 := hxG2.trans hxG3'
  obtain ⟨ks, ku, kb, kn, kq⟩ := keep _ hxG3
  have hY9 := hY.2.1
  replace hX := hX.ext hxG3'
  replace hw := Vec.ext hw (hxG2'.trans hxG3')
  simp only [o_cont, o_pure, o_nil, POp.ev, Opd.ev, gv, setD, List.set, Option.some.injEq, exists_eq_left']
  refine s_reg ?_
  simp only [o_pure, o_callF, POp.ev, Opd.ev, gv, setD, List.map, Option.some.injEq, exists_eq_left', load4 kb]
  rw [← htv]
  refine (toInterval_ok lim t G3 kn).mono ?_
  rintro _ G4 ⟨rfl, hxG4'⟩
  have hxG4 := hxG3.trans hxG4'
  obtain ⟨ks, ku, kb, kn, kq⟩ := keep _ hxG4
  have hnG4 := hxG4'.next
  simp only [o_cont, o_pure, o_callF, POp.ev, Opd.ev, gv, setD, List.map, Option.some.injEq, exists_eq_left']
  refine (iFollow_ok lim x8 x9 p q t fine G4 kn (hX.ext hxG4').vec.sl (hY.ext hxG4').vec.sl (by omega) (by omega)).mono ?_
  rintro _ J1 ⟨hg0, hxJ1'⟩
  rw [hR] at hg0
  obtain ⟨gw, bg, rfl, hbg, hg⟩ := hg0
  rw [hrr] at hg
  have hj1 := hxG4'.trans hxJ1'
  replace hX := hX.ext hj1
  replace hY := hY.ext hj1
  replace hw := Vec.ext hw hj1
  have hxJ1 := hxG3.trans hj1
  simp only [o_cont, o_pure, o_nil, POp.ev, Opd.ev, gv, setD, List.set, Option.some.injEq, exists_eq_left', extV, List.getElem?_toArray, List.getElem?_cons_zero, List.getElem?_cons_succ, hok]
  have hnJ1 := hxJ1'.next
  -- both answers are the same
  refine s_test_I false (Ext J1) ?_ (fun J2 hj2 hg0 => by cases hg0) (fun J2 hj2 _ => ?_)
  · simp only [o_pure, o_callF, POp.ev, Opd.ev, gv, setD, List.map, Option.some.injEq, exists_eq_left']
    refine (eqIntervalS_ok lim gw wv r J1 hg.sl hw.sl (by omega)).mono ?_
    rintro _ J ⟨rfl, hj⟩
    simp only [o_cont, o_pure, o_guard, gk_ff, o_nil, POp.ev, Opd.ev, gv, setD, Option.some.injEq, exists_eq_left', pickV, unV, boolEq, if_true, beq_self_eq_true, Bool.not_true]
    exact ⟨trivial, trivial, hj⟩
  refine s_skip1 ?_
  simp +decide only [p_seq_normal]
  have hxJ2 := hxJ1.trans hj2
  -- the arguments are as they were
  refine s_test_I false (Ext J2) ?_ (fun J3 hj3 hg0 => by cases hg0) (fun J3 hj3 _ => ?_)
  · obtain ⟨ks, ku, kb, kn, kq⟩ := keep _ hxJ2
    simp only [o_pure, o_callF, POp.ev, Opd.ev, gv, setD, List.map, Option.some.injEq, exists_eq_left']
    refine (toIntC_ok lim s p false J2 kn ks hn).mono ?_
    rintro y J ⟨hZ, hyx⟩
    replace hZ := CopyI.laid hZ
    have hX' := (hX.ext hj2).ext hyx
    simp only [o_cont, o_callF, Opd.ev, gv, setD, List.map]
    rw [hX'.1, hZ.1]
    refine (intactIntS_ok _ _ _ p J hX'.2.2 hZ.2.2 hX'.2.1 hZ.2.1 hn).mono ?_
    rintro _ _ ⟨rfl, rfl⟩
    simp only [o_cont, o_pure, o_nil, POp.ev, Opd.ev, gv, setD, Option.some.injEq, exists_eq_left', unV, Bool.not_true]
    exact ⟨trivial, trivial, hyx⟩
  refine s_skip1 ?_
  simp +decide only [p_seq_normal]
  have hxJ3 := hxJ2.trans hj3
  refine s_test_I false (Ext J3) ?_ (fun J4 hj4 hg0 => by cases hg0) (fun J4 hj4 _ => ?_)
  · obtain ⟨ks, ku, kb, kn, kq⟩ := keep _ hxJ3
    simp only [o_pure, o_callF, POp.ev, Opd.ev, gv, setD, List.map, Option.some.injEq, exists_eq_left']
    refine (toIntC_ok lim u q false J3 kn ku hn2).mono ?_
    rintro y J ⟨hZ, hyx⟩
    replace hZ := CopyI.laid hZ
    have hY' := ((hY.ext hj2).ext hj3).ext hyx
    simp only [o_cont, o_callF, Opd.ev, gv, setD, List.map]
    rw [hY'.1, hZ.1]
    refine (intactIntS_ok _ _ _ q J hY'.2.2 hZ.2.2 hY'.2.1 hZ.2.1 hn2).mono ?_
    rintro _ _ ⟨rfl, rfl⟩
    simp only [o_cont, o_pure, o_nil, POp.ev, Opd.ev, gv, setD, Option.some.injEq, exists_eq_left', unV, Bool.not_true]
    exact ⟨trivial, trivial, hyx⟩
  refine s_skip1 ?_
  simp +decide only [p_seq_normal]
  have hxJ4 := hxJ3.trans hj4
  have hj14 := (hj2.trans hj3).trans hj4
  replace hX := hX.ext hj14
  replace hY := hY.ext hj14
  replace hw := Vec.ext hw hj14
  replace hg := Vec.ext hg hj14
  have hnG2 := hxG2'.next
  have hnG3 := hxG3'.next
  have hnJ4 := hj14.next
  obtain ⟨_, _, _, kn, kq⟩ := keep _ hxG1
  -- the copies are written over
  refine s_reg ?_
  simp only [o_pure, o_nil, POp.ev, Opd.ev, setD, List.set, Option.some.injEq, exists_eq_left']
  refine s_reg ?_
  simp only [o_pure, o_callF, POp.ev, Opd.ev, gv, setD, List.map, Option.some.injEq, exists_eq_left']
  refine (markIntS_ok lim G1.next x8 p 101 J4 (by omega) hX.vec (by omega) (by omega) (by omega)).mono ?_
  rintro _ K1 ⟨rfl, _, hc1, hnK1⟩
  simp only [o_cont, o_pure, o_nil, POp.ev, Opd.ev, gv, setD, List.set, Option.some.injEq, exists_eq_left']
  replace hY : VecI K1 G2.next x9 q := Vec.chg hY.vec hc1 (by omega)
  replace hw := Vec.chg hw hc1 (by omega)
  replace hg := Vec.chg hg hc1 (by omega)
  have hxK1 : Ext H1 K1 := Chg.ext hxJ4 hc1 (by omega)
  refine s_reg ?_
  simp only [o_pure, o_callF, POp.ev, Opd.ev, gv, setD, List.map, Option.some.injEq, exists_eq_left']
  refine (markIntS_ok lim G2.next x9 q _ K1 (by omega) hY (by omega) (by omega) (by omega)).mono ?_
  rintro _ K2 ⟨rfl, _, hc2, hnK2⟩
  simp only [o_cont, o_pure, o_nil, POp.ev, Opd.ev, gv, setD, List.set, Option.some.injEq, exists_eq_left']
  replace hw := Vec.chg hw hc2 (by omega)
  replace hg := Vec.chg hg hc2 (by omega)
  have hxK2 : Ext H1 K2 := Chg.ext hxK1 hc2 (by omega)
  have hneg : decide ((101 : Int) + (p.length : Int) + (q.length : Int) < 0) = false := decide_eq_false (by omega)
  refine s_test_I false (Ext K2) ?_ (fun K3 hk3 hg0 => by cases hg0) (fun K3 hk3 _ => ?_)
  · simp only [o_pure, o_callF, o_guard, gk_ff, POp.ev, Opd.ev, gv, setD, List.map, Option.some.injEq, exists_eq_left', binV, ne_eq, not_true_eq_false, if_false, hneg]
    refine (eqIntervalS_ok lim gw wv r K2 hg.sl hw.sl (by omega)).mono ?_
    rintro _ J ⟨rfl, hj⟩
    simp only [o_cont, o_pure, o_guard, gk_ff, o_nil, POp.ev, Opd.ev, gv, setD, Option.some.injEq, exists_eq_left', pickV, unV, boolEq, if_true, beq_self_eq_true, Bool.not_true]
    exact ⟨trivial, trivial, hj⟩
  refine s_skip1 ?_
  simp +decide only [p_seq_normal]
  replace hw := Vec.ext hw hk3
  replace hg := Vec.ext hg hk3
  have hxK3 := hxK2.trans hk3
  have hnK3 := hk3.next
  -- the answer is written over, and holds what was written
  refine s_reg ?_
  simp only [o_pure, o_nil, POp.ev, Opd.ev, setD, List.set, Option.some.injEq, exists_eq_left']
  refine s_reg ?_
  simp only [o_pure, o_callF, POp.ev, Opd.ev, gv, setD, List.map, Option.some.injEq, exists_eq_left']
  refine (markIntervalS_ok lim bg gw r 101 K3 (by omega) hg (by omega) (by omega) (by omega)).mono ?_
  rintro _ K4 ⟨rfl, hg5, hc3, hnK4⟩
  simp only [o_cont, o_pure, o_nil, POp.ev, Opd.ev, gv, setD, List.set, Option.some.injEq, exists_eq_left']
  replace hw := Vec.chg hw hc3 (by omega)
  have hxK4 : Ext H1 K4 := Chg.ext hxK3 hc3 (by omega)
  clear hg
  refine s_reg ?_
  simp only [o_pure, o_nil, POp.ev, Opd.ev, setD, List.set, Option.some.injEq, exists_eq_left']
  refine s_reg ?_
  simp only [o_pure, o_callF, POp.ev, Opd.ev, gv, setD, List.map, Option.some.injEq, exists_eq_left']
  refine (heldIntervalS_ok lim gw r.length 101 K4 hg5.sl (by omega) (by omega) (by omega)).mono ?_
  rintro _ _ ⟨rfl, rfl⟩
  simp only [o_cont, o_pure, o_nil, POp.ev, Opd.ev, gv, setD, List.set, Option.some.injEq, exists_eq_left']
  have hneg2 : decide ((101 : Int) + 4 * (r.length : Int) < 0) = false := decide_eq_false (by omega)
  have heq : ((101 : Int) + 4 * (r.length : Int) != 101 + 4 * (r.length : Int)) = false := by simp
  refine s_test ?_
  simp only [o_pure, o_nil, POp.ev, Opd.ev, gv, setD, Option.some.injEq, exists_eq_left', binV, ne_eq, not_true_eq_false, if_false, hneg2]
  refine Test.false_ (s_skip1 ?_)
  simp +decide only [p_seq_normal]
  refine s_test ?_
  simp only [o_pure, o_nil, POp.ev, Opd.ev, gv, setD, Option.some.injEq, exists_eq_left', binV, ne_eq, not_true_eq_false, if_false, heq]
  refine Test.false_ (s_skip1 ?_)
  simp +decide only [p_seq_normal]
  rename_i K4
  -- a second answer, on copies without room
  obtain ⟨ks, ku, kb, kn, kq⟩ := keep _ hxK4
  refine s_reg ?_
  simp only [o_pure, o_callN, POp.ev, Opd.ev, gv, setD, List.map, Option.some.injEq, exists_eq_left', load4 kb]
  refine (toIntC_ok _ s p true K4 (Nat.le_refl _) ks hn).use ?_
  rintro a1 A1' ⟨ha1, hxB1⟩ _
  obtain ⟨ks, ku, kb, kn, kq⟩ := keep _ (hxK4.trans hxB1)
  simp only [o_cont, o_callN, Opd.ev, gv, setD, List.map]
  refine (toIntC_ok _ u q true A1' (Nat.le_refl _) ku hn2).use ?_
  rintro a2 A2' ⟨ha2, hxB2⟩ _
  obtain ⟨ks, ku, kb, kn, kq⟩ := keep _ ((hxK4.trans hxB1).trans hxB2)
  simp only [o_cont, o_callF, Opd.ev, gv, setD, List.map]
  rw [← htv]
  refine (toInterval_ok lim t A2' kn).mono ?_
  rintro _ A3' ⟨rfl, hxB3⟩
  obtain ⟨ks, ku, kb, kn, kq⟩ := keep _ (((hxK4.trans hxB1).trans hxB2).trans hxB3)
  simp only [o_cont, o_callF, Opd.ev, gv, setD, List.map]
  refine (iFollow_ok lim a1 a2 p q t fine A3' kn (ha1.ext (hxB2.trans hxB3)).sl (ha2.ext hxB3).sl (by omega) (by omega)).mono ?_
  rintro _ M1 ⟨hh0, hxM1'⟩
  rw [hR] at hh0
  obtain ⟨hvv, bh, rfl, _, hh⟩ := hh0
  rw [hrr] at hh
  have hxM := (hxB1.trans hxB2).trans (hxB3.trans hxM1')
  replace hw := Vec.ext hw hxM
  replace hg5 := Vec.ext hg5 hxM
  simp only [o_cont, o_pure, o_nil, POp.ev, Opd.ev, gv, setD, List.set, Option.some.injEq, exists_eq_left', extV, List.getElem?_toArray, List.getElem?_cons_zero, List.getElem?_cons_succ, hok]
  refine s_test_I false (Ext M1) ?_ (fun M2 hm2 hg0 => by cases hg0) (fun M2 hm2 _ => ?_)
  · simp only [o_pure, o_callF, POp.ev, Opd.ev, gv, setD, List.map, Option.some.injEq, exists_eq_left']
    refine (eqIntervalS_ok lim hvv wv r M1 hh.sl hw.sl (by omega)).mono ?_
    rintro _ J ⟨rfl, hj⟩
    simp only [o_cont, o_pure, o_guard, gk_ff, o_nil, POp.ev, Opd.ev, gv, setD, Option.some.injEq, exists_eq_left', pickV, unV, boolEq, if_true, beq_self_eq_true, Bool.not_true]
    exact ⟨trivial, trivial, hj⟩
  refine s_skip1 ?_
  simp +decide only [p_seq_normal]
  replace hg5 := Vec.ext hg5 hm2
  refine s_reg ?_
  simp only [o_pure, o_nil, POp.ev, Opd.ev, setD, List.set, Option.some.injEq, exists_eq_left']
  refine s_reg ?_
  simp only [o_pure, o_callF, POp.ev, Opd.ev, gv, setD, List.map, Option.some.injEq, exists_eq_left']
  refine (heldIntervalS_ok lim gw r.length 101 M2 hg5.sl (by omega) (by omega) (by omega)).mono ?_
  rintro _ _ ⟨rfl, rfl⟩
  simp only [o_cont, o_pure, o_nil, POp.ev, Opd.ev, gv, setD, List.set, Option.some.injEq, exists_eq_left']
  refine s_test ?_
  simp only [o_pure, o_nil, POp.ev, Opd.ev, gv, setD, Option.some.injEq, exists_eq_left', binV, ne_eq, not_true_eq_false, if_false, hneg2]
  refine Test.false_ (s_skip1 ?_)
  simp +decide only [p_seq_normal]
  refine s_test ?_
  simp only [o_pure, o_nil, POp.ev, Opd.ev, gv, setD, Option.some.injEq, exists_eq_left', binV, ne_eq, not_true_eq_false, if_false, heq]
  refine Test.false_ (s_skip1 ?_)
  simp +decide only [p_seq_normal]
  refine s_reg ?_
  simp only [o_pure, o_nil, POp.ev, Opd.ev, setD, List.set, Option.some.injEq, exists_eq_left']
  refine s_ret1 ?_
  simp +decide only [p_fin_ret, resV, resOne, gv, Option.some.injEq, exists_eq_left']
end Go.Proofs.YtldpdjpchcoigaaGreat

/- The rows' arguments: what a law of this seat is handed, told of the abstract heap; no condition. -/
namespace Go.Proofs.YtldpdjpchcoigaaGreat
open Go.Ab Ints
set_option linter.unusedSimpArgs false
set_option linter.unusedVariables false
set_option maxRecDepth 100000
theorem own : ownKnob Tryz.prog.godebug = none := by kernel_rfl
theorem laidOut : laidOutB Tryz.prog = true := by kernel_rfl
theorem shp4 {P : Program} {H : AHeap} {n a b c d} {avs : List Value} (h : ShpAll P H n [a, b, c, d] avs) : ∃ v u w x, avs = [v, u, w, x] ∧ ShpV P H n a v ∧ ShpV P H n b u ∧ ShpV P H n c w ∧ ShpV P H n d x := by
  match avs, h with
  | [v, u, w, x], h => exact ⟨v, u, w, x, rfl, h.1, h.2.1, h.2.2.1, h.2.2.2.1⟩
theorem shp_int {H : AHeap} {n : Nat} {v : Value} (h : ShpV Tryz.prog H (n + 1) 3 v) : ∃ x, v = .int .i64 x ∧ (Lit.int .i64 x).wf = true := by
  unfold ShpV Shp at h
  simp only [Tryz.underlying3] at h
  obtain ⟨x, h, h2⟩ := h
  cases h
  exact ⟨x, rfl, h2⟩
theorem shp_cell {H : AHeap} {n : Nat} {cs : List Value} (h : Shp Tryz.prog H (n + 1) 3 cs) : ∃ x, cs = [vi x] := by
  unfold Shp at h
  simp only [Tryz.underlying3] at h
  obtain ⟨x, h, h2⟩ := h
  exact ⟨x, h⟩
/-- a slice argument of ints -/
theorem shp_ints {H : AHeap} {n : Nat} {v : Value} (h : Shp Tryz.prog H (n + 2) 22 [v]) : ∃ l, SlI H v l := by
  unfold Shp at h
  simp only [Tryz.underlying22] at h
  have hc : Tryz.prog.cellsOf 3 = 1 := by kernel_rfl
  rcases h with h | ⟨b, len, cap, h, hb, hl, hm, h5⟩
  · simp only [List.cons.injEq, and_true] at h
    subst h
    exact ⟨[], Sl.nil _ _⟩
  · simp only [List.cons.injEq, and_true] at h
    subst h
    rcases h5 with h5 | ⟨cells, h1, h2, h3⟩
    · have : len = 0 := by omega
      subst this
      refine ⟨[], by simp, some ⟨b, 0, some 0⟩, cap, rfl, by simp, (by intro h; cases h), (by intro ad h; cases h; exact ⟨.inl rfl, hb⟩), (by intro h; exact absurd rfl h)⟩
    · rw [hc, Nat.mul_one] at h2
      have hcell : ∀ i, i < cap → ∃ x, cells[i]? = some (vi x) := by
        intro i hi
        have h4 := h3 i hi
        rw [hc, Nat.mul_one] at h4
        unfold Shp at h4
        simp only [Tryz.underlying3] at h4
        obtain ⟨x, h4, _⟩ := h4
        have h6 := congrArg (fun l => l[0]?) h4
        simp only [List.getElem?_take, List.getElem?_drop] at h6
        exact ⟨x, by simpa using h6⟩
      have hall : ∃ zs : List Int, cells = zs.map vi := by
        clear h3 h1
        have hx : ∀ (cs : List Value), (∀ i, i < cs.length → ∃ x, cs[i]? = some (vi x)) → ∃ zs : List Int, cs = zs.map vi := by
          intro cs
          induction cs with
          | nil => intro _; exact ⟨[], rfl⟩
          | cons c cs ih =>
            intro h
            obtain ⟨x, hx⟩ := h 0 (by simp)
            obtain ⟨zs, hz⟩ := ih (fun i hi => by simpa using h (i + 1) (by simp; omega))
            simp at hx
            exact ⟨x :: zs, by simp [hx, hz]⟩
        exact hx cells (by rw [h2]; exact hcell)
      obtain ⟨zs, rfl⟩ := hall
      have hz : zs.length = cap := by simpa using h2
      have htl : (zs.take len).length = len := by simp; omega
      refine ⟨zs.take len, by simp, some ⟨b, 0, some 0⟩, cap, by rw [htl], by omega, (by intro h; cases h), (by intro ad h; cases h; exact ⟨.inl rfl, hb⟩), fun _ => ⟨b, 0, some 0, [], (zs.drop len).map vi, rfl, ?_, rfl⟩⟩
      rw [h1, List.nil_append, ← List.map_append, List.take_append_drop]
theorem shp_len {H : AHeap} {n : Nat} {cs : List Value} (h : Shp Tryz.prog H (n + 2) 22 cs) : ∃ v l, cs = [v] ∧ SlI H v l ∧ l.length ≤ 20000000000000 := by
  have h0 := h
  unfold Shp at h
  simp only [Tryz.underlying22] at h
  rcases h with rfl | ⟨b, len, cap, rfl, hb, hl, hm, h5⟩
  · exact ⟨_, [], rfl, Sl.nil _ _, by simp⟩
  · obtain ⟨l, hl2⟩ := shp_ints h0
    refine ⟨_, l, rfl, hl2, ?_⟩
    obtain ⟨_, a, c, h1, _⟩ := hl2
    cases h1
    have e8 : Tryz.prog.bytesOf 3 = 8 := by kernel_rfl
    have er : reachBytes = 140737488351232 := rfl
    rw [e8, er] at hm
    omega
theorem shp_list {H : AHeap} {n : Nat} {v : Value} (h : ShpV Tryz.prog H (n + 2) 22 v) : ∃ l, SlI H v l ∧ l.length ≤ 20000000000000 := by
  unfold ShpV at h
  simp only [Tryz.underlying22] at h
  obtain ⟨v', l, h1, h2, h3⟩ := shp_len h
  cases h1
  exact ⟨l, h2, h3⟩
theorem shp_dyadic {H : AHeap} {n : Nat} {cs : List Value} (h : Shp Tryz.prog H (n + 2) 24 cs) : ∃ a b : Int, cs = [vi a, vi b] := by
  unfold Shp at h
  simp only [Tryz.underlying24] at h
  obtain ⟨hc, hf⟩ := h
  have e2 : Tryz.prog.cellsOf 24 = 2 := by kernel_rfl
  have e1 : Tryz.prog.cellsOf 3 = 1 := by kernel_rfl
  rw [e2] at hc
  match cs, hc with
  | [a, b], _ =>
    have f0 := hf _ (List.mem_cons_self ..)
    have f1 := hf _ (List.mem_cons_of_mem _ (List.mem_cons_self ..))
    simp only [e1, List.drop_zero, List.drop_succ_cons, List.take_succ_cons, List.take_zero] at f0 f1
    obtain ⟨x0, g0⟩ := shp_cell f0
    obtain ⟨x1, g1⟩ := shp_cell f1
    cases g0
    cases g1
    exact ⟨x0, x1, rfl⟩
theorem shp_interval {H : AHeap} {n : Nat} {v : Value} (h : ShpV Tryz.prog H (n + 3) 26 v) : ∃ t, v = tv t := by
  unfold ShpV at h
  simp only [Tryz.underlying26] at h
  obtain ⟨cs, rfl, h⟩ := h
  unfold Shp at h
  simp only [Tryz.underlying26] at h
  obtain ⟨hc, hf⟩ := h
  have e4 : Tryz.prog.cellsOf 26 = 4 := by kernel_rfl
  have e2 : Tryz.prog.cellsOf 24 = 2 := by kernel_rfl
  rw [e4] at hc
  match cs, hc with
  | [a, b, c, d], _ =>
    have f0 := hf _ (List.mem_cons_self ..)
    have f1 := hf _ (List.mem_cons_of_mem _ (List.mem_cons_self ..))
    simp only [e2, List.drop_zero, List.drop_succ_cons, List.take_succ_cons, List.take_zero] at f0 f1
    obtain ⟨x0, x1, g0⟩ := shp_dyadic f0
    obtain ⟨x2, x3, g1⟩ := shp_dyadic f1
    cases g0
    cases g1
    exact ⟨⟨x0, x1, x2, x3⟩, rfl⟩
end Go.Proofs.YtldpdjpchcoigaaGreat
