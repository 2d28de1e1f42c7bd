/- Parts of the proof of a statement of this seat: contracts of functions that the law calls, or the law's own row; no condition. -/
import Derived.Test.YtmdeppkfboaepaaGreatAbArg
import Derived.Test.YtmdeppkfboaepaaGreatRows
import Derived.WalkKit
import Derived.ProofKit
import Derived.OpenShut
import Derived.ShutString
import Derived.ChangeOld
import Derived.Below
import Derived.SizedLaws
import Derived.Test.YtmdeppkfboaepaaGreatM10
set_option maxHeartbeats 8000000
set_option linter.unusedSimpArgs false
set_option linter.unusedVariables false
namespace Go.Proofs.YtmdeppkfboaepaaGreat
open Go.Ab Ints
theorem C82 (a b : Int × Nat) : C5s true 2 (dV a) (dV b) = some (.bool (!decide (a = b))) := by
 obtain ⟨a1, a2⟩ := a; obtain ⟨b1, b2⟩ := b; have h : decide ((a1, a2) = (b1, b2)) = (decide (a1 = b1) && decide ((a2 : Int) = (b2 : Int))) := by
  rw [Bool.eq_iff_iff]; simp; omega
 rw [h]; cases h1 : decide (a1 = b1) <;> cases h2 : decide ((a2 : Int) = (b2 : Int)) <;> simp_all [C5s, eqL]
theorem C18 (lim : Nat) (a b : Value) (la lb : List Int) (H : A1) (hl : lim ≤ H.next) (ha : SlB H a la) (hb : SlB H b lb) :
 A5 Tryz.prog lim B6z [a, b] H fun v H' => v = .bool true := by
 refine A4s.go rfl ?_; unfold A6r; refine A0 ?_; simp only [sS]; refine A9 ?_; simp only [sS]; refine (D3c lim a b _ _ _ _ H ha.sl hb.sl).mono ?_; rintro _ H' ⟨⟨bg, rfl⟩, rfl⟩; simp only [sS]; refine C4.split (fun hg => ?_) (fun hg => ?_)
 ·refine A0 ?_; simp only [sS]; refine A3 ?_; simp +decide only [sQ]
 clear hg; refine A2 ?_; simp +decide only [sQ]; refine A0 ?_; simp only [sS]; refine (C3g lim a la H' hl ha).mono ?_; rintro _ H1 ⟨⟨x, bx, sd, up, rfl, ⟨p, pb, _, hpv, hpl⟩, hbA⟩, hx1⟩; have hn1 := hx1.next; obtain ⟨k, bs, bt, bb, bc, L, U, rfl, _, _, hbv, hbw, hL3, hU3⟩ := hbA; have st0 : C8 lim (H1.alloc z3) 3 (.pointer (some ⟨H1.next, 0, none⟩)) (.agg #[.int .i64 k, bs, bt]) = some (undef, H1.alloc [.int .i64 k, bs, bt]) := E7 (by omega); simp only [sS, st0]; have hx2 := Ext.alloc H1 [.int .i64 k, bs, bt]; have hb2 : (H1.alloc [.int .i64 k, bs, bt]).blk H1.next = some [.int .i64 k, bs, bt] := A6 _ _; have hn2 : (H1.alloc [.int .i64 k, bs, bt]).next = H1.next + 1 := rfl; generalize H1.alloc [.int .i64 k, bs, bt] = H2 at hx2 hb2 hn2 ⊢; generalize hq : H1.next = q at *
 have keep : ∀ G, Ext H2 G → SlT G x p ∧ V6 G (.agg #[.int .i64 k, bs, bt]) k L U ∧ D5 G 3 (Ptr q) = some (.agg #[.int .i64 k, bs, bt]) ∧ lim ≤ G.next := fun G hg => by
  have := hg.next; exact ⟨(G8.ext hpv (hx2.trans hg)).sl, ⟨bs, bt, rfl, (Vec.ext hbv (hx2.trans hg)).sl, (Vec.ext hbw (hx2.trans hg)).sl⟩, E9 (by rw [hg.blk _ (by omega)]; exact hb2), by omega⟩
 have keepB : ∀ G, Ext H2 G → SlB G b lb := fun G hg => hb.ext (hx1.trans (hx2.trans hg))
 generalize hR : fsR p k L U sd up = R; obtain ⟨k1, k2, k3, k4⟩ := keep H2 (Ext.refl _); refine A0 ?_; simp only [sS, k3]; refine (B52 lim x _ p k L U sd up H2 k4 k1 k2 (by omega) (by omega) (by omega)).mono ?_; rintro _ H3 ⟨rfl, hx3⟩; rw [hR]; simp only [sS]; obtain ⟨k1, k2, k3, k4⟩ := keep H3 hx3; refine A0 ?_; simp only [sS, k3]; refine (C88 lim x _ p k L U sd up H3 k4 k1 k2 (by omega) (by omega) (by omega)).mono ?_; rintro _ H4 ⟨rfl, hx4⟩; rw [hR]; simp only [sS]; have hx24 := hx3.trans hx4; have hne0 : (R.1 != R.1) = false := by simp
 refine D7 false ?_ (fun hg => absurd hg (by decide)) (fun _ => ?_)
 ·simp only [sS, hne0]; simp
 refine A2 ?_; simp +decide only [sQ]; refine C1v (fun e' G => Ext H2 G ∧ ∃ (y12 y13 y14 y15 y16 y17 y18 y19 y20 y45 y46 y47 y11 : Value), e' = [a, b, .bool false, x, Ptr q, .int .i64 sd, .bool up, .int .i64 R.1, .bool R.2, .int .i64 R.1, .bool R.2, y11, y12, y13, y14, y15, y16, y17, y18, y19, y20, undef, undef, undef, undef, undef, undef, undef, undef, undef, undef, undef, undef, undef, undef, undef, undef, undef, undef, undef, undef, undef, undef, undef, undef, y45, y46, y47, undef, undef]) ?_ ?_
 ·refine D0 (R.2 && (R.1 != 0)) ?_ (fun hg => ?_) (fun hg => ?_)
  ·cases hr2 : R.2 <;> simp only [sS]
   ·simp
   ·simp [bne]
  ·-- all have the sign of the face
   have hR0 : R.2 = true ∧ R.1 ≠ 0 := by simpa [bne] using hg
   unfold fsR at hR; cases hbs : (A3x p k L U && (decide (0 ≤ sd) && decide (sd ≤ (L.length : Int) - 1)))
   ·rw [hbs] at hR; subst hR; exact absurd hR0.1 (by simp)
   rw [hbs, if_pos rfl] at hR; simp only [Bool.and_eq_true, decide_eq_true_eq] at hbs; obtain ⟨hbel, hs0, hs1⟩ := hbs; obtain ⟨q1, q2, q3, kn, hkn, hcr⟩ := A1k hbel; obtain ⟨sn, rfl⟩ : ∃ n : Nat, sd = n := ⟨sd.toNat, by omega⟩; have hsn : sn < L.length := by omega
   subst hkn; rw [Int.toNat_natCast, Int.toNat_natCast] at hR; obtain ⟨k1, k2, k3, k4⟩ := keep H4 hx24; refine A0 ?_; simp only [sS, k3]; refine (C5h lim _ kn L U H4 k4 k2 q2).mono ?_; rintro _ H5 ⟨⟨xc, bG, lo, ps, rfl, hG, hps⟩, hx5⟩; have hx25 := hx24.trans hx5; have hn5 := hx25.next; simp only [sS]; refine D7 false ?_ (fun hg => absurd hg (by decide)) (fun _ => ?_)
   ·simp only [sS]; simp
   refine A2 ?_; simp +decide only [sQ]; obtain ⟨k1, k2, k3, k4⟩ := keep H5 hx25; refine A0 ?_; simp only [sS, k3]; refine (C7q lim _ kn sn L U H5 k4 k2 q2 hsn).mono ?_; rintro _ H6 ⟨rfl, hx6⟩; have hn6 := hx6.next; simp only [sS]; have hy1 := Ext.alloc H6 [.int .i64 0, .int .i64 0]; have hy1b : (H6.alloc [.int .i64 0, .int .i64 0]).blk H6.next = some [.int .i64 0, .int .i64 0] := A6 _ _; have hy1n : (H6.alloc [.int .i64 0, .int .i64 0]).next = H6.next + 1 := rfl; generalize H6.alloc [.int .i64 0, .int .i64 0] = H7 at hy1 hy1b hy1n ⊢; have hy2 := Ext.alloc H7 [.int .i64 0, .int .i64 0]; have hy2b : (H7.alloc [.int .i64 0, .int .i64 0]).blk H7.next = some [.int .i64 0, .int .i64 0] := A6 _ _; have hy2n : (H7.alloc [.int .i64 0, .int .i64 0]).next = H7.next + 1 := rfl; generalize H7.alloc [.int .i64 0, .int .i64 0] = H8 at hy2 hy2b hy2n ⊢; have hy1b8 : H8.blk H6.next = some [.int .i64 0, .int .i64 0] := by rw [hy2.blk _ (by omega)]; exact hy1b
   generalize hdl : E6 (L.getD sn 0) kn = dl; generalize hdu : E6 (U.getD sn 0) kn = du; have st1 : C8 lim H8 2 (.pointer (some ⟨H6.next, 0, none⟩)) (dV dl) = some (undef, H8.put H6.next [vi dl.1, vi (dl.2 : Int)]) := X4 (by omega) hy1b8; have st2 : C8 lim (H8.put H6.next [vi dl.1, vi (dl.2 : Int)]) 2 (.pointer (some ⟨H7.next, 0, none⟩)) (dV du) = some (undef, (H8.put H6.next [vi dl.1, vi (dl.2 : Int)]).put H7.next [vi du.1, vi (du.2 : Int)]) := X4 (by omega) (by rw [K5 _ _ (by omega)]; exact hy2b); simp only [sS, st1, st2]; have hx8 : Ext H6 ((H8.put H6.next [vi dl.1, vi (dl.2 : Int)]).put H7.next [vi du.1, vi (du.2 : Int)]) := Chg.ext (Chg.ext (hy1.trans hy2) (Chg.put _ _ _) (Nat.le_refl _)) (Chg.put _ _ _) (by omega); have bl : ((H8.put H6.next [vi dl.1, vi (dl.2 : Int)]).put H7.next [vi du.1, vi (du.2 : Int)]).blk H6.next = some [vi dl.1, vi (dl.2 : Int)] := by rw [K5 _ _ (by omega)]; exact D3 _ _ _
   have bu : ((H8.put H6.next [vi dl.1, vi (dl.2 : Int)]).put H7.next [vi du.1, vi (du.2 : Int)]).blk H7.next = some [vi du.1, vi (du.2 : Int)] := D3 _ _ _; have bn : ((H8.put H6.next [vi dl.1, vi (dl.2 : Int)]).put H7.next [vi du.1, vi (du.2 : Int)]).next = H8.next := rfl; generalize (H8.put H6.next [vi dl.1, vi (dl.2 : Int)]).put H7.next [vi du.1, vi (du.2 : Int)] = H9 at hx8 bl bu bn ⊢; have hx29 := hx25.trans (hx6.trans hx8); have hG9 := hG.ext (hx6.trans hx8); have hpl2 : ps.length = (crn L U).length := by have := congrArg List.length hps; simpa using this
   have hUL : U.length = L.length := by have := hcr.hU; omega
   have hps8 : ps.length ≤ 8 := by
    rw [hpl2, C07 L U hUL]; exact Nat.pow_le_pow_right (by decide) (by have := hcr.n3; omega : L.length ≤ 3)
   refine A0 ?_; simp only [sS, hG9.lenV]; refine A8 ?_; refine B9 (fun j e' G => ∃ (i : Nat) (y16 y17 y18 y19 y20 : Value), i + j = ps.length ∧ Ext H9 G ∧ e' = [a, b, .bool false, x, Ptr q, .int .i64 sn, .bool up, .int .i64 R.1, .bool R.2, .int .i64 R.1, .bool R.2, xc, .bool true, .pointer (some ⟨H6.next, 0, none⟩), .pointer (some ⟨H7.next, 0, none⟩), .bool true, y16, y17, y18, y19, y20, undef, undef, undef, undef, undef, undef, undef, undef, undef, undef, undef, undef, undef, undef, undef, undef, undef, undef, undef, undef, undef, undef, undef, undef, xc, .int .i64 ps.length, .int .i64 i, undef, undef]) ps.length ⟨0, _, _, _, _, _, by omega, Ext.refl _, rfl⟩ ?_; rintro j e' G ⟨i, y16, y17, y18, y19, y20, hij, hxG, rfl⟩; refine A9 ?_; simp only [sS]; refine C4.split (fun hlt => ?_) (fun hlt => ?_)
   ·have hlt' : i < ps.length := by have := of_decide_eq_true hlt; omega
    obtain ⟨b6, o6, i6, c6, s6⟩ := (hG9.ext hxG).at hlt'; have hic : i < (crn L U).length := by omega
    have hpi : ps[i].2 = dnl kn (crn L U)[i] := by
     have := congrArg (fun z => z[i]?) hps; simp [hlt', hic] at this; exact this
    have hmem := List.getElem_mem hic; generalize ps[i] = pt at c6 s6 hpi; generalize (crn L U)[i] = c at hpi hmem; obtain ⟨pv, pc2⟩ := pt; simp only at c6 s6 hpi; subst hpi; obtain ⟨hclen, hcor⟩ := B1c hUL hmem; obtain ⟨b7, o7, i7, a7⟩ := s6.at (i := sn) (by simp; omega); have hdn : (dnl kn c)[sn]'(by simp; omega) = E6 (c.getD sn 0) kn := by simp [List.getD_eq_getElem?_getD, (by omega : sn < c.length)]
    rw [hdn] at a7; have l13 : D5 G 2 (.pointer (some ⟨H6.next, 0, none⟩)) = some (dV dl) := Z9 (by rw [hxG.blk _ (by omega)]; exact bl); have l14 : D5 G 2 (.pointer (some ⟨H7.next, 0, none⟩)) = some (dV du) := Z9 (by rw [hxG.blk _ (by omega)]; exact bu); obtain ⟨k1, k2, k3, k4⟩ := keep G (hx29.trans hxG); refine A2 ?_; simp +decide only [sQ]; refine A7 ?_; refine A0 ?_; simp only [sS, i6, c6]; refine D7 (if up then !decide (E6 (c.getD sn 0) kn = du) else !decide (E6 (c.getD sn 0) kn = dl)) ?_ (fun hg => ?_) (fun hg => ?_)
    ·cases up
     ·simp only [sS, i7, a7.all, l13, C82]; simp
     ·cases hd : decide (E6 (c.getD sn 0) kn = du) <;> simp only [sS, i7, a7.all, l14, C82, hd] <;> simp
    ·refine B8 ?_; simp +decide only [sQ, reduceIte]; refine A4 ?_; simp only [sS, D6 (i := i) (by omega)]; simp +decide only [sQ]; exact C6.mk (j - 1) (by omega) ⟨i + 1, _, _, _, _, _, by omega, hxG, rfl⟩
    refine A2 ?_; simp +decide only [sQ]; have hat : c.getD sn 0 = if up then U.getD sn 0 else L.getD sn 0 := by
     cases up
     ·simp only [Bool.false_eq_true, if_false, Bool.not_eq_false', decide_eq_true_eq, ← hdl] at hg ⊢; exact C0o hg
     ·simp only [if_true, Bool.not_eq_false', decide_eq_true_eq, ← hdu] at hg ⊢; exact C0o hg
    have hne : fcS kn p L U sn up ≠ 0 := by rw [← hR] at hR0; exact hR0.2
    obtain ⟨hK, hsg⟩ := C91 hbel hsn hmem hat hne; have hsR : J5 (vk kn c p) = R.1 := by rw [hsg, ← hR]
    refine A0 ?_; simp only [sS]; refine (C5i lim x pv p c kn G k4 k1 s6 hK).mono ?_; rintro _ G1 ⟨rfl, hxG1⟩; simp only [sS]; have hnG1 := hxG1.next; refine A0 ?_; simp only [sS]; refine (C5d lim x pv p c kn G1 (by omega) (k1.ext hxG1) (s6.ext hxG1) hK).mono ?_; rintro _ G2 ⟨rfl, hxG2⟩; rw [hsR]; simp only [sS]; refine D0 false ?_ (fun hg => absurd hg (by decide)) (fun _ => ?_)
    ·simp only [sS, hne0]; simp
    refine A2 ?_; simp +decide only [sQ]; refine A4 ?_; simp only [sS, D6 (i := i) (by omega)]; simp +decide only [sQ]; exact C6.mk (j - 1) (by omega) ⟨i + 1, _, _, _, _, _, by omega, hxG.trans (hxG1.trans hxG2), rfl⟩
   refine B8 ?_; simp +decide only [sQ, reduceIte]; exact ⟨hx29.trans hxG, _, _, _, _, _, _, _, _, _, _, _, _, _, rfl⟩
  ·refine A2 ?_; simp +decide only [sQ]; exact ⟨hx24, _, _, _, _, _, _, _, _, _, _, _, _, _, rfl⟩
 rintro e' H5 ⟨hx5, y12, y13, y14, y15, y16, y17, y18, y19, y20, y45, y46, y47, y11, rfl⟩; have hn5 := hx5.next; have hB5 := keepB H5 hx5; clear hR hne0 hx24 hx3 hx4 k1 k2 k3 k4; refine A0 ?_; simp only [sS]; refine (C5t lim b lb H5 (by omega) hB5).mono ?_; rintro _ H6 ⟨⟨x2, bx2, rfl, ⟨p2, hp2, hpl2⟩, hbA2⟩, hx6⟩; have hn6 := hx6.next; obtain ⟨kk, cs, ct, cb, cc, L2, U2, rfl, _, _, hcv, hcw, hL2, hU2⟩ := hbA2; have st6 : C8 lim (H6.alloc z3) 3 (.pointer (some ⟨H6.next, 0, none⟩)) (.agg #[.int .i64 kk, cs, ct]) = some (undef, H6.alloc [.int .i64 kk, cs, ct]) := E7 (by omega); simp only [sS, st6]; have hx7 := Ext.alloc H6 [.int .i64 kk, cs, ct]; have hb7 : (H6.alloc [.int .i64 kk, cs, ct]).blk H6.next = some [.int .i64 kk, cs, ct] := A6 _ _; have hn7 : (H6.alloc [.int .i64 kk, cs, ct]).next = H6.next + 1 := rfl; generalize H6.alloc [.int .i64 kk, cs, ct] = H7 at hx7 hb7 hn7 ⊢; generalize hq2 : H6.next = q2 at *
 have keep2 : ∀ G, Ext H7 G → SlT G x2 p2 ∧ V6 G (.agg #[.int .i64 kk, cs, ct]) kk L2 U2 ∧ D5 G 3 (Ptr q2) = some (.agg #[.int .i64 kk, cs, ct]) ∧ lim ≤ G.next ∧ G.cell q2 1 = some cs ∧ SlI G cs L2 := fun G hg => by
  have := hg.next; have hblk : G.blk q2 = some [.int .i64 kk, cs, ct] := by rw [hg.blk _ (by omega)]; exact hb7
  exact ⟨hp2.ext (hx7.trans hg), ⟨cs, ct, rfl, (Vec.ext hcv (hx7.trans hg)).sl, (Vec.ext hcw (hx7.trans hg)).sl⟩, E9 hblk, by omega, B7 hblk 1, (Vec.ext hcv (hx7.trans hg)).sl⟩
 have hB7 := hB5.ext (hx6.trans hx7); clear hx6 hbv hbw hcv hcw hb2 hb7 hp2 hpv keep keepB; generalize hR2 : osR p2 kk L2 U2 = R2; have hR2l : R2.1.length ≤ 1000 := by
  rw [← hR2]; unfold osR; split
  ·have := B5e kk.toNat p2 L2 U2 L2.length; simp only; omega
  ·simp
 obtain ⟨k1, k2, k3, k4, _, _⟩ := keep2 H7 (Ext.refl _); refine A0 ?_; simp only [sS, k3]; refine (D19 lim x2 _ p2 kk L2 U2 H7 k4 k1 k2 (by omega) (by omega) (by omega)).mono ?_; rintro _ H8 ⟨⟨xi, rfl, hxi⟩, hx8⟩; rw [hR2] at hxi ⊢; simp only [sS]; obtain ⟨k1, k2, k3, k4, _, _⟩ := keep2 H8 hx8; refine A0 ?_; simp only [sS, k3]; refine (D02 lim x2 _ p2 kk L2 U2 H8 k4 k1 k2 (by omega) (by omega) (by omega)).mono ?_; rintro _ H9 ⟨⟨xs, rfl, hxs⟩, hx9⟩; rw [hR2] at hxs ⊢; simp only [sS]; have hxi9 := SlI.ext hxi hx9; have hx79 := hx8.trans hx9; have hself : ∀ l : List Int, decide (l = l) = true := fun l => by simp
 refine D7 false ?_ (fun hg => absurd hg (by decide)) (fun _ => ?_)
 ·simp only [sS]; refine (C16 _ _ _ _ _ _ hxi9 hxs (by omega)).eq ?_; rw [hself]; simp only [sS]; simp
 refine A2 ?_; simp +decide only [sQ]; refine C1v (fun e' G => Ext H7 G ∧ ∃ (z27 z28 z29 z30 z31 z48 z49 : Value), e' = [a, b, .bool false, x, Ptr q, .int .i64 sd, .bool up, .int .i64 R.1, .bool R.2, .int .i64 R.1, .bool R.2, y11, y12, y13, y14, y15, y16, y17, y18, y19, y20, x2, Ptr q2, xi, .bool R2.2, xs, .bool R2.2, z27, z28, z29, z30, z31, undef, undef, undef, undef, undef, undef, undef, undef, undef, undef, undef, undef, undef, y45, y46, y47, z48, z49]) ?_ ?_
 ·refine D0 R2.2 ?_ (fun hg => ?_) (fun hg => ?_)
  ·simp only [sS]; simp
  ·-- each side
   unfold osR at hR2; cases hbel : A3x p2 kk L2 U2
   ·rw [hbel] at hR2; subst hR2; exact absurd hg (by simp)
   rw [hbel, if_pos rfl] at hR2; obtain ⟨q1, q2', q3, kn, hkn, hcr⟩ := A1k hbel; subst hkn; rw [Int.toNat_natCast] at hR2; obtain ⟨k1, k2, k3, k4, k5, k6⟩ := keep2 H9 hx79; refine A0 ?_; simp only [sS, Nat.zero_add, k5, k6.lenV]; refine A8 ?_; refine B9 (fun j e' G => ∃ (i : Nat) (z27 z28 z29 z30 z31 : Value), i + j = L2.length ∧ Ext H9 G ∧ e' = [a, b, .bool false, x, Ptr q, .int .i64 sd, .bool up, .int .i64 R.1, .bool R.2, .int .i64 R.1, .bool R.2, y11, y12, y13, y14, y15, y16, y17, y18, y19, y20, x2, Ptr q2, xi, .bool R2.2, xs, .bool R2.2, z27, z28, z29, z30, z31, undef, undef, undef, undef, undef, undef, undef, undef, undef, undef, undef, undef, undef, y45, y46, y47, .int .i64 L2.length, .int .i64 i]) L2.length ⟨0, _, _, _, _, _, by omega, Ext.refl _, rfl⟩ ?_; rintro j e' G ⟨i, z27, z28, z29, z30, z31, hij, hxG, rfl⟩; refine A9 ?_; simp only [sS]; refine C4.split (fun hlt => ?_) (fun hlt => ?_)
   ·have hlt' : i < L2.length := by have := of_decide_eq_true hlt; omega
    have hfs : ∀ u : Bool, fsR p2 (kn : Int) L2 U2 (i : Int) u = (fcS kn p2 L2 U2 i u, true) := by
     intro u; unfold fsR; rw [hbel, show (decide (0 ≤ (i : Int)) && decide ((i : Int) ≤ (L2.length : Int) - 1)) = true by simp; omega]; simp
    refine A2 ?_; simp +decide only [sQ]; refine A7 ?_; refine A0 ?_; simp only [sS]; obtain ⟨k1, k2, k3, k4, k5, k6⟩ := keep2 G (hx79.trans hxG); refine A0 ?_; simp only [sS, k3]; refine (B52 lim x2 _ p2 kn L2 U2 i false G k4 k1 k2 (by omega) (by omega) (by omega)).mono ?_; rintro _ G1 ⟨rfl, hxG1⟩; rw [hfs]; simp only [sS]; obtain ⟨k1, k2, k3, k4, k5, k6⟩ := keep2 G1 (hx79.trans (hxG.trans hxG1)); refine A0 ?_; simp only [sS, k3]; refine (B52 lim x2 _ p2 kn L2 U2 i true G1 k4 k1 k2 (by omega) (by omega) (by omega)).mono ?_; rintro _ G2 ⟨rfl, hxG2⟩; rw [hfs]; simp only [sS]; have hmem := C8v kn p2 L2 U2 L2.length i hlt'; have hxs2 := SlI.ext hxs (hxG.trans (hxG1.trans hxG2)); have hw := B00 kn p2 L2 U2 i false true; refine D0 false ?_ (fun hg => absurd hg (by decide)) (fun _ => ?_)
    ·simp only [sS]; refine (D30 _ _ R2.1 _ _ hxs2 (by omega)).eq ?_; rw [← hR2, hmem]; simp only [sS, hw]; unfold B2r; simp only [sS]; simp
    refine A2 ?_; simp +decide only [sQ]; refine A4 ?_; simp only [sS, D6 (i := i) (by omega)]; simp +decide only [sQ]; exact C6.mk (j - 1) (by omega) ⟨i + 1, _, _, _, _, _, by omega, hxG.trans (hxG1.trans hxG2), rfl⟩
   refine B8 ?_; simp +decide only [sQ, reduceIte]; exact ⟨hx79.trans hxG, _, _, _, _, _, _, _, rfl⟩
  ·refine A2 ?_; simp +decide only [sQ]; exact ⟨hx79, _, _, _, _, _, _, _, rfl⟩
 rintro e' HA ⟨hxA, z27, z28, z29, z30, z31, z48, z49, rfl⟩; have hnA := hxA.next; have hBA := hB7.ext hxA; clear keep2 hR2 hR2l hxi hxs hxi9 hx8 hx9 hx79 k1 k2 k3 k4; refine A0 ?_; simp only [sS]; refine (C1u lim b lb HA (by omega) hBA).mono ?_; rintro _ HB ⟨⟨x3, bx3, ss, times, rfl, hS, hsm, hbA3⟩, hxB⟩; have hnB := hxB.next; obtain ⟨kp, ds, dt, db, dc, L3, U3, rfl, _, _, hdv, hdw, hL3', hU3'⟩ := hbA3; have stB : C8 lim (HB.alloc z3) 3 (.pointer (some ⟨HB.next, 0, none⟩)) (.agg #[.int .i64 kp, ds, dt]) = some (undef, HB.alloc [.int .i64 kp, ds, dt]) := E7 (by omega); simp only [sS, stB]; have hxC := Ext.alloc HB [.int .i64 kp, ds, dt]; have hbC : (HB.alloc [.int .i64 kp, ds, dt]).blk HB.next = some [.int .i64 kp, ds, dt] := A6 _ _; have hnC : (HB.alloc [.int .i64 kp, ds, dt]).next = HB.next + 1 := rfl; generalize HB.alloc [.int .i64 kp, ds, dt] = HC at hxC hbC hnC ⊢; generalize hq3 : HB.next = q3 at *
 have keep3 : ∀ G, Ext HC G → l3 G x3 ss ∧ V6 G (.agg #[.int .i64 kp, ds, dt]) kp L3 U3 ∧ D5 G 3 (Ptr q3) = some (.agg #[.int .i64 kp, ds, dt]) ∧ lim ≤ G.next := fun G hg => by
  have := hg.next; exact ⟨hS.ext (hxC.trans hg), ⟨ds, dt, rfl, (Vec.ext hdv (hxC.trans hg)).sl, (Vec.ext hdw (hxC.trans hg)).sl⟩, E9 (by rw [hg.blk _ (by omega)]; exact hbC), by omega⟩
 clear hxB hdv hdw hbC hS; have hss1 : ss.length ≤ 1000000 := by have := hsm.1; omega
 have hss2 : ∀ p ∈ ss, p.length ≤ 1000000 := fun p hp => by have := hsm.2 p hp; omega
 obtain ⟨k1, k2, k3, k4⟩ := keep3 HC (Ext.refl _); refine A0 ?_; simp only [sS, k3]; refine (B1s lim x3 _ ss kp L3 U3 times HC k4 k1 k2 hss1 hss2 (by omega) (by omega)).mono ?_; rintro _ HD ⟨⟨xm, rfl, hxm⟩, hxD⟩; simp only [sS]; obtain ⟨k1, k2, k3, k4⟩ := keep3 HD hxD; refine A0 ?_; simp only [sS, k3]; refine (C14 lim x3 _ ss kp L3 U3 times HD k4 k1 k2 hss1 hss2 (by omega) (by omega)).mono ?_; rintro _ HE ⟨⟨xn, rfl, hxn⟩, hxE⟩; simp only [sS]; obtain ⟨k1, k2, k3, k4⟩ := keep3 HE (hxD.trans hxE); refine A0 ?_; simp only [sS, k3]; refine (C7i lim x3 _ ss kp L3 U3 HE k4 k1 k2 hss1 hss2 (by omega) (by omega)).mono ?_; rintro _ HF ⟨rfl, hxF⟩; simp only [sS]; obtain ⟨k1, k2, k3, k4⟩ := keep3 HF (hxD.trans (hxE.trans hxF)); refine A0 ?_; simp only [sS, k3]; refine (C7j lim x3 _ ss kp L3 U3 HF k4 k1 k2 hss1 hss2 (by omega) (by omega)).mono ?_; rintro _ HG ⟨rfl, hxG⟩; simp only [sS]; have hxCG := hxD.trans (hxE.trans (hxF.trans hxG)); have hm9 := hxm.sl; have hm : SlI HG xm (zl ((mpR ss kp L3 U3 times).getD [])) := SlI.ext hm9 (hxE.trans (hxF.trans hxG)); have hn : SlI HG xn (zl ((mpR ss kp L3 U3 times).getD [])) := SlI.ext hxn.sl (hxF.trans hxG); have hlm := @C9p ss kp L3 U3; generalize lmR ss kp L3 U3 = M at hlm; have hneM : (M.1 != M.1) = false := by simp
 have hlen1 : (zl ((mpR ss kp L3 U3 times).getD [])).length ≤ 1000 := D1g; refine D7 false ?_ (fun hg => absurd hg (by decide)) (fun _ => ?_)
 ·simp only [sS]; refine (C16 _ _ _ _ _ _ hm hn (by omega)).eq ?_; rw [hself]; simp only [sS, hneM]; simp
 refine A2 ?_; simp +decide only [sQ]; refine A9 ?_; simp only [sS]; refine C4.split (fun h5 => ?_) (fun h5 => ?_)
 ·obtain ⟨⟨l1, hl1, hl1n⟩, hless⟩ := hlm h5; obtain ⟨k1, k2, k3, k4⟩ := keep3 HG hxCG; refine A0 ?_; simp only [sS, k3]; refine (B1s lim x3 _ ss kp L3 U3 M.1 HG k4 k1 k2 hss1 hss2 (by omega) (by omega)).mono ?_; rintro _ HI ⟨⟨xo, rfl, hxo⟩, hxI⟩; rw [hl1] at hxo ⊢; have ho : SlI HI xo (zl l1) := hxo.sl; have hn2 := SlI.ext hn hxI; simp only [sS, Option.isSome_some]; have hol : ((zl l1).length : Int) ≠ 0 := by
   cases l1 with
   | nil => exact absurd rfl hl1n
   | cons y l => simp [zl]; omega
  have hol2 : (((zl l1).length : Int) == 0) = false := by simpa using hol
  refine D0 false ?_ (fun hg => absurd hg (by decide)) (fun _ => ?_)
  ·simp only [sS, ho.lenV, hol2]; cases hmp : mpR ss kp L3 U3 times with
   | none =>
     simp only [sS, Option.isSome_none]; simp
   | some l' =>
     rw [hmp] at hn2; simp only [sS, Option.isSome_some]; by_cases ht : times < M.1
     ·have : l' = [] := hless times l' ht hmp; subst this; have hd : decide (times < M.1) = true := decide_eq_true ht; have hlz := hn2.lenV; simp only [sS, hd, hlz]; simp [zl]
     ·have hd : decide (times < M.1) = false := decide_eq_false ht; simp only [sS, hd]; simp
  refine A2 ?_; simp +decide only [sQ]; refine A0 ?_; simp only [sS]; refine A3 ?_; simp +decide only [sQ]
 refine A2 ?_; simp +decide only [sQ]; refine A0 ?_; simp only [sS]; refine A3 ?_; simp +decide only [sQ]
end Go.Proofs.YtmdeppkfboaepaaGreat
namespace Go.Proofs.YtmdeppkfboaepaaGreat
open Go.Ab Ints
set_option maxRecDepth 100000
theorem own : ownKnob Tryz.prog.godebug = none := by kernel_rfl
theorem C6k : laidOutB Tryz.prog = true := by kernel_rfl
theorem D57 {P : Program} {H : A1} {n a b} {avs : List Value} (h : B6u P H n [a, b] avs) : ∃ v u, avs = [v, u] ∧ B30 P H n a v ∧ B30 P H n b u := by
 match avs, h with
 | [v, u], h => exact ⟨v, u, rfl, h.1, h.2.1⟩
theorem C5x {x : Int} (h : (Lit.int .u8 x).wf = true) : 0 ≤ x ∧ x ≤ 255 := by
 simp [Lit.wf, IntKind.min, IntKind.max, IntKind.signed, IntKind.bits] at h; omega
theorem B91 {H : A1} {n : Nat} {v : Value} (h : B30 Tryz.prog H (n + 2) 22 v) : ∃ l, SlB H v l := by
 unfold B30 at h; simp only [Tryz.underlying22] at h; unfold Shp at h; simp only [Tryz.underlying22] at h; have hc : Tryz.prog.cellsOf 5 = 1 := by kernel_rfl
 have e1 : Tryz.prog.bytesOf 5 = 1 := by kernel_rfl
 have er : reachBytes = 140737488351232 := rfl; rcases h with h | ⟨b, len, cap, h, hb, hl, hm, h5⟩
 ·simp only [List.cons.injEq, and_true] at h; subst h; exact ⟨[], Sl.nil _ _, by simp, by simp⟩
 ·simp only [List.cons.injEq, and_true] at h; subst h; rw [e1, er] at hm; rcases h5 with h5 | ⟨cells, h1, h2, h3⟩
  ·have : len = 0 := by omega
   subst this; refine ⟨[], ⟨by simp [A6g], some ⟨b, 0, some 0⟩, cap, rfl, by simp, (by intro h; cases h), (by intro ad h; cases h; exact ⟨.inl rfl, hb⟩), (by intro h; exact absurd rfl h)⟩, by simp, by simp⟩
  ·rw [hc, Nat.mul_one] at h2; have hcell : ∀ i, i < cap → ∃ x : Int, cells[i]? = some (.int .u8 x) ∧ 0 ≤ x ∧ x ≤ 255 := by
    intro i hi; have h4 := h3 i hi; rw [hc, Nat.mul_one] at h4
    match n, h4 with
    | 0, h4 =>
      unfold Shp at h4; simp only [Tryz.underlying5] at h4; obtain ⟨x, h4, hw⟩ := h4; have h6 := congrArg (fun l => l[0]?) h4; simp only [List.getElem?_take, List.getElem?_drop] at h6; exact ⟨x, by simpa using h6, C5x hw⟩
    | n + 1, h4 =>
      unfold Shp at h4; simp only [Tryz.underlying5] at h4; obtain ⟨x, h4, hw⟩ := h4; have h6 := congrArg (fun l => l[0]?) h4; simp only [List.getElem?_take, List.getElem?_drop] at h6; exact ⟨x, by simpa using h6, C5x hw⟩
   have hall : ∃ zs : List Int, cells = A6g zs ∧ ∀ z ∈ zs, 0 ≤ z ∧ z ≤ 255 := by
    clear h3 h1; have hx : ∀ (cs : List Value), (∀ i, i < cs.length → ∃ x : Int, cs[i]? = some (.int .u8 x) ∧ 0 ≤ x ∧ x ≤ 255) → ∃ zs : List Int, cs = A6g zs ∧ ∀ z ∈ zs, 0 ≤ z ∧ z ≤ 255 := by
     intro cs
     induction cs with
     | nil => intro _; exact ⟨[], rfl, by simp⟩
     | cons c cs ih =>
       intro h; obtain ⟨x, hx, hr⟩ := h 0 (by simp); obtain ⟨zs, hz, hzr⟩ := ih (fun i hi => by simpa using h (i + 1) (by simp; omega)); simp at hx; refine ⟨x :: zs, by simp [hx, hz, A6g], ?_⟩; intro z hz'; rcases List.mem_cons.1 hz' with rfl | hz'
       ·exact hr
       ·exact hzr z hz'
    exact hx cells (by rw [h2]; exact hcell)
   obtain ⟨zs, rfl, hzr⟩ := hall; have hz : zs.length = cap := by simpa [A6g] using h2
   have htl : (zs.take len).length = len := by simp; omega
   refine ⟨zs.take len, ⟨by simp [A6g], some ⟨b, 0, some 0⟩, cap, by rw [htl], by omega, (by intro h; cases h), (by intro ad h; cases h; exact ⟨.inl rfl, hb⟩), fun _ => ⟨b, 0, some 0, [], A6g (zs.drop len), rfl, ?_, rfl⟩⟩, fun z hz' => hzr z (List.mem_of_mem_take hz'), by omega⟩; rw [h1, List.nil_append]; unfold A6g; rw [← List.map_append, List.take_append_drop]
end Go.Proofs.YtmdeppkfboaepaaGreat
