/- Parts of the proof of a statement of this seat: contracts of functions that the law calls, or the law's own row; no condition. -/
import Derived.Test.YtmdeppkfboaepaaGreatAbArg
import Derived.Test.YtmdeppkfboaepaaGreatRows
import Derived.WalkKit
import Derived.ProofKit
import Derived.OpenShut
import Derived.ShutString
import Derived.ChangeOld
import Derived.Below
import Derived.SizedLaws
import Derived.Test.YtmdeppkfboaepaaGreatM7
/- FnTransforms: the law's walk; no condition beyond what bytes are. -/
namespace Go.Proofs.YtmdeppkfboaepaaGreat
open Go.Ab Ints
set_option linter.unusedSimpArgs false
set_option linter.unusedVariables false
theorem ResSS.dec {H : AHeap} {lo : Nat} {v : Value} {r : Option (List (List Tm))} (h : ResSS H lo v r) : ∃ x, v = .tuple #[x, .bool r.isSome] ∧ SlSS H x (r.getD []) := by
 obtain ⟨x, h1, h2⟩ := h
 exact ⟨x, h1, h2.slss⟩
theorem sameSS_self (lim : Nat) (a b : Value) (p : List (List Tm)) (H : AHeap) (ha : SlSS H a p) (hb : SlSS H b p) (hs : SmS p) : ACalls Tryz.prog lim n_laws_pSameSystem [a, b] H fun v H' => v = .bool true ∧ H' = H := by
 refine (sameSS_ok lim a b p p H ha hb (by have := hs.1; omega) (fun x hx => by have := hs.2 x hx; omega)).mono ?_
 rintro v H' ⟨rfl, rfl⟩
 exact ⟨by simp, rfl⟩
theorem sameI_self (lim : Nat) (a b : Value) (p : List Int) (H : AHeap) (ha : SlI H a p) (hb : SlI H b p) (hn : p.length ≤ 1000000000) : ACalls Tryz.prog lim n_laws_sameInts [a, b] H fun v H' => v = .bool true ∧ H' = H := by
 refine (sameI_ok lim a b p p H ha hb hn).mono ?_
 rintro v H' ⟨rfl, rfl⟩
 exact ⟨by simp, rfl⟩
theorem SmS.nil : SmS [] := ⟨by simp, by simp⟩
theorem SmS.of3 {l : List (List Tm)} (h : l.length ≤ 3 ∧ ∀ p ∈ l, p.length ≤ 20) : SmS l := ⟨by omega, fun p hp => by have := h.2 p hp; omega⟩
theorem SmS.big {l : List (List Tm)} (h : SmS l) : l.length ≤ 1000000 ∧ ∀ p ∈ l, p.length ≤ 1000000 := ⟨by have := h.1; omega, fun p hp => by have := h.2 p hp; omega⟩
theorem sm_opt {r : Option (List (List Tm))} (h : ∀ l, r = some l → l.length ≤ 3 ∧ ∀ p ∈ l, p.length ≤ 20) : SmS (r.getD []) := by
 cases r with
 | none => exact SmS.nil
 | some l => exact SmS.of3 (h l rfl)
theorem zeros_pc (n : Nat) : zerosL n [.int .i64 0, .int .i64 0] = pc (List.replicate n 0) := by
 induction n with
 | zero => rfl
 | succ n ih =>
   rw [List.replicate_succ, pc_cons, ← ih]
   rfl
theorem mkP {H : AHeap} {n : Nat} (hn : n ≤ 1000) : mksliceH H 16 [.int .i64 0, .int .i64 0] (.int .i64 n) (.int .i64 n) = some (.slice (some ⟨H.next, 0, some 0⟩) n n, H.alloc (pc (List.replicate n 0))) ∧ VecP (H.alloc (pc (List.replicate n 0))) H.next (.slice (some ⟨H.next, 0, some 0⟩) n n) (List.replicate n 0) := by
 refine ⟨?_, ?_⟩
 · simp only [mksliceH]
   rw [if_pos (by omega)]
   simp only [Int.toNat_natCast, zeros_pc]
 · show Vec _ _ _ (List.replicate n (0 : Int)).length 2 _
   rw [List.length_replicate]
   exact Vec.lit (by rw [pc_length, List.length_replicate])
structure Seen (H : AHeap) (ss : List (List Tm)) (u n : Int) (s t sh mi mi2 : Value) : Prop where
 s : SlSS H s ss
 t : SlSS H t ((shR ss u n).getD [])
 sh : SlSS H sh ((shR ss u n).getD [])
 mi : SlSS H mi ((trR (-1) ss u).getD [])
theorem Seen.ext {H H' : AHeap} {ss : List (List Tm)} {u n : Int} {s t sh mi mi2 : Value} (h : Seen H ss u n s t sh mi mi2) (hx : Ext H H') : Seen H' ss u n s t sh mi mi2 := ⟨h.s.ext hx, h.t.ext hx, h.sh.ext hx, h.mi.ext hx⟩
set_option maxHeartbeats 4000000 in
theorem lawTransforms_ok (lim : Nat) (a b : Value) (la lb : List Int) (H : AHeap) (hl : lim ≤ H.next) (ha : SlB H a la) (hb : SlB H b lb) :
   ACalls Tryz.prog lim n_laws_FnTransforms [a, b] H fun v H' => v = .bool true := by
 refine is_laws_FnTransforms.go rfl ?_
 unfold c_laws_FnTransforms
 refine s_reg ?_
 simp only [o_pure, o_nil, POp.ev, Opd.ev, env0, gu, setD, List.set, xsj, xel]
 refine s_test ?_
 simp only [o_pure, o_callF, POp.ev, Opd.ev, gv, setD, List.map, xsj, xel]
 refine (big_ok lim a b _ _ _ _ H ha.sl hb.sl).mono ?_
 rintro _ H' ⟨⟨bg, rfl⟩, rfl⟩
 simp only [o_cont, o_nil, gv, setD]
 refine Test.split (fun hg => ?_) (fun hg => ?_)
 · refine s_reg ?_
   simp only [o_pure, o_nil, POp.ev, Opd.ev, setD, List.set, xsj, xel]
   refine s_ret1 ?_
   simp +decide only [pqr, pfr, resV, resOne, gv, xsj, xel]
 clear hg
 refine s_skip1 ?_
 simp +decide only [pqn]
 refine s_reg ?_
 simp only [o_pure, o_callF, POp.ev, Opd.ev, gv, setD, List.map, xsj, xel]
 refine (drawShift_ok lim a la H' hl ha).mono ?_
 rintro _ H1 ⟨⟨s, ss, u, n, rfl, hs, hsm, hn⟩, hx1⟩
 have hn1 := hx1.next
 obtain ⟨hs1, hs2⟩ := hsm.big
 simp only [o_cont, o_pure, o_nil, POp.ev, Opd.ev, gv, setD, List.set, xsj, xel, extV, List.getElem?_toArray, xgz, xgs]
 refine s_reg ?_
 simp only [o_pure, o_callF, POp.ev, Opd.ev, gv, setD, List.map, xsj, xel]
 refine (iShift_ok lim s ss u n H1 (by omega) hs hs1 hs2).mono ?_
 rintro _ H2 ⟨hr2, hx2⟩
 obtain ⟨t, rfl, ht⟩ := hr2.dec
 have hn2 := hx2.next
 simp only [o_cont, o_pure, o_nil, POp.ev, Opd.ev, gv, setD, List.set, xsj, xel, extV, List.getElem?_toArray, xgz, xgs]
 have hs' := hs.ext hx2
 refine s_reg ?_
 simp only [o_pure, o_callF, POp.ev, Opd.ev, gv, setD, List.map, xsj, xel]
 refine (sShift_ok lim s ss u n H2 (by omega) hs' hs1 hs2).mono ?_
 rintro _ H3 ⟨hr3, hx3⟩
 obtain ⟨sh, rfl, hsh⟩ := hr3.dec
 have hn3 := hx3.next
 simp only [o_cont, o_pure, o_nil, POp.ev, Opd.ev, gv, setD, List.set, xsj, xel, extV, List.getElem?_toArray, xgz, xgs]
 replace hs' := hs'.ext hx3
 refine s_reg ?_
 simp only [o_pure, o_callF, POp.ev, Opd.ev, gv, setD, List.map, xsj, xel]
 refine (iMirror_ok lim s ss u H3 (by omega) hs' hs1 hs2).mono ?_
 rintro _ H4 ⟨hr4, hx4⟩
 obtain ⟨mi, rfl, hmi⟩ := hr4.dec
 have hn4 := hx4.next
 simp only [o_cont, o_pure, o_nil, POp.ev, Opd.ev, gv, setD, List.set, xsj, xel, extV, List.getElem?_toArray, xgz, xgs]
 replace hs' := hs'.ext hx4
 refine s_reg ?_
 simp only [o_pure, o_callF, POp.ev, Opd.ev, gv, setD, List.map, xsj, xel]
 refine (specTimes_ok (-1) (.inr rfl) (.inl ⟨rfl, rfl⟩) lim s ss u H4 (by omega) hs' hs1 hs2).mono ?_
 rintro _ H5 ⟨hr5, hx5⟩
 obtain ⟨mi2, rfl, hmi2⟩ := hr5.dec
 have hn5 := hx5.next
 simp only [o_cont, o_pure, o_nil, POp.ev, Opd.ev, gv, setD, List.set, xsj, xel, extV, List.getElem?_toArray, xgz, xgs]
 replace hs' := hs'.ext hx5
 refine s_reg ?_
 simp only [o_pure, o_callF, POp.ev, Opd.ev, gv, setD, List.map, xsj, xel]
 refine (iStretch_ok lim s ss u H5 (by omega) hs' hs1 hs2).mono ?_
 rintro _ H6 ⟨hr6, hx6⟩
 obtain ⟨st, rfl, hst⟩ := hr6.dec
 have hn6 := hx6.next
 simp only [o_cont, o_pure, o_nil, POp.ev, Opd.ev, gv, setD, List.set, xsj, xel, extV, List.getElem?_toArray, xgz, xgs]
 replace hs' := hs'.ext hx6
 refine s_reg ?_
 simp only [o_pure, o_callF, POp.ev, Opd.ev, gv, setD, List.map, xsj, xel]
 refine (specTimes_ok 2 (.inl rfl) (.inr ⟨rfl, rfl⟩) lim s ss u H6 (by omega) hs' hs1 hs2).mono ?_
 rintro _ H7 ⟨hr7, hx7⟩
 obtain ⟨st2, rfl, hst2⟩ := hr7.dec
 have hn7 := hx7.next
 simp only [o_cont, o_pure, o_nil, POp.ev, Opd.ev, gv, setD, List.set, xsj, xel, extV, List.getElem?_toArray, xgz, xgs]
 replace hs' := hs'.ext hx7
 have hx67 := hx7
 have hx57 := hx6.trans hx67
 have hx47 := hx5.trans hx57
 have hx37 := hx4.trans hx47
 have hx27 := hx3.trans hx37
 have hx07 := hx1.trans (hx2.trans hx27)
 replace ht := ht.ext hx27
 replace hsh := hsh.ext hx37
 replace hmi := hmi.ext hx47
 replace hmi2 := hmi2.ext hx57
 replace hst := hst.ext hx67
 have smT : SmS ((shR ss u n).getD []) := sm_opt fun l h => shR_small h
 have smM : SmS ((trR (-1) ss u).getD []) := sm_opt fun l h => trR_small h
 have smD : SmS ((trR 2 ss u).getD []) := sm_opt fun l h => trR_small h
 have imp1 : (shR ss u n).isSome = true → (trR (-1) ss u).isSome = true := fun h => by
   obtain ⟨l, hl⟩ := Option.isSome_iff_exists.1 h
   exact shR_mirror hl
 have imp2 : (trR 2 ss u).isSome = true → (trR (-1) ss u).isSome = true := fun h => by
   obtain ⟨l, hl⟩ := Option.isSome_iff_exists.1 h
   exact stretch_mirror hl
 generalize hok : (shR ss u n).isSome = ok at imp1
 generalize hone : (trR (-1) ss u).isSome = one at imp1 imp2
 generalize hthree : (trR 2 ss u).isSome = three at imp2
 replace ha := ha.ext hx07
 replace hb := hb.ext hx07
 have hlim : lim ≤ H7.next := by omega
 have hseen : Seen H7 ss u n s t sh mi mi2 := ⟨hs', ht, hsh, hmi⟩
 have hxb : ∀ z : Bool, (!(z == z)) = false := by intro z; cases z <;> rfl
 refine s_test_I false (fun H' => H' = H7) ?_ (fun H8 h8 hg => absurd hg (by decide)) (fun H8 h8 _ => ?_)
 · simp only [o_pure, o_callF, o_guard, gk_ff, POp.ev, Opd.ev, gv, setD, List.map, xsj, xel, boolEq, if_true, beq_self_eq_true, Bool.not_true]
   refine (sameSS_self lim t sh _ H7 ht hsh smT).eq ?_
   simp only [o_cont, o_pure, o_callF, o_guard, gk_ff, POp.ev, Opd.ev, gv, setD, List.map, xsj, xel, pickV, unV, boolEq, if_true, beq_self_eq_true, Bool.not_true]
   refine (sameSS_self lim mi mi2 _ H7 hmi hmi2 smM).eq ?_
   simp only [o_cont, o_pure, o_callF, o_guard, gk_ff, POp.ev, Opd.ev, gv, setD, List.map, xsj, xel, pickV, unV, boolEq, if_true, beq_self_eq_true, Bool.not_true]
   refine (sameSS_self lim st st2 _ H7 hst hst2 smD).eq ?_
   cases ok
   · cases three
     · simp only [o_cont, o_pure, o_guard, gk_ff, gk_ft, o_nil, POp.ev, Opd.ev, gv, setD, xsj, xel, pickV, unV, Bool.not_true]
       exact ⟨trivial, trivial, trivial⟩
     · have h1 := imp2 rfl
       subst h1
       simp only [o_cont, o_pure, o_guard, gk_tt, gk_ff, gk_ft, o_nil, POp.ev, Opd.ev, gv, setD, xsj, xel, pickV, unV, Bool.not_true]
       exact ⟨trivial, trivial, trivial⟩
   · have h1 := imp1 rfl
     subst h1
     cases three
     · simp only [o_cont, o_pure, o_guard, gk_tt, gk_ff, gk_ft, o_nil, POp.ev, Opd.ev, gv, setD, xsj, xel, pickV, unV, Bool.not_true]
       exact ⟨trivial, trivial, trivial⟩
     · simp only [o_cont, o_pure, o_guard, gk_tt, gk_ff, o_nil, POp.ev, Opd.ev, gv, setD, xsj, xel, pickV, unV, Bool.not_true]
       exact ⟨trivial, trivial, trivial⟩
 subst h8
 refine s_skip1 ?_
 simp +decide only [pqn]
 clear hst hst2 smD hmi2 imp1 imp2 hr2 hr3 hr4 hr5 hr6 hr7 hx1 hx2 hx3 hx4 hx5 hx6 hx7 hx67 hx57 hx47 hx37 hx27 hn1 hn2 hn3 hn4 hn5 hn6 hn7 hs hs' ht hsh hmi
 refine s_cut (fun e' H' => Ext H8 H' ∧ ∃ x18 x19 x20 x21 x22 x23 x24 x25 x26 x27 x28 x29 x30 : Value, e' = [a, b, .bool false, s, .int .i64 u, .int .i64 n, t, .bool ok, sh, .bool ok, mi, .bool one, mi2, .bool one, st, .bool three, st2, .bool three, x18, x19, x20, x21, x22, x23, x24, x25, x26, x27, x28, x29, x30, undef, undef, undef, undef, undef, undef, undef, undef, undef, undef, undef, undef, undef, undef, undef, undef, undef, undef, undef, undef, undef]) ?_ ?_
 · refine s_test1_same ok ?_ (fun hg => ?_) (fun hg => ?_)
   · simp only [o_pure, o_nil, POp.ev, Opd.ev, gv, setD, xsj, xel]
     simp
   · obtain ⟨l, hl'⟩ := Option.isSome_iff_exists.1 (hok.trans hg)
     obtain ⟨hgs, hk, hnr, _, hgl⟩ := shR_asked hl'
     obtain ⟨_, gN1, gN2⟩ := (goodSS_iff ss).1 hgs
     have hT := hseen.t
     have hSh := hseen.sh
     rw [hl'] at hT hSh smT
     have hT' : SlSS H8 t l := hT
     have hSh' : SlSS H8 sh l := hSh
     have smL : SmS l := smT
     clear hT hSh
     obtain ⟨hl1, hl2⟩ := smL.big
     have wn : IntKind.i64.wrap (0 - n) = -n := by rw [Int.zero_sub]; exact wr_id (by omega) (by omega)
     refine s_reg ?_
     simp only [o_pure, o_callF, POp.ev, Opd.ev, gv, setD, List.map, xsj, xel, unV, wn]
     refine (iShift_ok lim t l u (-n) H8 hlim hT' hl1 hl2).mono ?_
     rintro _ H9 ⟨hr9, hx9⟩
     rw [shR_back hl'] at hr9
     obtain ⟨bk, rfl, hbk⟩ := hr9.dec
     have hbk' : SlSS H9 bk ss := hbk
     have hn9 := hx9.next
     simp only [o_cont, o_pure, o_nil, POp.ev, Opd.ev, gv, setD, List.set, xsj, xel, extV, List.getElem?_toArray, xgz, xgs, Option.isSome_some]
     refine s_test_I false (fun H' => H' = H9) ?_ (fun H10 h10 hg => absurd hg (by decide)) (fun H10 h10 _ => ?_)
     · simp only [o_pure, o_callF, o_guard, gk_ff, POp.ev, Opd.ev, gv, setD, List.map, xsj, xel, unV, Bool.not_true]
       refine (sameSS_self lim bk s ss H9 hbk' (hseen.s.ext hx9) hsm).eq ?_
       simp only [o_cont, o_pure, o_guard, gk_ff, o_nil, POp.ev, Opd.ev, gv, setD, xsj, xel, pickV, unV, Bool.not_true]
       exact ⟨trivial, trivial, trivial⟩
     subst h10
     refine s_skip1 ?_
     simp +decide only [pqn]
     refine s_reg ?_
     simp only [o_pure, o_nil, POp.ev, Opd.ev, setD, List.set, xsj, xel]
     refine s_block1 ?_
     refine s_loop1 (fun j e' H' => Ext H8 H' ∧ ∃ (x : Int) (x21 x22 x23 x24 x25 x26 x27 x28 x29 x30 : Value), x + j = 2 ∧ -1 ≤ x ∧ e' = [a, b, .bool false, s, .int .i64 u, .int .i64 n, t, .bool ok, sh, .bool ok, mi, .bool one, mi2, .bool one, st, .bool three, st2, .bool three, bk, .bool true, .int .i64 x, x21, x22, x23, x24, x25, x26, x27, x28, x29, x30, undef, undef, undef, undef, undef, undef, undef, undef, undef, undef, undef, undef, undef, undef, undef, undef, undef, undef, undef, undef, undef]) 3 ⟨hx9, -1, _, _, _, _, _, _, _, _, _, _, by omega, by omega, rfl⟩ ?_
     clear hr9 hbk hbk' hn9
     rintro j e' H9 ⟨hx9, x, x21, x22, x23, x24, x25, x26, x27, x28, x29, x30, hxj, hx1, rfl⟩
     have hn9 := hx9.next
     refine s_test ?_
     simp only [o_pure, o_nil, POp.ev, Opd.ev, gv, setD, xsj, xel, binV, ne_eq, xnt, if_false]
     refine Test.split (fun hlt => ?_) (fun hlt => ?_)
     · have hxb1 : -1 ≤ x ∧ x ≤ 1 := ⟨hx1, of_decide_eq_true hlt⟩
       refine s_skip1 ?_
       simp +decide only [pqn]
       refine s_block ?_
       have hlen : lenV s = some (.int .i64 ss.length) := hseen.s.lenV
       obtain ⟨mk1, vp1⟩ := mkP (H := H9) (n := ss.length) (by omega)
       have hxA := Ext.alloc H9 (pc (List.replicate ss.length 0))
       have hnA : (H9.alloc (pc (List.replicate ss.length 0))).next = H9.next + 1 := rfl
       refine s_reg ?_
       simp only [o_pure, o_eff, o_nil, POp.ev, Opd.ev, EOp.ev, gv, setD, List.set, xsj, xel, hlen, mk1]
       generalize (Value.slice (some ⟨H9.next, 0, some 0⟩) ss.length ss.length) = va at vp1 ⊢
       generalize H9.alloc (pc (List.replicate ss.length 0)) = HA at hxA hnA vp1 ⊢
       obtain ⟨mk2, vp2⟩ := mkP (H := HA) (n := ss.length) (by omega)
       have hxB := Ext.alloc HA (pc (List.replicate ss.length 0))
       have hnB : (HA.alloc (pc (List.replicate ss.length 0))).next = HA.next + 1 := rfl
       refine s_reg ?_
       simp only [o_pure, o_eff, o_nil, POp.ev, Opd.ev, EOp.ev, gv, setD, List.set, xsj, xel, hlen, mk2]
       generalize (Value.slice (some ⟨HA.next, 0, some 0⟩) ss.length ss.length) = vm at vp2 ⊢
       generalize HA.alloc (pc (List.replicate ss.length 0)) = HB at hxB hnB vp2 ⊢
       replace vp1 := VecP.ext vp1 hxB
       have h9B := hxA.trans hxB
       have hfx : fillV [.int .i64 0, .int .i64 0] [(0, 1, .int .i64 x)] = some [vi x, vi 0] := by simp [fillV, cellsV]
       have hfn : fillV [.int .i64 0, .int .i64 0] [(0, 1, .int .i64 n)] = some [vi n, vi 0] := by simp [fillV, cellsV]
       have hrl : (List.replicate ss.length (0 : Int)).length = ss.length := List.length_replicate
       have iad1 : iadV 2 va (.int .i64 0) = some (.pointer (some ⟨H9.next, 0, none⟩)) := by
         have := (VecP.at vp1 (i := 0) (by omega)).1
         simpa using this
       obtain ⟨cs1, st1, vq1⟩ := VecP.put (lim := lim) vp1 (by omega) (i := 0) (by omega) x
       rw [Nat.zero_mul] at st1
       refine s_reg ?_
       simp only [o_pure, o_eff, o_nil, POp.ev, Opd.ev, EOp.ev, gv, setD, List.map, xms, xsj, xel, hfx, iad1, st1]
       have hcA := Chg.put H9.next HB cs1
       have hnC : (HB.put H9.next cs1).next = HB.next := rfl
       have vp2' : VecP (HB.put H9.next cs1) HA.next vm (List.replicate ss.length 0) := Vec.chg vp2 hcA (by omega)
       have h9C : Ext H9 (HB.put H9.next cs1) := Chg.ext h9B hcA (Nat.le_refl _)
       have vq1' : VecP (HB.put H9.next cs1) H9.next va (axis ss.length x) := vq1
       generalize HB.put H9.next cs1 = HC at hnC vp2' h9C vq1' ⊢
       clear vp1 vp2 vq1 hcA st1 iad1 mk1 mk2
       have iad2 : iadV 2 vm (.int .i64 0) = some (.pointer (some ⟨HA.next, 0, none⟩)) := by
         have := (VecP.at vp2' (i := 0) (by omega)).1
         simpa using this
       obtain ⟨cs2, st2, vq2⟩ := VecP.put (lim := lim) vp2' (by omega) (i := 0) (by omega) x
       rw [Nat.zero_mul] at st2
       refine s_reg ?_
       simp only [o_pure, o_eff, o_nil, POp.ev, Opd.ev, EOp.ev, gv, setD, List.map, xms, xsj, xel, hfx, iad2, st2]
       have hcB := Chg.put HA.next HC cs2
       have hnD : (HC.put HA.next cs2).next = HC.next := rfl
       have vq1 : VecP (HC.put HA.next cs2) H9.next va (axis ss.length x) := Vec.chg vq1' hcB (by omega)
       have h9D : Ext H9 (HC.put HA.next cs2) := Chg.ext h9C hcB (by omega)
       have vq2' : VecP (HC.put HA.next cs2) HA.next vm (axis ss.length x) := vq2
       generalize HC.put HA.next cs2 = HD at hnD vq1 h9D vq2' ⊢
       clear vq1' vq2 hcB st2 iad2 h9C vp2'
       obtain ⟨k, hku⟩ : ∃ k : Nat, u = k := ⟨u.toNat, by omega⟩
       have hkN : k < (axis ss.length x).length := by rw [axis_length]; omega
       have hkt : u.toNat = k := by omega
       obtain ⟨iad3, at3⟩ := VecP.at vq1 hkN
       rw [← hku] at iad3
       have hgd : (axis ss.length x)[k] = (axis ss.length x).getD k 0 := by rw [List.getD_eq_getElem?_getD, List.getElem?_eq_getElem hkN]; rfl
       have hsmall := axis_small hxb1 _ (List.getElem_mem hkN)
       rw [hgd] at at3 hsmall
       refine s_reg ?_
       simp only [o_pure, o_callF, POp.ev, Opd.ev, gv, setD, List.map, xms, xsj, xel, iad3, at3.all, hfn]
       refine (addD_ok lim ((axis ss.length x).getD k 0) n HD (by omega) (by omega) (by omega)).mono ?_
       rintro _ HE ⟨rfl, hxE⟩
       have hnE := hxE.next
       simp only [o_cont, o_pure, o_eff, o_nil, POp.ev, Opd.ev, EOp.ev, gv, setD, List.set, xsj, xel, extV, List.getElem?_toArray, xgz, xgs, store2_new (lim := lim) (H := HE) (by omega)]
       have hB := BoxP.mk' HE ((axis ss.length x).getD k 0 + n)
       generalize HE.alloc [vi ((axis ss.length x).getD k 0 + n), vi 0] = HF at hB ⊢
       generalize HE.next = q at hB hnE ⊢
       have hDF := hxE.trans hB.ext
       replace vq1 := VecP.ext vq1 hDF
       replace vq2' := VecP.ext vq2' hDF
       have h9F := h9D.trans hDF
       have hnF := hDF.next
       have iad4 := (VecP.at vq2' (i := k) hkN).1
       rw [← hku] at iad4
       obtain ⟨cs3, st3, vq3⟩ := VecP.put (lim := lim) vq2' (by omega) hkN ((axis ss.length x).getD k 0 + n)
       refine s_reg ?_
       simp only [o_pure, o_eff, o_nil, POp.ev, Opd.ev, EOp.ev, gv, setD, xsj, xel, iad4, hB.all, st3]
       have hcC := Chg.put HA.next HF cs3
       have hnG : (HF.put HA.next cs3).next = HF.next := rfl
       have vr1 : VecP (HF.put HA.next cs3) H9.next va (axis ss.length x) := Vec.chg vq1 hcC (by omega)
       have h9G : Ext H9 (HF.put HA.next cs3) := Chg.ext h9F hcC (by omega)
       have vr2 : VecP (HF.put HA.next cs3) HA.next vm (mov (axis ss.length x) u.toNat n) := by rw [hkt]; exact vq3
       generalize HF.put HA.next cs3 = HG at hnG vr1 h9G vr2 ⊢
       clear vq1 vq2' vq3 hcC st3 iad4 iad3 at3 h9F h9D h9B hB
       have h8G := hx9.trans h9G
       have hnG' := h8G.next
       have hax : ∀ y ∈ axis ss.length x, y.natAbs ≤ 1000000 := fun y hy => by have := axis_small hxb1 y hy; omega
       have hmv : ∀ y ∈ mov (axis ss.length x) u.toNat n, y.natAbs ≤ 1000000 := fun y hy => by have := mov_small hxb1 hn y hy; omega
       have hal : (axis ss.length x).length ≤ 1000000 := by rw [axis_length]; omega
       have hml : (mov (axis ss.length x) u.toNat n).length ≤ 1000000 := by unfold mov; rw [List.length_set, axis_length]; omega
       refine s_reg ?_
       simp only [o_pure, o_callF, POp.ev, Opd.ev, gv, setD, List.map, xsj, xel]
       refine (sSignsAt_ok lim s va ss (axis ss.length x) HG (by omega) (hseen.s.ext h8G) vr1.sl hs1 hs2 hal hax).mono ?_
       rintro _ HI ⟨hrI, hxI⟩
       rw [sg_axis hl' hxb1] at hrI
       obtain ⟨y1, rfl, hy1⟩ := hrI
       have hy1' : SlI HI y1 (sgns (axis ss.length x) ss) := hy1
       have hnI := hxI.next
       have h8I := h8G.trans hxI
       simp only [o_cont, o_pure, o_nil, POp.ev, Opd.ev, gv, setD, List.set, xsj, xel, extV, List.getElem?_toArray, xgz, xgs, Option.isSome_some]
       refine s_reg ?_
       simp only [o_pure, o_callF, POp.ev, Opd.ev, gv, setD, List.map, xsj, xel]
       refine (iSignsAt_ok lim t vm l (mov (axis ss.length x) u.toNat n) HI (by omega) (hT'.ext h8I) (VecP.ext vr2 hxI).sl hl1 hl2 hml hmv).mono ?_
       rintro _ HJ ⟨hrJ, hxJ⟩
       obtain ⟨y2, rfl, hy2⟩ := hrJ
       have hnJ := hxJ.next
       have h8J := h8I.trans hxJ
       simp only [o_cont, o_pure, o_nil, POp.ev, Opd.ev, gv, setD, List.set, xsj, xel, extV, List.getElem?_toArray, xgz, xgs]
       refine s_reg ?_
       simp only [o_pure, o_callF, POp.ev, Opd.ev, gv, setD, List.map, xsj, xel]
       refine (sSignsAt_ok lim sh vm l (mov (axis ss.length x) u.toNat n) HJ (by omega) (hSh'.ext h8J) (VecP.ext vr2 (hxI.trans hxJ)).sl hl1 hl2 hml hmv).mono ?_
       rintro _ HK ⟨hrK, hxK⟩
       obtain ⟨y3, rfl, hy3⟩ := hrK
       have hnK := hxK.next
       have h8K := h8J.trans hxK
       simp only [o_cont, o_pure, o_nil, POp.ev, Opd.ev, gv, setD, List.set, xsj, xel, extV, List.getElem?_toArray, xgz, xgs]
       replace hy1' := SlI.ext' hy1' (hxJ.trans hxK)
       replace hy2 := SlI.ext' hy2 hxK
       have hsl : ((sgR l (mov (axis ss.length x) u.toNat n)).getD []).length ≤ 1000000000 := by
         cases hsg : sgR l (mov (axis ss.length x) u.toNat n) with
         | none => simp
         | some r =>
           rw [sg_moved hl' hxb1 hsg]
           show (sgns _ ss).length ≤ _
           simp [sgns]; omega
       refine s_test1_I false (fun H' => H' = HK) ?_ (fun H10 h10 hg => absurd hg (by decide)) (fun H10 h10 _ => ?_)
       · simp only [o_pure, o_callF, o_guard, gk_ff, POp.ev, Opd.ev, gv, setD, List.map, xsj, xel, pickV, unV, boolEq, if_true, beq_self_eq_true, Bool.not_true]
         refine (sameI_self lim y2 y3 _ HK hy2 hy3 hsl).eq ?_
         cases hsg : sgR l (mov (axis ss.length x) u.toNat n) with
         | none =>
           simp only [o_cont, o_pure, o_guard, gk_ff, gk_ft, o_nil, POp.ev, Opd.ev, gv, setD, xsj, xel, pickV, unV, Bool.not_true, Option.isSome_none]
           exact ⟨trivial, trivial, trivial⟩
         | some r =>
           have hr := sg_moved hl' hxb1 hsg
           rw [hsg] at hy3
           have hy3' : SlI HK y3 r := hy3
           rw [hr] at hy3'
           simp only [o_cont, o_pure, o_callF, o_guard, gk_tt, gk_ff, POp.ev, Opd.ev, gv, setD, List.map, xsj, xel, pickV, unV, Bool.not_true, Option.isSome_some]
           refine (sameI_self lim y3 y1 _ HK hy3' hy1' (by simp [sgns]; omega)).eq ?_
           simp only [o_cont, o_pure, o_guard, gk_tt, gk_ff, o_nil, POp.ev, Opd.ev, gv, setD, xsj, xel, pickV, unV, Bool.not_true]
           exact ⟨trivial, trivial, trivial⟩
       subst h10
       refine s_skip1 ?_
       simp +decide only [pqn, pbn]
       have wx : IntKind.i64.wrap (x + 1) = x + 1 := wr_id (by omega) (by omega)
       refine s_reg1 ?_
       simp only [o_pure, o_nil, POp.ev, Opd.ev, gv, setD, List.set, xsj, xel, binV, ne_eq, xnt, if_false, wx]
       simp +decide only [pqn]
       exact Round.mk (j - 1) (by omega) ⟨h8K, x + 1, _, _, _, _, _, _, _, _, _, _, by omega, by omega, rfl⟩
     · refine s_exit1 ?_
       simp +decide only [pqn, pqe, pbe, reduceIte]
       exact ⟨hx9, _, _, _, _, _, _, _, _, _, _, _, _, _, rfl⟩
   · refine s_skip1 ?_
     simp +decide only [pqn]
     exact ⟨Ext.refl _, _, _, _, _, _, _, _, _, _, _, _, _, _, rfl⟩
 rintro e' H9 ⟨hx9, x18, x19, x20, x21, x22, x23, x24, x25, x26, x27, x28, x29, x30, rfl⟩
 clear ha
 have hn9 := hx9.next
 refine s_cut (fun e' H' => Ext H8 H' ∧ ∃ (x18 x19 x20 x21 x22 x23 x24 x25 x26 x27 x28 x29 x30 x31 x32 : Value), e' = [a, b, .bool false, s, .int .i64 u, .int .i64 n, t, .bool ok, sh, .bool ok, mi, .bool one, mi2, .bool one, st, .bool three, st2, .bool three, x18, x19, x20, x21, x22, x23, x24, x25, x26, x27, x28, x29, x30, x31, x32, undef, undef, undef, undef, undef, undef, undef, undef, undef, undef, undef, undef, undef, undef, undef, undef, undef, undef, undef]) ?_ ?_
 · refine s_test1_same one ?_ (fun hg => ?_) (fun hg => ?_)
   · simp only [o_pure, o_nil, POp.ev, Opd.ev, gv, setD, xsj, xel]
     simp
   · obtain ⟨l, hl'⟩ := Option.isSome_iff_exists.1 (hone.trans hg)
     have hM := hseen.mi
     rw [hl'] at hM smM
     have hM' : SlSS H8 mi l := hM
     have smL : SmS l := smM
     obtain ⟨hl1, hl2⟩ := smL.big
     refine s_reg ?_
     simp only [o_pure, o_callF, POp.ev, Opd.ev, gv, setD, List.map, xsj, xel]
     refine (iMirror_ok lim mi l u H9 (by omega) (hM'.ext hx9) hl1 hl2).mono ?_
     rintro _ HA ⟨hrA, hxA⟩
     rw [trR_back hl'] at hrA
     obtain ⟨bk, rfl, hbk⟩ := hrA.dec
     have hbk' : SlSS HA bk ss := hbk
     simp only [o_cont, o_pure, o_nil, POp.ev, Opd.ev, gv, setD, List.set, xsj, xel, extV, List.getElem?_toArray, xgz, xgs, Option.isSome_some]
     refine s_test1_I false (fun H' => H' = HA) ?_ (fun H10 h10 hg => absurd hg (by decide)) (fun H10 h10 _ => ?_)
     · simp only [o_pure, o_callF, o_guard, gk_ff, POp.ev, Opd.ev, gv, setD, List.map, xsj, xel, unV, Bool.not_true]
       refine (sameSS_self lim bk s ss HA hbk' (hseen.s.ext (hx9.trans hxA)) hsm).eq ?_
       simp only [o_cont, o_pure, o_guard, gk_ff, o_nil, POp.ev, Opd.ev, gv, setD, xsj, xel, pickV, unV, Bool.not_true]
       exact ⟨trivial, trivial, trivial⟩
     subst h10
     refine s_skip1 ?_
     simp +decide only [pqn]
     exact ⟨hx9.trans hxA, _, _, _, _, _, _, _, _, _, _, _, _, _, _, _, rfl⟩
   · refine s_skip1 ?_
     simp +decide only [pqn]
     exact ⟨hx9, _, _, _, _, _, _, _, _, _, _, _, _, _, _, _, rfl⟩
 clear hx9 hn9
 rintro e' H9 ⟨hx9, x18, x19, x20, x21, x22, x23, x24, x25, x26, x27, x28, x29, x30, x31, x32, rfl⟩
 have hn9 := hx9.next
 replace hb := hb.ext hx9
 clear hseen smT smM hok hone hthree hx07 hsm hs1 hs2
 refine s_reg ?_
 simp only [o_pure, o_callF, POp.ev, Opd.ev, gv, setD, List.map, xsj, xel]
 refine (drawSwap_ok lim b lb H9 (by omega) hb).mono ?_
 rintro _ HA ⟨⟨s3, ss3, i3, k3, rfl, hs3, hsm3⟩, hxA⟩
 have hnA := hxA.next
 obtain ⟨hs31, hs32⟩ := hsm3.big
 simp only [o_cont, o_pure, o_nil, POp.ev, Opd.ev, gv, setD, List.set, xsj, xel, extV, List.getElem?_toArray, xgz, xgs]
 refine s_reg ?_
 simp only [o_pure, o_callF, POp.ev, Opd.ev, gv, setD, List.map, xsj, xel]
 refine (iSwap_ok lim s3 ss3 i3 k3 HA (by omega) hs3 hs31 hs32).mono ?_
 rintro _ HB ⟨hrB, hxB⟩
 obtain ⟨w, rfl, hw⟩ := hrB.dec
 have hnB := hxB.next
 simp only [o_cont, o_pure, o_nil, POp.ev, Opd.ev, gv, setD, List.set, xsj, xel, extV, List.getElem?_toArray, xgz, xgs]
 refine s_reg ?_
 simp only [o_pure, o_callF, POp.ev, Opd.ev, gv, setD, List.map, xsj, xel]
 refine (sSwap_ok lim s3 ss3 i3 k3 HB (by omega) (hs3.ext hxB) hs31 hs32).mono ?_
 rintro _ HC ⟨hrC, hxC⟩
 obtain ⟨w2, rfl, hw2⟩ := hrC.dec
 have hnC := hxC.next
 simp only [o_cont, o_pure, o_nil, POp.ev, Opd.ev, gv, setD, List.set, xsj, xel, extV, List.getElem?_toArray, xgz, xgs]
 replace hs3 := hs3.ext (hxB.trans hxC)
 replace hw := hw.ext hxC
 replace hb := hb.ext (hxA.trans (hxB.trans hxC))
 have smW : SmS ((swR ss3 i3 k3).getD []) := sm_opt fun l h => swR_small h
 clear hrB hrC
 refine s_test_I false (fun H' => H' = HC) ?_ (fun H10 h10 hg => absurd hg (by decide)) (fun H10 h10 _ => ?_)
 · simp only [o_pure, o_callF, o_guard, gk_ff, POp.ev, Opd.ev, gv, setD, List.map, xsj, xel, boolEq, if_true, beq_self_eq_true, Bool.not_true]
   refine (sameSS_self lim w w2 _ HC hw hw2 smW).eq ?_
   simp only [o_cont, o_pure, o_guard, gk_ff, o_nil, POp.ev, Opd.ev, gv, setD, xsj, xel, pickV, unV, Bool.not_true]
   exact ⟨trivial, trivial, trivial⟩
 subst h10
 refine s_skip1 ?_
 simp +decide only [pqn]
 generalize hfive : (swR ss3 i3 k3).isSome = five
 refine s_cut (fun e' H' => Ext H10 H' ∧ ∃ (x40 x41 : Value), e' = [a, b, .bool false, s, .int .i64 u, .int .i64 n, t, .bool ok, sh, .bool ok, mi, .bool one, mi2, .bool one, st, .bool three, st2, .bool three, x18, x19, x20, x21, x22, x23, x24, x25, x26, x27, x28, x29, x30, x31, x32, s3, .int .i64 i3, .int .i64 k3, w, .bool five, w2, .bool five, x40, x41, undef, undef, undef, undef, undef, undef, undef, undef, undef, undef]) ?_ ?_
 · refine s_test1_same five ?_ (fun hg => ?_) (fun hg => ?_)
   · simp only [o_pure, o_nil, POp.ev, Opd.ev, gv, setD, xsj, xel]
     simp
   · obtain ⟨l, hl'⟩ := Option.isSome_iff_exists.1 (hfive.trans hg)
     rw [hl'] at hw smW
     have hw' : SlSS H10 w l := hw
     have smL : SmS l := smW
     obtain ⟨hl1, hl2⟩ := smL.big
     refine s_reg ?_
     simp only [o_pure, o_callF, POp.ev, Opd.ev, gv, setD, List.map, xsj, xel]
     refine (iSwap_ok lim w l i3 k3 H10 (by omega) hw' hl1 hl2).mono ?_
     rintro _ HD ⟨hrD, hxD⟩
     rw [swR_back hl'] at hrD
     obtain ⟨bk, rfl, hbk⟩ := hrD.dec
     have hbk' : SlSS HD bk ss3 := hbk
     simp only [o_cont, o_pure, o_nil, POp.ev, Opd.ev, gv, setD, List.set, xsj, xel, extV, List.getElem?_toArray, xgz, xgs, Option.isSome_some]
     refine s_test1_I false (fun H' => H' = HD) ?_ (fun H11 h11 hg => absurd hg (by decide)) (fun H11 h11 _ => ?_)
     · simp only [o_pure, o_callF, o_guard, gk_ff, POp.ev, Opd.ev, gv, setD, List.map, xsj, xel, unV, Bool.not_true]
       refine (sameSS_self lim bk s3 ss3 HD hbk' (hs3.ext hxD) hsm3).eq ?_
       simp only [o_cont, o_pure, o_guard, gk_ff, o_nil, POp.ev, Opd.ev, gv, setD, xsj, xel, pickV, unV, Bool.not_true]
       exact ⟨trivial, trivial, trivial⟩
     subst h11
     refine s_skip1 ?_
     simp +decide only [pqn]
     exact ⟨hxD, _, _, rfl⟩
   · refine s_skip1 ?_
     simp +decide only [pqn]
     exact ⟨Ext.refl _, _, _, rfl⟩
 rintro e' H11 ⟨hx11, x40, x41, rfl⟩
 have hn11 := hx11.next
 replace hb := hb.ext hx11
 clear hs3 hw hw2 smW hfive
 refine s_reg ?_
 simp only [o_pure, o_callF, POp.ev, Opd.ev, gv, setD, List.map, xsj, xel]
 refine (drawMix_ok lim b lb H11 (by omega) hb).mono ?_
 rintro _ HD ⟨⟨s4, ss4, i4, k4, f4, rfl, hs4, hsm4, hf4⟩, hxD⟩
 have hnD := hxD.next
 obtain ⟨hs41, hs42⟩ := hsm4.big
 simp only [o_cont, o_pure, o_nil, POp.ev, Opd.ev, gv, setD, List.set, xsj, xel, extV, List.getElem?_toArray, xgz, xgs]
 refine s_reg ?_
 simp only [o_pure, o_callF, POp.ev, Opd.ev, gv, setD, List.map, xsj, xel]
 refine (iMix_ok lim s4 ss4 i4 k4 f4 HD (by omega) hs4 hs41 hs42).mono ?_
 rintro _ HE ⟨hrE, hxE⟩
 obtain ⟨w3, rfl, hw3⟩ := hrE.dec
 have hnE := hxE.next
 simp only [o_cont, o_pure, o_nil, POp.ev, Opd.ev, gv, setD, List.set, xsj, xel, extV, List.getElem?_toArray, xgz, xgs]
 refine s_reg ?_
 simp only [o_pure, o_callF, POp.ev, Opd.ev, gv, setD, List.map, xsj, xel]
 refine (sMix_ok lim s4 ss4 i4 k4 f4 HE (by omega) (hs4.ext hxE) hs41 hs42).mono ?_
 rintro _ HF ⟨hrF, hxF⟩
 obtain ⟨w4, rfl, hw4⟩ := hrF.dec
 have hnF := hxF.next
 simp only [o_cont, o_pure, o_nil, POp.ev, Opd.ev, gv, setD, List.set, xsj, xel, extV, List.getElem?_toArray, xgz, xgs]
 replace hs4 := hs4.ext (hxE.trans hxF)
 replace hw3 := hw3.ext hxF
 have smX : SmS ((mixR ss4 i4 k4 f4).getD []) := sm_opt fun l h => mixR_small h
 clear hrE hrF
 refine s_test_I false (fun H' => H' = HF) ?_ (fun H12 h12 hg => absurd hg (by decide)) (fun H12 h12 _ => ?_)
 · simp only [o_pure, o_callF, o_guard, gk_ff, POp.ev, Opd.ev, gv, setD, List.map, xsj, xel, boolEq, if_true, beq_self_eq_true, Bool.not_true]
   refine (sameSS_self lim w3 w4 _ HF hw3 hw4 smX).eq ?_
   simp only [o_cont, o_pure, o_guard, gk_ff, o_nil, POp.ev, Opd.ev, gv, setD, xsj, xel, pickV, unV, Bool.not_true]
   exact ⟨trivial, trivial, trivial⟩
 subst h12
 refine s_skip1 ?_
 simp +decide only [pqn]
 generalize hseven : (mixR ss4 i4 k4 f4).isSome = seven
 refine s_cut (fun e' H' => ∃ x50 x51 : Value, e' = [a, b, .bool false, s, .int .i64 u, .int .i64 n, t, .bool ok, sh, .bool ok, mi, .bool one, mi2, .bool one, st, .bool three, st2, .bool three, x18, x19, x20, x21, x22, x23, x24, x25, x26, x27, x28, x29, x30, x31, x32, s3, .int .i64 i3, .int .i64 k3, w, .bool five, w2, .bool five, x40, x41, s4, .int .i64 i4, .int .i64 k4, .int .i64 f4, w3, .bool seven, w4, .bool seven, x50, x51]) ?_ ?_
 · refine s_test1_same seven ?_ (fun hg => ?_) (fun hg => ?_)
   · simp only [o_pure, o_nil, POp.ev, Opd.ev, gv, setD, xsj, xel]
     simp
   · obtain ⟨l, hl'⟩ := Option.isSome_iff_exists.1 (hseven.trans hg)
     rw [hl'] at hw3 smX
     have hw' : SlSS H12 w3 l := hw3
     have smL : SmS l := smX
     obtain ⟨hl1, hl2⟩ := smL.big
     have wn : IntKind.i64.wrap (0 - f4) = -f4 := by rw [Int.zero_sub]; exact wr_id (by omega) (by omega)
     refine s_reg ?_
     simp only [o_pure, o_callF, POp.ev, Opd.ev, gv, setD, List.map, xsj, xel, unV, wn]
     refine (iMix_ok lim w3 l i4 k4 (-f4) H12 (by omega) hw' hl1 hl2).mono ?_
     rintro _ HG ⟨hrG, hxG⟩
     rw [mixR_back hl'] at hrG
     obtain ⟨bk, rfl, hbk⟩ := hrG.dec
     have hbk' : SlSS HG bk ss4 := hbk
     simp only [o_cont, o_pure, o_nil, POp.ev, Opd.ev, gv, setD, List.set, xsj, xel, extV, List.getElem?_toArray, xgz, xgs, Option.isSome_some]
     refine s_test1_I false (fun H' => H' = HG) ?_ (fun H13 h13 hg => absurd hg (by decide)) (fun H13 h13 _ => ?_)
     · simp only [o_pure, o_callF, o_guard, gk_ff, POp.ev, Opd.ev, gv, setD, List.map, xsj, xel, unV, Bool.not_true]
       refine (sameSS_self lim bk s4 ss4 HG hbk' (hs4.ext hxG) hsm4).eq ?_
       simp only [o_cont, o_pure, o_guard, gk_ff, o_nil, POp.ev, Opd.ev, gv, setD, xsj, xel, pickV, unV, Bool.not_true]
       exact ⟨trivial, trivial, trivial⟩
     refine s_skip1 ?_
     simp +decide only [pqn]
     exact ⟨_, _, rfl⟩
   · refine s_skip1 ?_
     simp +decide only [pqn]
     exact ⟨_, _, rfl⟩
 rintro e' H13 ⟨x50, x51, rfl⟩
 refine s_reg ?_
 simp only [o_pure, o_nil, POp.ev, Opd.ev, setD, List.set, xsj, xel]
 refine s_ret1 ?_
 simp +decide only [pfr, resV, resOne, gv, xsj, xel]
set_option maxRecDepth 100000
theorem own : ownKnob Tryz.prog.godebug = none := by kernel_rfl
theorem laidOut : laidOutB Tryz.prog = true := by kernel_rfl
theorem shp2 {P : Program} {H : AHeap} {n a b} {avs : List Value} (h : ShpAll P H n [a, b] avs) : ∃ v u, avs = [v, u] ∧ ShpV P H n a v ∧ ShpV P H n b u := by
 match avs, h with
 | [v, u], h => exact ⟨v, u, rfl, h.1, h.2.1⟩
theorem wf_byte {x : Int} (h : (Lit.int .u8 x).wf = true) : 0 ≤ x ∧ x ≤ 255 := by
 simp [Lit.wf, IntKind.min, IntKind.max, IntKind.signed, IntKind.bits] at h
 omega
theorem shp_bytes {H : AHeap} {n : Nat} {v : Value} (h : ShpV Tryz.prog H (n + 2) 22 v) : ∃ l, SlB H v l := by
 unfold ShpV at h
 simp only [Tryz.underlying22] at h
 unfold Shp at h
 simp only [Tryz.underlying22] at h
 have hc : Tryz.prog.cellsOf 5 = 1 := by kernel_rfl
 have e1 : Tryz.prog.bytesOf 5 = 1 := by kernel_rfl
 have er : reachBytes = 140737488351232 := rfl
 rcases h with h | ⟨b, len, cap, h, hb, hl, hm, h5⟩
 · simp only [List.cons.injEq, and_true] at h
   subst h
   exact ⟨[], Sl.nil _ _, by simp, by simp⟩
 · simp only [List.cons.injEq, and_true] at h
   subst h
   rw [e1, er] at hm
   rcases h5 with h5 | ⟨cells, h1, h2, h3⟩
   · have : len = 0 := by omega
     subst this
     refine ⟨[], ⟨by simp [byteC], some ⟨b, 0, some 0⟩, cap, rfl, by simp, (by intro h; cases h), (by intro ad h; cases h; exact ⟨.inl rfl, hb⟩), (by intro h; exact absurd rfl h)⟩, by simp, by simp⟩
   · rw [hc, Nat.mul_one] at h2
     have hcell : ∀ i, i < cap → ∃ x : Int, cells[i]? = some (.int .u8 x) ∧ 0 ≤ x ∧ x ≤ 255 := by
       intro i hi
       have h4 := h3 i hi
       rw [hc, Nat.mul_one] at h4
       match n, h4 with
       | 0, h4 =>
         unfold Shp at h4
         simp only [Tryz.underlying5] at h4
         obtain ⟨x, h4, hw⟩ := h4
         have h6 := congrArg (fun l => l[0]?) h4
         simp only [List.getElem?_take, List.getElem?_drop] at h6
         exact ⟨x, by simpa using h6, wf_byte hw⟩
       | n + 1, h4 =>
         unfold Shp at h4
         simp only [Tryz.underlying5] at h4
         obtain ⟨x, h4, hw⟩ := h4
         have h6 := congrArg (fun l => l[0]?) h4
         simp only [List.getElem?_take, List.getElem?_drop] at h6
         exact ⟨x, by simpa using h6, wf_byte hw⟩
     have hall : ∃ zs : List Int, cells = byteC zs ∧ ∀ z ∈ zs, 0 ≤ z ∧ z ≤ 255 := by
       clear h3 h1
       have hx : ∀ (cs : List Value), (∀ i, i < cs.length → ∃ x : Int, cs[i]? = some (.int .u8 x) ∧ 0 ≤ x ∧ x ≤ 255) → ∃ zs : List Int, cs = byteC zs ∧ ∀ z ∈ zs, 0 ≤ z ∧ z ≤ 255 := by
         intro cs
         induction cs with
         | nil => intro _; exact ⟨[], rfl, by simp⟩
         | cons c cs ih =>
           intro h
           obtain ⟨x, hx, hr⟩ := h 0 (by simp)
           obtain ⟨zs, hz, hzr⟩ := ih (fun i hi => by simpa using h (i + 1) (by simp; omega))
           simp at hx
           refine ⟨x :: zs, by simp [hx, hz, byteC], ?_⟩
           intro z hz'
           rcases List.mem_cons.1 hz' with rfl | hz'
           · exact hr
           · exact hzr z hz'
       exact hx cells (by rw [h2]; exact hcell)
     obtain ⟨zs, rfl, hzr⟩ := hall
     have hz : zs.length = cap := by simpa [byteC] using h2
     have htl : (zs.take len).length = len := by simp; omega
     refine ⟨zs.take len, ⟨by simp [byteC], some ⟨b, 0, some 0⟩, cap, by rw [htl], by omega, (by intro h; cases h), (by intro ad h; cases h; exact ⟨.inl rfl, hb⟩), fun _ => ⟨b, 0, some 0, [], byteC (zs.drop len), rfl, ?_, rfl⟩⟩, fun z hz' => hzr z (List.mem_of_mem_take hz'), by omega⟩
     rw [h1, List.nil_append]
     unfold byteC
     rw [← List.map_append, List.take_append_drop]
end Go.Proofs.YtmdeppkfboaepaaGreat
