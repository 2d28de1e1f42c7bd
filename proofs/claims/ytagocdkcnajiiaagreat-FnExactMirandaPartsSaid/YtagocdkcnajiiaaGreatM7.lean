/- Parts of the proof of a statement of this seat: contracts of functions that the law calls, or the law's own row; no condition. -/
import Derived.Test.YtagocdkcnajiiaaGreatAbArg
import Derived.Test.YtagocdkcnajiiaaGreatRows
import Derived.WalkKit
import Derived.ProofKit
import Derived.OpenShut
import Derived.ShutString
import Derived.ChangeOld
import Derived.Below
import Derived.SizedLaws
import Derived.Test.YtagocdkcnajiiaaGreatM6
/- Parts of the proof of a statement of this seat: contracts of functions that the law calls, or the law's own row; no condition. -/
/- All orders, the program: made in order, those that do not pass deleted; no condition beyond stated ranges. -/
namespace Go.Proofs.YtagocdkcnajiiaaGreat
open Go.Ab Ints
set_option linter.unusedSimpArgs false
set_option linter.unusedVariables false
theorem Vec.cut1 {lim : Nat} {H : AHeap} {b n : Nat} {v : Value} {cells : List Value} (h : Vec H b v n 1 cells) (hl : lim ≤ b) {k : Nat} (hk : k ≤ n) (z : Value) :
   ∃ vd H' vk, slcV 1 v (some (.int .i64 k)) none none = some vd ∧ clearH lim H [z] vd = some (undef, H') ∧ slcV 1 v none (some (.int .i64 k)) none = some vk ∧ Vec H' b vk k 1 (cells.take k) ∧ Chg b H H' := by
 have hcl := h.clen
 rw [Nat.mul_one] at hcl
 have hB : ∀ (x y : Nat), x ≤ y → sliceB (.int .i64 x) y = some x := by
   intro x y hxy
   simp [sliceB, intV, hxy]
 rcases h with ⟨rfl, h2, h3⟩ | ⟨c, sp, rest, rfl, hsp, hb, hblk, hcl', hc, hcr⟩
 · have hk0 : k = 0 := by omega
   subst hk0
   subst h3
   exact ⟨.slice none 0 0, H, .slice none 0 0, rfl, rfl, rfl, .inl ⟨rfl, rfl, rfl⟩, Chg.refl _ _⟩
 · have s1 : slcV 1 (.slice (some ⟨b, 0, sp⟩) n c) (some (.int .i64 k)) none none = some (.slice (some ⟨b, 0 + k * 1, sp⟩) (n - k) (c - k)) := by
     simp only [slcV, bounds, hB k n hk, Option.bind_some, if_pos hsp, Option.isSome_none, Bool.false_eq_true, if_false]
   have s2 : slcV 1 (.slice (some ⟨b, 0, sp⟩) n c) none (some (.int .i64 k)) none = some (.slice (some ⟨b, 0, sp⟩) k c) := by
     simp only [slcV, bounds, hB k c (by omega), Option.bind_some, if_pos hsp, Option.isSome_none, Bool.false_eq_true, if_false, Nat.zero_mul, Nat.add_zero, Nat.sub_zero]
   have tk : (cells.take k).length = k := by rw [List.length_take]; omega
   have vec : ∀ (H' : AHeap) (r : List Value), H'.next = H.next → H'.blk b = some (cells.take k ++ r) → r.length = (n - k) + rest.length → Vec H' b (.slice (some ⟨b, 0, sp⟩) k c) k 1 (cells.take k) := by
     intro H' r hn hbk hr
     refine .inr ⟨c, sp, r, rfl, hsp, by omega, hbk, by rw [tk, Nat.mul_one], by omega, ?_⟩
     rw [hr]
     omega
   by_cases h0 : n - k = 0
   · refine ⟨_, H, _, s1, ?_, s2, vec H rest rfl ?_ (by omega), Chg.refl _ _⟩
     · simp [clearH, h0, undef]
     · rw [List.take_of_length_le (by omega)]; exact hblk
   · refine ⟨_, _, _, s1, ?_, s2, vec (H.put b (putL (cells ++ rest) (0 + k * 1) (zerosL (n - k) [z]))) (zerosL (n - k) [z] ++ rest) rfl ?_ ?_, Chg.put _ _ _⟩
     · simp only [clearH, if_neg h0, if_pos hl, hblk, Option.bind_some]
       rw [if_pos]
       · rfl
       · simp; omega
     · rw [put_same]
       congr 1
       unfold putL
       have zl1 : (zerosL (n - k) [z]).length = n - k := by rw [zerosL_length]; simp
       rw [Nat.zero_add, Nat.mul_one, zl1, List.take_append_of_le_length (by omega), show k + (n - k) = cells.length by omega, List.drop_left, List.append_assoc]
     · rw [List.length_append, zerosL_length]
       simp
def kept (fl : List (Value × Bool)) : List (Value × Bool) := fl.filter fun x => !x.2
theorem kept_append (a b : List (Value × Bool)) : kept (a ++ b) = kept a ++ kept b := List.filter_append ..
theorem kept_all {fl : List (Value × Bool)} (h : ∀ x ∈ fl, x.2 = false) : kept fl = fl := List.filter_eq_self.2 fun x hx => by rw [h x hx]; rfl
theorem kept_take_succ {fl : List (Value × Bool)} {j : Nat} (hj : j < fl.length) : kept (fl.take (j + 1)) = kept (fl.take j) ++ if fl[j].2 = true then [] else [fl[j]] := by
 rw [List.take_succ_eq_append_getElem hj, kept_append]
 congr 1
 cases h : fl[j].2 <;> simp [kept, h]
def FirstD (fl : List (Value × Bool)) (r : Int) : Prop := (r = -1 ∧ ∀ x ∈ fl, x.2 = false) ∨ ∃ i : Nat, r = (i : Int) ∧ (∀ x ∈ fl.take i, x.2 = false) ∧ ∃ h : i < fl.length, (fl[i]'h).2 = true
def Tells (lim b : Nat) (H : AHeap) (fv : Value) (fl : List (Value × Bool)) : Prop := ∀ x ∈ fl, ∀ (G : AHeap) (R : Value → AHeap → Prop), Chg b H G → (∀ G', Ext G G' → R (.bool x.2) G') → callV Tryz.prog lim fv [x.1] G R
theorem Tells.chg {lim b : Nat} {H H' : AHeap} {fv : Value} {fl : List (Value × Bool)} (h : Tells lim b H fv fl) (hc : Chg b H H') : Tells lim b H' fv fl := fun x hx G R hg hr => h x hx G R (hc.trans hg) hr
theorem pair_at {H : AHeap} {b : Nat} {s : Value} {fl : List (Value × Bool)} (hs : Vec H b s fl.length 1 (fl.map (·.1))) {i : Nat} (hi : i < fl.length) : iadV 1 s (.int .i64 i) = some (.pointer (some ⟨b, i, none⟩)) ∧ H.cell b i = some fl[i].1 := by
 have h1 := Vec.iad hs .i64 hi
 rw [Nat.mul_one] at h1
 refine ⟨h1, Vec.cell hs ?_⟩
 rw [List.getElem?_map, List.getElem?_eq_getElem hi]
 rfl
theorem indexD_ok (lim b : Nat) (s fv : Value) (fl : List (Value × Bool)) (H : AHeap) (hs : Vec H b s fl.length 1 (fl.map (·.1))) (hf : Tells lim b H fv fl) (hn : fl.length ≤ 1000000) :
   ACalls Tryz.prog lim n_slices_IndexFunc_S_S_int_S_int [s, fv] H fun v H' => ∃ r, v = .int .i64 r ∧ FirstD fl r ∧ Ext H H' := by
 refine is_slices_IndexFunc_S_S_int_S_int.go rfl ?_
 unfold c_slices_IndexFunc_S_S_int_S_int
 refine s_reg ?_
 simp only [o_pure, o_nil, POp.ev, Opd.ev, env0, gu, setD, List.set, xsj, xel]
 refine s_assoc (s_reg ?_)
 simp only [o_pure, o_nil, POp.ev, Opd.ev, gv, setD, List.set, xsj, xel, Vec.lenV hs]
 refine s_block ?_
 refine s_loop1 (fun k e' H' => ∃ (i : Nat) (x : Value), i + k = fl.length ∧ (∀ t ∈ fl.take i, t.2 = false) ∧ Ext H H' ∧ e' = [s, fv, .int .i64 0, x, .int .i64 fl.length, .int .i64 i]) fl.length ⟨0, _, by omega, by simp, Ext.refl _, rfl⟩ ?_
 rintro k e' H' ⟨i, x, hik, hz, hx, rfl⟩
 refine s_test ?_
 simp only [o_pure, o_nil, POp.ev, Opd.ev, gv, setD, xsj, xel, binV, ne_eq, xnt, if_false]
 refine Test.split (fun hlt => ?_) (fun hlt => ?_)
 · have hlt' : i < fl.length := by simpa using hlt
   obtain ⟨h1, h2⟩ := pair_at (Vec.ext hs hx) hlt'
   refine s_skip1 ?_
   simp +decide only [pqn]
   refine s_block ?_
   refine s_reg ?_
   simp only [o_pure, o_nil, POp.ev, Opd.ev, gv, setD, List.set, xsj, xel]
   refine s_test1 ?_
   simp only [o_callT, o_pure, POp.ev, Opd.ev, gv, setD, List.map, xsj, xel, load1V, h1, h2]
   refine hf _ (List.getElem_mem hlt') _ _ (Chg.of_ext hx) fun H2 hx2 => ?_
   simp only [o_cont, o_nil, gv, setD]
   refine Test.split (fun hg => ?_) (fun hg => ?_)
   · refine s_reg ?_
     simp only [o_pure, o_nil, POp.ev, Opd.ev, gv, setD, List.set, xsj, xel]
     refine s_ret1 ?_
     simp +decide only [pqr, pbr, pfr, resV, resOne, gv, xsj, xel]
     exact ⟨_, rfl, .inr ⟨i, rfl, hz, hlt', hg⟩, hx.trans hx2⟩
   · refine s_skip1 ?_
     simp +decide only [pqn, pbn]
     refine s_reg1 ?_
     simp only [o_pure, o_nil, POp.ev, Opd.ev, gv, setD, List.set, xsj, xel, binV, ne_eq, xnt, if_false, add1 (i := i) (by omega)]
     simp +decide only [pqn]
     refine Round.mk (k - 1) (by omega) ⟨i + 1, _, by omega, fun t ht => ?_, hx.trans hx2, rfl⟩
     rw [List.take_succ_eq_append_getElem hlt', List.mem_append] at ht
     rcases ht with ht | ht
     · exact hz t ht
     · rw [List.mem_singleton.1 ht]; exact hg
 · have hge : i = fl.length := by simp at hlt; omega
   subst hge
   refine s_exit1 ?_
   simp +decide only [pqn, pqe, pbe, reduceIte]
   refine s_reg ?_
   simp only [o_pure, o_nil, POp.ev, Opd.ev, setD, List.set, xsj, xel]
   refine s_ret1 ?_
   simp +decide only [pfr, resV, resOne, gv, xsj, xel]
   rw [List.take_length] at hz
   exact ⟨_, rfl, .inl ⟨rfl, hz⟩, hx⟩
theorem deleteD_ok (lim b : Nat) (s fv : Value) (fl : List (Value × Bool)) (H : AHeap) (hs : Vec H b s fl.length 1 (fl.map (·.1))) (hcv : ∀ x ∈ fl, cellsV x.1 = some [x.1]) (hf : Tells lim b H fv fl) (hl : lim ≤ b) (hn : fl.length ≤ 1000000) :
   ACalls Tryz.prog lim n_slices_DeleteFunc_S_S_int_S_int [s, fv] H fun v H' => Vec H' b v (kept fl).length 1 ((kept fl).map (·.1)) ∧ Chg b H H' := by
 refine is_slices_DeleteFunc_S_S_int_S_int.go rfl ?_
 unfold c_slices_DeleteFunc_S_S_int_S_int
 refine s_reg ?_
 simp only [o_pure, o_nil, POp.ev, Opd.ev, env0, gu, setD, List.set, xsj, xel]
 refine s_reg ?_
 simp only [o_pure, o_callF, POp.ev, Opd.ev, gv, setD, List.map, xsj, xel]
 refine (indexD_ok lim b s fv fl H hs hf hn).mono ?_
 rintro _ H2 ⟨r, rfl, hfd, hx2⟩
 simp only [o_cont, o_pure, o_nil, POp.ev, Opd.ev, gv, setD, List.set, xsj, xel]
 refine s_test ?_
 rcases hfd with ⟨rfl, hz⟩ | ⟨i, rfl, hz, hi, hzi⟩
 · have hd : ((-1 : Int) == -1) = true := by decide
   simp only [o_pure, o_nil, POp.ev, Opd.ev, gv, setD, xsj, xel, binV, ne_eq, xnt, if_false, beq_self_eq_true]
   refine Test.true_ (s_reg ?_)
   simp only [o_pure, o_nil, POp.ev, Opd.ev, gv, setD, List.set, xsj, xel]
   refine s_ret1 ?_
   simp +decide only [pqr, pfr, resV, resOne, gv, xsj, xel]
   rw [kept_all hz]
   exact ⟨Vec.ext hs hx2, Chg.of_ext hx2⟩
 · have hd : ((i : Int) == -1) = false := by simp <;> omega
   simp only [o_pure, o_nil, POp.ev, Opd.ev, gv, setD, xsj, xel, binV, ne_eq, xnt, if_false, hd]
   refine Test.false_ (s_skip1 ?_)
   simp +decide only [pqn]
   refine s_assoc (s_reg ?_)
   simp only [o_pure, o_nil, POp.ev, Opd.ev, gv, setD, List.set, xsj, xel, binV, ne_eq, xnt, if_false, add1 (i := i) (by omega)]
   refine s_block ?_
   refine s_loop1 (fun k e' H' => ∃ (j : Nat) (F G : List (Value × Bool)) (x5 : Value), j + k = fl.length ∧ F = kept (fl.take j) ∧ F.length + G.length = j ∧ G ≠ [] ∧ Vec H' b s (F ++ G ++ fl.drop j).length 1 ((F ++ G ++ fl.drop j).map (·.1)) ∧ Chg b H H' ∧ e' = [s, fv, .slice none 0 0, .int .i64 F.length, .int .i64 j, x5]) (fl.length - (i + 1))
     ⟨i + 1, fl.take i, [fl[i]], _, by omega, by rw [kept_take_succ hi, if_pos hzi, List.append_nil, kept_all hz], by simp; omega, by simp, ?_, Chg.of_ext hx2, by rw [List.length_take, Nat.min_eq_left (by omega)]⟩ ?_
   · have : fl.take i ++ [fl[i]] ++ fl.drop (i + 1) = fl := by rw [List.append_assoc, List.singleton_append, List.getElem_cons_drop, List.take_append_drop]
     rw [this]
     exact Vec.ext hs hx2
   rintro k e' H3 ⟨j, F, G, x5, hjk, hF, hFG, hG, hv, hc, rfl⟩
   have hFj : F.length ≤ j := by omega
   have hvl : (F ++ G ++ fl.drop j).length = fl.length := by simp; omega
   refine s_test ?_
   have hlv := Vec.lenV hv
   rw [hvl] at hlv
   simp only [o_pure, o_nil, POp.ev, Opd.ev, gv, setD, xsj, xel, binV, ne_eq, xnt, if_false, hlv]
   refine Test.split (fun hlt => ?_) (fun hlt => ?_)
   · have hlt' : j < fl.length := by simpa using hlt
     obtain ⟨j1, a1⟩ := pair_at hv (i := j) (by omega)
     have g1 : (F ++ G ++ fl.drop j)[j]'(by omega) = fl[j] := by
       rw [List.getElem_append_right (by simp; omega), List.getElem_drop]
       congr 1
       simp; omega
     rw [g1] at a1
     refine s_skip1 ?_
     simp +decide only [pqn]
     refine s_block ?_
     refine s_reg ?_
     simp only [o_pure, o_nil, POp.ev, Opd.ev, gv, setD, List.set, xsj, xel, load1V, j1, a1]
     have hdj : fl.drop j = fl[j] :: fl.drop (j + 1) := (List.getElem_cons_drop ..).symm
     obtain ⟨g, G', rfl⟩ : ∃ g G', G = g :: G' := by
       cases G with
       | nil => exact absurd rfl hG
       | cons g G' => exact ⟨g, G', rfl⟩
     simp only [List.length_cons] at hFG
     refine s_test1 ?_
     simp only [o_callT, o_pure, POp.ev, Opd.ev, gv, setD, List.map, xsj, xel]
     refine hf _ (List.getElem_mem hlt') _ _ hc fun H5 hx5 => ?_
     replace hv := Vec.ext hv hx5
     replace hc := hc.trans (Chg.of_ext hx5)
     simp only [o_cont, o_pure, o_nil, POp.ev, Opd.ev, gv, setD, xsj, xel, unV]
     have leave : ∀ (F2 G2 : List (Value × Bool)) (H6 : AHeap), F2 = kept (fl.take (j + 1)) → F2.length + G2.length = j + 1 → G2 ≠ [] → Vec H6 b s (F2 ++ G2 ++ fl.drop (j + 1)).length 1 ((F2 ++ G2 ++ fl.drop (j + 1)).map (·.1)) → Chg b H H6 →
         Round (fun k e' H' => ∃ (j : Nat) (F G : List (Value × Bool)) (x5 : Value), j + k = fl.length ∧ F = kept (fl.take j) ∧ F.length + G.length = j ∧ G ≠ [] ∧ Vec H' b s (F ++ G ++ fl.drop j).length 1 ((F ++ G ++ fl.drop j).map (·.1)) ∧ Chg b H H' ∧ e' = [s, fv, .slice none 0 0, .int .i64 F.length, .int .i64 j, x5]) k [s, fv, .slice none 0 0, .int .i64 F2.length, .int .i64 ((j + 1 : Nat) : Int), fl[j].1] H6 := by
       intro F2 G2 H6 h1 h2 h3 h4 h5
       exact Round.mk (k - 1) (by omega) ⟨j + 1, F2, G2, _, by omega, h1, h2, h3, h4, h5, rfl⟩
     refine Test.split (fun hg => ?_) (fun hg => ?_)
     · have hg' : ¬ fl[j].2 = true := by simpa using hg
       have hsh : F ++ g :: G' ++ fl.drop j = F ++ g :: (G' ++ fl.drop j) := by simp
       rw [hsh] at hv
       have hFl : F.length < (F ++ g :: (G' ++ fl.drop j)).length := by simp
       obtain ⟨j2, a2⟩ := pair_at hv (i := F.length) hFl
       obtain ⟨cs, t1, hv6⟩ := Vec.put1 (lim := lim) hv hl (i := F.length) (x := fl[j].1) (hcv _ (List.getElem_mem hlt')) hFl
       refine s_reg ?_
       simp only [o_pure, o_eff, o_nil, POp.ev, Opd.ev, EOp.ev, gv, setD, xsj, xel, j2, t1]
       refine s_reg1 ?_
       simp only [o_pure, o_nil, POp.ev, Opd.ev, gv, setD, List.set, xsj, xel, binV, ne_eq, xnt, if_false, add1 (i := F.length) (by omega)]
       simp +decide only [pqn, pbn]
       refine s_reg1 ?_
       simp only [o_pure, o_nil, POp.ev, Opd.ev, gv, setD, List.set, xsj, xel, binV, ne_eq, xnt, if_false, add1 (i := j) (by omega)]
       simp +decide only [pqn]
       have e2 : (F ++ g :: (G' ++ fl.drop j)).set F.length fl[j] = (F ++ [fl[j]]) ++ (G' ++ [fl[j]]) ++ fl.drop (j + 1) := by
         rw [List.set_append_right _ _ (by omega), Nat.sub_self, hdj]
         simp
       have e3 : (F ++ g :: (G' ++ fl.drop j)).length = ((F ++ [fl[j]]) ++ (G' ++ [fl[j]]) ++ fl.drop (j + 1)).length := by rw [← e2, List.length_set]
       rw [← List.map_set, e2, e3] at hv6
       have := leave (F ++ [fl[j]]) (G' ++ [fl[j]]) _ (by rw [kept_take_succ hlt', if_neg hg', hF]) (by simp; omega) (by simp) hv6 (hc.trans (Chg.put _ _ _))
       rw [List.length_append, List.length_singleton] at this
       exact this
     · have hg' : fl[j].2 = true := by simpa using hg
       refine s_skip1 ?_
       simp +decide only [pqn, pbn]
       refine s_reg1 ?_
       simp only [o_pure, o_nil, POp.ev, Opd.ev, gv, setD, List.set, xsj, xel, binV, ne_eq, xnt, if_false, add1 (i := j) (by omega)]
       simp +decide only [pqn]
       refine leave F (g :: G' ++ [fl[j]]) _ (by rw [kept_take_succ hlt', if_pos hg', List.append_nil, hF]) (by simp; omega) (by simp) ?_ hc
       rw [hdj] at hv
       simpa using hv
   · have hge : j = fl.length := by simp at hlt; omega
     subst hge
     refine s_exit1 ?_
     simp +decide only [pqn, pqe, pbe, reduceIte]
     rw [List.take_length] at hF
     obtain ⟨vd, H4, vk, m1, m2, m3, m4, m5⟩ := Vec.cut1 (lim := lim) hv hl (k := F.length) (by simp <;> omega) (.slice none 0 0)
     refine s_reg ?_
     simp only [o_pure, o_eff, o_nil, POp.ev, Opd.ev, EOp.ev, gv, setD, Option.map_none, xms, xsj, xel, m1, m2]
     refine s_reg ?_
     simp only [o_pure, o_nil, POp.ev, Opd.ev, gv, setD, List.set, Option.map_none, xms, xsj, xel, m3]
     refine s_ret1 ?_
     simp +decide only [pfr, resV, resOne, gv, xsj, xel]
     rw [← List.map_take, List.append_assoc, List.take_left] at m4
     rw [← hF]
     exact ⟨m4, hc.trans m5⟩
theorem ordI2_small : ∀ n : Fin 4, ∀ i : Fin 4, (ordI2 n.val i.val).length ≤ 27 ∧ ∀ l ∈ ordI2 n.val i.val, l.length = i.val := by decide
def more (n : Nat) (l : List Nat) : List (List Nat) := (List.range n).flatMap fun k => if k ∈ l then [] else [l ++ [k]]
theorem more_len (l : List Nat) : ∀ n : Nat, (more n l).length ≤ n
 | 0 => by simp [more]
 | n + 1 => by
   have := more_len l n
   unfold more at this ⊢
   rw [List.range_succ, List.flatMap_append, List.length_append]
   have : ([n].flatMap fun k => if k ∈ l then ([] : List (List Nat)) else [l ++ [k]]).length ≤ 1 := by
     simp only [List.flatMap_cons, List.flatMap_nil, List.append_nil]
     split <;> simp
   omega
theorem flat_len {α β : Type} (f : α → List β) (B : Nat) (h : ∀ a, (f a).length ≤ B) : ∀ l : List α, (l.flatMap f).length ≤ l.length * B
 | [] => by simp
 | a :: l => by
   rw [List.flatMap_cons, List.length_append, List.length_cons, Nat.succ_mul]
   have := h a
   have := flat_len f B h l
   omega
theorem ordersOf_ok (lim n : Nat) (H : AHeap) (hl : lim ≤ H.next) (hn1 : 1 ≤ n) (hn3 : n ≤ 3) :
   ACalls Tryz.prog lim n_impl_ordersOf [.int .i64 n] H fun v H' => OwnKK H' H.next H'.next v ((ords n).map zl) ∧ Ext H H' := by
 refine is_impl_ordersOf.go rfl ?_
 unfold c_impl_ordersOf
 refine s_reg ?_
 simp only [o_pure, o_nil, POp.ev, Opd.ev, env0, gu, setD, List.set, xsj, xel]
 refine s_reg ?_
 simp only [o_pure, o_eff, o_nil, POp.ev, Opd.ev, EOp.ev, gv, setD, List.set, List.map, xsj, xel, bsliceV H (x := .slice none 0 0) (.slice none 0 0) rfl]
 have h0 := SlKK.one H
 have hx0 := Ext.alloc H [Value.slice none 0 0]
 generalize H.alloc [Value.slice none 0 0] = H1 at h0 hx0 ⊢
 generalize (Value.slice (some ⟨H.next, 0, some 0⟩) 1 1) = o1 at h0 ⊢
 refine s_assoc (s_reg ?_)
 simp only [o_pure, o_nil, POp.ev, Opd.ev, gv, setD, List.set, xsj, xel]
 refine s_block ?_
 refine s_loop1 (fun j e' H' => ∃ (i : Nat) (out x3 x4 x5 x8 x9 x10 x11 x12 : Value), i + j = n ∧ SlKK H' out ((ordI2 n i).map zl) ∧ (0 < i → OwnKK H' H.next H'.next out ((ordI2 n i).map zl)) ∧ Ext H H' ∧ e' = [.int .i64 n, .slice none 0 0, out, x3, x4, x5, .int .i64 n, .int .i64 i, x8, x9, x10, x11, x12]) n ⟨0, o1, _, _, _, _, _, _, _, _, by omega, h0, by omega, hx0, rfl⟩ ?_
 clear h0 hx0
 rintro j e' H2 ⟨i, out, x3, x4, x5, x8, x9, x10, x11, x12, hij, ho, hoo, hx, rfl⟩
 have hnx := hx.next
 refine s_test ?_
 simp only [o_pure, o_nil, POp.ev, Opd.ev, gv, setD, xsj, xel, binV, ne_eq, xnt, if_false]
 refine Test.split (fun hlt => ?_) (fun hlt => ?_)
 · have hlt' : i < n := by simpa using hlt
   obtain ⟨hpl, hpm⟩ := ordI2_small ⟨n, by omega⟩ ⟨i, by omega⟩
   simp only at hpl hpm
   have hol := ho.lenV
   rw [List.length_map] at hol
   have hnext : ordI2 n (i + 1) = (ordI2 n i).flatMap (more n) := rfl
   generalize ordI2 n i = PL at *
   refine s_skip1 ?_
   simp +decide only [pqn]
   refine s_block1 ?_
   refine s_reg ?_
   simp only [o_pure, o_nil, POp.ev, Opd.ev, setD, List.set, xsj, xel]
   refine s_assoc (s_reg ?_)
   simp only [o_pure, o_nil, POp.ev, Opd.ev, gv, setD, List.set, xsj, xel, hol]
   refine s_block ?_
   refine s_loop1 (fun j2 e' H' => ∃ (m b : Nat) (vs : List Value) (bs : List Nat) (nx x4 x5 x11 x12 : Value), m + j2 = PL.length ∧ GrowK H' H2.next b vs bs nx (((PL.take m).flatMap (more n)).map zl) ∧ Ext H2 H' ∧ e' = [.int .i64 n, .slice none 0 0, out, nx, x4, x5, .int .i64 n, .int .i64 i, out, .int .i64 PL.length, .int .i64 m, x11, x12]) PL.length ⟨0, H2.next, [], [], .slice none 0 0, _, _, _, _, by omega, GrowK.nil' H2, Ext.refl _, rfl⟩ ?_
   rintro j2 e' H3 ⟨m, b, vs, bs, nx, x4, x5, x11, x12, hmj, hg, hx3, rfl⟩
   have hnx3 := hx3.next
   refine s_test ?_
   simp only [o_pure, o_nil, POp.ev, Opd.ev, gv, setD, xsj, xel, binV, ne_eq, xnt, if_false]
   refine Test.split (fun hlt2 => ?_) (fun hlt2 => ?_)
   · have hml : m < PL.length := by simpa using hlt2
     obtain ⟨b2, o2, ls, w2, w3⟩ := ho.atx (i := m) (by rw [List.length_map]; exact hml)
     simp only [List.getElem_map] at w3
     have hmt := List.take_succ_eq_append_getElem hml
     have hll := hpm _ (List.getElem_mem hml)
     have hfl := flat_len (more n) n (fun l => more_len l n) (PL.take m)
     rw [List.length_take, Nat.min_eq_left (by omega)] at hfl
     have hfl2 : m * n ≤ 27 * 3 := Nat.mul_le_mul (by omega) hn3
     generalize PL[m] = l at *
     refine s_skip1 ?_
     simp +decide only [pqn]
     refine s_block1 ?_
     refine s_reg ?_
     simp only [o_pure, o_nil, POp.ev, Opd.ev, gv, setD, List.set, xsj, xel, load1V, w2, (w3 _ hx3).1]
     refine s_reg ?_
     simp only [o_pure, o_nil, POp.ev, Opd.ev, gv, setD, List.set, xsj, xel]
     refine s_block1 ?_
     refine s_loop1 (fun j3 e' H' => ∃ (k b : Nat) (vs : List Value) (bs : List Nat) (nx x5 : Value), k + j3 = n ∧ GrowK H' H2.next b vs bs nx (((PL.take m).flatMap (more n) ++ more k l).map zl) ∧ Ext H2 H' ∧ e' = [.int .i64 n, .slice none 0 0, out, nx, ls, x5, .int .i64 n, .int .i64 i, out, .int .i64 PL.length, .int .i64 m, .int .i64 n, .int .i64 k]) n ⟨0, b, vs, bs, nx, _, by omega, by simpa [more] using hg, hx3, rfl⟩ ?_
     clear hg
     rintro j3 e' H4 ⟨k, b, vs, bs, nx, x5, hkj, hg, hx4, rfl⟩
     have hn4 := hx4.next
     refine s_test ?_
     simp only [o_pure, o_nil, POp.ev, Opd.ev, gv, setD, xsj, xel, binV, ne_eq, xnt, if_false]
     refine Test.split (fun hlt3 => ?_) (fun hlt3 => ?_)
     · have hkn : k < n := by simpa using hlt3
       have hmk := more_len l k
       have hlen : (((PL.take m).flatMap (more n) ++ more k l).map zl).length ≤ 1000 := by
         rw [List.length_map, List.length_append]
         omega
       have hms : more (k + 1) l = more k l ++ if k ∈ l then [] else [l ++ [k]] := by
         unfold more
         rw [List.range_succ, List.flatMap_append]
         simp only [List.flatMap_cons, List.flatMap_nil, List.append_nil]
       refine s_skip1 ?_
       simp +decide only [pqn]
       refine s_block1 ?_
       refine s_reg ?_
       simp only [o_pure, o_nil, POp.ev, Opd.ev, gv, setD, List.set, xsj, xel]
       refine s_test1 ?_
       simp only [o_pure, o_callF, POp.ev, Opd.ev, gv, setD, List.map, xsj, xel]
       refine (Ints.contains_ok _ ls (zl l) k H4 (w3 _ hx4).2 (by rw [zl_length]; omega)).eq ?_
       rw [zl_any]
       simp only [o_cont, o_pure, o_nil, POp.ev, Opd.ev, gv, setD, xsj, xel, unV]
       refine Test.split (fun hm => ?_) (fun hm => ?_)
       · have hm' : k ∉ l := by simpa using hm
         refine s_reg1 ?_
         simp only [o_pure, o_callF, POp.ev, Opd.ev, gv, setD, List.map, xsj, xel]
         refine (Ints.clone_ok lim ls (zl l) H4 (by omega) (w3 _ hx4).2 (by rw [zl_length]; omega)).mono ?_
         rintro cl H5 ⟨c, hc1, hc2, hcl, hx5⟩
         have hn5 := hx5.next
         obtain ⟨v6, H6, c6, e6, hv6, hc6, hlt6, ch6, n6⟩ := push1 (lim := lim) (bytes := 8) hcl (.int .i64 (k : Int)) (by omega) (by rw [zl_length]; omega)
         have hx6 := Chg.ext hx5 ch6 hc1
         have hn6 := hx6.next
         have hv6' : VecI H6 c6 v6 (zl (l ++ [k])) := by
           rw [zl_snoc]
           exact VecI.snoc hv6
         obtain ⟨v7, H7, b7, e7, hg7, hx7⟩ := GrowK.push (lim := lim) hg (by omega) hx4 (Nat.le_refl _) hn4 hx6 (by rcases hc6 with h | h <;> omega) (by omega) hv6' (by omega)
         simp only [o_cont, o_pure, o_eff, o_nil, POp.ev, Opd.ev, EOp.ev, gv, setD, List.set, List.map, xsj, xel, bsliceV _ (.int .i64 0) (x := .int .i64 (k : Int)) rfl, e6, bsliceV _ (.slice none 0 0) (x := v6) (Vec.cellsV hv6'), e7]
         simp +decide only [pqn, pbn]
         refine s_reg1 ?_
         simp only [o_pure, o_nil, POp.ev, Opd.ev, gv, setD, List.set, xsj, xel, binV, ne_eq, xnt, if_false, add1 (i := k) (by omega)]
         simp +decide only [pqn]
         refine Round.mk (j3 - 1) (by omega) ⟨k + 1, b7, vs ++ [v6], bs ++ [c6], v7, .int .i64 k, by omega, ?_, hx7, rfl⟩
         rw [hms, if_neg hm', ← List.append_assoc, List.map_append]
         exact hg7
       · have hm' : k ∈ l := by simpa using hm
         refine s_skip1 ?_
         simp +decide only [pqn, pbn]
         refine s_reg1 ?_
         simp only [o_pure, o_nil, POp.ev, Opd.ev, gv, setD, List.set, xsj, xel, binV, ne_eq, xnt, if_false, add1 (i := k) (by omega)]
         simp +decide only [pqn]
         refine Round.mk (j3 - 1) (by omega) ⟨k + 1, b, vs, bs, nx, .int .i64 k, by omega, ?_, hx4, rfl⟩
         rw [hms, if_pos hm', List.append_nil]
         exact hg
     · have hge : k = n := by simp at hlt3; omega
       subst hge
       refine s_exit1 ?_
       simp +decide only [pqn, pqe, pbn, pbe, reduceIte]
       refine s_reg1 ?_
       simp only [o_pure, o_nil, POp.ev, Opd.ev, gv, setD, List.set, xsj, xel, binV, ne_eq, xnt, if_false, add1 (i := m) (by omega)]
       simp +decide only [pqn]
       refine Round.mk (j2 - 1) (by omega) ⟨m + 1, b, vs, bs, nx, _, _, _, _, by omega, ?_, hx4, rfl⟩
       rw [hmt, List.flatMap_append]
       simpa using hg
   · have hge : m = PL.length := by simp at hlt2; omega
     subst hge
     refine s_exit1 ?_
     simp +decide only [pqn, pqe, pbe, reduceIte]
     refine s_reg1 ?_
     simp only [o_pure, o_nil, POp.ev, Opd.ev, gv, setD, List.set, xsj, xel]
     simp +decide only [pqn, pbn]
     refine s_reg1 ?_
     simp only [o_pure, o_nil, POp.ev, Opd.ev, gv, setD, List.set, xsj, xel, binV, ne_eq, xnt, if_false, add1 (i := i) (by omega)]
     simp +decide only [pqn]
     rw [List.take_length, ← hnext] at hg
     exact Round.mk (j - 1) (by omega) ⟨i + 1, nx, _, _, _, _, _, _, _, _, by omega, hg.own.slss, fun _ => hg.own.wide hnx (Nat.le_refl _), hx.trans hx3, rfl⟩
 · have hge : i = n := by simp at hlt; omega
   subst hge
   refine s_exit1 ?_
   simp +decide only [pqn, pqe, pbe, reduceIte]
   refine s_reg ?_
   simp only [o_pure, o_nil, POp.ev, Opd.ev, gv, setD, List.set, xsj, xel]
   refine s_ret1 ?_
   simp +decide only [pfr, resV, resOne, gv, xsj, xel]
   exact ⟨hoo (by omega), hx⟩
theorem OwnK.sub {H H' : AHeap} {lo hi b : Nat} {vs : List Value} {bs : List Nat} {v v' : Value} {ss : List (List Int)} (h : OwnK H lo hi b vs bs v ss) {idx : List Nat} (hnd : idx.Nodup) (hin : ∀ i ∈ idx, i < ss.length) (hv : Vec H' b v' idx.length 1 (idx.map fun i => vs.getD i undef)) (hc : Chg b H H') :
   OwnK H' lo hi b (idx.map fun i => vs.getD i undef) (idx.map fun i => bs.getD i 0) v' (idx.map fun i => ss.getD i []) := by
 obtain ⟨h1, h2, h3, h4, h5, h6, h7⟩ := h
 have hbg : ∀ i ∈ idx, ∃ hi : i < bs.length, bs.getD i 0 = bs[i] := fun i hi => by
   have := hin i hi
   exact ⟨by omega, by simp [show i < bs.length by omega]⟩
 refine ⟨by rw [List.length_map]; exact hv, by simp, h3, ?_, ?_, ?_, ?_⟩
 · unfold List.Nodup
   rw [List.pairwise_map]
   refine List.Pairwise.imp_of_mem ?_ hnd
   intro a c ha hc2 hne e
   obtain ⟨ha1, ha2⟩ := hbg a ha
   obtain ⟨hc1, hc2'⟩ := hbg c hc2
   rw [ha2, hc2'] at e
   exact hne ((List.getElem_inj h4).1 e)
 · intro hm
   obtain ⟨i, hi1, hi2⟩ := List.mem_map.1 hm
   obtain ⟨ha1, ha2⟩ := hbg i hi1
   rw [ha2] at hi2
   exact h5 (hi2 ▸ List.getElem_mem ha1)
 · intro c hcm
   obtain ⟨i, hi1, rfl⟩ := List.mem_map.1 hcm
   obtain ⟨ha1, ha2⟩ := hbg i hi1
   rw [ha2]
   exact h6 _ (List.getElem_mem ha1)
 · intro j p hp
   rw [List.getElem?_map] at hp
   obtain ⟨i, hi1, hi2⟩ := Option.map_eq_some_iff.1 hp
   have him := List.mem_of_getElem? hi1
   have hil := hin i him
   obtain ⟨s, c, g1, g2, g3⟩ := h7 i _ (List.getElem?_eq_getElem hil)
   have hgs : ss.getD i [] = ss[i] := by simp [hil]
   rw [hgs] at hi2
   subst hi2
   refine ⟨s, c, ?_, ?_, Vec.chg g3 hc (fun e => h5 (e ▸ List.mem_of_getElem? g2))⟩
   · rw [List.getElem?_map, hi1]
     simp [g1]
   · rw [List.getElem?_map, hi1]
     simp [g2]
theorem range_getD {α : Type} (l : List α) (d : α) : l = (List.range l.length).map fun i => l.getD i d := by
 refine List.ext_getElem (by simp) fun i h1 h2 => ?_
 simp [h1]
theorem szTermSSb_ok (lim : Nat) (s : Value) (ss : List (List Tm)) (left : Int) (H : AHeap) (hs : SlSS H s ss) (h0 : -20000000000000 ≤ left) (h1 : left ≤ 1000000000) (hn : ss.length ≤ 20000000000000) (hn2 : ∀ p ∈ ss, p.length ≤ 20000000000000) :
   ACalls Tryz.prog lim n_laws_szTermSS [s, .int .i64 left] H fun v H' => (∃ r : Int, v = .int .i64 r ∧ (¬ r < 0 → (ss.length : Int) + tot ss + r ≤ left)) ∧ H' = H := by
 refine is_laws_szTermSS.go rfl ?_
 unfold c_laws_szTermSS
 have hw : IntKind.i64.wrap (left - ss.length) = left - ss.length := by rw [IntKind.wrap_i64]; omega
 refine s_reg ?_
 simp only [o_pure, o_nil, POp.ev, Opd.ev, env0, gu, setD, List.set, xsj, xel]
 refine s_reg ?_
 simp only [o_pure, o_nil, POp.ev, Opd.ev, gv, setD, List.set, xsj, xel, binV, ne_eq, xnt, if_false, hs.lenV, hw]
 refine s_test ?_
 simp only [o_pure, o_nil, POp.ev, Opd.ev, gv, setD, xsj, xel, binV, ne_eq, xnt, if_false]
 refine Test.split (fun h => ?_) (fun h => ?_)
 · refine s_reg ?_
   simp only [o_pure, o_nil, POp.ev, Opd.ev, setD, List.set, xsj, xel]
   refine s_ret1 ?_
   simp +decide only [pqr, pfr, resV, resOne, gv, xsj, xel]
   exact ⟨⟨-1, rfl, by omega⟩, trivial⟩
 have hge : 0 ≤ left - (ss.length : Int) := by simpa using h
 refine s_skip1 ?_
 simp +decide only [pqn]
 refine s_assoc (s_reg ?_)
 simp only [o_pure, o_nil, POp.ev, Opd.ev, setD, List.set, xsj, xel]
 refine s_block ?_
 refine s_loop1 (fun j e' H' => H' = H ∧ ∃ (i : Nat), i + j = ss.length ∧ 0 ≤ left - (ss.length : Int) - tot (ss.take i) ∧ e' = [s, .int .i64 (left - (ss.length : Int) - tot (ss.take i)), .int .i64 0, .int .i64 i]) ss.length ⟨rfl, 0, by omega, by simpa [tot] using hge, by simp [tot]⟩ ?_
 rintro j e' H ⟨rfl, i, hij, hnn, rfl⟩
 refine s_test ?_
 simp only [o_pure, o_nil, POp.ev, Opd.ev, gv, setD, xsj, xel, binV, ne_eq, xnt, if_false, hs.lenV]
 refine Test.split (fun hlt => ?_) (fun hlt => ?_)
 · have hlt' : i < ss.length := by simpa using hlt
   obtain ⟨b1, o1, s1, k1, k2, k3⟩ := hs.at hlt'
   have hpl := hn2 _ (List.getElem_mem hlt')
   have htk := tot_take_succ hlt'
   refine s_skip1 ?_
   simp +decide only [pqn]
   refine s_block ?_
   refine s_reg ?_
   simp only [o_pure, o_callF, POp.ev, Opd.ev, gv, setD, List.map, xsj, xel, load1V, k1, k2]
   refine (szTermS_ok _ _ _ _ _ k3.lenV (by omega) (by omega) hpl).eq ?_
   by_cases hc : left - (ss.length : Int) - tot (ss.take i) - ss[i].length < 0
   · rw [if_pos hc]
     have d1 : decide ((-1 : Int) < 0) = true := by decide
     simp only [o_cont, o_pure, o_nil, POp.ev, Opd.ev, gv, setD, List.set, xsj, xel]
     refine s_test1 ?_
     simp only [o_pure, o_nil, POp.ev, Opd.ev, gv, setD, xsj, xel, binV, ne_eq, xnt, if_false, d1]
     refine Test.true_ (s_reg ?_)
     simp only [o_pure, o_nil, POp.ev, Opd.ev, setD, List.set, xsj, xel]
     refine s_ret1 ?_
     simp +decide only [pqr, pbr, pfr, resV, resOne, gv, xsj, xel]
     exact ⟨⟨-1, rfl, by omega⟩, trivial⟩
   · rw [if_neg hc]
     have d1 : decide (left - (ss.length : Int) - tot (ss.take i) - ss[i].length < 0) = false := by simpa using hc
     simp only [o_cont, o_pure, o_nil, POp.ev, Opd.ev, gv, setD, List.set, xsj, xel]
     refine s_test1 ?_
     simp only [o_pure, o_nil, POp.ev, Opd.ev, gv, setD, xsj, xel, binV, ne_eq, xnt, if_false, d1]
     refine Test.false_ (s_skip1 ?_)
     simp +decide only [pqn, pbn]
     refine s_reg1 ?_
     simp only [o_pure, o_nil, POp.ev, Opd.ev, gv, setD, List.set, xsj, xel, binV, ne_eq, xnt, if_false, add1 (i := i) (by omega)]
     simp +decide only [pqn]
     exact Round.mk (j - 1) (by omega) ⟨rfl, i + 1, by omega, by omega, by rw [htk]; congr 3; simp; omega⟩
 · have hge : i = ss.length := by simp at hlt; omega
   subst hge
   refine s_exit1 ?_
   simp +decide only [pqn, pqe, pbe, reduceIte]
   refine s_reg ?_
   simp only [o_pure, o_nil, POp.ev, Opd.ev, gv, setD, List.set, xsj, xel]
   refine s_ret1 ?_
   simp +decide only [pfr, resV, resOne, gv, xsj, xel]
   rw [List.take_length] at hnn ⊢
   exact ⟨⟨_, rfl, by omega⟩, trivial⟩
open Go.Ab
set_option maxRecDepth 100000
theorem own : ownKnob Tryz.prog.godebug = none := by kernel_rfl
theorem laidOut : laidOutB Tryz.prog = true := by kernel_rfl
theorem shp3 {P : Program} {H : AHeap} {n a b c} {avs : List Value} (h : ShpAll P H n [a, b, c] avs) : ∃ v u w, avs = [v, u, w] ∧ ShpV P H n a v ∧ ShpV P H n b u ∧ ShpV P H n c w := by
 match avs, h with
 | [v, u, w], h => exact ⟨v, u, w, rfl, h.1, h.2.1, h.2.2.1⟩
theorem shp_int {H : AHeap} {n : Nat} {v : Value} (h : ShpV Tryz.prog H (n + 1) 3 v) : ∃ x, v = .int .i64 x ∧ (Lit.int .i64 x).wf = true := by
 unfold ShpV Shp at h
 simp only [Tryz.underlying3] at h
 obtain ⟨x, h, h2⟩ := h
 cases h
 exact ⟨x, rfl, h2⟩
theorem shp_cell {H : AHeap} {n : Nat} {cs : List Value} (h : Shp Tryz.prog H (n + 1) 3 cs) : ∃ x, cs = [vi x] := by
 unfold Shp at h
 simp only [Tryz.underlying3] at h
 obtain ⟨x, h, h2⟩ := h
 exact ⟨x, h⟩
theorem shp_term {H : AHeap} {n : Nat} {cs : List Value} (h : Shp Tryz.prog H (n + 2) 68 cs) : ∃ t, cs = tc t := by
 unfold Shp at h
 simp only [Tryz.underlying68] at h
 obtain ⟨hc, hf⟩ := h
 have e4 : Tryz.prog.cellsOf 68 = 4 := by kernel_rfl
 have e1 : Tryz.prog.cellsOf 3 = 1 := by kernel_rfl
 rw [e4] at hc
 match cs, hc with
 | [a, b, c, d], _ =>
   have f0 := hf _ (List.mem_cons_self ..)
   have f1 := hf _ (List.mem_cons_of_mem _ (List.mem_cons_self ..))
   have f2 := hf _ (List.mem_cons_of_mem _ (List.mem_cons_of_mem _ (List.mem_cons_self ..)))
   have f3 := hf _ (List.mem_cons_of_mem _ (List.mem_cons_of_mem _ (List.mem_cons_of_mem _ (List.mem_cons_self ..))))
   simp only [e1, List.drop_zero, List.drop_succ_cons, List.take_succ_cons, List.take_zero] at f0 f1 f2 f3
   obtain ⟨x0, g0⟩ := shp_cell f0
   obtain ⟨x1, g1⟩ := shp_cell f1
   obtain ⟨x2, g2⟩ := shp_cell f2
   obtain ⟨x3, g3⟩ := shp_cell f3
   cases g0
   cases g1
   cases g2
   cases g3
   exact ⟨⟨x0, x1, x2, x3⟩, rfl⟩
theorem cells_terms : ∀ (m : Nat) (cells : List Value), cells.length = m * 4 → (∀ i, i < m → ∃ t, (cells.drop (i * 4)).take 4 = tc t) → ∃ zs : List Tm, zs.length = m ∧ cells = tcs zs
 | 0, cells, hl, _ => ⟨[], rfl, List.length_eq_zero_iff.1 (by omega)⟩
 | m + 1, cells, hl, h => by
   obtain ⟨t, ht⟩ := h 0 (by omega)
   obtain ⟨zs, h1, h2⟩ := cells_terms m (cells.drop 4) (by simp; omega) (fun i hi => by
     obtain ⟨u, hu⟩ := h (i + 1) (by omega)
     refine ⟨u, ?_⟩
     rw [List.drop_drop, ← hu]
     congr 2
     omega)
   refine ⟨t :: zs, by simp [h1], ?_⟩
   rw [tcs_cons, ← h2, ← ht]
   simp
theorem shp_terms {H : AHeap} {n : Nat} {cs : List Value} (h : Shp Tryz.prog H (n + 3) 45 cs) : ∃ v l, cs = [v] ∧ SlT H v l ∧ l.length ≤ 20000000000000 := by
 unfold Shp at h
 simp only [Tryz.underlying45] at h
 have hc : Tryz.prog.cellsOf 68 = 4 := by kernel_rfl
 rcases h with rfl | ⟨b, len, cap, rfl, hb, hl, hm, h5⟩
 · exact ⟨_, [], rfl, Sl.nil _ _, by simp⟩
 · have e8 : Tryz.prog.bytesOf 68 = 32 := by kernel_rfl
   have er : reachBytes = 140737488351232 := rfl
   rw [e8, er] at hm
   rcases h5 with h5 | ⟨cells, h1, h2, h3⟩
   · have : len = 0 := by omega
     subst this
     exact ⟨_, [], rfl, ⟨by simp [tcs], some ⟨b, 0, some 0⟩, cap, rfl, by simp, (by intro h; cases h), (by intro ad h; cases h; exact ⟨.inl rfl, hb⟩), (by intro h; exact absurd rfl h)⟩, by simp⟩
   · rw [hc] at h2 h3
     obtain ⟨zs, hz, rfl⟩ := cells_terms cap cells h2 (fun i hi => shp_term (h3 i hi))
     have htl : (zs.take len).length = len := by simp; omega
     refine ⟨_, zs.take len, rfl, ?_, by omega⟩
     unfold SlT
     rw [htl]
     refine ⟨by rw [tcs_length, htl], some ⟨b, 0, some 0⟩, cap, rfl, by omega, (by intro h; cases h), (by intro ad h; cases h; exact ⟨.inl rfl, hb⟩), fun _ => ⟨b, 0, some 0, [], tcs (zs.drop len), rfl, ?_, rfl⟩⟩
     rw [h1, List.nil_append, ← tcs_append, List.take_append_drop]
theorem list_sys {H : AHeap} {B : Nat} : ∀ (cells : List Value), (∀ i, i < cells.length → ∃ s p, cells[i]? = some s ∧ SlT H s p ∧ p.length ≤ B) →
   ∃ ss : List (List Tm), ss.length = cells.length ∧ ∀ (i : Nat) (p : List Tm), ss[i]? = some p → ∃ s, cells[i]? = some s ∧ SlT H s p ∧ p.length ≤ B
 | [], _ => ⟨[], rfl, by intro i p h; simp at h⟩
 | c :: cells, h => by
   obtain ⟨s, p, h1, h2, h3⟩ := h 0 (by simp)
   obtain ⟨ss, g1, g2⟩ := list_sys cells (fun i hi => by simpa using h (i + 1) (by simp; omega))
   refine ⟨p :: ss, by simp [g1], fun i q hq => ?_⟩
   cases i with
   | zero => simp at hq; subst hq; exact ⟨s, h1, h2, h3⟩
   | succ i => simpa using g2 i q (by simpa using hq)
theorem shp_sys {H : AHeap} {n : Nat} {v : Value} (h : ShpV Tryz.prog H (n + 4) 22 v) : ∃ ss, SlSS H v ss ∧ ss.length ≤ 20000000000000 ∧ ∀ p ∈ ss, p.length ≤ 20000000000000 := by
 unfold ShpV at h
 simp only [Tryz.underlying22] at h
 unfold Shp at h
 simp only [Tryz.underlying22] at h
 have hc : Tryz.prog.cellsOf 45 = 1 := by kernel_rfl
 rcases h with h | ⟨b, len, cap, h, hb, hl, hm, h5⟩
 · cases h
   exact ⟨[], SlSS.nil _, by simp, by simp⟩
 · cases h
   have e8 : Tryz.prog.bytesOf 45 = 24 := by kernel_rfl
   have er : reachBytes = 140737488351232 := rfl
   rw [e8, er] at hm
   rcases h5 with h5 | ⟨cells, h1, h2, h3⟩
   · have : len = 0 := by omega
     subst this
     exact ⟨[], ⟨[], ⟨by simp, some ⟨b, 0, some 0⟩, cap, rfl, by simp, (by intro h; cases h), (by intro ad h; cases h; exact ⟨.inl rfl, hb⟩), (by intro h; exact absurd rfl h)⟩, by intro i p h; simp at h⟩, by simp, by simp⟩
   · rw [hc, Nat.mul_one] at h2
     obtain ⟨ss, g1, g2⟩ := list_sys (H := H) (B := 20000000000000) cells (fun i hi => by
       have h4 := h3 i (by omega)
       rw [hc, Nat.mul_one] at h4
       obtain ⟨s, p, k1, k2, k3⟩ := shp_terms h4
       have h6 := congrArg (fun l => l[0]?) k1
       simp only [List.getElem?_take, List.getElem?_drop] at h6
       exact ⟨s, p, by simpa using h6, k2, k3⟩)
     have htl : (ss.take len).length = len := by simp; omega
     refine ⟨ss.take len, ⟨cells.take len, ?_, fun i p hp => ?_⟩, by omega, fun p hp => ?_⟩
     · rw [htl]
       refine ⟨by simp; omega, some ⟨b, 0, some 0⟩, cap, rfl, by omega, (by intro h; cases h), (by intro ad h; cases h; exact ⟨.inl rfl, hb⟩), fun _ => ⟨b, 0, some 0, [], cells.drop len, rfl, ?_, rfl⟩⟩
       rw [h1, List.nil_append, List.take_append_drop]
     · have hi := (List.getElem?_eq_some_iff.1 hp).1
       rw [htl] at hi
       rw [List.getElem?_take, if_pos hi] at hp
       obtain ⟨s, q1, q2, q3⟩ := g2 i p hp
       exact ⟨s, by rw [List.getElem?_take, if_pos hi]; exact q1, q2⟩
     · obtain ⟨i, hi⟩ := List.mem_iff_getElem?.1 (List.mem_of_mem_take hp)
       obtain ⟨s, q1, q2, q3⟩ := g2 i p hi
       exact q3
theorem shp_ints {H : AHeap} {n : Nat} {v : Value} (h : Shp Tryz.prog H (n + 2) 23 [v]) : ∃ l, SlI H v l := by
 unfold Shp at h
 simp only [Tryz.underlying23] at h
 have hc : Tryz.prog.cellsOf 3 = 1 := by kernel_rfl
 rcases h with h | ⟨b, len, cap, h, hb, hl, hm, h5⟩
 · simp only [List.cons.injEq, and_true] at h
   subst h
   exact ⟨[], Sl.nil _ _⟩
 · simp only [List.cons.injEq, and_true] at h
   subst h
   rcases h5 with h5 | ⟨cells, h1, h2, h3⟩
   · have : len = 0 := by omega
     subst this
     refine ⟨[], by simp, some ⟨b, 0, some 0⟩, cap, rfl, by simp, (by intro h; cases h), (by intro ad h; cases h; exact ⟨.inl rfl, hb⟩), (by intro h; exact absurd rfl h)⟩
   · rw [hc, Nat.mul_one] at h2
     have hcell : ∀ i, i < cap → ∃ x, cells[i]? = some (vi x) := by
       intro i hi
       have h4 := h3 i hi
       rw [hc, Nat.mul_one] at h4
       unfold Shp at h4
       simp only [Tryz.underlying3] at h4
       obtain ⟨x, h4, _⟩ := h4
       have h6 := congrArg (fun l => l[0]?) h4
       simp only [List.getElem?_take, List.getElem?_drop] at h6
       exact ⟨x, by simpa using h6⟩
     have hall : ∃ zs : List Int, cells = zs.map vi := by
       clear h3 h1
       have hx : ∀ (cs : List Value), (∀ i, i < cs.length → ∃ x, cs[i]? = some (vi x)) → ∃ zs : List Int, cs = zs.map vi := by
         intro cs
         induction cs with
         | nil => intro _; exact ⟨[], rfl⟩
         | cons c cs ih =>
           intro h
           obtain ⟨x, hx⟩ := h 0 (by simp)
           obtain ⟨zs, hz⟩ := ih (fun i hi => by simpa using h (i + 1) (by simp; omega))
           simp at hx
           exact ⟨x :: zs, by simp [hx, hz]⟩
       exact hx cells (by rw [h2]; exact hcell)
     obtain ⟨zs, rfl⟩ := hall
     have hz : zs.length = cap := by simpa using h2
     have htl : (zs.take len).length = len := by simp; omega
     refine ⟨zs.take len, by simp, some ⟨b, 0, some 0⟩, cap, by rw [htl], by omega, (by intro h; cases h), (by intro ad h; cases h; exact ⟨.inl rfl, hb⟩), fun _ => ⟨b, 0, some 0, [], (zs.drop len).map vi, rfl, ?_, rfl⟩⟩
     rw [h1, List.nil_append, ← List.map_append, List.take_append_drop]
theorem shp_len {H : AHeap} {n : Nat} {cs : List Value} (h : Shp Tryz.prog H (n + 2) 23 cs) : ∃ v l, cs = [v] ∧ SlI H v l ∧ l.length ≤ 20000000000000 := by
 have h0 := h
 unfold Shp at h
 simp only [Tryz.underlying23] at h
 rcases h with rfl | ⟨b, len, cap, rfl, hb, hl, hm, h5⟩
 · exact ⟨_, [], rfl, Sl.nil _ _, by simp⟩
 · obtain ⟨l, hl2⟩ := shp_ints h0
   refine ⟨_, l, rfl, hl2, ?_⟩
   obtain ⟨_, a, c, h1, _⟩ := hl2
   cases h1
   have e8 : Tryz.prog.bytesOf 3 = 8 := by kernel_rfl
   have er : reachBytes = 140737488351232 := rfl
   rw [e8, er] at hm
   omega
theorem shp_box {H : AHeap} {n : Nat} {v : Value} (h : ShpV Tryz.prog H (n + 3) 25 v) : ∃ k low high, BoxV H v k low high ∧ low.length ≤ 20000000000000 ∧ high.length ≤ 20000000000000 := by
 unfold ShpV at h
 simp only [Tryz.underlying25] at h
 obtain ⟨cs, rfl, h⟩ := h
 unfold Shp at h
 simp only [Tryz.underlying25] at h
 obtain ⟨hc, hf⟩ := h
 have e3 : Tryz.prog.cellsOf 25 = 3 := by kernel_rfl
 have e1 : Tryz.prog.cellsOf 3 = 1 := by kernel_rfl
 have e2 : Tryz.prog.cellsOf 23 = 1 := by kernel_rfl
 rw [e3] at hc
 match cs, hc with
 | [a, b, c], _ =>
   have f0 := hf _ (List.mem_cons_self ..)
   have f1 := hf _ (List.mem_cons_of_mem _ (List.mem_cons_self ..))
   have f2 := hf _ (List.mem_cons_of_mem _ (List.mem_cons_of_mem _ (List.mem_cons_self ..)))
   simp only [e1, e2, List.drop_zero, List.drop_succ_cons, List.take_succ_cons, List.take_zero] at f0 f1 f2
   unfold Shp at f0
   simp only [Tryz.underlying3] at f0
   obtain ⟨k, f0, _⟩ := f0
   obtain ⟨v1, l1, g1, g2, g3⟩ := shp_len f1
   obtain ⟨v2, l2, k1, k2, k3⟩ := shp_len f2
   cases f0
   cases g1
   cases k1
   exact ⟨k, l1, l2, ⟨_, _, rfl, g2, k2⟩, g3, k3⟩
theorem heldIntS_ok (lim : Nat) (s : Value) (n : Nat) (k : Int) (H : AHeap) (hs : SlI H s (iota k n)) (hn : n ≤ 1000000000) (h0 : 0 ≤ k) (hk : k ≤ 1000000000) :
   ACalls Tryz.prog lim n_laws_heldIntS [s, .int .i64 k] H fun v H' => v = .int .i64 (k + n) ∧ H' = H := by
 refine is_laws_heldIntS.go rfl ?_
 unfold c_laws_heldIntS
 have hl := iota_length k n
 refine s_reg ?_
 simp only [o_pure, o_nil, POp.ev, Opd.ev, env0, gu, setD, List.set, xsj, xel]
 refine s_assoc (s_reg ?_)
 simp only [o_pure, o_nil, POp.ev, Opd.ev, setD, List.set, xsj, xel]
 refine s_block ?_
 refine s_loop1 (fun j e' H' => H' = H ∧ ∃ (i : Nat), i + j = n ∧ e' = [s, .int .i64 (k + i), .int .i64 0, .int .i64 i]) n ⟨rfl, 0, by omega, by simp⟩ ?_
 rintro j e' H ⟨rfl, i, hij, rfl⟩
 refine s_test ?_
 simp only [o_pure, o_nil, POp.ev, Opd.ev, gv, setD, xsj, xel, binV, ne_eq, xnt, if_false, hs.lenV, hl]
 refine Test.split (fun hlt => ?_) (fun hlt => ?_)
 · have hlt' : i < n := by simpa using hlt
   refine s_skip1 ?_
   simp +decide only [pqn]
   refine s_block ?_
   obtain ⟨bb, o, h1, h2, h3⟩ := SlI.get hs (i := i) (by omega)
   have hx : (iota k n)[i] = k + (i : Int) := by simp [iota]
   rw [hx] at h3
   have hne : ((k + (i : Int)) != (k + (i : Int))) = false := by simp
   have hw : IntKind.i64.wrap (k + i + 1) = k + ((i + 1 : Nat) : Int) := by rw [IntKind.wrap_i64]; omega
   refine s_test ?_
   simp only [o_pure, o_nil, POp.ev, Opd.ev, gv, setD, xsj, xel, binV, load1V, ne_eq, xnt, if_false, h1, h3, hne]
   refine Test.false_ (s_skip1 ?_)
   simp +decide only [pqn]
   refine s_reg1 ?_
   simp only [o_pure, o_nil, POp.ev, Opd.ev, gv, setD, List.set, xsj, xel, binV, ne_eq, xnt, if_false, hw]
   simp +decide only [pqn, pbn]
   refine s_reg1 ?_
   simp only [o_pure, o_nil, POp.ev, Opd.ev, gv, setD, List.set, xsj, xel, binV, ne_eq, xnt, if_false, add1 (i := i) (by omega)]
   simp +decide only [pqn]
   exact Round.mk (j - 1) (by omega) ⟨rfl, i + 1, by omega, rfl⟩
 · have hge : i = n := by simp at hlt; omega
   subst hge
   refine s_exit1 ?_
   simp +decide only [pqn, pqe, pbe, reduceIte]
   refine s_reg ?_
   simp only [o_pure, o_nil, POp.ev, Opd.ev, gv, setD, List.set, xsj, xel]
   refine s_ret1 ?_
   simp +decide only [pfr, resV, resOne, gv, xsj, xel]
def BoxO (H : AHeap) (lo hi : Nat) (x : Value) (k : Int) (low high : List Int) : Prop :=
 ∃ s t, x = .agg #[.int .i64 k, s, t] ∧ ((s = .slice none 0 0 ∧ t = .slice none 0 0 ∧ low = [] ∧ high = []) ∨ ∃ b c, b ≠ c ∧ lo ≤ b ∧ b < hi ∧ lo ≤ c ∧ c < hi ∧ VecI H b s low ∧ VecI H c t high)
theorem BoxO.keep {H H' : AHeap} {lo hi : Nat} {x : Value} {k : Int} {low high : List Int} (h : BoxO H lo hi x k low high) (hn : H.next ≤ H'.next) (hb : ∀ b, b < H.next → lo ≤ b → b < hi → H'.blk b = H.blk b) : BoxO H' lo hi x k low high := by
 obtain ⟨s, t, h1, h2⟩ := h
 refine ⟨s, t, h1, ?_⟩
 rcases h2 with h2 | ⟨b, c, g1, g2, g3, g4, g5, g6, g7⟩
 · exact .inl h2
 · exact .inr ⟨b, c, g1, g2, g3, g4, g5, g6.keep hn fun h => hb b h g2 g3, g7.keep hn fun h => hb c h g4 g5⟩
theorem BoxO.ext {H H' : AHeap} {lo hi : Nat} {x : Value} {k : Int} {low high : List Int} (h : BoxO H lo hi x k low high) (hx : Ext H H') : BoxO H' lo hi x k low high := h.keep hx.next fun b hb _ _ => hx.blk b hb
theorem BoxO.out {H H' : AHeap} {lo hi lo' hi' : Nat} {x : Value} {k : Int} {low high : List Int} (h : BoxO H lo hi x k low high) (hx : Out lo' hi' H H') (hd : hi ≤ lo' ∨ hi' ≤ lo) : BoxO H' lo hi x k low high :=
 h.keep hx.next fun b hb h1 h2 => hx.blk b hb (by omega)
theorem BoxO.boxV {H : AHeap} {lo hi : Nat} {x : Value} {k : Int} {low high : List Int} (h : BoxO H lo hi x k low high) : BoxV H x k low high := by
 obtain ⟨s, t, h1, h2⟩ := h
 refine ⟨s, t, h1, ?_⟩
 rcases h2 with ⟨rfl, rfl, rfl, rfl⟩ | ⟨b, c, _, _, _, _, _, g6, g7⟩
 · exact ⟨Sl.nil _ _, Sl.nil _ _⟩
 · exact ⟨g6.sl, g7.sl⟩
theorem BoxO.cells {H : AHeap} {lo hi : Nat} {x : Value} {k : Int} {low high : List Int} (h : BoxO H lo hi x k low high) : ∃ s t, x = .agg #[.int .i64 k, s, t] := by
 obtain ⟨s, t, h1, _⟩ := h
 exact ⟨s, t, h1⟩
theorem markBox_ok (lim lo hi : Nat) (x : Value) (kk m : Int) (low high : List Int) (H : AHeap) (hl : lim ≤ lo) (hlo : hi ≤ H.next) (hh : lo ≤ hi) (hb : BoxO H lo hi x kk low high) (hn : low.length ≤ 100000000) (hn2 : high.length ≤ 100000000) (h0 : 0 ≤ m) (hm : m ≤ 100000000) :
   ACalls Tryz.prog lim n_laws_markBox [x, .int .i64 m] H fun v H' => v = .int .i64 (m + low.length + high.length) ∧ BoxO H' lo hi x kk (iota m low.length) (iota (m + low.length) high.length) ∧ Out lo hi H H' := by
 have hb0 := hb
 obtain ⟨s, t, rfl, hst⟩ := hb0
 refine is_laws_markBox.go rfl ?_
 unfold c_laws_markBox
 refine s_reg ?_
 simp only [o_pure, o_eff, o_nil, POp.ev, Opd.ev, EOp.ev, env0, gu, gv, setD, List.set, xms, xsj, xel, boxH, cellsV]
 have hx : Ext H (H.alloc [.int .i64 kk, s, t]) := Ext.alloc _ _
 have hbp : (H.alloc [.int .i64 kk, s, t]).blk H.next = some [.int .i64 kk, s, t] := alloc_new _ _
 have hlt : H.next < (H.alloc [.int .i64 kk, s, t]).next := Nat.lt_succ_self _
 have hb1 := hb.ext hx
 generalize H.alloc [.int .i64 kk, s, t] = H1 at hx hbp hlt hb1 ⊢
 rcases hst with ⟨rfl, rfl, rfl, rfl⟩ | ⟨b, c, g1, g2, g3, g4, g5, g6, g7⟩
 · have hxn := hx.next
   refine s_reg ?_
   simp only [o_pure, o_callF, POp.ev, Opd.ev, gv, setD, List.map, xsj, xel, load1V, fadV, xgz, xgs, cell_blk hbp, Nat.zero_add]
   refine (markIntS_ok lim H1.next (.slice none 0 0) [] m H1 (by omega) (Vec.nil _ _ _) (by simp) h0 (by omega)).mono ?_
   rintro v H2 ⟨rfl, _, hc2, hn2'⟩
   have hx2 : Ext H1 H2 := ⟨hc2.next, fun b hb => hc2.blk b hb (by omega)⟩
   have hbp2 : H2.blk H.next = some [.int .i64 kk, .slice none 0 0, .slice none 0 0] := by rw [hx2.blk _ hlt]; exact hbp
   have e0 : m + (([] : List Int).length : Int) = m := by simp
   rw [e0]
   simp only [o_cont, o_pure, o_nil, POp.ev, Opd.ev, gv, setD, List.set, xsj, xel]
   refine s_reg ?_
   simp only [o_pure, o_callF, POp.ev, Opd.ev, gv, setD, List.map, xsj, xel, load1V, fadV, xgz, xgs, cell_blk hbp2, Nat.zero_add]
   refine (markIntS_ok lim H2.next (.slice none 0 0) [] m H2 (by omega) (Vec.nil _ _ _) (by simp) h0 (by omega)).mono ?_
   rintro v H3 ⟨rfl, _, hc3, hn3'⟩
   have hx3 : Ext H2 H3 := ⟨hc3.next, fun b hb => hc3.blk b hb (by omega)⟩
   rw [e0]
   simp only [o_cont, o_pure, o_nil, POp.ev, Opd.ev, gv, setD, List.set, xsj, xel]
   refine s_reg ?_
   simp only [o_pure, o_nil, POp.ev, Opd.ev, gv, setD, List.set, xsj, xel]
   refine s_ret1 ?_
   simp +decide only [pfr, resV, resOne, gv, xsj, xel]
   exact ⟨by simp, ⟨_, _, rfl, .inl ⟨rfl, rfl, rfl, rfl⟩⟩, Out.of_ext ((hx.trans hx2).trans hx3)⟩
 · have hvb := g6.ext hx
   have hvc := g7.ext hx
   refine s_reg ?_
   simp only [o_pure, o_callF, POp.ev, Opd.ev, gv, setD, List.map, xsj, xel, load1V, fadV, xgz, xgs, cell_blk hbp, Nat.zero_add]
   refine (markIntS_ok lim b s low m H1 (by omega) hvb (by omega) h0 (by omega)).mono ?_
   rintro v H2 ⟨rfl, hvb2, hc2, hn2'⟩
   have hbp2 : H2.blk H.next = some [.int .i64 kk, s, t] := by rw [hc2.blk _ hlt (by omega)]; exact hbp
   have hvc2 := hvc.chg hc2 (fun h => g1 h.symm)
   simp only [o_cont, o_pure, o_nil, POp.ev, Opd.ev, gv, setD, List.set, xsj, xel]
   refine s_reg ?_
   simp only [o_pure, o_callF, POp.ev, Opd.ev, gv, setD, List.map, xsj, xel, load1V, fadV, xgz, xgs, cell_blk hbp2, Nat.zero_add]
   refine (markIntS_ok lim c t high (m + low.length) H2 (by omega) hvc2 (by omega) (by omega) (by omega)).mono ?_
   rintro v H3 ⟨rfl, hvc3, hc3, hn3'⟩
   simp only [o_cont, o_pure, o_nil, POp.ev, Opd.ev, gv, setD, List.set, xsj, xel]
   refine s_reg ?_
   simp only [o_pure, o_nil, POp.ev, Opd.ev, gv, setD, List.set, xsj, xel]
   refine s_ret1 ?_
   simp +decide only [pfr, resV, resOne, gv, xsj, xel]
   refine ⟨trivial, ⟨s, t, rfl, .inr ⟨b, c, g1, g2, g3, g4, g5, ?_, ?_⟩⟩, ((Out.of_ext hx).trans (Out.of_chg hc2 g2 g3)).trans (Out.of_chg hc3 g4 g5)⟩
   · have h := hvb2.chg hc3 g1
     exact h
   · exact hvc3
def OwnI (H : AHeap) (lo hi : Nat) (x : Value) (l : List Int) : Prop := (x = .slice none 0 0 ∧ l = []) ∨ ∃ c, lo ≤ c ∧ c < hi ∧ VecI H c x l
theorem OwnI.keep {H H' : AHeap} {lo hi : Nat} {x : Value} {l : List Int} (h : OwnI H lo hi x l) (hn : H.next ≤ H'.next) (hb : ∀ b, b < H.next → lo ≤ b → b < hi → H'.blk b = H.blk b) : OwnI H' lo hi x l := by
 rcases h with h | ⟨c, g1, g2, g3⟩
 · exact .inl h
 · exact .inr ⟨c, g1, g2, Vec.keep g3 hn fun h => hb c h g1 g2⟩
theorem OwnI.ext {H H' : AHeap} {lo hi : Nat} {x : Value} {l : List Int} (h : OwnI H lo hi x l) (hx : Ext H H') : OwnI H' lo hi x l := h.keep hx.next fun b hb _ _ => hx.blk b hb
theorem OwnI.out {H H' : AHeap} {lo hi lo' hi' : Nat} {x : Value} {l : List Int} (h : OwnI H lo hi x l) (hx : Out lo' hi' H H') (hd : hi ≤ lo' ∨ hi' ≤ lo) : OwnI H' lo hi x l := h.keep hx.next fun b hb h1 h2 => hx.blk b hb (by omega)
theorem OwnI.sl {H : AHeap} {lo hi : Nat} {x : Value} {l : List Int} (h : OwnI H lo hi x l) : SlI H x l := by
 rcases h with ⟨rfl, rfl⟩ | ⟨c, _, _, g⟩
 · exact Sl.nil _ _
 · exact Vec.sl g
def ResIL (H : AHeap) (lo : Nat) (v : Value) (r : Option (List Nat)) : Prop := ∃ x, v = .tuple #[x, .bool r.isSome] ∧ OwnI H lo H.next x (zl (r.getD []))
def hv (x : Int) : Int := x.tdiv 2
def normB : Nat → List Int → List Int → Nat × List Int × List Int
 | 0, l, h => (0, l, h)
 | k + 1, l, h => if oddB l h then (k + 1, l, h) else normB k (l.map hv) (h.map hv)
def InR (l : List Int) : Prop := ∀ x ∈ l, -4611686018427387904 ≤ x ∧ x ≤ 4611686018427387904
theorem InR.get {l : List Int} (h : InR l) {i : Nat} (hi : i < l.length) : -4611686018427387904 ≤ l[i] ∧ l[i] ≤ 4611686018427387904 := h _ (List.getElem_mem hi)
theorem hv_range {x : Int} (h : -4611686018427387904 ≤ x ∧ x ≤ 4611686018427387904) : -4611686018427387904 ≤ hv x ∧ hv x ≤ 4611686018427387904 := by
 unfold hv
 rcases Int.le_total 0 x with h0 | h0
 · rw [Int.tdiv_eq_ediv_of_nonneg h0]; omega
 · have : x.tdiv 2 = -((-x) / 2) := by rw [← Int.tdiv_eq_ediv_of_nonneg (by omega), Int.neg_tdiv, Int.neg_neg]
   rw [this]; omega
theorem InR.half {l : List Int} (h : InR l) : InR (l.map hv) := by
 intro x hx
 obtain ⟨y, hy, rfl⟩ := List.mem_map.1 hx
 exact hv_range (h y hy)
theorem hv_wrap {x : Int} (h : -4611686018427387904 ≤ x ∧ x ≤ 4611686018427387904) : IntKind.i64.wrap (x.tdiv 2) = hv x := by
 have := hv_range h
 unfold hv at this ⊢
 rw [IntKind.wrap_i64]
 omega
theorem bxEven_ok (lim : Nat) (v : Value) (k : Int) (low high : List Int) (H : AHeap) (hl : lim ≤ H.next) (hv : BoxV H v k low high) (hn : low.length ≤ 1000000000) (hlen' : high.length = low.length) :
   ACalls Tryz.prog lim n_spec_bxEven [v] H fun v H' => v = .bool (!oddB low high) ∧ Ext H H' := by
 obtain ⟨s, t, rfl, hs, ht⟩ := hv
 refine is_spec_bxEven.go rfl ?_
 unfold c_spec_bxEven
 refine s_reg ?_
 simp only [o_pure, o_eff, o_nil, POp.ev, Opd.ev, EOp.ev, env0, gu, gv, setD, List.set, xms, xsj, xel, boxH, cellsV]
 have hx : Ext H (H.alloc [.int .i64 k, s, t]) := Ext.alloc _ _
 have hs' := hs.keep (Keep.of_ext hx (Nat.le_refl _)) (Nat.le_refl _)
 have ht' := ht.keep (Keep.of_ext hx (Nat.le_refl _)) (Nat.le_refl _)
 have c1 : (H.alloc [.int .i64 k, s, t]).cell H.next 1 = some s := alloc_cell _ _ _
 have c2 : (H.alloc [.int .i64 k, s, t]).cell H.next 2 = some t := alloc_cell _ _ _
 generalize H.alloc [.int .i64 k, s, t] = H1 at hx hs' ht' c1 c2 ⊢
 refine s_assoc (s_reg ?_)
 simp only [o_pure, o_nil, POp.ev, Opd.ev, gv, setD, List.set, xsj, xel, load1V, fadV, c1, hs'.lenV, Nat.zero_add]
 refine s_block ?_
 refine s_loop1 (fun n e' H' => H' = H1 ∧ ∃ (i : Nat) (x3 x4 : Value), i + n = low.length ∧ oddB low high = oddB (low.drop i) (high.drop i) ∧
     e' = [.agg #[.int .i64 k, s, t], .pointer (some ⟨H.next, 0, none⟩), .bool false, x3, x4, s, .int .i64 low.length, .int .i64 i]) low.length ⟨rfl, 0, _, _, by omega, by simp, rfl⟩ ?_
 rintro n e' _ ⟨rfl, i, x3, x4, hin, hall, rfl⟩
 refine s_test ?_
 simp only [o_pure, o_nil, POp.ev, Opd.ev, gv, setD, xsj, xel, binV, ne_eq, xnt, if_false]
 refine Test.split (fun hlt => ?_) (fun hlt => ?_)
 · have hlt' : i < low.length := by simpa using hlt
   have hlt2 : i < high.length := by omega
   rw [List.drop_eq_getElem_cons hlt', List.drop_eq_getElem_cons hlt2] at hall
   simp only [oddB] at hall
   refine s_skip1 ?_
   simp +decide only [pqn]
   refine s_block ?_
   obtain ⟨bb, o, h1, h2, h3⟩ := SlI.get hs' hlt'
   obtain ⟨bb', o', h1', h2', h3'⟩ := SlI.get ht' hlt2
   refine s_reg ?_
   simp only [o_pure, o_nil, POp.ev, Opd.ev, gv, setD, List.set, xsj, xel, load1V, h1, h3]
   generalize low[i] = x at hall h3 ⊢
   generalize high[i] = y at hall h3' ⊢
   have e2 : ¬ ((2 : Int) = 0) := by decide
   refine s_test1_same (x.tmod 2 != 0 || y.tmod 2 != 0) ?_ (fun hg => ?_) (fun hg => ?_)
   · cases hxo : (x.tmod 2 != 0)
     · simp only [o_pure, o_guard, gk_ff, o_nil, POp.ev, Opd.ev, gv, setD, xsj, xel, pickV, binV, load1V, fadV, ne_eq, xnt, if_false, if_neg e2, hxo, c2, h1', h3', Nat.zero_add]
       simp
     · simp only [o_pure, o_guard, gk_tf, o_nil, POp.ev, Opd.ev, gv, setD, xsj, xel, pickV, binV, ne_eq, xnt, if_false, if_neg e2, hxo]
       simp
   · refine s_reg ?_
     simp only [o_pure, o_nil, POp.ev, Opd.ev, setD, List.set, xsj, xel]
     refine s_ret1 ?_
     simp +decide only [pqr, pbr, pfr, resV, resOne, gv, xsj, xel]
     rw [hg, Bool.true_or] at hall
     exact ⟨by rw [hall]; rfl, hx⟩
   · rw [hg, Bool.false_or] at hall
     refine s_skip1 ?_
     simp +decide only [pqn, pbn]
     refine s_reg1 ?_
     simp only [o_pure, o_nil, POp.ev, Opd.ev, gv, setD, List.set, xsj, xel, binV, ne_eq, xnt, if_false, add1 (i := i) (by omega)]
     simp +decide only [pqn]
     exact Round.mk (n - 1) (by omega) ⟨rfl, i + 1, _, _, by omega, hall, rfl⟩
 · have hge : low.length ≤ i := by simp at hlt; omega
   rw [List.drop_of_length_le hge, List.drop_of_length_le (by omega)] at hall
   refine s_exit1 ?_
   simp +decide only [pqn, pqe, pbe, reduceIte]
   refine s_reg ?_
   simp only [o_pure, o_nil, POp.ev, Opd.ev, setD, List.set, xsj, xel]
   refine s_ret1 ?_
   simp +decide only [pfr, resV, resOne, gv, xsj, xel]
   exact ⟨by rw [hall]; rfl, hx⟩
def BoxR (lo : Nat) (H : AHeap) (v : Value) (ok : Bool) (k : Int) (low high : List Int) : Prop :=
 (ok = false ∧ v = .tuple #[.agg #[.int .i64 0, .slice none 0 0, .slice none 0 0], .bool false]) ∨
 (ok = true ∧ ∃ s t b c, v = .tuple #[.agg #[.int .i64 k, s, t], .bool true] ∧ lo ≤ b ∧ lo ≤ c ∧ b ≠ c ∧ VecI H b s low ∧ VecI H c t high)
def makeB (k : Nat) (low high : List Int) : Bool × Nat × List Int × List Int := let r := normB k low high; (goodB r.1 r.2.1 r.2.2, r)
structure MkSt (H H' : AHeap) (res out b c : Nat) (n : Int) (s t : Value) (low high : List Int) : Prop where
 ext : Ext H H'
 ge : H.next ≤ res ∧ H.next ≤ out ∧ H.next ≤ b ∧ H.next ≤ c
 lt : res < H'.next ∧ out < H'.next ∧ b < H'.next ∧ c < H'.next
 ne : res ≠ out ∧ res ≠ b ∧ res ≠ c ∧ out ≠ b ∧ out ≠ c ∧ b ≠ c
 br : H'.blk res = some [.int .i64 0, .slice none 0 0, .slice none 0 0]
 bo : H'.blk out = some [.int .i64 n, s, t]
 vl : VecI H' b s low
 vh : VecI H' c t high
theorem MkSt.mono {H H' H'' : AHeap} {res out b c : Nat} {n : Int} {s t : Value} {low high : List Int} (h : MkSt H H' res out b c n s t low high) (hx : Ext H' H'') : MkSt H H'' res out b c n s t low high := by
 obtain ⟨h1, h2, h3, h4, h5, h6, h7, h8⟩ := h
 have hn := hx.next
 exact ⟨h1.trans hx, h2, by omega, h4, by rw [hx.blk _ h3.1]; exact h5, by rw [hx.blk _ h3.2.1]; exact h6, h7.ext hx, h8.ext hx⟩
theorem MkSt.boxV {H H' : AHeap} {res out b c : Nat} {n : Int} {s t : Value} {low high : List Int} (h : MkSt H H' res out b c n s t low high) : BoxV H' (.agg #[.int .i64 n, s, t]) n low high := ⟨s, t, rfl, h.vl.sl, h.vh.sl⟩
theorem MkSt.boxP {H H' : AHeap} {res out b c : Nat} {n : Int} {s t : Value} {low high : List Int} (h : MkSt H H' res out b c n s t low high) : BoxP H' out n s t low high := ⟨h.bo, h.vl.sl, h.vh.sl⟩
theorem MkSt.exp {H H' : AHeap} {res out b c : Nat} {n : Int} {s t : Value} {low high : List Int} (h : MkSt H H' res out b c n s t low high) (m : Int) : MkSt H (H'.put out [.int .i64 m, s, t]) res out b c m s t low high := by
 obtain ⟨h1, h2, h3, h4, h5, h6, h7, h8⟩ := h
 have hc := Chg.put out H' [.int .i64 m, s, t]
 exact ⟨hc.ext h1 h2.2.1, h2, h3, h4, by rw [put_ne _ _ h4.1]; exact h5, put_same _ _ _, h7.chg hc (fun h => h4.2.2.2.1 h.symm), h8.chg hc (fun h => h4.2.2.2.2.1 h.symm)⟩
theorem MkSt.turnL {H H' : AHeap} {res out b c : Nat} {n : Int} {s t : Value} {low high : List Int} (h : MkSt H H' res out b c n s t low high) {lim : Nat} (hl : lim ≤ H.next) {i : Nat} (x : Int) (hi : i < low.length) :
   ∃ H'', storeH lim H' 1 (.pointer (some ⟨b, i, none⟩)) (.int .i64 x) = some (undef, H'') ∧ MkSt H H'' res out b c n s t (low.set i x) high := by
 obtain ⟨h1, h2, h3, h4, h5, h6, h7, h8⟩ := h
 obtain ⟨cs, g1, g2⟩ := h7.put1 (lim := lim) (by omega) (cells_int .i64 x) hi
 have hc := Chg.put b H' cs
 refine ⟨_, g1, hc.ext h1 h2.2.2.1, h2, h3, h4, by rw [put_ne _ _ h4.2.1]; exact h5, by rw [put_ne _ _ h4.2.2.2.1]; exact h6, ?_, h8.chg hc (fun h => h4.2.2.2.2.2 h.symm)⟩
 unfold VecI
 rw [List.length_set, List.map_set]
 exact g2
theorem MkSt.turnH {H H' : AHeap} {res out b c : Nat} {n : Int} {s t : Value} {low high : List Int} (h : MkSt H H' res out b c n s t low high) {lim : Nat} (hl : lim ≤ H.next) {i : Nat} (x : Int) (hi : i < high.length) :
   ∃ H'', storeH lim H' 1 (.pointer (some ⟨c, i, none⟩)) (.int .i64 x) = some (undef, H'') ∧ MkSt H H'' res out b c n s t low (high.set i x) := by
 obtain ⟨h1, h2, h3, h4, h5, h6, h7, h8⟩ := h
 obtain ⟨cs, g1, g2⟩ := h8.put1 (lim := lim) (by omega) (cells_int .i64 x) hi
 have hc := Chg.put c H' cs
 refine ⟨_, g1, hc.ext h1 h2.2.2.2, h2, h3, h4, by rw [put_ne _ _ h4.2.2.1]; exact h5, by rw [put_ne _ _ h4.2.2.2.2.1]; exact h6, h7.chg hc h4.2.2.2.2.2, ?_⟩
 unfold VecI
 rw [List.length_set, List.map_set]
 exact g2
theorem bxMake_ok (lim : Nat) (k : Nat) (s t : Value) (low high : List Int) (H : AHeap) (hl : lim ≤ H.next) (hs : SlI H s low) (ht : SlI H t high) (hn : low.length ≤ 100000000) (hlen : high.length = low.length) (hk : k ≤ 1000000) (hr : InR low) (hr2 : InR high) :
   ACalls Tryz.prog lim n_spec_bxMake [.int .i64 k, s, t] H fun v H' => BoxR H.next H' v (makeB k low high).1 (makeB k low high).2.1 (makeB k low high).2.2.1 (makeB k low high).2.2.2 ∧ Ext H H' := by
 refine is_spec_bxMake.go rfl ?_
 unfold c_spec_bxMake
 refine s_reg ?_
 simp only [o_pure, o_eff, o_nil, POp.ev, Opd.ev, EOp.ev, env0, gu, setD, List.set, xsj, xel]
 have hx0 : Ext H (H.alloc [.int .i64 0, .slice none 0 0, .slice none 0 0]) := Ext.alloc _ _
 have hs1 := hs.keep (Keep.of_ext hx0 (Nat.le_refl _)) (Nat.le_refl _)
 have ht1 := ht.keep (Keep.of_ext hx0 (Nat.le_refl _)) (Nat.le_refl _)
 have hb0 : (H.alloc [.int .i64 0, .slice none 0 0, .slice none 0 0]).blk H.next = some [.int .i64 0, .slice none 0 0, .slice none 0 0] := alloc_new _ _
 have hn1 : (H.alloc [.int .i64 0, .slice none 0 0, .slice none 0 0]).next = H.next + 1 := rfl
 generalize H.alloc [.int .i64 0, .slice none 0 0, .slice none 0 0] = H1 at hx0 hs1 ht1 hb0 hn1 ⊢
 refine s_reg ?_
 simp only [o_pure, o_callF, POp.ev, Opd.ev, gv, setD, List.map, xsj, xel]
 refine (Ints.l1Own_ok lim _ _ _ (by omega) hs1 (by omega)).mono ?_
 rintro s1 H2 ⟨b, hb1, hb2, hvb, hx2⟩
 simp only [o_cont, o_pure, o_callF, POp.ev, Opd.ev, gv, setD, List.map, xsj, xel]
 refine (Ints.l1Own_ok lim _ _ _ (by have := hx2.next; omega) (ht1.keep (Keep.of_ext hx2 (Nat.le_refl _)) (Nat.le_refl _)) (by omega)).mono ?_
 rintro t1 H3 ⟨c, hc1, hc2, hvc, hx3⟩
 have hvb3 := hvb.ext hx3
 have hn2 := hx2.next
 have hn3 := hx3.next
 simp only [o_cont, o_pure, o_eff, o_nil, POp.ev, Opd.ev, EOp.ev, gv, setD, List.set, List.map, xms, xsj, xel, fill3 (cells_int .i64 k) hvb.cellsV hvc.cellsV, store3_new (lim := lim) (H := H3) (by omega)]
 have hst : MkSt H (H3.alloc [.int .i64 k, s1, t1]) H.next H3.next b c k s1 t1 low high := by
   refine ⟨((hx0.trans hx2).trans hx3).trans (Ext.alloc _ _), by omega, by rw [alloc_next]; omega, by omega, ?_, alloc_new _ _, hvb3.ext (Ext.alloc _ _), hvc.ext (Ext.alloc _ _)⟩
   rw [alloc_old _ _ (by omega), hx3.blk _ (by omega), hx2.blk _ (by omega), hb0]
 generalize H3.alloc [.int .i64 k, s1, t1] = H4 at hst ⊢
 generalize H3.next = out at hst ⊢
 refine s_block ?_
 refine s_loop1 (fun n e' H' => ∃ (low' high' : List Int) (x6 x7 x8 : Value), MkSt H H' H.next out b c n s1 t1 low' high' ∧ normB k low high = normB n low' high' ∧ low'.length = low.length ∧ high'.length = low.length ∧ InR low' ∧ InR high' ∧ n ≤ 1000000 ∧
     e' = [.int .i64 k, s, t, .pointer (some ⟨H.next, 0, none⟩), .bool false, .pointer (some ⟨out, 0, none⟩), x6, x7, x8]) k
   ⟨low, high, _, _, _, hst, rfl, rfl, hlen, hr, hr2, hk, rfl⟩ ?_
 clear hst
 rintro n e' H' ⟨low', high', x6, x7, x8, hst, hnorm, hll, hlh, hil, hih, hnk, rfl⟩
 have hln := hst.ext.next
 refine s_test_I (decide (0 < n) && !oddB low' high') (Ext H') ?_ (fun H'' hx hg => ?_) (fun H'' hx hg => ?_)
 · have hgt : decide ((n : Int) > 0) = decide (0 < n) := by rw [Bool.eq_iff_iff]; simp
   simp only [o_pure, o_guard, POp.ev, Opd.ev, gv, setD, xsj, xel, binV, load1V, fadV, ne_eq, xnt, if_false, xgz, cell_blk hst.bo, Nat.zero_add, hgt]
   cases h0 : decide (0 < n)
   · simp only [o_pure, o_guard, gk_ft, o_nil, POp.ev, Opd.ev, gv, setD, xsj, xel, pickV]
     simp [Ext.refl]
   · simp only [o_pure, o_callF, o_guard, gk_tt, POp.ev, Opd.ev, gv, setD, List.map, xsj, xel, load3 hst.bo]
     refine (bxEven_ok lim _ _ _ _ _ (by omega) hst.boxV (by omega) (by omega)).mono ?_
     rintro v H'' ⟨rfl, hx⟩
     simp only [o_cont, o_pure, o_nil, POp.ev, Opd.ev, gv, setD, xsj, xel, pickV]
     simp [hx]
 · replace hst := hst.mono hx
   simp only [Bool.and_eq_true, decide_eq_true_eq, Bool.not_eq_true'] at hg
   obtain ⟨hn0, hodd⟩ := hg
   obtain ⟨m, rfl⟩ : ∃ m, n = m + 1 := ⟨n - 1, by omega⟩
   have hnorm' : normB k low high = normB m (low'.map hv) (high'.map hv) := by
     rw [hnorm]
     simp [normB, hodd]
   have hsub : IntKind.i64.wrap (((m + 1 : Nat) : Int) - 1) = (m : Int) := by rw [IntKind.wrap_i64]; omega
   refine s_skip1 ?_
   simp +decide only [pqn]
   refine s_block1 ?_
   have hl' := hst.ge
   have hst2 := hst.exp (m : Int)
   have hput : ∀ (x y z : Value), storeH lim H'' 1 (.pointer (some ⟨out, 0, none⟩)) (.int .i64 m) = some (undef, H''.put out [.int .i64 m, s1, t1]) := by
     intro x y z
     rw [store_cell (cells_int .i64 m) (by omega) hst.bo (by simp)]
     rfl
   refine s_reg ?_
   simp only [o_pure, o_eff, o_nil, POp.ev, Opd.ev, EOp.ev, gv, setD, xsj, xel, binV, load1V, fadV, ne_eq, xnt, if_false, xgz, cell_blk hst.bo, Nat.zero_add, hsub, hput undef undef undef]
   refine s_reg ?_
   simp only [o_pure, o_nil, POp.ev, Opd.ev, gv, setD, List.set, xsj, xel, load1V, fadV, xgz, xgs, cell_blk hst2.bo, hst2.vl.lenV, Nat.zero_add]
   refine s_block1 ?_
   refine s_loop1 (fun j e' H3 => ∃ (i : Nat) (x6 : Value), i + j = low.length ∧ MkSt H H3 H.next out b c m s1 t1 (partL hv low' i) (partL hv high' i) ∧
     e' = [.int .i64 k, s, t, .pointer (some ⟨H.next, 0, none⟩), .bool false, .pointer (some ⟨out, 0, none⟩), x6, .int .i64 low'.length, .int .i64 i]) low.length ⟨0, _, by omega, by rw [partL_zero, partL_zero]; exact hst2, rfl⟩ ?_
   clear hst hst2 hput
   rintro j e' H5 ⟨i, x6, hij, hst, rfl⟩
   have hp1 := partL_length hv low' i
   have hp2 := partL_length hv high' i
   refine s_test ?_
   simp only [o_pure, o_nil, POp.ev, Opd.ev, gv, setD, xsj, xel, binV, ne_eq, xnt, if_false]
   refine Test.split (fun hlt => ?_) (fun hlt => ?_)
   · have hlt' : i < low'.length := by simpa using hlt
     have hlt2 : i < high'.length := by omega
     refine s_skip1 ?_
     simp +decide only [pqn]
     refine s_block ?_
     refine s_reg ?_
     simp only [o_pure, o_nil, POp.ev, Opd.ev, gv, setD, List.set, xsj, xel]
     have e2 : ¬ ((2 : Int) = 0) := by decide
     have hc1 : H5.cell b i = some (.int .i64 low'[i]) := hst.vl.cell (by rw [List.getElem?_map, partL_get hv low' hlt']; rfl)
     obtain ⟨H6, hs6, hst6⟩ := hst.turnL (lim := lim) hl (hv low'[i]) (by omega : i < (partL hv low' i).length)
     rw [partL_set hv low' hlt'] at hst6
     refine s_reg ?_
     simp only [o_pure, o_eff, o_nil, POp.ev, Opd.ev, EOp.ev, gv, setD, xsj, xel, binV, load1V, fadV, ne_eq, xnt, if_false, xgz, xgs, cell_blk hst.bo, Nat.zero_add, hst.vl.iad .i64 (show i < _ by omega), Nat.mul_one, hc1, if_neg e2, hv_wrap (hil.get hlt'), hs6]
     have hc2 : H6.cell c i = some (.int .i64 high'[i]) := hst6.vh.cell (by rw [List.getElem?_map, partL_get hv high' hlt2]; rfl)
     obtain ⟨H7, hs7, hst7⟩ := hst6.turnH (lim := lim) hl (hv high'[i]) (by omega : i < (partL hv high' i).length)
     rw [partL_set hv high' hlt2] at hst7
     refine s_reg1 ?_
     simp only [o_pure, o_eff, o_nil, POp.ev, Opd.ev, EOp.ev, gv, setD, xsj, xel, binV, load1V, fadV, ne_eq, xnt, if_false, xgz, xgs, cell_blk hst6.bo, Nat.zero_add, hst6.vh.iad .i64 (show i < _ by omega), Nat.mul_one, hc2, if_neg e2, hv_wrap (hih.get hlt2), hs7]
     simp +decide only [pqn, pbn]
     refine s_reg1 ?_
     simp only [o_pure, o_nil, POp.ev, Opd.ev, gv, setD, List.set, xsj, xel, binV, ne_eq, xnt, if_false, add1 (i := i) (by omega)]
     simp +decide only [pqn]
     exact Round.mk (j - 1) (by omega) ⟨i + 1, _, by omega, hst7, rfl⟩
   · have hge : low'.length ≤ i := by simp at hlt; omega
     rw [partL_all hv low' hge, partL_all hv high' (by omega)] at hst
     refine s_exit1 ?_
     simp +decide only [pqn, pqe, pbn, pbe, reduceIte]
     exact Round.mk m (by omega) ⟨_, _, _, _, _, hst, hnorm', by simp [hll], by simp [hlh], hil.half, hih.half, by omega, rfl⟩
 · replace hst := hst.mono hx
   have hdone : normB n low' high' = (n, low', high') := by
     cases n with
     | zero => rfl
     | succ m =>
       have : oddB low' high' = true := by simpa using hg
       simp only [normB, this, if_true]
   rw [hdone] at hnorm
   refine s_exit1 ?_
   simp +decide only [pqn, pqe, pbe, reduceIte]
   refine s_test_I (!goodB n low' high') (Ext H'') ?_ (fun H3 hx3 hg3 => ?_) (fun H3 hx3 hg3 => ?_)
   · simp only [o_pure, o_callF, POp.ev, Opd.ev, gv, setD, List.map, xsj, xel, load3 hst.bo]
     have := hst.ext.next
     refine (Ints.bxGood_ok lim _ _ _ _ _ (by omega) hst.boxV (by omega) (by omega)).mono ?_
     rintro v H'' ⟨rfl, hx⟩
     simp only [o_cont, o_pure, o_nil, POp.ev, Opd.ev, gv, setD, xsj, xel, unV]
     simp [hx]
   · replace hst := hst.mono hx3
     simp only [Bool.not_eq_true'] at hg3
     have hz : fillV [.int .i64 0, .slice none 0 0, .slice none 0 0] [] = some [.int .i64 0, .slice none 0 0, .slice none 0 0] := rfl
     refine s_reg ?_
     simp only [o_pure, o_eff, o_nil, POp.ev, Opd.ev, EOp.ev, gv, setD, List.set, List.map, xms, xsj, xel, hz, store3 (lim := lim) (b := H.next) hl hst.br]
     refine s_ret1 ?_
     simp +decide only [pqr, pfr, resV, resOne, resL, gv, xsj, xel, Option.bind_some, xms, load3 (put_same _ _ _)]
     refine ⟨.inl ⟨?_, rfl⟩, Chg.ext hst.ext (Chg.put _ _ _) (Nat.le_refl _)⟩
     simp only [makeB, hnorm, hg3]
   · replace hst := hst.mono hx3
     simp only [Bool.not_eq_false'] at hg3
     refine s_skip1 ?_
     simp +decide only [pqn]
     refine s_reg ?_
     simp only [o_pure, o_eff, o_nil, POp.ev, Opd.ev, EOp.ev, gv, setD, List.set, xsj, xel, load3 hst.bo, store3 (lim := lim) (b := H.next) hl hst.br]
     refine s_ret1 ?_
     simp +decide only [pfr, resV, resOne, resL, gv, xsj, xel, Option.bind_some, xms, load3 (put_same _ _ _)]
     have hc := Chg.put H.next H3 [.int .i64 n, s1, t1]
     refine ⟨.inr ⟨?_, s1, t1, b, c, ?_, hst.ge.2.2.1, hst.ge.2.2.2, hst.ne.2.2.2.2.2, ?_, ?_⟩, Chg.ext hst.ext hc (Nat.le_refl _)⟩
     · simp only [makeB, hnorm, hg3]
     · simp only [makeB, hnorm]
     · simp only [makeB, hnorm]
       exact hst.vl.chg hc (fun h => hst.ne.2.1 h.symm)
     · simp only [makeB, hnorm]
       exact hst.vh.chg hc (fun h => hst.ne.2.2.1 h.symm)
theorem BoxR.low {lo lo' : Nat} {H : AHeap} {v : Value} {ok : Bool} {k : Int} {low high : List Int} (h : BoxR lo H v ok k low high) (hl : lo' ≤ lo) : BoxR lo' H v ok k low high := by
 rcases h with h | ⟨h0, s, t, b, c, h1, h2, h3, h4⟩
 · exact .inl h
 · exact .inr ⟨h0, s, t, b, c, h1, by omega, by omega, h4⟩
theorem BoxR.put {lo r : Nat} {H : AHeap} {v : Value} {ok : Bool} {k : Int} {low high : List Int} (h : BoxR lo H v ok k low high) (hr : r < lo) (cs : List Value) : BoxR lo (H.put r cs) v ok k low high := by
 rcases h with h | ⟨h0, s, t, b, c, h1, h2, h3, h4, h5, h6⟩
 · exact .inl h
 · exact .inr ⟨h0, s, t, b, c, h1, h2, h3, h4, h5.chg (Chg.put r H cs) (by omega), h6.chg (Chg.put r H cs) (by omega)⟩
theorem zero_box : fillV [.int .i64 0, .slice none 0 0, .slice none 0 0] [] = some [.int .i64 0, .slice none 0 0, .slice none 0 0] := rfl
theorem InR.set {l : List Int} (h : InR l) (i : Nat) {x : Int} (hx : -4611686018427387904 ≤ x ∧ x ≤ 4611686018427387904) : InR (l.set i x) := by
 intro y hy
 rcases List.mem_or_eq_of_mem_set hy with hy | rfl
 · exact h y hy
 · exact hx
theorem grow_ok (lim n : Nat) (H : AHeap) (hl : lim ≤ H.next) (hn : n ≤ 1000000000) :
   ACalls Tryz.prog lim n_slices_Grow_S_int_int [.slice none 0 0, .int .i64 n] H fun v H' => Vec H' H.next v 0 1 [] ∧ Ext H H' := by
 refine is_slices_Grow_S_int_int.go rfl ?_
 unfold c_slices_Grow_S_int_int
 refine s_reg ?_
 simp only [o_pure, o_nil, POp.ev, Opd.ev, env0, gu, setD, List.set, xsj, xel]
 have hlt : decide ((n : Int) < 0) = false := by simp
 refine s_test ?_
 simp only [o_pure, o_nil, POp.ev, Opd.ev, gv, setD, xsj, xel, binV, ne_eq, xnt, if_false, hlt]
 refine Test.false_ (s_skip1 ?_)
 simp +decide only [pqn]
 have w0 : IntKind.i64.wrap (0 - ((0 : Nat) : Int)) = 0 := rfl
 have w1 : IntKind.i64.wrap ((n : Int) - 0) = n := by rw [IntKind.wrap_i64]; omega
 refine s_reg ?_
 simp only [o_pure, o_nil, POp.ev, Opd.ev, gv, setD, List.set, xsj, xel, binV, ne_eq, xnt, if_false, lenV, capV, w0, w1]
 refine s_test ?_
 simp only [o_pure, o_nil, POp.ev, Opd.ev, gv, setD, xsj, xel, binV, ne_eq, xnt, if_false]
 have hgt : decide ((n : Int) > 0) = decide (0 < n) := by rw [Bool.eq_iff_iff]; simp
 rw [hgt]
 refine Test.split (fun h => ?_) (fun h => ?_)
 · have hn0 : 0 < n := by simpa using h
   have hz : appendZH H 1 8 [.int .i64 0] (.slice none 0 0) (.int .i64 n) = some (.slice (some ⟨H.next, 0, some 1⟩) n n, H.alloc (List.replicate n (.int .i64 0))) := by
     simp only [appendZH]
     rw [if_pos ⟨by omega, by omega, by omega⟩, zerosL_one]
     rfl
   have hs1 : slcV 1 (.slice none 0 0) none (some (.int .i64 0)) none = some (.slice none 0 0) := rfl
   have hs2 : slcV 1 (.slice (some ⟨H.next, 0, some 1⟩) n n) none (some (.int .i64 ((0 : Nat) : Int))) none = some (.slice (some ⟨H.next, 0, some 1⟩) 0 n) := by
     simp [slcV, bounds, sliceB, intV]
   refine s_reg1 ?_
   simp only [o_pure, o_eff, o_nil, POp.ev, Opd.ev, EOp.ev, gv, setD, List.set, Option.map_none, xms, xsj, xel, lenV, capV, hs1, hz, hs2]
   simp +decide only [pqn]
   refine s_reg ?_
   simp only [o_pure, o_nil, POp.ev, Opd.ev, gv, setD, List.set, xsj, xel]
   refine s_ret1 ?_
   simp +decide only [pfr, resV, resOne, gv, xsj, xel]
   refine ⟨.inr ⟨n, some 1, List.replicate n (.int .i64 0), rfl, .inr rfl, Nat.lt_succ_self _, alloc_new _ _, rfl, Nat.zero_le _, by simp⟩, Ext.alloc _ _⟩
 · refine s_skip1 ?_
   simp +decide only [pqn]
   refine s_reg ?_
   simp only [o_pure, o_nil, POp.ev, Opd.ev, gv, setD, List.set, xsj, xel]
   refine s_ret1 ?_
   simp +decide only [pfr, resV, resOne, gv, xsj, xel]
   exact ⟨Vec.nil _ _ _, Ext.refl _⟩
theorem sum_le {l : List Nat} (i : Nat) : (l.take i).sum ≤ l.sum := by
 have h := congrArg List.sum (List.take_append_drop i l)
 rw [List.sum_append] at h
 omega
def totV (ss : List (Value × List Int)) : Nat := (ss.map (·.2.length)).sum
theorem concat_ok (lim : Nat) (v : Value) (ss : List (Value × List Int)) (H : AHeap) (hl : lim ≤ H.next) (hv : Sl H v ss.length 1 (ss.map (·.1))) (hs : ∀ p ∈ ss, SlI H p.1 p.2) (hn : totV ss ≤ 1000000000) (hn2 : ss.length ≤ 1000000) :
   ACalls Tryz.prog lim n_slices_Concat_S_int_int [v] H fun u H' => ∃ b, H.next ≤ b ∧ VecI H' b u (ss.flatMap (·.2)) ∧ Ext H H' := by
 refine is_slices_Concat_S_int_int.go rfl ?_
 unfold c_slices_Concat_S_int_int
 have hcell : ∀ (H' : AHeap), Ext H H' → ∀ i (hi : i < ss.length), ∃ b o, iadV 1 v (.int .i64 i) = some (.pointer (some ⟨b, o, none⟩)) ∧ H'.cell b o = some ss[i].1 := by
   intro H' hx i hi
   obtain ⟨b, o, h1, h2, h3⟩ := (hv.keep (Keep.of_ext hx (Nat.le_refl _)) (Nat.le_refl _)).cell .i64 (i := i) (by omega) (by omega)
   exact ⟨b, o, h1, h3.trans (by simp [hi])⟩
 refine s_reg ?_
 simp only [o_pure, o_nil, POp.ev, Opd.ev, env0, gu, setD, List.set, xsj, xel]
 refine s_reg ?_
 simp only [o_pure, o_nil, POp.ev, Opd.ev, setD, List.set, xsj, xel]
 refine s_assoc (s_reg ?_)
 simp only [o_pure, o_nil, POp.ev, Opd.ev, gv, setD, List.set, xsj, xel, hv.lenV]
 refine s_block ?_
 refine s_loop1 (fun n e' H' => H' = H ∧ ∃ (i : Nat) (x3 : Value), i + n = ss.length ∧ e' = [v, .slice none 0 0, .int .i64 (totV (ss.take i)), x3, undef, undef, v, .int .i64 ss.length, .int .i64 i, undef, undef, undef]) ss.length ⟨rfl, 0, _, by omega, rfl⟩ ?_
 rintro n e' H ⟨rfl, i, x3, hin, rfl⟩
 refine s_test ?_
 simp only [o_pure, o_nil, POp.ev, Opd.ev, gv, setD, xsj, xel, binV, ne_eq, xnt, if_false]
 refine Test.split (fun hlt => ?_) (fun hlt => ?_)
 · have hlt' : i < ss.length := by simpa using hlt
   refine s_skip1 ?_
   simp +decide only [pqn]
   refine s_block ?_
   obtain ⟨bb, o, h1, h2⟩ := hcell _ (Ext.refl _) i hlt'
   refine s_reg ?_
   simp only [o_pure, o_nil, POp.ev, Opd.ev, gv, setD, List.set, xsj, xel, load1V, h1, h2]
   have hsum : totV (ss.take (i + 1)) = totV (ss.take i) + ss[i].2.length := by
     rw [List.take_succ_eq_append_getElem hlt']
     simp only [totV, List.map_append, List.sum_append, List.map_cons, List.map_nil, List.sum_cons, List.sum_nil, Nat.add_zero]
   have hle : totV (ss.take (i + 1)) ≤ totV ss := by
     have := sum_le (l := ss.map (·.2.length)) (i + 1)
     rwa [← List.map_take] at this
   refine s_reg ?_
   simp only [o_pure, o_nil, POp.ev, Opd.ev, gv, setD, List.set, xsj, xel, binV, ne_eq, xnt, if_false, (hs _ (List.getElem_mem hlt')).lenV, addN (i := totV (ss.take i)) (j := ss[i].2.length) (by omega), ← hsum]
   have hng : decide ((totV (ss.take (i + 1)) : Int) < 0) = false := by simp
   refine s_test1 ?_
   simp only [o_pure, o_nil, POp.ev, Opd.ev, gv, setD, xsj, xel, binV, ne_eq, xnt, if_false, hng]
   refine Test.false_ (s_skip1 ?_)
   simp +decide only [pqn, pbn]
   refine s_reg1 ?_
   simp only [o_pure, o_nil, POp.ev, Opd.ev, gv, setD, List.set, xsj, xel, binV, ne_eq, xnt, if_false, add1 (i := i) (by omega)]
   simp +decide only [pqn]
   exact Round.mk (n - 1) (by omega) ⟨rfl, i + 1, _, by omega, rfl⟩
 · have hge : ss.length ≤ i := by simp at hlt; omega
   rw [List.take_of_length_le hge]
   obtain ⟨i', rfl⟩ : ∃ i', i' = i := ⟨i, rfl⟩
   refine s_exit1 ?_
   simp +decide only [pqn, pqe, pbe, reduceIte]
   refine s_reg ?_
   simp only [o_pure, o_callF, POp.ev, Opd.ev, gv, setD, List.map, xsj, xel]
   refine (grow_ok lim _ _ hl hn).mono ?_
   rintro u H1 ⟨hu, hx1⟩
   simp only [o_cont, o_pure, o_nil, POp.ev, Opd.ev, gv, setD, List.set, xsj, xel]
   refine s_assoc (s_reg ?_)
   simp only [o_pure, o_nil, POp.ev, Opd.ev, gv, setD, List.set, xsj, xel, hv.lenV]
   refine s_block ?_
   refine s_loop1 (fun n e' H' => ∃ (i b : Nat) (x5 u : Value), i + n = ss.length ∧ H.next ≤ b ∧ VecI H' b u ((ss.take i).flatMap (·.2)) ∧ Ext H H' ∧ e' = [v, .slice none 0 0, .int .i64 (totV ss), x3, u, x5, v, .int .i64 ss.length, .int .i64 i', v, .int .i64 ss.length, .int .i64 i]) ss.length ⟨0, _, _, _, by omega, Nat.le_refl _, hu, hx1, rfl⟩ ?_
   clear hu hx1
   rintro n e' H1 ⟨i, b, x5, u, hin, hb, hu, hx1, rfl⟩
   refine s_test ?_
   simp only [o_pure, o_nil, POp.ev, Opd.ev, gv, setD, xsj, xel, binV, ne_eq, xnt, if_false]
   refine Test.split (fun hlt => ?_) (fun hlt => ?_)
   · have hlt' : i < ss.length := by simpa using hlt
     refine s_skip1 ?_
     simp +decide only [pqn]
     refine s_block ?_
     obtain ⟨bb, o, h1, h2⟩ := hcell _ hx1 i hlt'
     refine s_reg ?_
     simp only [o_pure, o_nil, POp.ev, Opd.ev, gv, setD, List.set, xsj, xel, load1V, h1, h2]
     have hsl := (hs _ (List.getElem_mem hlt')).keep (Keep.of_ext hx1 (Nat.le_refl _)) (Nat.le_refl _)
     have hln : ∀ (ls : List (Value × List Int)), (ls.flatMap (·.2)).length = totV ls := by
       intro ls
       simp [totV, List.length_flatMap]
     have hle : totV (ss.take (i + 1)) ≤ totV ss := by
       have := sum_le (l := ss.map (·.2.length)) (i + 1)
       rwa [← List.map_take] at this
     have hcat : (ss.take (i + 1)).flatMap (·.2) = (ss.take i).flatMap (·.2) ++ ss[i].2 := by
       rw [List.take_succ_eq_append_getElem hlt', List.flatMap_append]
       simp
     have hlc := congrArg List.length hcat
     rw [List.length_append, hln, hln] at hlc
     obtain ⟨u', H2, b', k1, k2, k3, k4, k5⟩ := hu.append (lim := lim) (by omega) hsl (by decide) (bytes := 8) (by rw [hln]; omega)
     refine s_reg1 ?_
     simp only [o_pure, o_eff, o_nil, POp.ev, Opd.ev, EOp.ev, gv, setD, List.set, xsj, xel, k1]
     simp +decide only [pqn, pbn]
     refine s_reg1 ?_
     simp only [o_pure, o_nil, POp.ev, Opd.ev, gv, setD, List.set, xsj, xel, binV, ne_eq, xnt, if_false, add1 (i := i) (by omega)]
     simp +decide only [pqn]
     have hx2 := k4.ext hx1 hb
     refine Round.mk (n - 1) (by omega) ⟨i + 1, b', _, u', by omega, ?_, ?_, hx2, rfl⟩
     · have := hx1.next
       rcases k3 with rfl | ⟨rfl, _⟩ <;> omega
     · rw [hcat]
       unfold VecI
       rw [List.length_append, List.map_append]
       exact k2
   · have hge : ss.length ≤ i := by simp at hlt; omega
     rw [List.take_of_length_le hge] at hu
     refine s_exit1 ?_
     simp +decide only [pqn, pqe, pbe, reduceIte]
     refine s_reg ?_
     simp only [o_pure, o_nil, POp.ev, Opd.ev, gv, setD, List.set, xsj, xel]
     refine s_ret1 ?_
     simp +decide only [pfr, resV, resOne, gv, xsj, xel]
     exact ⟨b, hb, hu, hx1⟩
theorem odd_ok (lim : Nat) (n : Int) (H : AHeap) : ACalls Tryz.prog lim 79 [.int .i64 n] H fun v H' => v = .bool (n.tmod 2 != 0) ∧ H' = H := by
 refine is_impl_boxOf_1.go rfl ?_
 unfold c_impl_boxOf_1
 have e2 : ¬ ((2 : Int) = 0) := by decide
 refine s_reg ?_
 simp only [o_pure, o_nil, POp.ev, Opd.ev, env0, gu, setD, List.set, xsj, xel]
 refine s_reg ?_
 simp only [o_pure, o_nil, POp.ev, Opd.ev, gv, setD, List.set, xsj, xel, binV, ne_eq, xnt, if_false, if_neg e2]
 refine s_ret1 ?_
 simp +decide only [pfr, resV, resOne, gv, xsj, xel]
theorem indexFunc_ok (lim : Nat) (s : Value) (l : List Int) (H : AHeap) (hs : SlI H s l) (hn : l.length ≤ 1000000000) :
   ACalls Tryz.prog lim n_slices_IndexFunc_S_int_int [s, .func (.func 79) #[] #[]] H fun v H' => (∃ r : Int, v = .int .i64 r ∧ decide (r ≥ 0) = (l.any fun n => n.tmod 2 != 0)) ∧ H' = H := by
 refine is_slices_IndexFunc_S_int_int.go rfl ?_
 unfold c_slices_IndexFunc_S_int_int
 refine s_reg ?_
 simp only [o_pure, o_nil, POp.ev, Opd.ev, env0, gu, setD, List.set, xsj, xel]
 refine s_assoc (s_reg ?_)
 simp only [o_pure, o_nil, POp.ev, Opd.ev, gv, setD, List.set, xsj, xel, hs.lenV]
 refine s_block ?_
 refine s_loop1 (fun k e' H' => H' = H ∧ ∃ (i : Nat) (x : Value), i + k = l.length ∧ (l.any fun n => n.tmod 2 != 0) = ((l.drop i).any fun n => n.tmod 2 != 0) ∧ e' = [s, .func (.func 79) #[] #[], .int .i64 0, x, .int .i64 l.length, .int .i64 i]) l.length ⟨rfl, 0, _, by omega, by simp, rfl⟩ ?_
 rintro k e' H ⟨rfl, i, x, hik, hall, rfl⟩
 refine s_test ?_
 simp only [o_pure, o_nil, POp.ev, Opd.ev, gv, setD, xsj, xel, binV, ne_eq, xnt, if_false]
 refine Test.split (fun hlt => ?_) (fun hlt => ?_)
 · have hlt' : i < l.length := by simpa using hlt
   rw [List.drop_eq_getElem_cons hlt', List.any_cons] at hall
   refine s_skip1 ?_
   simp +decide only [pqn]
   refine s_block ?_
   refine s_reg ?_
   simp only [o_pure, o_nil, POp.ev, Opd.ev, gv, setD, List.set, xsj, xel]
   refine s_test1 ?_
   obtain ⟨bb, o, h1, h2, h3⟩ := hs.get hlt'
   simp only [o_callT, callV_fn, o_pure, POp.ev, Opd.ev, gv, setD, List.map, xsj, xel, load1V, h1, h3]
   refine (odd_ok _ _ _).eq ?_
   simp only [o_cont, o_nil, gv, setD]
   refine Test.split (fun hv => ?_) (fun hv => ?_)
   · refine s_reg ?_
     simp only [o_pure, o_nil, POp.ev, Opd.ev, gv, setD, List.set, xsj, xel]
     refine s_ret1 ?_
     simp +decide only [pqr, pbr, pfr, resV, resOne, gv, xsj, xel]
     rw [hv, Bool.true_or] at hall
     exact ⟨⟨_, rfl, by rw [hall]; simp⟩, trivial⟩
   · refine s_skip1 ?_
     simp +decide only [pqn, pbn]
     refine s_reg1 ?_
     simp only [o_pure, o_nil, POp.ev, Opd.ev, gv, setD, List.set, xsj, xel, binV, ne_eq, xnt, if_false, add1 (i := i) (by omega)]
     simp +decide only [pqn]
     rw [hv, Bool.false_or] at hall
     exact Round.mk (k - 1) (by omega) ⟨rfl, i + 1, _, by omega, hall, rfl⟩
 · refine s_exit1 ?_
   simp +decide only [pqn, pqe, pbe, reduceIte]
   have hge : l.length ≤ i := by simp at hlt; omega
   rw [List.drop_of_length_le hge] at hall
   refine s_reg ?_
   simp only [o_pure, o_nil, POp.ev, Opd.ev, setD, List.set, xsj, xel]
   refine s_ret1 ?_
   simp +decide only [pfr, resV, resOne, gv, xsj, xel]
   refine ⟨⟨_, rfl, ?_⟩, trivial⟩
   simp [hall]
theorem containsFunc_ok (lim : Nat) (s : Value) (l : List Int) (H : AHeap) (hs : SlI H s l) (hn : l.length ≤ 1000000000) :
   ACalls Tryz.prog lim n_slices_ContainsFunc_S_int_int [s, .func (.func 79) #[] #[]] H fun v H' => v = .bool (l.any fun n => n.tmod 2 != 0) ∧ H' = H := by
 refine is_slices_ContainsFunc_S_int_int.go rfl ?_
 unfold c_slices_ContainsFunc_S_int_int
 refine s_reg ?_
 simp only [o_pure, o_nil, POp.ev, Opd.ev, env0, gu, setD, List.set, xsj, xel]
 refine s_reg ?_
 simp only [o_pure, o_callF, POp.ev, Opd.ev, gv, setD, List.map, xsj, xel]
 refine (indexFunc_ok _ _ _ _ hs hn).mono ?_
 rintro v H1 ⟨⟨r, rfl, hr⟩, rfl⟩
 simp only [o_cont, o_pure, o_nil, POp.ev, Opd.ev, gv, setD, List.set, xsj, xel, binV, ne_eq, xnt, if_false]
 refine s_ret1 ?_
 simp +decide only [pfr, resV, resOne, gv, xsj, xel]
 simp only [hr, and_self]
theorem odd_any : ∀ (low high : List Int), high.length = low.length → ((low ++ high).any fun n => n.tmod 2 != 0) = oddB low high
 | [], high, h => by
   have : high = [] := List.length_eq_zero_iff.1 (by simpa using h)
   subst this
   rfl
 | x :: l, [], h => by simp at h
 | x :: l, y :: h, hl => by
   have ih := odd_any l h (by simpa using hl)
   rw [oddB, ← ih]
   simp only [List.cons_append, List.any_cons, List.any_append, Bool.or_assoc]
   congr 1
   rw [← Bool.or_assoc, ← Bool.or_assoc, Bool.or_comm (y.tmod 2 != 0)]
theorem boxOf_ok (lim : Nat) (k : Nat) (s t : Value) (low high : List Int) (H : AHeap) (hl : lim ≤ H.next) (hs : SlI H s low) (ht : SlI H t high) (hn : low.length ≤ 100000000) (hne : 1 ≤ low.length) (hlen : high.length = low.length) (hk : k ≤ 1000000) (hr : InR low) (hr2 : InR high) :
   ACalls Tryz.prog lim n_impl_boxOf [.int .i64 k, s, t] H fun v H' => BoxR H.next H' v (makeB k low high).1 (makeB k low high).2.1 (makeB k low high).2.2.1 (makeB k low high).2.2.2 ∧ Ext H H' := by
 refine is_impl_boxOf.go rfl ?_
 unfold c_impl_boxOf
 refine s_reg ?_
 simp only [o_pure, o_eff, o_nil, POp.ev, Opd.ev, EOp.ev, env0, gu, setD, List.set, xsj, xel]
 have hx0 : Ext H (H.alloc [.int .i64 0, .slice none 0 0, .slice none 0 0]) := Ext.alloc _ _
 have hs1 := hs.keep (Keep.of_ext hx0 (Nat.le_refl _)) (Nat.le_refl _)
 have ht1 := ht.keep (Keep.of_ext hx0 (Nat.le_refl _)) (Nat.le_refl _)
 have hb0 : (H.alloc [.int .i64 0, .slice none 0 0, .slice none 0 0]).blk H.next = some [.int .i64 0, .slice none 0 0, .slice none 0 0] := alloc_new _ _
 have hn1 : (H.alloc [.int .i64 0, .slice none 0 0, .slice none 0 0]).next = H.next + 1 := rfl
 generalize H.alloc [.int .i64 0, .slice none 0 0, .slice none 0 0] = H1 at hx0 hs1 ht1 hb0 hn1 ⊢
 refine s_reg ?_
 simp only [o_pure, o_callF, POp.ev, Opd.ev, gv, setD, List.map, xsj, xel]
 refine (Ints.clone_ok lim _ _ _ (by omega) hs1 (by omega)).mono ?_
 rintro s1 H2 ⟨b, hb1, hb2, hvb, hx2⟩
 replace hb2 : b < H2.next := (hvb.blk (by omega)).elim fun _ h => h.2
 simp only [o_cont, o_pure, o_callF, POp.ev, Opd.ev, gv, setD, List.map, xsj, xel]
 have hn2 := hx2.next
 refine (Ints.clone_ok lim _ _ _ (by omega) (ht1.keep (Keep.of_ext hx2 (Nat.le_refl _)) (Nat.le_refl _)) (by omega)).mono ?_
 rintro t1 H3 ⟨c, hc1, hc2, hvc, hx3⟩
 replace hc2 : c < H3.next := (hvc.blk (by omega)).elim fun _ h => h.2
 have hvb3 := hvb.ext hx3
 have hn3 := hx3.next
 simp only [o_cont, o_pure, o_eff, o_nil, POp.ev, Opd.ev, EOp.ev, gv, setD, List.set, List.map, xms, xsj, xel, fill3 (cells_int .i64 k) hvb.cellsV hvc.cellsV, store3_new (lim := lim) (H := H3) (by omega)]
 have hst : MkSt H (H3.alloc [.int .i64 k, s1, t1]) H.next H3.next b c k s1 t1 low high := by
   refine ⟨((hx0.trans hx2).trans hx3).trans (Ext.alloc _ _), by omega, by rw [alloc_next]; omega, by omega, ?_, alloc_new _ _, hvb3.ext (Ext.alloc _ _), hvc.ext (Ext.alloc _ _)⟩
   rw [alloc_old _ _ (by omega), hx3.blk _ (by omega), hx2.blk _ (by omega), hb0]
 generalize H3.alloc [.int .i64 k, s1, t1] = H4 at hst ⊢
 generalize H3.next = out at hst ⊢
 have hpair : fillV [.slice none 0 0, .slice none 0 0] [(0, 1, s1), (1, 1, t1)] = some [s1, t1] := by simp [fillV, hvb.cellsV, hvc.cellsV]
 have cs1 := hvb.cellsV
 clear hvb hvb3 hvc hx2 hx3 hs1 ht1 hx0 hb0
 refine s_block ?_
 refine s_loop1 (fun n e' H' => ∃ (low' high' : List Int) (x6 x7 x8 x9 x10 x11 x12 : Value), MkSt H H' H.next out b c n s1 t1 low' high' ∧ normB k low high = normB n low' high' ∧ low'.length = low.length ∧ high'.length = low.length ∧ InR low' ∧ InR high' ∧ n ≤ 1000000 ∧
     e' = [.int .i64 k, s, t, .pointer (some ⟨H.next, 0, none⟩), .bool false, .pointer (some ⟨out, 0, none⟩), x6, x7, x8, x9, x10, x11, x12]) k
   ⟨low, high, _, _, _, _, _, _, _, hst, rfl, rfl, hlen, hr, hr2, hk, rfl⟩ ?_
 clear hst
 rintro n e' H' ⟨low', high', x6, x7, x8, x9, x10, x11, x12, hst, hnorm, hll, hlh, hil, hih, hnk, rfl⟩
 have hln := hst.ext.next
 refine s_test_I (decide (0 < n) && !oddB low' high') (Ext H') ?_ (fun H'' hx hg => ?_) (fun H'' hx hg => ?_)
 · have hgt : decide ((n : Int) > 0) = decide (0 < n) := by rw [Bool.eq_iff_iff]; simp
   simp only [o_pure, o_guard, POp.ev, Opd.ev, gv, setD, xsj, xel, binV, load1V, fadV, ne_eq, xnt, if_false, xgz, cell_blk hst.bo, Nat.zero_add, hgt]
   cases h0 : decide (0 < n)
   · simp only [o_pure, o_guard, gk_ft, o_nil, POp.ev, Opd.ev, gv, setD, xsj, xel, pickV]
     simp [Ext.refl]
   · have hxp : Ext H' (H'.alloc [s1, t1]) := Ext.alloc _ _
     have hstp := hst.mono hxp
     simp only [o_pure, o_eff, o_callF, o_guard, gk_tt, POp.ev, Opd.ev, EOp.ev, gv, setD, List.map, xms, xsj, xel, load1V, fadV, xgz, xgs, cell_blk hst.bo, Nat.zero_add, bsliceH, hpair]
     have hsl : Sl (H'.alloc [s1, t1]) (.slice (some ⟨H'.next, 0, some 0⟩) 2 2) 2 1 [s1, t1] := (Vec.lit (H := H') (n := 2) (sz := 1) (cells := [s1, t1]) rfl).sl
     refine (concat_ok lim _ [(s1, low'), (t1, high')] _ (by simp only [alloc_next]; omega) hsl (by intro p hp; simp at hp; rcases hp with rfl | rfl; exact hstp.vl.sl; exact hstp.vh.sl) (by simp [totV]; omega) (by simp)).mono ?_
     rintro u H5 ⟨q, hq, hvq, hx5⟩
     simp only [List.flatMap_cons, List.flatMap_nil, List.append_nil] at hvq
     simp only [o_cont, o_callF, o_guard, gk_tt, Opd.ev, gv, setD, List.map]
     refine (containsFunc_ok _ _ _ _ hvq.sl (by simp; omega)).eq ?_
     rw [odd_any _ _ (by omega)]
     simp only [o_cont, o_pure, o_guard, gk_tt, o_nil, POp.ev, Opd.ev, gv, setD, xsj, xel, pickV, unV]
     simp [hxp.trans hx5]
 · replace hst := hst.mono hx
   simp only [Bool.and_eq_true, decide_eq_true_eq, Bool.not_eq_true'] at hg
   obtain ⟨hn0, hodd⟩ := hg
   obtain ⟨m, rfl⟩ : ∃ m, n = m + 1 := ⟨n - 1, by omega⟩
   have hnorm' : normB k low high = normB m (low'.map hv) (high'.map hv) := by
     rw [hnorm]
     simp [normB, hodd]
   have hsub : IntKind.i64.wrap (((m + 1 : Nat) : Int) - 1) = (m : Int) := by rw [IntKind.wrap_i64]; omega
   refine s_skip1 ?_
   simp +decide only [pqn]
   refine s_block1 ?_
   have hl' := hst.ge
   have hst2 := hst.exp (m : Int)
   have hput : storeH lim H'' 1 (.pointer (some ⟨out, 0, none⟩)) (.int .i64 m) = some (undef, H''.put out [.int .i64 m, s1, t1]) := by
     rw [store_cell (cells_int .i64 m) (by omega) hst.bo (by simp)]
     rfl
   refine s_reg ?_
   simp only [o_pure, o_eff, o_nil, POp.ev, Opd.ev, EOp.ev, gv, setD, xsj, xel, binV, load1V, fadV, ne_eq, xnt, if_false, xgz, cell_blk hst.bo, Nat.zero_add, hsub, hput]
   generalize H''.put out [.int .i64 m, s1, t1] = H5 at hst2 ⊢
   clear hput hst
   have hst3 := hst2.mono (Ext.alloc H5 [s1, t1])
   have hq5 : (H5.alloc [s1, t1]).blk H5.next = some [s1, t1] := alloc_new _ _
   have hqn : H5.next < (H5.alloc [s1, t1]).next := Nat.lt_succ_self _
   have hqb := hst2.lt
   refine s_reg ?_
   simp only [o_pure, o_eff, o_nil, POp.ev, Opd.ev, EOp.ev, gv, setD, List.set, List.map, xms, xsj, xel, load1V, fadV, xgz, xgs, cell_blk hst2.bo, Nat.zero_add, bsliceH, hpair, lenV]
   generalize H5.alloc [s1, t1] = H6 at hst3 hq5 hqn ⊢
   generalize H5.next = q at hq5 hqn hqb ⊢
   refine s_block1 ?_
   refine s_loop1 (fun j e' H7 => ∃ (i : Nat) (x6 x7 x11 x12 : Value), i + j = 2 ∧ MkSt H H7 H.next out b c m s1 t1 (if i = 0 then low' else low'.map hv) (if i ≤ 1 then high' else high'.map hv) ∧ H7.blk q = some [s1, t1] ∧ q < H7.next ∧
     e' = [.int .i64 k, s, t, .pointer (some ⟨H.next, 0, none⟩), .bool false, .pointer (some ⟨out, 0, none⟩), x6, x7, .slice (some ⟨q, 0, some 0⟩) 2 2, .int .i64 ((2 : Nat) : Int), .int .i64 i, x11, x12]) 2 ⟨0, _, _, _, _, by omega, by simpa using hst3, hq5, hqn, rfl⟩ ?_
   clear hst2 hst3 hq5 hqn
   rintro j e' H7 ⟨i, x6, x7, x11, x12, hij, hst7, hq7, hqn7, rfl⟩
   rcases (by omega : i = 0 ∨ i = 1 ∨ i = 2) with rfl | rfl | rfl
   · simp only [if_true, Nat.zero_le] at hst7
     have hd : decide (((0 : Nat) : Int) < ((2 : Nat) : Int)) = true := by decide
     refine s_test ?_
     simp only [o_pure, o_nil, POp.ev, Opd.ev, gv, setD, xsj, xel, binV, ne_eq, xnt, if_false, hd]
     refine Test.true_ (s_skip1 ?_)
     simp +decide only [pqn]
     refine s_block ?_
     have hi0 : iadV 1 (.slice (some ⟨q, 0, some 0⟩) 2 2) (.int .i64 ((0 : Nat) : Int)) = some (.pointer (some ⟨q, 0 + 0, none⟩)) := iad_cell .i64 (by decide)
     refine s_reg ?_
     simp only [o_pure, o_nil, POp.ev, Opd.ev, gv, setD, List.set, xsj, xel, load1V, xgz, hi0, cell_blk hq7, Nat.zero_add]
     refine s_reg ?_
     simp only [o_pure, o_nil, POp.ev, Opd.ev, gv, setD, List.set, xsj, xel, hst7.vl.lenV]
     refine s_block1 ?_
     refine s_loop1 (fun j e' H3 => ∃ (i : Nat) (x7 : Value), i + j = low.length ∧ MkSt H H3 H.next out b c m s1 t1 (partL hv low' i) (high') ∧ H3.blk q = some [s1, t1] ∧ q < H3.next ∧
       e' = [.int .i64 k, s, t, .pointer (some ⟨H.next, 0, none⟩), .bool false, .pointer (some ⟨out, 0, none⟩), s1, x7, .slice (some ⟨q, 0, some 0⟩) 2 2, .int .i64 ((2 : Nat) : Int), .int .i64 ((0 : Nat) : Int), .int .i64 (low').length, .int .i64 i]) low.length ⟨0, _, by omega, by rw [partL_zero]; exact hst7, hq7, hqn7, rfl⟩ ?_
     clear hst7 hq7 hqn7
     rintro j e' H8 ⟨i, x7, hij, hst, hq8, hqn8, rfl⟩
     have hp1 := partL_length hv low' i
     have hp2 := partL_length hv high' i
     refine s_test ?_
     simp only [o_pure, o_nil, POp.ev, Opd.ev, gv, setD, xsj, xel, binV, ne_eq, xnt, if_false]
     refine Test.split (fun hlt => ?_) (fun hlt => ?_)
     · have hlt' : i < low'.length := by simp at hlt; omega
       have hlt2 : i < high'.length := by omega
       refine s_skip1 ?_
       simp +decide only [pqn]
       refine s_block ?_
       refine s_reg ?_
       simp only [o_pure, o_nil, POp.ev, Opd.ev, gv, setD, List.set, xsj, xel]
       have e2 : ¬ ((2 : Int) = 0) := by decide
       have hc1 : H8.cell b i = some (.int .i64 low'[i]) := hst.vl.cell (by rw [List.getElem?_map, partL_get hv low' (by omega)]; rfl)
       obtain ⟨cs9, hs9, hv9⟩ := hst.vl.put1 (lim := lim) (i := i) (x := .int .i64 (hv low'[i])) (by have := hst.ge; omega) (cells_int .i64 _) (by omega)
       obtain ⟨H9, hs9', hst9⟩ := hst.turnL (lim := lim) hl (hv low'[i]) (by omega : i < (partL hv low' i).length)
       rw [partL_set hv low' (by omega)] at hst9
       have e9 : H9 = H8.put b cs9 := by
         rw [hs9] at hs9'
         simp only [xsj, Prod.mk.injEq, true_and] at hs9'
         exact hs9'.symm
       have hq9 : H9.blk q = some [s1, t1] := by rw [e9, put_ne _ _ (by omega)]; exact hq8
       have hqn9 : q < H9.next := by rw [e9]; exact hqn8
       refine s_reg1 ?_
       simp only [o_pure, o_eff, o_nil, POp.ev, Opd.ev, EOp.ev, gv, setD, xsj, xel, binV, load1V, ne_eq, xnt, if_false, hst.vl.iad .i64 (show i < _ by omega), Nat.mul_one, hc1, if_neg e2, hv_wrap (hil.get (by omega)), hs9']
       simp +decide only [pqn, pbn]
       refine s_reg1 ?_
       simp only [o_pure, o_nil, POp.ev, Opd.ev, gv, setD, List.set, xsj, xel, binV, ne_eq, xnt, if_false, add1 (i := i) (by omega)]
       simp +decide only [pqn]
       exact Round.mk (j - 1) (by omega) ⟨i + 1, _, by omega, hst9, hq9, hqn9, rfl⟩
     · have hge : low'.length ≤ i := by simp at hlt; omega
       rw [partL_all hv low' (by omega)] at hst
       refine s_exit1 ?_
       simp +decide only [pqn, pqe, pbn, pbe, reduceIte]
       refine s_reg1 ?_
       simp only [o_pure, o_nil, POp.ev, Opd.ev, gv, setD, List.set, xsj, xel, binV, ne_eq, xnt, if_false, add1 (i := 0) (by omega)]
       simp +decide only [pqn]
       exact Round.mk (1 - 0) (by omega) ⟨0 + 1, _, _, _, _, by omega, by simpa using hst, hq8, hqn8, rfl⟩
   · simp only [Nat.one_ne_zero, Nat.le_refl, reduceIte] at hst7
     have hd : decide (((1 : Nat) : Int) < ((2 : Nat) : Int)) = true := by decide
     refine s_test ?_
     simp only [o_pure, o_nil, POp.ev, Opd.ev, gv, setD, xsj, xel, binV, ne_eq, xnt, if_false, hd]
     refine Test.true_ (s_skip1 ?_)
     simp +decide only [pqn]
     refine s_block ?_
     have hi0 : iadV 1 (.slice (some ⟨q, 0, some 0⟩) 2 2) (.int .i64 ((1 : Nat) : Int)) = some (.pointer (some ⟨q, 0 + 1, none⟩)) := iad_cell .i64 (by decide)
     refine s_reg ?_
     simp only [o_pure, o_nil, POp.ev, Opd.ev, gv, setD, List.set, xsj, xel, load1V, xgz, xgs, hi0, cell_blk hq7, Nat.zero_add]
     refine s_reg ?_
     simp only [o_pure, o_nil, POp.ev, Opd.ev, gv, setD, List.set, xsj, xel, hst7.vh.lenV]
     refine s_block1 ?_
     refine s_loop1 (fun j e' H3 => ∃ (i : Nat) (x7 : Value), i + j = low.length ∧ MkSt H H3 H.next out b c m s1 t1 (low'.map hv) (partL hv high' i) ∧ H3.blk q = some [s1, t1] ∧ q < H3.next ∧
       e' = [.int .i64 k, s, t, .pointer (some ⟨H.next, 0, none⟩), .bool false, .pointer (some ⟨out, 0, none⟩), t1, x7, .slice (some ⟨q, 0, some 0⟩) 2 2, .int .i64 ((2 : Nat) : Int), .int .i64 ((1 : Nat) : Int), .int .i64 (high').length, .int .i64 i]) low.length ⟨0, _, by omega, by rw [partL_zero]; exact hst7, hq7, hqn7, rfl⟩ ?_
     clear hst7 hq7 hqn7
     rintro j e' H8 ⟨i, x7, hij, hst, hq8, hqn8, rfl⟩
     have hp1 := partL_length hv low' i
     have hp2 := partL_length hv high' i
     refine s_test ?_
     simp only [o_pure, o_nil, POp.ev, Opd.ev, gv, setD, xsj, xel, binV, ne_eq, xnt, if_false]
     refine Test.split (fun hlt => ?_) (fun hlt => ?_)
     · have hlt' : i < low'.length := by simp at hlt; omega
       have hlt2 : i < high'.length := by omega
       refine s_skip1 ?_
       simp +decide only [pqn]
       refine s_block ?_
       refine s_reg ?_
       simp only [o_pure, o_nil, POp.ev, Opd.ev, gv, setD, List.set, xsj, xel]
       have e2 : ¬ ((2 : Int) = 0) := by decide
       have hc1 : H8.cell c i = some (.int .i64 high'[i]) := hst.vh.cell (by rw [List.getElem?_map, partL_get hv high' (by omega)]; rfl)
       obtain ⟨cs9, hs9, hv9⟩ := hst.vh.put1 (lim := lim) (i := i) (x := .int .i64 (hv high'[i])) (by have := hst.ge; omega) (cells_int .i64 _) (by omega)
       obtain ⟨H9, hs9', hst9⟩ := hst.turnH (lim := lim) hl (hv high'[i]) (by omega : i < (partL hv high' i).length)
       rw [partL_set hv high' (by omega)] at hst9
       have e9 : H9 = H8.put c cs9 := by
         rw [hs9] at hs9'
         simp only [xsj, Prod.mk.injEq, true_and] at hs9'
         exact hs9'.symm
       have hq9 : H9.blk q = some [s1, t1] := by rw [e9, put_ne _ _ (by omega)]; exact hq8
       have hqn9 : q < H9.next := by rw [e9]; exact hqn8
       refine s_reg1 ?_
       simp only [o_pure, o_eff, o_nil, POp.ev, Opd.ev, EOp.ev, gv, setD, xsj, xel, binV, load1V, ne_eq, xnt, if_false, hst.vh.iad .i64 (show i < _ by omega), Nat.mul_one, hc1, if_neg e2, hv_wrap (hih.get (by omega)), hs9']
       simp +decide only [pqn, pbn]
       refine s_reg1 ?_
       simp only [o_pure, o_nil, POp.ev, Opd.ev, gv, setD, List.set, xsj, xel, binV, ne_eq, xnt, if_false, add1 (i := i) (by omega)]
       simp +decide only [pqn]
       exact Round.mk (j - 1) (by omega) ⟨i + 1, _, by omega, hst9, hq9, hqn9, rfl⟩
     · have hge : low'.length ≤ i := by simp at hlt; omega
       rw [partL_all hv high' (by omega)] at hst
       refine s_exit1 ?_
       simp +decide only [pqn, pqe, pbn, pbe, reduceIte]
       refine s_reg1 ?_
       simp only [o_pure, o_nil, POp.ev, Opd.ev, gv, setD, List.set, xsj, xel, binV, ne_eq, xnt, if_false, add1 (i := 1) (by omega)]
       simp +decide only [pqn]
       exact Round.mk (1 - 1) (by omega) ⟨1 + 1, _, _, _, _, by omega, by simpa using hst, hq8, hqn8, rfl⟩
   · have hst8 : MkSt H H7 H.next out b c m s1 t1 (low'.map hv) (high'.map hv) := by simpa using hst7
     have hd : decide (((2 : Nat) : Int) < ((2 : Nat) : Int)) = false := by decide
     refine s_test ?_
     simp only [o_pure, o_nil, POp.ev, Opd.ev, gv, setD, xsj, xel, binV, ne_eq, xnt, if_false, hd]
     refine Test.false_ (s_exit1 ?_)
     simp +decide only [pqn, pqe, pbn, pbe, reduceIte]
     exact Round.mk m (by omega) ⟨_, _, _, _, _, _, _, _, _, hst8, hnorm', by simp [hll], by simp [hlh], hil.half, hih.half, by omega, rfl⟩
 · replace hst := hst.mono hx
   have hdone : normB n low' high' = (n, low', high') := by
     cases n with
     | zero => rfl
     | succ m =>
       have : oddB low' high' = true := by simpa using hg
       simp only [normB, this, if_true]
   rw [hdone] at hnorm
   refine s_exit1 ?_
   simp +decide only [pqn, pqe, pbe, reduceIte]
   refine s_test_same (!goodB n low' high') ?_ (fun hg3 => ?_) (fun hg3 => ?_)
   · simp only [o_callF, Opd.ev, gv, List.map]
     refine (Ints.isBox_ok _ hst.boxP (by omega) (by omega)).eq ?_
     simp only [o_cont, o_pure, o_nil, POp.ev, Opd.ev, gv, setD, xsj, xel, unV]
     simp
   · simp only [Bool.not_eq_true'] at hg3
     refine s_reg ?_
     simp only [o_pure, o_eff, o_nil, POp.ev, Opd.ev, EOp.ev, gv, setD, List.set, List.map, xms, xsj, xel, zero_box, store3 (lim := lim) (b := H.next) hl hst.br]
     refine s_ret1 ?_
     simp +decide only [pqr, pfr, resV, resOne, resL, gv, xsj, xel, Option.bind_some, xms, load3 (put_same _ _ _)]
     refine ⟨.inl ⟨?_, rfl⟩, Chg.ext hst.ext (Chg.put _ _ _) (Nat.le_refl _)⟩
     simp only [makeB, hnorm, hg3]
   · simp only [Bool.not_eq_false'] at hg3
     refine s_skip1 ?_
     simp +decide only [pqn]
     refine s_reg ?_
     simp only [o_pure, o_eff, o_nil, POp.ev, Opd.ev, EOp.ev, gv, setD, List.set, xsj, xel, load3 hst.bo, store3 (lim := lim) (b := H.next) hl hst.br]
     refine s_ret1 ?_
     simp +decide only [pfr, resV, resOne, resL, gv, xsj, xel, Option.bind_some, xms, load3 (put_same _ _ _)]
     have hc := Chg.put H.next H'' [.int .i64 n, s1, t1]
     refine ⟨.inr ⟨?_, s1, t1, b, c, ?_, hst.ge.2.2.1, hst.ge.2.2.2, hst.ne.2.2.2.2.2, ?_, ?_⟩, Chg.ext hst.ext hc (Nat.le_refl _)⟩
     · simp only [makeB, hnorm, hg3]
     · simp only [makeB, hnorm]
     · simp only [makeB, hnorm]
       exact hst.vl.chg hc (fun h => hst.ne.2.1 h.symm)
     · simp only [makeB, hnorm]
       exact hst.vh.chg hc (fun h => hst.ne.2.2.1 h.symm)
end Go.Proofs.YtagocdkcnajiiaaGreat
