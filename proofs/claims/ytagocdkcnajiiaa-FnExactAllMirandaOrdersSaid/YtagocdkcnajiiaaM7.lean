/- Parts of the proof of a statement of this seat: contracts of functions that the law calls, or the law's own row; no condition. -/
import Derived.Test.YtagocdkcnajiiaaAbArg
import Derived.Test.YtagocdkcnajiiaaRows
import Derived.WalkKit
import Derived.ProofKit
import Derived.OpenShut
import Derived.ShutString
import Derived.ChangeOld
import Derived.Below
import Derived.SizedLaws
import Derived.Test.YtagocdkcnajiiaaM6
/- Parts of the proof of a statement of this seat: contracts of functions that the law calls, or the law's own row; no condition. -/
/- All orders, the program: made in order, those that do not pass deleted; no condition beyond stated ranges. -/
namespace Go.Proofs.Ytagocdkcnajiiaa
open Go.Ab Ints
set_option linter.unusedSimpArgs false
set_option linter.unusedVariables false

/-! ### a list of one-cell elements, some deleted in place -/
/-- a list of one's own, cut; what is behind is cleared -/
theorem Vec.cut1 {lim : Nat} {H : AHeap} {b n : Nat} {v : Value} {cells : List Value} (h : Vec H b v n 1 cells) (hl : lim ≤ b) {k : Nat} (hk : k ≤ n) (z : Value) :
    ∃ vd H' vk, slcV 1 v (some (.int .i64 k)) none none = some vd ∧ clearH lim H [z] vd = some (undef, H') ∧ slcV 1 v none (some (.int .i64 k)) none = some vk ∧ Vec H' b vk k 1 (cells.take k) ∧ Chg b H H' := by
  have hcl := h.clen
  rw [Nat.mul_one] at hcl
  have hB : ∀ (x y : Nat), x ≤ y → sliceB (.int .i64 x) y = some x := by
    intro x y hxy
    simp [sliceB, intV, hxy]
  rcases h with ⟨rfl, h2, h3⟩ | ⟨c, sp, rest, rfl, hsp, hb, hblk, hcl', hc, hcr⟩
  · have hk0 : k = 0 := by omega
    subst hk0
    subst h3
    exact ⟨.slice none 0 0, H, .slice none 0 0, rfl, rfl, rfl, .inl ⟨rfl, rfl, rfl⟩, Chg.refl _ _⟩
  · have s1 : slcV 1 (.slice (some ⟨b, 0, sp⟩) n c) (some (.int .i64 k)) none none = some (.slice (some ⟨b, 0 + k * 1, sp⟩) (n - k) (c - k)) := by
      simp only [slcV, bounds, hB k n hk, Option.bind_some, if_pos hsp, Option.isSome_none, Bool.false_eq_true, if_false]
    have s2 : slcV 1 (.slice (some ⟨b, 0, sp⟩) n c) none (some (.int .i64 k)) none = some (.slice (some ⟨b, 0, sp⟩) k c) := by
      simp only [slcV, bounds, hB k c (by omega), Option.bind_some, if_pos hsp, Option.isSome_none, Bool.false_eq_true, if_false, Nat.zero_mul, Nat.add_zero, Nat.sub_zero]
    have tk : (cells.take k).length = k := by rw [List.length_take]; omega
    have vec : ∀ (H' : AHeap) (r : List Value), H'.next = H.next → H'.blk b = some (cells.take k ++ r) → r.length = (n - k) + rest.length → Vec H' b (.slice (some ⟨b, 0, sp⟩) k c) k 1 (cells.take k) := by
      intro H' r hn hbk hr
      refine .inr ⟨c, sp, r, rfl, hsp, by omega, hbk, by rw [tk, Nat.mul_one], by omega, ?_⟩
      rw [hr]
      omega
    by_cases h0 : n - k = 0
    · refine ⟨_, H, _, s1, ?_, s2, vec H rest rfl ?_ (by omega), Chg.refl _ _⟩
      · simp [clearH, h0, undef]
      · rw [List.take_of_length_le (by omega)]; exact hblk
    · refine ⟨_, _, _, s1, ?_, s2, vec (H.put b (putL (cells ++ rest) (0 + k * 1) (zerosL (n - k) [z]))) (zerosL (n - k) [z] ++ rest) rfl ?_ ?_, Chg.put _ _ _⟩
      · simp only [clearH, if_neg h0, if_pos hl, hblk, Option.bind_some]
        rw [if_pos]
        · rfl
        · simp; omega
      · rw [put_same]
        congr 1
        unfold putL
        have zl1 : (zerosL (n - k) [z]).length = n - k := by rw [zerosL_length]; simp
        rw [Nat.zero_add, Nat.mul_one, zl1, List.take_append_of_le_length (by omega), show k + (n - k) = cells.length by omega, List.drop_left, List.append_assoc]
      · rw [List.length_append, zerosL_length]
        simp
/-- what is kept -/
def kept (fl : List (Value × Bool)) : List (Value × Bool) := fl.filter fun x => !x.2
theorem kept_append (a b : List (Value × Bool)) : kept (a ++ b) = kept a ++ kept b := List.filter_append ..
theorem kept_all {fl : List (Value × Bool)} (h : ∀ x ∈ fl, x.2 = false) : kept fl = fl := List.filter_eq_self.2 fun x hx => by rw [h x hx]; rfl
theorem kept_take_succ {fl : List (Value × Bool)} {j : Nat} (hj : j < fl.length) : kept (fl.take (j + 1)) = kept (fl.take j) ++ if fl[j].2 = true then [] else [fl[j]] := by
  rw [List.take_succ_eq_append_getElem hj, kept_append]
  congr 1
  cases h : fl[j].2 <;> simp [kept, h]
/-- the first that is deleted -/
def FirstD (fl : List (Value × Bool)) (r : Int) : Prop := (r = -1 ∧ ∀ x ∈ fl, x.2 = false) ∨ ∃ i : Nat, r = (i : Int) ∧ (∀ x ∈ fl.take i, x.2 = false) ∧ ∃ h : i < fl.length, (fl[i]'h).2 = true
/-- what is asked of the function that tells what is deleted -/
def Tells (lim b : Nat) (H : AHeap) (fv : Value) (fl : List (Value × Bool)) : Prop := ∀ x ∈ fl, ∀ (G : AHeap) (R : Value → AHeap → Prop), Chg b H G → (∀ G', Ext G G' → R (.bool x.2) G') → callV Try.prog lim fv [x.1] G R
theorem Tells.chg {lim b : Nat} {H H' : AHeap} {fv : Value} {fl : List (Value × Bool)} (h : Tells lim b H fv fl) (hc : Chg b H H') : Tells lim b H' fv fl := fun x hx G R hg hr => h x hx G R (hc.trans hg) hr
theorem pair_at {H : AHeap} {b : Nat} {s : Value} {fl : List (Value × Bool)} (hs : Vec H b s fl.length 1 (fl.map (·.1))) {i : Nat} (hi : i < fl.length) : iadV 1 s (.int .i64 i) = some (.pointer (some ⟨b, i, none⟩)) ∧ H.cell b i = some fl[i].1 := by
  have h1 := Vec.iad hs .i64 hi
  rw [Nat.mul_one] at h1
  refine ⟨h1, Vec.cell hs ?_⟩
  rw [List.getElem?_map, List.getElem?_eq_getElem hi]
  rfl
theorem indexD_ok (lim b : Nat) (s fv : Value) (fl : List (Value × Bool)) (H : AHeap) (hs : Vec H b s fl.length 1 (fl.map (·.1))) (hf : Tells lim b H fv fl) (hn : fl.length ≤ 1000000) :
    ACalls Try.prog lim n_slices_IndexFunc_S_S_int_S_int [s, fv] H fun v H' => ∃ r, v = .int .i64 r ∧ FirstD fl r ∧ Ext H H' := by
  refine is_slices_IndexFunc_S_S_int_S_int.go rfl ?_
  unfold c_slices_IndexFunc_S_S_int_S_int
  refine s_reg ?_
  simp only [o_pure, o_nil, POp.ev, Opd.ev, env0, gu, setD, List.set, Option.some.injEq, exists_eq_left']
  refine s_assoc (s_reg ?_)
  simp only [o_pure, o_nil, POp.ev, Opd.ev, gv, setD, List.set, Option.some.injEq, exists_eq_left', Vec.lenV hs]
  refine s_block ?_
  refine s_loop1 (fun k e' H' => ∃ (i : Nat) (x : Value), i + k = fl.length ∧ (∀ t ∈ fl.take i, t.2 = false) ∧ Ext H H' ∧ e' = [s, fv, .int .i64 0, x, .int .i64 fl.length, .int .i64 i]) fl.length ⟨0, _, by omega, by simp, Ext.refl _, rfl⟩ ?_
  rintro k e' H' ⟨i, x, hik, hz, hx, rfl⟩
  refine s_test ?_
  simp only [o_pure, o_nil, POp.ev, Opd.ev, gv, setD, Option.some.injEq, exists_eq_left', binV, ne_eq, not_true_eq_false, if_false]
  refine Test.split (fun hlt => ?_) (fun hlt => ?_)
  · have hlt' : i < fl.length := by simpa using hlt
    obtain ⟨h1, h2⟩ := pair_at (Vec.ext hs hx) hlt'
    refine s_skip1 ?_
    simp +decide only [p_seq_normal]
    refine s_block ?_
    refine s_reg ?_
    simp only [o_pure, o_nil, POp.ev, Opd.ev, gv, setD, List.set, Option.some.injEq, exists_eq_left']
    refine s_test1 ?_
    simp only [o_callT, o_pure, POp.ev, Opd.ev, gv, setD, List.map, Option.some.injEq, exists_eq_left', load1V, h1, h2]
    refine hf _ (List.getElem_mem hlt') _ _ (Chg.of_ext hx) fun H2 hx2 => ?_
    simp only [o_cont, o_nil, gv, setD]
    refine Test.split (fun hg => ?_) (fun hg => ?_)
    · refine s_reg ?_
      simp only [o_pure, o_nil, POp.ev, Opd.ev, gv, setD, List.set, Option.some.injEq, exists_eq_left']
      refine s_ret1 ?_
      simp +decide only [p_seq_ret, p_block_ret, p_fin_ret, resV, resOne, gv, Option.some.injEq, exists_eq_left']
      exact ⟨_, rfl, .inr ⟨i, rfl, hz, hlt', hg⟩, hx.trans hx2⟩
    · refine s_skip1 ?_
      simp +decide only [p_seq_normal, p_block_normal]
      refine s_reg1 ?_
      simp only [o_pure, o_nil, POp.ev, Opd.ev, gv, setD, List.set, Option.some.injEq, exists_eq_left', binV, ne_eq, not_true_eq_false, if_false, add1 (i := i) (by omega)]
      simp +decide only [p_seq_normal]
      refine Round.mk (k - 1) (by omega) ⟨i + 1, _, by omega, fun t ht => ?_, hx.trans hx2, rfl⟩
      rw [List.take_succ_eq_append_getElem hlt', List.mem_append] at ht
      rcases ht with ht | ht
      · exact hz t ht
      · rw [List.mem_singleton.1 ht]; exact hg
  · have hge : i = fl.length := by simp at hlt; omega
    subst hge
    refine s_exit1 ?_
    simp +decide only [p_seq_normal, p_seq_exit, p_block_exit, reduceIte]
    refine s_reg ?_
    simp only [o_pure, o_nil, POp.ev, Opd.ev, setD, List.set, Option.some.injEq, exists_eq_left']
    refine s_ret1 ?_
    simp +decide only [p_fin_ret, resV, resOne, gv, Option.some.injEq, exists_eq_left']
    rw [List.take_length] at hz
    exact ⟨_, rfl, .inl ⟨rfl, hz⟩, hx⟩
theorem deleteD_ok (lim b : Nat) (s fv : Value) (fl : List (Value × Bool)) (H : AHeap) (hs : Vec H b s fl.length 1 (fl.map (·.1))) (hcv : ∀ x ∈ fl, cellsV x.1 = some [x.1]) (hf : Tells lim b H fv fl) (hl : lim ≤ b) (hn : fl.length ≤ 1000000) :
    ACalls Try.prog lim n_slices_DeleteFunc_S_S_int_S_int [s, fv] H fun v H' => Vec H' b v (kept fl).length 1 ((kept fl).map (·.1)) ∧ Chg b H H' := by
  refine is_slices_DeleteFunc_S_S_int_S_int.go rfl ?_
  unfold c_slices_DeleteFunc_S_S_int_S_int
  refine s_reg ?_
  simp only [o_pure, o_nil, POp.ev, Opd.ev, env0, gu, setD, List.set, Option.some.injEq, exists_eq_left']
  refine s_reg ?_
  simp only [o_pure, o_callF, POp.ev, Opd.ev, gv, setD, List.map, Option.some.injEq, exists_eq_left']
  refine (indexD_ok lim b s fv fl H hs hf hn).mono ?_
  rintro _ H2 ⟨r, rfl, hfd, hx2⟩
  simp only [o_cont, o_pure, o_nil, POp.ev, Opd.ev, gv, setD, List.set, Option.some.injEq, exists_eq_left']
  refine s_test ?_
  rcases hfd with ⟨rfl, hz⟩ | ⟨i, rfl, hz, hi, hzi⟩
  · have hd : ((-1 : Int) == -1) = true := by decide
    simp only [o_pure, o_nil, POp.ev, Opd.ev, gv, setD, Option.some.injEq, exists_eq_left', binV, ne_eq, not_true_eq_false, if_false, beq_self_eq_true]
    refine Test.true_ (s_reg ?_)
    simp only [o_pure, o_nil, POp.ev, Opd.ev, gv, setD, List.set, Option.some.injEq, exists_eq_left']
    refine s_ret1 ?_
    simp +decide only [p_seq_ret, p_fin_ret, resV, resOne, gv, Option.some.injEq, exists_eq_left']
    rw [kept_all hz]
    exact ⟨Vec.ext hs hx2, Chg.of_ext hx2⟩
  · have hd : ((i : Int) == -1) = false := by simp <;> omega
    simp only [o_pure, o_nil, POp.ev, Opd.ev, gv, setD, Option.some.injEq, exists_eq_left', binV, ne_eq, not_true_eq_false, if_false, hd]
    refine Test.false_ (s_skip1 ?_)
    simp +decide only [p_seq_normal]
    refine s_assoc (s_reg ?_)
    simp only [o_pure, o_nil, POp.ev, Opd.ev, gv, setD, List.set, Option.some.injEq, exists_eq_left', binV, ne_eq, not_true_eq_false, if_false, add1 (i := i) (by omega)]
    refine s_block ?_
    refine s_loop1 (fun k e' H' => ∃ (j : Nat) (F G : List (Value × Bool)) (x5 : Value), j + k = fl.length ∧ F = kept (fl.take j) ∧ F.length + G.length = j ∧ G ≠ [] ∧ Vec H' b s (F ++ G ++ fl.drop j).length 1 ((F ++ G ++ fl.drop j).map (·.1)) ∧ Chg b H H' ∧ e' = [s, fv, .slice none 0 0, .int .i64 F.length, .int .i64 j, x5]) (fl.length - (i + 1))
      ⟨i + 1, fl.take i, [fl[i]], _, by omega, by rw [kept_take_succ hi, if_pos hzi, List.append_nil, kept_all hz], by simp; omega, by simp, ?_, Chg.of_ext hx2, by rw [List.length_take, Nat.min_eq_left (by omega)]⟩ ?_
    · have : fl.take i ++ [fl[i]] ++ fl.drop (i + 1) = fl := by rw [List.append_assoc, List.singleton_append, List.getElem_cons_drop, List.take_append_drop]
      rw [this]
      exact Vec.ext hs hx2
    rintro k e' H3 ⟨j, F, G, x5, hjk, hF, hFG, hG, hv, hc, rfl⟩
    have hFj : F.length ≤ j := by omega
    have hvl : (F ++ G ++ fl.drop j).length = fl.length := by simp; omega
    refine s_test ?_
    have hlv := Vec.lenV hv
    rw [hvl] at hlv
    simp only [o_pure, o_nil, POp.ev, Opd.ev, gv, setD, Option.some.injEq, exists_eq_left', binV, ne_eq, not_true_eq_false, if_false, hlv]
    refine Test.split (fun hlt => ?_) (fun hlt => ?_)
    · have hlt' : j < fl.length := by simpa using hlt
      obtain ⟨j1, a1⟩ := pair_at hv (i := j) (by omega)
      have g1 : (F ++ G ++ fl.drop j)[j]'(by omega) = fl[j] := by
        rw [List.getElem_append_right (by simp; omega), List.getElem_drop]
        congr 1
        simp; omega
      rw [g1] at a1
      refine s_skip1 ?_
      simp +decide only [p_seq_normal]
      refine s_block ?_
      refine s_reg ?_
      simp only [o_pure, o_nil, POp.ev, Opd.ev, gv, setD, List.set, Option.some.injEq, exists_eq_left', load1V, j1, a1]
      have hdj : fl.drop j = fl[j] :: fl.drop (j + 1) := (List.getElem_cons_drop ..).symm
      obtain ⟨g, G', rfl⟩ : ∃ g G', G = g :: G' := by
        cases G with
        | nil => exact absurd rfl hG
        | cons g G' => exact ⟨g, G', rfl⟩
      simp only [List.length_cons] at hFG
      refine s_test1 ?_
      simp only [o_callT, o_pure, POp.ev, Opd.ev, gv, setD, List.map, Option.some.injEq, exists_eq_left']
      refine hf _ (List.getElem_mem hlt') _ _ hc fun H5 hx5 => ?_
      replace hv := Vec.ext hv hx5
      replace hc := hc.trans (Chg.of_ext hx5)
      simp only [o_cont, o_pure, o_nil, POp.ev, Opd.ev, gv, setD, Option.some.injEq, exists_eq_left', unV]
      have leave : ∀ (F2 G2 : List (Value × Bool)) (H6 : AHeap), F2 = kept (fl.take (j + 1)) → F2.length + G2.length = j + 1 → G2 ≠ [] → Vec H6 b s (F2 ++ G2 ++ fl.drop (j + 1)).length 1 ((F2 ++ G2 ++ fl.drop (j + 1)).map (·.1)) → Chg b H H6 →
          Round (fun k e' H' => ∃ (j : Nat) (F G : List (Value × Bool)) (x5 : Value), j + k = fl.length ∧ F = kept (fl.take j) ∧ F.length + G.length = j ∧ G ≠ [] ∧ Vec H' b s (F ++ G ++ fl.drop j).length 1 ((F ++ G ++ fl.drop j).map (·.1)) ∧ Chg b H H' ∧ e' = [s, fv, .slice none 0 0, .int .i64 F.length, .int .i64 j, x5]) k [s, fv, .slice none 0 0, .int .i64 F2.length, .int .i64 ((j + 1 : Nat) : Int), fl[j].1] H6 := by
        intro F2 G2 H6 h1 h2 h3 h4 h5
        exact Round.mk (k - 1) (by omega) ⟨j + 1, F2, G2, _, by omega, h1, h2, h3, h4, h5, rfl⟩
      refine Test.split (fun hg => ?_) (fun hg => ?_)
      · have hg' : ¬ fl[j].2 = true := by simpa using hg
        have hsh : F ++ g :: G' ++ fl.drop j = F ++ g :: (G' ++ fl.drop j) := by simp
        rw [hsh] at hv
        have hFl : F.length < (F ++ g :: (G' ++ fl.drop j)).length := by simp
        obtain ⟨j2, a2⟩ := pair_at hv (i := F.length) hFl
        obtain ⟨cs, t1, hv6⟩ := Vec.put1 (lim := lim) hv hl (i := F.length) (x := fl[j].1) (hcv _ (List.getElem_mem hlt')) hFl
        refine s_reg ?_
        simp only [o_pure, o_eff, o_nil, POp.ev, Opd.ev, EOp.ev, gv, setD, Option.some.injEq, exists_eq_left', j2, t1]
        refine s_reg1 ?_
        simp only [o_pure, o_nil, POp.ev, Opd.ev, gv, setD, List.set, Option.some.injEq, exists_eq_left', binV, ne_eq, not_true_eq_false, if_false, add1 (i := F.length) (by omega)]
        simp +decide only [p_seq_normal, p_block_normal]
        refine s_reg1 ?_
        simp only [o_pure, o_nil, POp.ev, Opd.ev, gv, setD, List.set, Option.some.injEq, exists_eq_left', binV, ne_eq, not_true_eq_false, if_false, add1 (i := j) (by omega)]
        simp +decide only [p_seq_normal]
        have e2 : (F ++ g :: (G' ++ fl.drop j)).set F.length fl[j] = (F ++ [fl[j]]) ++ (G' ++ [fl[j]]) ++ fl.drop (j + 1) := by
          rw [List.set_append_right _ _ (by omega), Nat.sub_self, hdj]
          simp
        have e3 : (F ++ g :: (G' ++ fl.drop j)).length = ((F ++ [fl[j]]) ++ (G' ++ [fl[j]]) ++ fl.drop (j + 1)).length := by rw [← e2, List.length_set]
        rw [← List.map_set, e2, e3] at hv6
        have := leave (F ++ [fl[j]]) (G' ++ [fl[j]]) _ (by rw [kept_take_succ hlt', if_neg hg', hF]) (by simp; omega) (by simp) hv6 (hc.trans (Chg.put _ _ _))
        rw [List.length_append, List.length_singleton] at this
        exact this
      · have hg' : fl[j].2 = true := by simpa using hg
        refine s_skip1 ?_
        simp +decide only [p_seq_normal, p_block_normal]
        refine s_reg1 ?_
        simp only [o_pure, o_nil, POp.ev, Opd.ev, gv, setD, List.set, Option.some.injEq, exists_eq_left', binV, ne_eq, not_true_eq_false, if_false, add1 (i := j) (by omega)]
        simp +decide only [p_seq_normal]
        refine leave F (g :: G' ++ [fl[j]]) _ (by rw [kept_take_succ hlt', if_pos hg', List.append_nil, hF]) (by simp; omega) (by simp) ?_ hc
        rw [hdj] at hv
        simpa using hv
    · have hge : j = fl.length := by simp at hlt; omega
      subst hge
      refine s_exit1 ?_
      simp +decide only [p_seq_normal, p_seq_exit, p_block_exit, reduceIte]
      rw [List.take_length] at hF
      obtain ⟨vd, H4, vk, m1, m2, m3, m4, m5⟩ := Vec.cut1 (lim := lim) hv hl (k := F.length) (by simp <;> omega) (.slice none 0 0)
      refine s_reg ?_
      simp only [o_pure, o_eff, o_nil, POp.ev, Opd.ev, EOp.ev, gv, setD, Option.map_none, Option.map_some, Option.some.injEq, exists_eq_left', m1, m2]
      refine s_reg ?_
      simp only [o_pure, o_nil, POp.ev, Opd.ev, gv, setD, List.set, Option.map_none, Option.map_some, Option.some.injEq, exists_eq_left', m3]
      refine s_ret1 ?_
      simp +decide only [p_fin_ret, resV, resOne, gv, Option.some.injEq, exists_eq_left']
      rw [← List.map_take, List.append_assoc, List.take_left] at m4
      rw [← hF]
      exact ⟨m4, hc.trans m5⟩

/-! ### all orders -/
theorem ordI2_small : ∀ n : Fin 4, ∀ i : Fin 4, (ordI2 n.val i.val).length ≤ 27 ∧ ∀ l ∈ ordI2 n.val i.val, l.length = i.val := by decide
/-- one more number behind a list -/
def more (n : Nat) (l : List Nat) : List (List Nat) := (List.range n).flatMap fun k => if k ∈ l then [] else [l ++ [k]]
theorem more_len (l : List Nat) : ∀ n : Nat, (more n l).length ≤ n
  | 0 => by simp [more]
  | n + 1 => by
    have := more_len l n
    unfold more at this ⊢
    rw [List.range_succ, List.flatMap_append, List.length_append]
    have : ([n].flatMap fun k => if k ∈ l then ([] : List (List Nat)) else [l ++ [k]]).length ≤ 1 := by
      simp only [List.flatMap_cons, List.flatMap_nil, List.append_nil]
      split <;> simp
    omega
theorem flat_len {α β : Type} (f : α → List β) (B : Nat) (h : ∀ a, (f a).length ≤ B) : ∀ l : List α, (l.flatMap f).length ≤ l.length * B
  | [] => by simp
  | a :: l => by
    rw [List.flatMap_cons, List.length_append, List.length_cons, Nat.succ_mul]
    have := h a
    have := flat_len f B h l
    omega
theorem ordersOf_ok (lim n : Nat) (H : AHeap) (hl : lim ≤ H.next) (hn1 : 1 ≤ n) (hn3 : n ≤ 3) :
    ACalls Try.prog lim n_impl_ordersOf [.int .i64 n] H fun v H' => OwnKK H' H.next H'.next v ((ords n).map zl) ∧ Ext H H' := by
  refine is_impl_ordersOf.go rfl ?_
  unfold c_impl_ordersOf
  refine s_reg ?_
  simp only [o_pure, o_nil, POp.ev, Opd.ev, env0, gu, setD, List.set, Option.some.injEq, exists_eq_left']
  refine s_reg ?_
  simp only [o_pure, o_eff, o_nil, POp.ev, Opd.ev, EOp.ev, gv, setD, List.set, List.map, Option.some.injEq, exists_eq_left', bsliceV H (x := .slice none 0 0) (.slice none 0 0) rfl]
  have h0 := SlKK.one H
  have hx0 := Ext.alloc H [Value.slice none 0 0]
  generalize H.alloc [Value.slice none 0 0] = H1 at h0 hx0 ⊢
  generalize (Value.slice (some ⟨H.next, 0, some 0⟩) 1 1) = o1 at h0 ⊢
  refine s_assoc (s_reg ?_)
  simp only [o_pure, o_nil, POp.ev, Opd.ev, gv, setD, List.set, Option.some.injEq, exists_eq_left']
  refine s_block ?_
  refine s_loop1 (fun j e' H' => ∃ (i : Nat) (out x3 x4 x5 x8 x9 x10 x11 x12 : Value), i + j = n ∧ SlKK H' out ((ordI2 n i).map zl) ∧ (0 < i → OwnKK H' H.next H'.next out ((ordI2 n i).map zl)) ∧ Ext H H' ∧ e' = [.int .i64 n, .slice none 0 0, out, x3, x4, x5, .int .i64 n, .int .i64 i, x8, x9, x10, x11, x12]) n ⟨0, o1, _, _, _, _, _, _, _, _, by omega, h0, by omega, hx0, rfl⟩ ?_
  clear h0 hx0
  rintro j e' H2 ⟨i, out, x3, x4, x5, x8, x9, x10, x11, x12, hij, ho, hoo, hx, rfl⟩
  have hnx := hx.next
  refine s_test ?_
  simp only [o_pure, o_nil, POp.ev, Opd.ev, gv, setD, Option.some.injEq, exists_eq_left', binV, ne_eq, not_true_eq_false, if_false]
  refine Test.split (fun hlt => ?_) (fun hlt => ?_)
  · have hlt' : i < n := by simpa using hlt
    obtain ⟨hpl, hpm⟩ := ordI2_small ⟨n, by omega⟩ ⟨i, by omega⟩
    simp only at hpl hpm
    have hol := ho.lenV
    rw [List.length_map] at hol
    have hnext : ordI2 n (i + 1) = (ordI2 n i).flatMap (more n) := rfl
    generalize ordI2 n i = PL at *
    refine s_skip1 ?_
    simp +decide only [p_seq_normal]
    refine s_block1 ?_
    refine s_reg ?_
    simp only [o_pure, o_nil, POp.ev, Opd.ev, setD, List.set, Option.some.injEq, exists_eq_left']
    refine s_assoc (s_reg ?_)
    simp only [o_pure, o_nil, POp.ev, Opd.ev, gv, setD, List.set, Option.some.injEq, exists_eq_left', hol]
    refine s_block ?_
    refine s_loop1 (fun j2 e' H' => ∃ (m b : Nat) (vs : List Value) (bs : List Nat) (nx x4 x5 x11 x12 : Value), m + j2 = PL.length ∧ GrowK H' H2.next b vs bs nx (((PL.take m).flatMap (more n)).map zl) ∧ Ext H2 H' ∧ e' = [.int .i64 n, .slice none 0 0, out, nx, x4, x5, .int .i64 n, .int .i64 i, out, .int .i64 PL.length, .int .i64 m, x11, x12]) PL.length ⟨0, H2.next, [], [], .slice none 0 0, _, _, _, _, by omega, GrowK.nil' H2, Ext.refl _, rfl⟩ ?_
    rintro j2 e' H3 ⟨m, b, vs, bs, nx, x4, x5, x11, x12, hmj, hg, hx3, rfl⟩
    have hnx3 := hx3.next
    refine s_test ?_
    simp only [o_pure, o_nil, POp.ev, Opd.ev, gv, setD, Option.some.injEq, exists_eq_left', binV, ne_eq, not_true_eq_false, if_false]
    refine Test.split (fun hlt2 => ?_) (fun hlt2 => ?_)
    · have hml : m < PL.length := by simpa using hlt2
      obtain ⟨b2, o2, ls, w2, w3⟩ := ho.atx (i := m) (by rw [List.length_map]; exact hml)
      simp only [List.getElem_map] at w3
      have hmt := List.take_succ_eq_append_getElem hml
      have hll := hpm _ (List.getElem_mem hml)
      have hfl := flat_len (more n) n (fun l => more_len l n) (PL.take m)
      rw [List.length_take, Nat.min_eq_left (by omega)] at hfl
      have hfl2 : m * n ≤ 27 * 3 := Nat.mul_le_mul (by omega) hn3
      generalize PL[m] = l at *
      refine s_skip1 ?_
      simp +decide only [p_seq_normal]
      refine s_block1 ?_
      refine s_reg ?_
      simp only [o_pure, o_nil, POp.ev, Opd.ev, gv, setD, List.set, Option.some.injEq, exists_eq_left', load1V, w2, (w3 _ hx3).1]
      refine s_reg ?_
      simp only [o_pure, o_nil, POp.ev, Opd.ev, gv, setD, List.set, Option.some.injEq, exists_eq_left']
      refine s_block1 ?_
      refine s_loop1 (fun j3 e' H' => ∃ (k b : Nat) (vs : List Value) (bs : List Nat) (nx x5 : Value), k + j3 = n ∧ GrowK H' H2.next b vs bs nx (((PL.take m).flatMap (more n) ++ more k l).map zl) ∧ Ext H2 H' ∧ e' = [.int .i64 n, .slice none 0 0, out, nx, ls, x5, .int .i64 n, .int .i64 i, out, .int .i64 PL.length, .int .i64 m, .int .i64 n, .int .i64 k]) n ⟨0, b, vs, bs, nx, _, by omega, by simpa [more] using hg, hx3, rfl⟩ ?_
      clear hg
      rintro j3 e' H4 ⟨k, b, vs, bs, nx, x5, hkj, hg, hx4, rfl⟩
      have hn4 := hx4.next
      refine s_test ?_
      simp only [o_pure, o_nil, POp.ev, Opd.ev, gv, setD, Option.some.injEq, exists_eq_left', binV, ne_eq, not_true_eq_false, if_false]
      refine Test.split (fun hlt3 => ?_) (fun hlt3 => ?_)
      · have hkn : k < n := by simpa using hlt3
        have hmk := more_len l k
        have hlen : (((PL.take m).flatMap (more n) ++ more k l).map zl).length ≤ 1000 := by
          rw [List.length_map, List.length_append]
          omega
        have hms : more (k + 1) l = more k l ++ if k ∈ l then [] else [l ++ [k]] := by
          unfold more
          rw [List.range_succ, List.flatMap_append]
          simp only [List.flatMap_cons, List.flatMap_nil, List.append_nil]
        refine s_skip1 ?_
        simp +decide only [p_seq_normal]
        refine s_block1 ?_
        refine s_reg ?_
        simp only [o_pure, o_nil, POp.ev, Opd.ev, gv, setD, List.set, Option.some.injEq, exists_eq_left']
        refine s_test1 ?_
        simp only [o_pure, o_callF, POp.ev, Opd.ev, gv, setD, List.map, Option.some.injEq, exists_eq_left']
        refine (Ints.contains_ok _ ls (zl l) k H4 (w3 _ hx4).2 (by rw [zl_length]; omega)).eq ?_
        rw [zl_any]
        simp only [o_cont, o_pure, o_nil, POp.ev, Opd.ev, gv, setD, Option.some.injEq, exists_eq_left', unV]
        refine Test.split (fun hm => ?_) (fun hm => ?_)
        · have hm' : k ∉ l := by simpa using hm
          refine s_reg1 ?_
          simp only [o_pure, o_callF, POp.ev, Opd.ev, gv, setD, List.map, Option.some.injEq, exists_eq_left']
          refine (Ints.clone_ok lim ls (zl l) H4 (by omega) (w3 _ hx4).2 (by rw [zl_length]; omega)).mono ?_
          rintro cl H5 ⟨c, hc1, hc2, hcl, hx5⟩
          have hn5 := hx5.next
          obtain ⟨v6, H6, c6, e6, hv6, hc6, hlt6, ch6, n6⟩ := push1 (lim := lim) (bytes := 8) hcl (.int .i64 (k : Int)) (by omega) (by rw [zl_length]; omega)
          have hx6 := Chg.ext hx5 ch6 hc1
          have hn6 := hx6.next
          have hv6' : VecI H6 c6 v6 (zl (l ++ [k])) := by
            rw [zl_snoc]
            exact VecI.snoc hv6
          obtain ⟨v7, H7, b7, e7, hg7, hx7⟩ := GrowK.push (lim := lim) hg (by omega) hx4 (Nat.le_refl _) hn4 hx6 (by rcases hc6 with h | h <;> omega) (by omega) hv6' (by omega)
          simp only [o_cont, o_pure, o_eff, o_nil, POp.ev, Opd.ev, EOp.ev, gv, setD, List.set, List.map, Option.some.injEq, exists_eq_left', bsliceV _ (.int .i64 0) (x := .int .i64 (k : Int)) rfl, e6, bsliceV _ (.slice none 0 0) (x := v6) (Vec.cellsV hv6'), e7]
          simp +decide only [p_seq_normal, p_block_normal]
          refine s_reg1 ?_
          simp only [o_pure, o_nil, POp.ev, Opd.ev, gv, setD, List.set, Option.some.injEq, exists_eq_left', binV, ne_eq, not_true_eq_false, if_false, add1 (i := k) (by omega)]
          simp +decide only [p_seq_normal]
          refine Round.mk (j3 - 1) (by omega) ⟨k + 1, b7, vs ++ [v6], bs ++ [c6], v7, .int .i64 k, by omega, ?_, hx7, rfl⟩
          rw [hms, if_neg hm', ← List.append_assoc, List.map_append]
          exact hg7
        · have hm' : k ∈ l := by simpa using hm
          refine s_skip1 ?_
          simp +decide only [p_seq_normal, p_block_normal]
          refine s_reg1 ?_
          simp only [o_pure, o_nil, POp.ev, Opd.ev, gv, setD, List.set, Option.some.injEq, exists_eq_left', binV, ne_eq, not_true_eq_false, if_false, add1 (i := k) (by omega)]
          simp +decide only [p_seq_normal]
          refine Round.mk (j3 - 1) (by omega) ⟨k + 1, b, vs, bs, nx, .int .i64 k, by omega, ?_, hx4, rfl⟩
          rw [hms, if_pos hm', List.append_nil]
          exact hg
      · have hge : k = n := by simp at hlt3; omega
        subst hge
        refine s_exit1 ?_
        simp +decide only [p_seq_normal, p_seq_exit, p_block_normal, p_block_exit, reduceIte]
        refine s_reg1 ?_
        simp only [o_pure, o_nil, POp.ev, Opd.ev, gv, setD, List.set, Option.some.injEq, exists_eq_left', binV, ne_eq, not_true_eq_false, if_false, add1 (i := m) (by omega)]
        simp +decide only [p_seq_normal]
        refine Round.mk (j2 - 1) (by omega) ⟨m + 1, b, vs, bs, nx, _, _, _, _, by omega, ?_, hx4, rfl⟩
        rw [hmt, List.flatMap_append]
        simpa using hg
    · have hge : m = PL.length := by simp at hlt2; omega
      subst hge
      refine s_exit1 ?_
      simp +decide only [p_seq_normal, p_seq_exit, p_block_exit, reduceIte]
      refine s_reg1 ?_
      simp only [o_pure, o_nil, POp.ev, Opd.ev, gv, setD, List.set, Option.some.injEq, exists_eq_left']
      simp +decide only [p_seq_normal, p_block_normal]
      refine s_reg1 ?_
      simp only [o_pure, o_nil, POp.ev, Opd.ev, gv, setD, List.set, Option.some.injEq, exists_eq_left', binV, ne_eq, not_true_eq_false, if_false, add1 (i := i) (by omega)]
      simp +decide only [p_seq_normal]
      rw [List.take_length, ← hnext] at hg
      exact Round.mk (j - 1) (by omega) ⟨i + 1, nx, _, _, _, _, _, _, _, _, by omega, hg.own.slss, fun _ => hg.own.wide hnx (Nat.le_refl _), hx.trans hx3, rfl⟩
  · have hge : i = n := by simp at hlt; omega
    subst hge
    refine s_exit1 ?_
    simp +decide only [p_seq_normal, p_seq_exit, p_block_exit, reduceIte]
    refine s_reg ?_
    simp only [o_pure, o_nil, POp.ev, Opd.ev, gv, setD, List.set, Option.some.injEq, exists_eq_left']
    refine s_ret1 ?_
    simp +decide only [p_fin_ret, resV, resOne, gv, Option.some.injEq, exists_eq_left']
    exact ⟨hoo (by omega), hx⟩
end Go.Proofs.Ytagocdkcnajiiaa

/- Miranda's orders, the program: all that pass, the degree; no condition beyond stated ranges. -/
namespace Go.Proofs.Ytagocdkcnajiiaa
open Go.Ab Ints
set_option linter.unusedSimpArgs false
set_option linter.unusedVariables false

/-- some elements of a list of one's own, the outer list written anew in its place -/
theorem OwnK.sub {H H' : AHeap} {lo hi b : Nat} {vs : List Value} {bs : List Nat} {v v' : Value} {ss : List (List Int)} (h : OwnK H lo hi b vs bs v ss) {idx : List Nat} (hnd : idx.Nodup) (hin : ∀ i ∈ idx, i < ss.length) (hv : Vec H' b v' idx.length 1 (idx.map fun i => vs.getD i undef)) (hc : Chg b H H') :
    OwnK H' lo hi b (idx.map fun i => vs.getD i undef) (idx.map fun i => bs.getD i 0) v' (idx.map fun i => ss.getD i []) := by
  obtain ⟨h1, h2, h3, h4, h5, h6, h7⟩ := h
  have hbg : ∀ i ∈ idx, ∃ hi : i < bs.length, bs.getD i 0 = bs[i] := fun i hi => by
    have := hin i hi
    exact ⟨by omega, by simp [show i < bs.length by omega]⟩
  refine ⟨by rw [List.length_map]; exact hv, by simp, h3, ?_, ?_, ?_, ?_⟩
  · unfold List.Nodup
    rw [List.pairwise_map]
    refine List.Pairwise.imp_of_mem ?_ hnd
    intro a c ha hc2 hne e
    obtain ⟨ha1, ha2⟩ := hbg a ha
    obtain ⟨hc1, hc2'⟩ := hbg c hc2
    rw [ha2, hc2'] at e
    exact hne ((List.getElem_inj h4).1 e)
  · intro hm
    obtain ⟨i, hi1, hi2⟩ := List.mem_map.1 hm
    obtain ⟨ha1, ha2⟩ := hbg i hi1
    rw [ha2] at hi2
    exact h5 (hi2 ▸ List.getElem_mem ha1)
  · intro c hcm
    obtain ⟨i, hi1, rfl⟩ := List.mem_map.1 hcm
    obtain ⟨ha1, ha2⟩ := hbg i hi1
    rw [ha2]
    exact h6 _ (List.getElem_mem ha1)
  · intro j p hp
    rw [List.getElem?_map] at hp
    obtain ⟨i, hi1, hi2⟩ := Option.map_eq_some_iff.1 hp
    have him := List.mem_of_getElem? hi1
    have hil := hin i him
    obtain ⟨s, c, g1, g2, g3⟩ := h7 i _ (List.getElem?_eq_getElem hil)
    have hgs : ss.getD i [] = ss[i] := by simp [hil]
    rw [hgs] at hi2
    subst hi2
    refine ⟨s, c, ?_, ?_, Vec.chg g3 hc (fun e => h5 (e ▸ List.mem_of_getElem? g2))⟩
    · rw [List.getElem?_map, hi1]
      simp [g1]
    · rw [List.getElem?_map, hi1]
      simp [g2]
theorem range_getD {α : Type} (l : List α) (d : α) : l = (List.range l.length).map fun i => l.getD i d := by
  refine List.ext_getElem (by simp) fun i h1 h2 => ?_
  simp [h1]
theorem closure_ok (lim : Nat) (s bl bu o : Value) (ss : List (List Tm)) (L U order : List Int) (k n q p2 p3 : Nat) (H : AHeap) (hl : lim ≤ H.next) (hs : SlSS H s ss) (hv : BoxP H q k bl bu L U) (hq : q < H.next) (ho : SlI H o order) (hc : Crs k n L U) (hp : ∀ p ∈ ss, goodP p = true ∧ fromB n p = true) (hn : ss.length = n) (hon : order.length = n) (hin : ∀ x ∈ order, 0 ≤ x ∧ x ≤ (n : Int) - 1)
    (h2 : H.blk p2 = some [s]) (h3 : H.blk p3 = some [.pointer (some ⟨q, 0, none⟩)]) :
    ACalls Try.prog lim n_impl_mirandaOrders_1 [o, .pointer (some ⟨p2, 0, none⟩), .pointer (some ⟨p3, 0, none⟩)] H fun v H' => v = .bool (!passB k ss L U order) ∧ Ext H H' := by
  refine is_impl_mirandaOrders_1.go rfl ?_
  unfold c_impl_mirandaOrders_1
  refine s_reg ?_
  simp only [o_pure, o_nil, POp.ev, Opd.ev, env0, gu, setD, List.set, Option.some.injEq, exists_eq_left']
  refine s_reg ?_
  have c2 : H.cell p2 0 = some s := cell_blk h2 0
  have c3 : H.cell p3 0 = some (.pointer (some ⟨q, 0, none⟩)) := cell_blk h3 0
  simp only [o_pure, o_callF, POp.ev, Opd.ev, gv, setD, List.map, Option.some.injEq, exists_eq_left', load1V, c2, c3]
  refine (passesMiranda_ok lim s bl bu o ss L U order k n q H hl hs hv hq ho hc hp hn hon hin).mono ?_
  rintro _ H' ⟨rfl, hx⟩
  simp only [o_cont, o_pure, o_nil, POp.ev, Opd.ev, gv, setD, List.set, Option.some.injEq, exists_eq_left', unV]
  refine s_ret1 ?_
  simp +decide only [p_fin_ret, resV, resOne, gv, Option.some.injEq, exists_eq_left']
  exact ⟨trivial, hx⟩
theorem mirandaOrders_ok (lim : Nat) (s bl bu : Value) (ss : List (List Tm)) (L U : List Int) (k n q : Nat) (H : AHeap) (hl : lim ≤ H.next) (hs : SlSS H s ss) (hv : BoxP H q k bl bu L U) (hq : q < H.next) (hc : Crs k n L U) (hp : ∀ p ∈ ss, goodP p = true ∧ fromB n p = true) (hn : ss.length = n) :
    ACalls Try.prog lim n_impl_mirandaOrders [s, .pointer (some ⟨q, 0, none⟩)] H fun v H' => OwnKK H' H.next H'.next v ((passing k ss L U n).map zl) ∧ Ext H H' := by
  have hn3 := hc.n3
  have hn1 := hc.n1
  refine is_impl_mirandaOrders.go rfl ?_
  unfold c_impl_mirandaOrders
  have hcv : cellsV s = some [s] := by
    obtain ⟨vs, h1, _⟩ := hs
    exact h1.cellsV
  have hcp : cellsV (.pointer (some ⟨q, 0, none⟩)) = some [.pointer (some ⟨q, 0, none⟩)] := rfl
  refine s_reg ?_
  simp only [o_pure, o_eff, o_nil, POp.ev, Opd.ev, EOp.ev, env0, gu, gv, setD, List.set, Option.map_some, Option.some.injEq, exists_eq_left', boxH, hcv, hcp]
  have hx1 : Ext H ((H.alloc [s]).alloc [.pointer (some ⟨q, 0, none⟩)]) := (Ext.alloc _ _).trans (Ext.alloc _ _)
  have hp3 : ((H.alloc [s]).alloc [.pointer (some ⟨q, 0, none⟩)]).blk (H.next + 1) = some [.pointer (some ⟨q, 0, none⟩)] := alloc_new (H.alloc [s]) _
  have hp2 : ((H.alloc [s]).alloc [.pointer (some ⟨q, 0, none⟩)]).blk H.next = some [s] := by
    rw [alloc_old _ _ (Nat.lt_succ_self _)]
    exact alloc_new _ _
  have hnx : ((H.alloc [s]).alloc [.pointer (some ⟨q, 0, none⟩)]).next = H.next + 2 := rfl
  have hna : (H.alloc [s]).next = H.next + 1 := rfl
  rw [hna]
  generalize (H.alloc [s]).alloc [.pointer (some ⟨q, 0, none⟩)] = H1 at hx1 hp3 hp2 hnx ⊢
  have c2 : H1.cell H.next 0 = some s := cell_blk hp2 0
  refine s_reg ?_
  simp only [o_pure, o_callF, POp.ev, Opd.ev, gv, setD, List.map, Option.some.injEq, exists_eq_left', load1V, c2, hs.lenV]
  rw [hn]
  refine (ordersOf_ok lim n H1 (by omega) hn1 hn3).mono ?_
  rintro pv H2 ⟨hw, hx2⟩
  have hnx2 := hx2.next
  have hne : ords n ≠ [] := by
    have : ∀ m : Fin 4, ords m.val ≠ [] := by decide
    exact this ⟨n, by omega⟩
  rcases hw with ⟨_, h0⟩ | ⟨b, vs, bs, hP⟩
  · exact absurd (List.map_eq_nil_iff.1 h0) hne
  have hoi := ords_in ⟨n, by omega⟩
  have hol := ords_len ⟨n, by omega⟩
  simp only at hoi hol
  have hbr := hP.rng
  have hvl : vs.length = (ords n).length := by
    have := hP.vec.clen
    rw [List.length_map, Nat.mul_one] at this
    exact this
  simp only [o_cont, o_pure, o_callF, POp.ev, Opd.ev, gv, setD, List.map, Option.some.injEq, exists_eq_left']
  have hfl : ((List.range (ords n).length).map fun i => (vs.getD i undef, !passB k ss L U (zl ((ords n).getD i [])))).map (·.1) = vs := by
    rw [List.map_map]
    have := range_getD vs undef
    rw [hvl] at this
    exact this.symm
  generalize hFL : ((List.range (ords n).length).map fun i => (vs.getD i undef, !passB k ss L U (zl ((ords n).getD i [])))) = FL at hfl
  have hFLl : FL.length = (ords n).length := by rw [← hFL]; simp
  have hmem : ∀ x ∈ FL, ∃ i, i < (ords n).length ∧ x = (vs.getD i undef, !passB k ss L U (zl ((ords n).getD i []))) := by
    intro x hx
    rw [← hFL] at hx
    obtain ⟨i, hi, rfl⟩ := List.mem_map.1 hx
    exact ⟨i, List.mem_range.1 hi, rfl⟩
  have hel : ∀ i (hi : i < (ords n).length), ∃ sv c, vs.getD i undef = sv ∧ c ≠ b ∧ VecI H2 c sv (zl ((ords n).getD i [])) := by
    intro i hi
    obtain ⟨sv, c, g1, g2, g3⟩ := hP.el i (zl ((ords n).getD i [])) (by rw [List.getElem?_map, List.getElem?_eq_getElem hi]; simp [hi])
    refine ⟨sv, c, ?_, fun e => hP.nin (e ▸ List.mem_of_getElem? g2), g3⟩
    rw [List.getD_eq_getElem?_getD, g1]
    rfl
  have hT : Tells lim b H2 (.func (.func n_impl_mirandaOrders_1) #[] #[.pointer (some ⟨H.next, 0, none⟩), .pointer (some ⟨H.next + 1, 0, none⟩)]) FL := by
    intro x hx G R hg hr
    obtain ⟨i, hi, rfl⟩ := hmem x hx
    obtain ⟨sv, c, e1, e2, e3⟩ := hel i hi
    have hxG : Ext H1 G := Chg.ext hx2 hg (by omega)
    have hxG0 := hx1.trans hxG
    have hngG := hxG.next
    have hgd : (ords n).getD i [] = (ords n)[i] := by simp [hi]
    obtain ⟨q1, q2⟩ := hoi _ (List.getElem_mem hi)
    rw [callV_clo]
    refine (closure_ok lim s bl bu sv ss L U (zl ((ords n).getD i [])) k n q H.next (H.next + 1) G (by omega) (hs.ext hxG0) (hv.ext hq hxG0) (by omega) (Vec.sl (Vec.chg e3 hg e2)) hc hp hn (by rw [zl_length, hgd]; exact q1) (by
      intro x hxm
      rw [hgd] at hxm
      obtain ⟨y, hy, rfl⟩ := List.mem_map.1 hxm
      have := q2 y hy
      omega) (by rw [hxG.blk _ (by omega)]; exact hp2) (by rw [hxG.blk _ (by omega)]; exact hp3) |> fun h => ?_)
    simp only [e1]
    refine h.mono ?_
    rintro _ G' ⟨rfl, hx'⟩
    exact hr G' hx'
  refine (deleteD_ok lim b pv _ FL H2 (by rw [hFLl, hfl]; have := hP.vec; rw [List.length_map] at this; exact this) ?_ hT (by omega) (by omega)).mono ?_
  · intro x hx
    obtain ⟨i, hi, rfl⟩ := hmem x hx
    obtain ⟨sv, c, e1, e2, e3⟩ := hel i hi
    simp only [e1]
    exact Vec.cellsV e3
  rintro v H3 ⟨hv3, hc3⟩
  have hidx : kept FL = ((List.range (ords n).length).filter fun i => passB k ss L U (zl ((ords n).getD i []))).map fun i => (vs.getD i undef, !passB k ss L U (zl ((ords n).getD i []))) := by
    rw [← hFL]
    unfold kept
    rw [List.filter_map]
    congr 1
    refine List.filter_congr fun i _ => ?_
    simp
  have hpass : (passing k ss L U n).map zl = ((List.range (ords n).length).filter fun i => passB k ss L U (zl ((ords n).getD i []))).map fun i => ((ords n).map zl).getD i [] := by
    unfold passing
    have e := range_getD (ords n) []
    conv => lhs; rw [e]
    rw [List.filter_map, List.map_map]
    refine List.map_congr_left fun i hi => ?_
    have hi' := List.mem_range.1 (List.mem_filter.1 hi).1
    simp [Function.comp, hi']
  have hk := hP.sub (H' := H3) (v' := v) (idx := (List.range (ords n).length).filter fun i => passB k ss L U (zl ((ords n).getD i []))) (List.nodup_range.filter _) (fun i hi => by rw [List.length_map]; exact List.mem_range.1 (List.mem_filter.1 hi).1) (by
    rw [hidx, List.length_map, List.map_map] at hv3
    exact hv3) hc3
  rw [← hpass] at hk
  have hnx3 := hc3.next
  simp only [o_cont, o_pure, o_nil, POp.ev, Opd.ev, gv, setD, List.set, Option.some.injEq, exists_eq_left']
  refine s_ret1 ?_
  simp +decide only [p_fin_ret, resV, resOne, gv, Option.some.injEq, exists_eq_left']
  exact ⟨OwnKK.wide (.inr ⟨_, _, _, hk⟩) (by omega) hnx3, Chg.ext (hx1.trans hx2) hc3 (by omega)⟩

end Go.Proofs.Ytagocdkcnajiiaa

/- FnExactPassesMiranda, the law's contract: for all arguments the law answers true; no condition. -/
namespace Go.Proofs.Ytagocdkcnajiiaa
open Go.Ab Ints
set_option linter.unusedSimpArgs false
set_option linter.unusedVariables false
theorem szTermSSb_ok (lim : Nat) (s : Value) (ss : List (List Tm)) (left : Int) (H : AHeap) (hs : SlSS H s ss) (h0 : -20000000000000 ≤ left) (h1 : left ≤ 1000000000) (hn : ss.length ≤ 20000000000000) (hn2 : ∀ p ∈ ss, p.length ≤ 20000000000000) :
    ACalls Try.prog lim n_laws_szTermSS [s, .int .i64 left] H fun v H' => (∃ r : Int, v = .int .i64 r ∧ (¬ r < 0 → (ss.length : Int) + tot ss + r ≤ left)) ∧ H' = H := by
  refine is_laws_szTermSS.go rfl ?_
  unfold c_laws_szTermSS
  have hw : IntKind.i64.wrap (left - ss.length) = left - ss.length := by rw [IntKind.wrap_i64]; omega
  refine s_reg ?_
  simp only [o_pure, o_nil, POp.ev, Opd.ev, env0, gu, setD, List.set, Option.some.injEq, exists_eq_left']
  refine s_reg ?_
  simp only [o_pure, o_nil, POp.ev, Opd.ev, gv, setD, List.set, Option.some.injEq, exists_eq_left', binV, ne_eq, not_true_eq_false, if_false, hs.lenV, hw]
  refine s_test ?_
  simp only [o_pure, o_nil, POp.ev, Opd.ev, gv, setD, Option.some.injEq, exists_eq_left', binV, ne_eq, not_true_eq_false, if_false]
  refine Test.split (fun h => ?_) (fun h => ?_)
  · refine s_reg ?_
    simp only [o_pure, o_nil, POp.ev, Opd.ev, setD, List.set, Option.some.injEq, exists_eq_left']
    refine s_ret1 ?_
    simp +decide only [p_seq_ret, p_fin_ret, resV, resOne, gv, Option.some.injEq, exists_eq_left']
    exact ⟨⟨-1, rfl, by omega⟩, trivial⟩
  have hge : 0 ≤ left - (ss.length : Int) := by simpa using h
  refine s_skip1 ?_
  simp +decide only [p_seq_normal]
  refine s_assoc (s_reg ?_)
  simp only [o_pure, o_nil, POp.ev, Opd.ev, setD, List.set, Option.some.injEq, exists_eq_left']
  refine s_block ?_
  refine s_loop1 (fun j e' H' => H' = H ∧ ∃ (i : Nat), i + j = ss.length ∧ 0 ≤ left - (ss.length : Int) - tot (ss.take i) ∧ e' = [s, .int .i64 (left - (ss.length : Int) - tot (ss.take i)), .int .i64 0, .int .i64 i]) ss.length ⟨rfl, 0, by omega, by simpa [tot] using hge, by simp [tot]⟩ ?_
  rintro j e' H ⟨rfl, i, hij, hnn, rfl⟩
  refine s_test ?_
  simp only [o_pure, o_nil, POp.ev, Opd.ev, gv, setD, Option.some.injEq, exists_eq_left', binV, ne_eq, not_true_eq_false, if_false, hs.lenV]
  refine Test.split (fun hlt => ?_) (fun hlt => ?_)
  · have hlt' : i < ss.length := by simpa using hlt
    obtain ⟨b1, o1, s1, k1, k2, k3⟩ := hs.at hlt'
    have hpl := hn2 _ (List.getElem_mem hlt')
    have htk := tot_take_succ hlt'
    refine s_skip1 ?_
    simp +decide only [p_seq_normal]
    refine s_block ?_
    refine s_reg ?_
    simp only [o_pure, o_callF, POp.ev, Opd.ev, gv, setD, List.map, Option.some.injEq, exists_eq_left', load1V, k1, k2]
    refine (szTermS_ok _ _ _ _ _ k3.lenV (by omega) (by omega) hpl).eq ?_
    by_cases hc : left - (ss.length : Int) - tot (ss.take i) - ss[i].length < 0
    · rw [if_pos hc]
      have d1 : decide ((-1 : Int) < 0) = true := by decide
      simp only [o_cont, o_pure, o_nil, POp.ev, Opd.ev, gv, setD, List.set, Option.some.injEq, exists_eq_left']
      refine s_test1 ?_
      simp only [o_pure, o_nil, POp.ev, Opd.ev, gv, setD, Option.some.injEq, exists_eq_left', binV, ne_eq, not_true_eq_false, if_false, d1]
      refine Test.true_ (s_reg ?_)
      simp only [o_pure, o_nil, POp.ev, Opd.ev, setD, List.set, Option.some.injEq, exists_eq_left']
      refine s_ret1 ?_
      simp +decide only [p_seq_ret, p_block_ret, p_fin_ret, resV, resOne, gv, Option.some.injEq, exists_eq_left']
      exact ⟨⟨-1, rfl, by omega⟩, trivial⟩
    · rw [if_neg hc]
      have d1 : decide (left - (ss.length : Int) - tot (ss.take i) - ss[i].length < 0) = false := by simpa using hc
      simp only [o_cont, o_pure, o_nil, POp.ev, Opd.ev, gv, setD, List.set, Option.some.injEq, exists_eq_left']
      refine s_test1 ?_
      simp only [o_pure, o_nil, POp.ev, Opd.ev, gv, setD, Option.some.injEq, exists_eq_left', binV, ne_eq, not_true_eq_false, if_false, d1]
      refine Test.false_ (s_skip1 ?_)
      simp +decide only [p_seq_normal, p_block_normal]
      refine s_reg1 ?_
      simp only [o_pure, o_nil, POp.ev, Opd.ev, gv, setD, List.set, Option.some.injEq, exists_eq_left', binV, ne_eq, not_true_eq_false, if_false, add1 (i := i) (by omega)]
      simp +decide only [p_seq_normal]
      exact Round.mk (j - 1) (by omega) ⟨rfl, i + 1, by omega, by omega, by rw [htk]; congr 3; simp; omega⟩
  · have hge : i = ss.length := by simp at hlt; omega
    subst hge
    refine s_exit1 ?_
    simp +decide only [p_seq_normal, p_seq_exit, p_block_exit, reduceIte]
    refine s_reg ?_
    simp only [o_pure, o_nil, POp.ev, Opd.ev, gv, setD, List.set, Option.some.injEq, exists_eq_left']
    refine s_ret1 ?_
    simp +decide only [p_fin_ret, resV, resOne, gv, Option.some.injEq, exists_eq_left']
    rw [List.take_length] at hnn ⊢
    exact ⟨⟨_, rfl, by omega⟩, trivial⟩

end Go.Proofs.Ytagocdkcnajiiaa

/- The rows' arguments: what a law of this seat is handed, told of the abstract heap; no condition. -/
namespace Go.Proofs.Ytagocdkcnajiiaa
open Go.Ab
set_option linter.unusedSimpArgs false
set_option linter.unusedVariables false
set_option maxRecDepth 100000
theorem own : ownKnob Try.prog.godebug = none := by kernel_rfl
theorem laidOut : laidOutB Try.prog = true := by kernel_rfl
theorem shp2 {P : Program} {H : AHeap} {n a b} {avs : List Value} (h : ShpAll P H n [a, b] avs) : ∃ v u, avs = [v, u] ∧ ShpV P H n a v ∧ ShpV P H n b u := by
  match avs, h with
  | [v, u], h => exact ⟨v, u, rfl, h.1, h.2.1⟩
theorem shp_cell {H : AHeap} {n : Nat} {cs : List Value} (h : Shp Try.prog H (n + 1) 3 cs) : ∃ x, cs = [vi x] := by
  unfold Shp at h
  simp only [Try.underlying3] at h
  obtain ⟨x, h, h2⟩ := h
  exact ⟨x, h⟩
/-- a term -/
theorem shp_term {H : AHeap} {n : Nat} {cs : List Value} (h : Shp Try.prog H (n + 2) 67 cs) : ∃ t, cs = tc t := by
  unfold Shp at h
  simp only [Try.underlying67] at h
  obtain ⟨hc, hf⟩ := h
  have e4 : Try.prog.cellsOf 67 = 4 := by kernel_rfl
  have e1 : Try.prog.cellsOf 3 = 1 := by kernel_rfl
  rw [e4] at hc
  match cs, hc with
  | [a, b, c, d], _ =>
    have f0 := hf _ (List.mem_cons_self ..)
    have f1 := hf _ (List.mem_cons_of_mem _ (List.mem_cons_self ..))
    have f2 := hf _ (List.mem_cons_of_mem _ (List.mem_cons_of_mem _ (List.mem_cons_self ..)))
    have f3 := hf _ (List.mem_cons_of_mem _ (List.mem_cons_of_mem _ (List.mem_cons_of_mem _ (List.mem_cons_self ..))))
    simp only [e1, List.drop_zero, List.drop_succ_cons, List.take_succ_cons, List.take_zero] at f0 f1 f2 f3
    obtain ⟨x0, g0⟩ := shp_cell f0
    obtain ⟨x1, g1⟩ := shp_cell f1
    obtain ⟨x2, g2⟩ := shp_cell f2
    obtain ⟨x3, g3⟩ := shp_cell f3
    cases g0
    cases g1
    cases g2
    cases g3
    exact ⟨⟨x0, x1, x2, x3⟩, rfl⟩
theorem cells_terms : ∀ (m : Nat) (cells : List Value), cells.length = m * 4 → (∀ i, i < m → ∃ t, (cells.drop (i * 4)).take 4 = tc t) → ∃ zs : List Tm, zs.length = m ∧ cells = tcs zs
  | 0, cells, hl, _ => ⟨[], rfl, List.length_eq_zero_iff.1 (by omega)⟩
  | m + 1, cells, hl, h => by
    obtain ⟨t, ht⟩ := h 0 (by omega)
    obtain ⟨zs, h1, h2⟩ := cells_terms m (cells.drop 4) (by simp; omega) (fun i hi => by
      obtain ⟨u, hu⟩ := h (i + 1) (by omega)
      refine ⟨u, ?_⟩
      rw [List.drop_drop, ← hu]
      congr 2
      omega)
    refine ⟨t :: zs, by simp [h1], ?_⟩
    rw [tcs_cons, ← h2, ← ht]
    simp
theorem shp_terms {H : AHeap} {n : Nat} {cs : List Value} (h : Shp Try.prog H (n + 3) 47 cs) : ∃ v l, cs = [v] ∧ SlT H v l ∧ l.length ≤ 20000000000000 := by
  unfold Shp at h
  simp only [Try.underlying47] at h
  have hc : Try.prog.cellsOf 67 = 4 := by kernel_rfl
  rcases h with rfl | ⟨b, len, cap, rfl, hb, hl, hm, h5⟩
  · exact ⟨_, [], rfl, Sl.nil _ _, by simp⟩
  · have e8 : Try.prog.bytesOf 67 = 32 := by kernel_rfl
    have er : reachBytes = 140737488351232 := rfl
    rw [e8, er] at hm
    rcases h5 with h5 | ⟨cells, h1, h2, h3⟩
    · have : len = 0 := by omega
      subst this
      exact ⟨_, [], rfl, ⟨by simp [tcs], some ⟨b, 0, some 0⟩, cap, rfl, by simp, (by intro h; cases h), (by intro ad h; cases h; exact ⟨.inl rfl, hb⟩), (by intro h; exact absurd rfl h)⟩, by simp⟩
    · rw [hc] at h2 h3
      obtain ⟨zs, hz, rfl⟩ := cells_terms cap cells h2 (fun i hi => shp_term (h3 i hi))
      have htl : (zs.take len).length = len := by simp; omega
      refine ⟨_, zs.take len, rfl, ?_, by omega⟩
      unfold SlT
      rw [htl]
      refine ⟨by rw [tcs_length, htl], some ⟨b, 0, some 0⟩, cap, rfl, by omega, (by intro h; cases h), (by intro ad h; cases h; exact ⟨.inl rfl, hb⟩), fun _ => ⟨b, 0, some 0, [], tcs (zs.drop len), rfl, ?_, rfl⟩⟩
      rw [h1, List.nil_append, ← tcs_append, List.take_append_drop]
theorem list_sys {H : AHeap} {B : Nat} : ∀ (cells : List Value), (∀ i, i < cells.length → ∃ s p, cells[i]? = some s ∧ SlT H s p ∧ p.length ≤ B) →
    ∃ ss : List (List Tm), ss.length = cells.length ∧ ∀ (i : Nat) (p : List Tm), ss[i]? = some p → ∃ s, cells[i]? = some s ∧ SlT H s p ∧ p.length ≤ B
  | [], _ => ⟨[], rfl, by intro i p h; simp at h⟩
  | c :: cells, h => by
    obtain ⟨s, p, h1, h2, h3⟩ := h 0 (by simp)
    obtain ⟨ss, g1, g2⟩ := list_sys cells (fun i hi => by simpa using h (i + 1) (by simp; omega))
    refine ⟨p :: ss, by simp [g1], fun i q hq => ?_⟩
    cases i with
    | zero => simp at hq; subst hq; exact ⟨s, h1, h2, h3⟩
    | succ i => simpa using g2 i q (by simpa using hq)
/-- a system -/
theorem shp_sys {H : AHeap} {n : Nat} {v : Value} (h : ShpV Try.prog H (n + 4) 22 v) : ∃ ss, SlSS H v ss ∧ ss.length ≤ 20000000000000 ∧ ∀ p ∈ ss, p.length ≤ 20000000000000 := by
  unfold ShpV at h
  simp only [Try.underlying22] at h
  unfold Shp at h
  simp only [Try.underlying22] at h
  have hc : Try.prog.cellsOf 47 = 1 := by kernel_rfl
  rcases h with h | ⟨b, len, cap, h, hb, hl, hm, h5⟩
  · cases h
    exact ⟨[], SlSS.nil _, by simp, by simp⟩
  · cases h
    have e8 : Try.prog.bytesOf 47 = 24 := by kernel_rfl
    have er : reachBytes = 140737488351232 := rfl
    rw [e8, er] at hm
    rcases h5 with h5 | ⟨cells, h1, h2, h3⟩
    · have : len = 0 := by omega
      subst this
      exact ⟨[], ⟨[], ⟨by simp, some ⟨b, 0, some 0⟩, cap, rfl, by simp, (by intro h; cases h), (by intro ad h; cases h; exact ⟨.inl rfl, hb⟩), (by intro h; exact absurd rfl h)⟩, by intro i p h; simp at h⟩, by simp, by simp⟩
    · rw [hc, Nat.mul_one] at h2
      obtain ⟨ss, g1, g2⟩ := list_sys (H := H) (B := 20000000000000) cells (fun i hi => by
        have h4 := h3 i (by omega)
        rw [hc, Nat.mul_one] at h4
        obtain ⟨s, p, k1, k2, k3⟩ := shp_terms h4
        have h6 := congrArg (fun l => l[0]?) k1
        simp only [List.getElem?_take, List.getElem?_drop] at h6
        exact ⟨s, p, by simpa using h6, k2, k3⟩)
      have htl : (ss.take len).length = len := by simp; omega
      refine ⟨ss.take len, ⟨cells.take len, ?_, fun i p hp => ?_⟩, by omega, fun p hp => ?_⟩
      · rw [htl]
        refine ⟨by simp; omega, some ⟨b, 0, some 0⟩, cap, rfl, by omega, (by intro h; cases h), (by intro ad h; cases h; exact ⟨.inl rfl, hb⟩), fun _ => ⟨b, 0, some 0, [], cells.drop len, rfl, ?_, rfl⟩⟩
        rw [h1, List.nil_append, List.take_append_drop]
      · have hi := (List.getElem?_eq_some_iff.1 hp).1
        rw [htl] at hi
        rw [List.getElem?_take, if_pos hi] at hp
        obtain ⟨s, q1, q2, q3⟩ := g2 i p hp
        exact ⟨s, by rw [List.getElem?_take, if_pos hi]; exact q1, q2⟩
      · obtain ⟨i, hi⟩ := List.mem_iff_getElem?.1 (List.mem_of_mem_take hp)
        obtain ⟨s, q1, q2, q3⟩ := g2 i p hi
        exact q3
end Go.Proofs.Ytagocdkcnajiiaa

/- The rows' arguments, lists of numbers: told of the abstract heap; no condition. -/
namespace Go.Proofs.Ytagocdkcnajiiaa
open Go.Ab Ints
set_option linter.unusedSimpArgs false
set_option linter.unusedVariables false
set_option maxRecDepth 100000
/-- a slice argument of ints -/
theorem shp_ints {H : AHeap} {n : Nat} {v : Value} (h : Shp Try.prog H (n + 2) 23 [v]) : ∃ l, SlI H v l := by
  unfold Shp at h
  simp only [Try.underlying23] at h
  have hc : Try.prog.cellsOf 3 = 1 := by kernel_rfl
  rcases h with h | ⟨b, len, cap, h, hb, hl, hm, h5⟩
  · simp only [List.cons.injEq, and_true] at h
    subst h
    exact ⟨[], Sl.nil _ _⟩
  · simp only [List.cons.injEq, and_true] at h
    subst h
    rcases h5 with h5 | ⟨cells, h1, h2, h3⟩
    · have : len = 0 := by omega
      subst this
      refine ⟨[], by simp, some ⟨b, 0, some 0⟩, cap, rfl, by simp, (by intro h; cases h), (by intro ad h; cases h; exact ⟨.inl rfl, hb⟩), (by intro h; exact absurd rfl h)⟩
    · rw [hc, Nat.mul_one] at h2
      have hcell : ∀ i, i < cap → ∃ x, cells[i]? = some (vi x) := by
        intro i hi
        have h4 := h3 i hi
        rw [hc, Nat.mul_one] at h4
        unfold Shp at h4
        simp only [Try.underlying3] at h4
        obtain ⟨x, h4, _⟩ := h4
        have h6 := congrArg (fun l => l[0]?) h4
        simp only [List.getElem?_take, List.getElem?_drop] at h6
        exact ⟨x, by simpa using h6⟩
      have hall : ∃ zs : List Int, cells = zs.map vi := by
        clear h3 h1
        have hx : ∀ (cs : List Value), (∀ i, i < cs.length → ∃ x, cs[i]? = some (vi x)) → ∃ zs : List Int, cs = zs.map vi := by
          intro cs
          induction cs with
          | nil => intro _; exact ⟨[], rfl⟩
          | cons c cs ih =>
            intro h
            obtain ⟨x, hx⟩ := h 0 (by simp)
            obtain ⟨zs, hz⟩ := ih (fun i hi => by simpa using h (i + 1) (by simp; omega))
            simp at hx
            exact ⟨x :: zs, by simp [hx, hz]⟩
        exact hx cells (by rw [h2]; exact hcell)
      obtain ⟨zs, rfl⟩ := hall
      have hz : zs.length = cap := by simpa using h2
      have htl : (zs.take len).length = len := by simp; omega
      refine ⟨zs.take len, by simp, some ⟨b, 0, some 0⟩, cap, by rw [htl], by omega, (by intro h; cases h), (by intro ad h; cases h; exact ⟨.inl rfl, hb⟩), fun _ => ⟨b, 0, some 0, [], (zs.drop len).map vi, rfl, ?_, rfl⟩⟩
      rw [h1, List.nil_append, ← List.map_append, List.take_append_drop]
theorem shp_len {H : AHeap} {n : Nat} {cs : List Value} (h : Shp Try.prog H (n + 2) 23 cs) : ∃ v l, cs = [v] ∧ SlI H v l ∧ l.length ≤ 20000000000000 := by
  have h0 := h
  unfold Shp at h
  simp only [Try.underlying23] at h
  rcases h with rfl | ⟨b, len, cap, rfl, hb, hl, hm, h5⟩
  · exact ⟨_, [], rfl, Sl.nil _ _, by simp⟩
  · obtain ⟨l, hl2⟩ := shp_ints h0
    refine ⟨_, l, rfl, hl2, ?_⟩
    obtain ⟨_, a, c, h1, _⟩ := hl2
    cases h1
    have e8 : Try.prog.bytesOf 3 = 8 := by kernel_rfl
    have er : reachBytes = 140737488351232 := rfl
    rw [e8, er] at hm
    omega
end Go.Proofs.Ytagocdkcnajiiaa

/- The rows' arguments: a box, told of the abstract heap; no condition. -/
namespace Go.Proofs.Ytagocdkcnajiiaa
open Go.Ab Ints
set_option linter.unusedSimpArgs false
set_option linter.unusedVariables false
set_option maxRecDepth 100000
/-- a box argument -/
theorem shp_box {H : AHeap} {n : Nat} {v : Value} (h : ShpV Try.prog H (n + 3) 25 v) : ∃ k low high, BoxV H v k low high ∧ low.length ≤ 20000000000000 ∧ high.length ≤ 20000000000000 := by
  unfold ShpV at h
  simp only [Try.underlying25] at h
  obtain ⟨cs, rfl, h⟩ := h
  unfold Shp at h
  simp only [Try.underlying25] at h
  obtain ⟨hc, hf⟩ := h
  have e3 : Try.prog.cellsOf 25 = 3 := by kernel_rfl
  have e1 : Try.prog.cellsOf 3 = 1 := by kernel_rfl
  have e2 : Try.prog.cellsOf 23 = 1 := by kernel_rfl
  rw [e3] at hc
  match cs, hc with
  | [a, b, c], _ =>
    have f0 := hf _ (List.mem_cons_self ..)
    have f1 := hf _ (List.mem_cons_of_mem _ (List.mem_cons_self ..))
    have f2 := hf _ (List.mem_cons_of_mem _ (List.mem_cons_of_mem _ (List.mem_cons_self ..)))
    simp only [e1, e2, List.drop_zero, List.drop_succ_cons, List.take_succ_cons, List.take_zero] at f0 f1 f2
    unfold Shp at f0
    simp only [Try.underlying3] at f0
    obtain ⟨k, f0, _⟩ := f0
    obtain ⟨v1, l1, g1, g2, g3⟩ := shp_len f1
    obtain ⟨v2, l2, k1, k2, k3⟩ := shp_len f2
    cases f0
    cases g1
    cases k1
    exact ⟨k, l1, l2, ⟨_, _, rfl, g2, k2⟩, g3, k3⟩
end Go.Proofs.Ytagocdkcnajiiaa

/- The laws' helpers: marks on lists of ints, on boxes, on lists of lists of ints; no condition beyond stated lengths. -/
namespace Go.Proofs.Ytagocdkcnajiiaa
open Go.Ab Ints
set_option linter.unusedSimpArgs false
set_option linter.unusedVariables false
theorem heldIntS_ok (lim : Nat) (s : Value) (n : Nat) (k : Int) (H : AHeap) (hs : SlI H s (iota k n)) (hn : n ≤ 1000000000) (h0 : 0 ≤ k) (hk : k ≤ 1000000000) :
    ACalls Try.prog lim n_laws_heldIntS [s, .int .i64 k] H fun v H' => v = .int .i64 (k + n) ∧ H' = H := by
  refine is_laws_heldIntS.go rfl ?_
  unfold c_laws_heldIntS
  have hl := iota_length k n
  refine s_reg ?_
  simp only [o_pure, o_nil, POp.ev, Opd.ev, env0, gu, setD, List.set, Option.some.injEq, exists_eq_left']
  refine s_assoc (s_reg ?_)
  simp only [o_pure, o_nil, POp.ev, Opd.ev, setD, List.set, Option.some.injEq, exists_eq_left']
  refine s_block ?_
  refine s_loop1 (fun j e' H' => H' = H ∧ ∃ (i : Nat), i + j = n ∧ e' = [s, .int .i64 (k + i), .int .i64 0, .int .i64 i]) n ⟨rfl, 0, by omega, by simp⟩ ?_
  rintro j e' H ⟨rfl, i, hij, rfl⟩
  refine s_test ?_
  simp only [o_pure, o_nil, POp.ev, Opd.ev, gv, setD, Option.some.injEq, exists_eq_left', binV, ne_eq, not_true_eq_false, if_false, hs.lenV, hl]
  refine Test.split (fun hlt => ?_) (fun hlt => ?_)
  · have hlt' : i < n := by simpa using hlt
    refine s_skip1 ?_
    simp +decide only [p_seq_normal]
    refine s_block ?_
    obtain ⟨bb, o, h1, h2, h3⟩ := SlI.get hs (i := i) (by omega)
    have hx : (iota k n)[i] = k + (i : Int) := by simp [iota]
    rw [hx] at h3
    have hne : ((k + (i : Int)) != (k + (i : Int))) = false := by simp
    have hw : IntKind.i64.wrap (k + i + 1) = k + ((i + 1 : Nat) : Int) := by rw [IntKind.wrap_i64]; omega
    refine s_test ?_
    simp only [o_pure, o_nil, POp.ev, Opd.ev, gv, setD, Option.some.injEq, exists_eq_left', binV, load1V, ne_eq, not_true_eq_false, if_false, h1, h3, hne]
    refine Test.false_ (s_skip1 ?_)
    simp +decide only [p_seq_normal]
    refine s_reg1 ?_
    simp only [o_pure, o_nil, POp.ev, Opd.ev, gv, setD, List.set, Option.some.injEq, exists_eq_left', binV, ne_eq, not_true_eq_false, if_false, hw]
    simp +decide only [p_seq_normal, p_block_normal]
    refine s_reg1 ?_
    simp only [o_pure, o_nil, POp.ev, Opd.ev, gv, setD, List.set, Option.some.injEq, exists_eq_left', binV, ne_eq, not_true_eq_false, if_false, add1 (i := i) (by omega)]
    simp +decide only [p_seq_normal]
    exact Round.mk (j - 1) (by omega) ⟨rfl, i + 1, by omega, rfl⟩
  · have hge : i = n := by simp at hlt; omega
    subst hge
    refine s_exit1 ?_
    simp +decide only [p_seq_normal, p_seq_exit, p_block_exit, reduceIte]
    refine s_reg ?_
    simp only [o_pure, o_nil, POp.ev, Opd.ev, gv, setD, List.set, Option.some.injEq, exists_eq_left']
    refine s_ret1 ?_
    simp +decide only [p_fin_ret, resV, resOne, gv, Option.some.injEq, exists_eq_left']
/-- a box whose sides lie in two blocks within the bounds -/
def BoxO (H : AHeap) (lo hi : Nat) (x : Value) (k : Int) (low high : List Int) : Prop :=
  ∃ s t, x = .agg #[.int .i64 k, s, t] ∧ ((s = .slice none 0 0 ∧ t = .slice none 0 0 ∧ low = [] ∧ high = []) ∨ ∃ b c, b ≠ c ∧ lo ≤ b ∧ b < hi ∧ lo ≤ c ∧ c < hi ∧ VecI H b s low ∧ VecI H c t high)
theorem BoxO.keep {H H' : AHeap} {lo hi : Nat} {x : Value} {k : Int} {low high : List Int} (h : BoxO H lo hi x k low high) (hn : H.next ≤ H'.next) (hb : ∀ b, b < H.next → lo ≤ b → b < hi → H'.blk b = H.blk b) : BoxO H' lo hi x k low high := by
  obtain ⟨s, t, h1, h2⟩ := h
  refine ⟨s, t, h1, ?_⟩
  rcases h2 with h2 | ⟨b, c, g1, g2, g3, g4, g5, g6, g7⟩
  · exact .inl h2
  · exact .inr ⟨b, c, g1, g2, g3, g4, g5, g6.keep hn fun h => hb b h g2 g3, g7.keep hn fun h => hb c h g4 g5⟩
theorem BoxO.ext {H H' : AHeap} {lo hi : Nat} {x : Value} {k : Int} {low high : List Int} (h : BoxO H lo hi x k low high) (hx : Ext H H') : BoxO H' lo hi x k low high := h.keep hx.next fun b hb _ _ => hx.blk b hb
theorem BoxO.out {H H' : AHeap} {lo hi lo' hi' : Nat} {x : Value} {k : Int} {low high : List Int} (h : BoxO H lo hi x k low high) (hx : Out lo' hi' H H') (hd : hi ≤ lo' ∨ hi' ≤ lo) : BoxO H' lo hi x k low high :=
  h.keep hx.next fun b hb h1 h2 => hx.blk b hb (by omega)
theorem BoxO.cells {H : AHeap} {lo hi : Nat} {x : Value} {k : Int} {low high : List Int} (h : BoxO H lo hi x k low high) : ∃ s t, x = .agg #[.int .i64 k, s, t] := by
  obtain ⟨s, t, h1, _⟩ := h
  exact ⟨s, t, h1⟩

theorem markBox_ok (lim lo hi : Nat) (x : Value) (kk m : Int) (low high : List Int) (H : AHeap) (hl : lim ≤ lo) (hlo : hi ≤ H.next) (hh : lo ≤ hi) (hb : BoxO H lo hi x kk low high) (hn : low.length ≤ 100000000) (hn2 : high.length ≤ 100000000) (h0 : 0 ≤ m) (hm : m ≤ 100000000) :
    ACalls Try.prog lim n_laws_markBox [x, .int .i64 m] H fun v H' => v = .int .i64 (m + low.length + high.length) ∧ BoxO H' lo hi x kk (iota m low.length) (iota (m + low.length) high.length) ∧ Out lo hi H H' := by
  have hb0 := hb
  obtain ⟨s, t, rfl, hst⟩ := hb0
  refine is_laws_markBox.go rfl ?_
  unfold c_laws_markBox
  refine s_reg ?_
  simp only [o_pure, o_eff, o_nil, POp.ev, Opd.ev, EOp.ev, env0, gu, gv, setD, List.set, Option.map_some, Option.some.injEq, exists_eq_left', boxH, cellsV]
  have hx : Ext H (H.alloc [.int .i64 kk, s, t]) := Ext.alloc _ _
  have hbp : (H.alloc [.int .i64 kk, s, t]).blk H.next = some [.int .i64 kk, s, t] := alloc_new _ _
  have hlt : H.next < (H.alloc [.int .i64 kk, s, t]).next := Nat.lt_succ_self _
  have hb1 := hb.ext hx
  generalize H.alloc [.int .i64 kk, s, t] = H1 at hx hbp hlt hb1 ⊢
  rcases hst with ⟨rfl, rfl, rfl, rfl⟩ | ⟨b, c, g1, g2, g3, g4, g5, g6, g7⟩
  · have hxn := hx.next
    refine s_reg ?_
    simp only [o_pure, o_callF, POp.ev, Opd.ev, gv, setD, List.map, Option.some.injEq, exists_eq_left', load1V, fadV, List.getElem?_cons_zero, List.getElem?_cons_succ, cell_blk hbp, Nat.zero_add]
    refine (markIntS_ok lim H1.next (.slice none 0 0) [] m H1 (by omega) (Vec.nil _ _ _) (by simp) h0 (by omega)).mono ?_
    rintro v H2 ⟨rfl, _, hc2, hn2'⟩
    have hx2 : Ext H1 H2 := ⟨hc2.next, fun b hb => hc2.blk b hb (by omega)⟩
    have hbp2 : H2.blk H.next = some [.int .i64 kk, .slice none 0 0, .slice none 0 0] := by rw [hx2.blk _ hlt]; exact hbp
    have e0 : m + (([] : List Int).length : Int) = m := by simp
    rw [e0]
    simp only [o_cont, o_pure, o_nil, POp.ev, Opd.ev, gv, setD, List.set, Option.some.injEq, exists_eq_left']
    refine s_reg ?_
    simp only [o_pure, o_callF, POp.ev, Opd.ev, gv, setD, List.map, Option.some.injEq, exists_eq_left', load1V, fadV, List.getElem?_cons_zero, List.getElem?_cons_succ, cell_blk hbp2, Nat.zero_add]
    refine (markIntS_ok lim H2.next (.slice none 0 0) [] m H2 (by omega) (Vec.nil _ _ _) (by simp) h0 (by omega)).mono ?_
    rintro v H3 ⟨rfl, _, hc3, hn3'⟩
    have hx3 : Ext H2 H3 := ⟨hc3.next, fun b hb => hc3.blk b hb (by omega)⟩
    rw [e0]
    simp only [o_cont, o_pure, o_nil, POp.ev, Opd.ev, gv, setD, List.set, Option.some.injEq, exists_eq_left']
    refine s_reg ?_
    simp only [o_pure, o_nil, POp.ev, Opd.ev, gv, setD, List.set, Option.some.injEq, exists_eq_left']
    refine s_ret1 ?_
    simp +decide only [p_fin_ret, resV, resOne, gv, Option.some.injEq, exists_eq_left']
    exact ⟨by simp, ⟨_, _, rfl, .inl ⟨rfl, rfl, rfl, rfl⟩⟩, Out.of_ext ((hx.trans hx2).trans hx3)⟩
  · have hvb := g6.ext hx
    have hvc := g7.ext hx
    refine s_reg ?_
    simp only [o_pure, o_callF, POp.ev, Opd.ev, gv, setD, List.map, Option.some.injEq, exists_eq_left', load1V, fadV, List.getElem?_cons_zero, List.getElem?_cons_succ, cell_blk hbp, Nat.zero_add]
    refine (markIntS_ok lim b s low m H1 (by omega) hvb (by omega) h0 (by omega)).mono ?_
    rintro v H2 ⟨rfl, hvb2, hc2, hn2'⟩
    have hbp2 : H2.blk H.next = some [.int .i64 kk, s, t] := by rw [hc2.blk _ hlt (by omega)]; exact hbp
    have hvc2 := hvc.chg hc2 (fun h => g1 h.symm)
    simp only [o_cont, o_pure, o_nil, POp.ev, Opd.ev, gv, setD, List.set, Option.some.injEq, exists_eq_left']
    refine s_reg ?_
    simp only [o_pure, o_callF, POp.ev, Opd.ev, gv, setD, List.map, Option.some.injEq, exists_eq_left', load1V, fadV, List.getElem?_cons_zero, List.getElem?_cons_succ, cell_blk hbp2, Nat.zero_add]
    refine (markIntS_ok lim c t high (m + low.length) H2 (by omega) hvc2 (by omega) (by omega) (by omega)).mono ?_
    rintro v H3 ⟨rfl, hvc3, hc3, hn3'⟩
    simp only [o_cont, o_pure, o_nil, POp.ev, Opd.ev, gv, setD, List.set, Option.some.injEq, exists_eq_left']
    refine s_reg ?_
    simp only [o_pure, o_nil, POp.ev, Opd.ev, gv, setD, List.set, Option.some.injEq, exists_eq_left']
    refine s_ret1 ?_
    simp +decide only [p_fin_ret, resV, resOne, gv, Option.some.injEq, exists_eq_left']
    refine ⟨trivial, ⟨s, t, rfl, .inr ⟨b, c, g1, g2, g3, g4, g5, ?_, ?_⟩⟩, ((Out.of_ext hx).trans (Out.of_chg hc2 g2 g3)).trans (Out.of_chg hc3 g4 g5)⟩
    · have h := hvb2.chg hc3 g1
      exact h
    · exact hvc3

def totK (ss : List (List Int)) : Nat := (ss.map (·.length)).sum
theorem totK_cons (p : List Int) (ss : List (List Int)) : totK (p :: ss) = p.length + totK ss := by simp [totK]
theorem totK_append (a b : List (List Int)) : totK (a ++ b) = totK a + totK b := by simp [totK]
theorem totK_take_succ {ss : List (List Int)} {i : Nat} (h : i < ss.length) : totK (ss.take (i + 1)) = totK (ss.take i) + ss[i].length := by
  rw [List.take_add_one, List.getElem?_eq_getElem h, totK_append]
  simp [totK]
theorem totK_take_le (ss : List (List Int)) (i : Nat) : totK (ss.take i) ≤ totK ss := by
  have := totK_append (ss.take i) (ss.drop i)
  rw [List.take_append_drop] at this
  omega
theorem len_le_totK {ss : List (List Int)} {i : Nat} (h : i < ss.length) : ss[i].length ≤ totK ss := by
  have h1 := totK_take_succ h
  have h2 := totK_take_le ss (i + 1)
  omega

theorem eqIntSS_ok (lim : Nat) (s t : Value) (ss : List (List Int)) (H : AHeap) (hs : SlKK H s ss) (ht : SlKK H t ss) (hn : ss.length ≤ 1000000000) (hn2 : ∀ p ∈ ss, p.length ≤ 1000000000) :
    ACalls Try.prog lim n_laws_eqIntSS [s, t] H fun v H' => v = .bool true ∧ Ext H H' := by
  refine is_laws_eqIntSS.go rfl ?_
  unfold c_laws_eqIntSS
  refine s_reg ?_
  simp only [o_pure, o_nil, POp.ev, Opd.ev, env0, gu, setD, List.set, Option.some.injEq, exists_eq_left']
  have hne : ((ss.length : Int) != (ss.length : Int)) = false := by simp
  refine s_test ?_
  simp only [o_pure, o_nil, POp.ev, Opd.ev, gv, setD, Option.some.injEq, exists_eq_left', binV, ne_eq, not_true_eq_false, if_false, hs.lenV, ht.lenV, hne]
  refine Test.false_ (s_skip1 ?_)
  simp +decide only [p_seq_normal]
  refine s_assoc (s_reg ?_)
  simp only [o_pure, o_nil, POp.ev, Opd.ev, setD, List.set, Option.some.injEq, exists_eq_left']
  refine s_block ?_
  refine s_loop1 (fun k e' H' => ∃ i, i + k = ss.length ∧ Ext H H' ∧ e' = [s, t, .bool false, .int .i64 i]) ss.length ⟨0, by omega, Ext.refl _, rfl⟩ ?_
  rintro k e' H' ⟨i, hik, hx, rfl⟩
  refine s_test ?_
  simp only [o_pure, o_nil, POp.ev, Opd.ev, gv, setD, Option.some.injEq, exists_eq_left', binV, ne_eq, not_true_eq_false, if_false, hs.lenV]
  refine Test.split (fun hlt => ?_) (fun hlt => ?_)
  · have hlt' : i < ss.length := by simpa using hlt
    obtain ⟨b1, o1, s1, h1, k1, m1⟩ := (hs.ext hx).at hlt'
    obtain ⟨b2, o2, s2, h2, k2, m2⟩ := (ht.ext hx).at hlt'
    refine s_skip1 ?_
    simp +decide only [p_seq_normal]
    refine s_block ?_
    refine s_test1 ?_
    simp only [o_pure, o_callF, POp.ev, Opd.ev, gv, setD, List.map, Option.some.injEq, exists_eq_left', load1V, h1, k1, h2, k2]
    refine (Ints.eqIntS_ok _ _ _ _ _ _ m1 m2 (hn2 _ (List.getElem_mem hlt'))).eq ?_
    have hdd : decide (ss[i] = ss[i]) = true := by simp
    simp only [o_cont, o_pure, o_nil, POp.ev, Opd.ev, gv, setD, Option.some.injEq, exists_eq_left', unV]
    refine Test.false_ (s_skip1 ?_)
    simp +decide only [p_seq_normal, p_block_normal]
    refine s_reg1 ?_
    simp only [o_pure, o_nil, POp.ev, Opd.ev, gv, setD, List.set, Option.some.injEq, exists_eq_left', binV, ne_eq, not_true_eq_false, if_false, add1 (i := i) (by omega)]
    simp +decide only [p_seq_normal]
    exact Round.mk (k - 1) (by omega) ⟨i + 1, by omega, hx, rfl⟩
  · refine s_exit1 ?_
    simp +decide only [p_seq_normal, p_seq_exit, p_block_exit, reduceIte]
    refine s_reg ?_
    simp only [o_pure, o_nil, POp.ev, Opd.ev, setD, List.set, Option.some.injEq, exists_eq_left']
    refine s_ret1 ?_
    simp +decide only [p_fin_ret, resV, resOne, gv, Option.some.injEq, exists_eq_left']
    exact ⟨trivial, hx⟩

/-- the polynomials' terms numbered one after another -/
def mkKK : Int → List (List Int) → List (List Int)
  | _, [] => []
  | k, p :: l => iota k p.length :: mkKK (k + p.length) l
theorem mkKK_length : ∀ (k : Int) (ss : List (List Int)), (mkKK k ss).length = ss.length
  | _, [] => rfl
  | k, p :: l => by simp [mkKK, mkKK_length]
theorem mkKK_get : ∀ (k : Int) (ss : List (List Int)) (i : Nat) (h : i < ss.length), (mkKK k ss)[i]? = some (iota (k + totK (ss.take i)) ss[i].length)
  | _, [], i, h => by simp at h
  | k, p :: l, 0, h => by simp [mkKK, totK]
  | k, p :: l, i + 1, h => by
    have := mkKK_get (k + p.length) l i (by simpa using h)
    simp only [mkKK, List.getElem?_cons_succ, List.take_succ_cons, totK_cons, List.getElem_cons_succ]
    rw [this]
    congr 2
    push_cast
    omega

theorem markIntSS_ok (lim lo hi : Nat) (s : Value) (ss : List (List Int)) (k : Int) (H : AHeap) (hl : lim ≤ lo) (hs : OwnKK H lo hi s ss) (hn : ss.length ≤ 1000000) (hn2 : totK ss ≤ 1000000) (h0 : 0 ≤ k) (hk : k ≤ 1000000) :
    ACalls Try.prog lim n_laws_markIntSS [s, .int .i64 k] H fun v H' => v = .int .i64 (k + totK ss) ∧ OwnKK H' lo hi s (mkKK k ss) ∧ Out lo hi H H' ∧ H'.next = H.next := by
  have hlen := mkKK_length k ss
  refine is_laws_markIntSS.go rfl ?_
  unfold c_laws_markIntSS
  have hlv := hs.slss.lenV
  refine s_reg ?_
  simp only [o_pure, o_nil, POp.ev, Opd.ev, env0, gu, setD, List.set, Option.some.injEq, exists_eq_left']
  refine s_assoc (s_reg ?_)
  simp only [o_pure, o_nil, POp.ev, Opd.ev, setD, List.set, Option.some.injEq, exists_eq_left']
  refine s_block ?_
  rcases hs with ⟨rfl, rfl⟩ | ⟨b, vs, bs, hX⟩
  · refine s_loop1 (fun j e' H' => H' = H ∧ e' = [.slice none 0 0, .int .i64 k, .int .i64 0, .int .i64 0]) 0 ⟨rfl, rfl⟩ ?_
    rintro j e' H ⟨rfl, rfl⟩
    have hz : decide ((0 : Int) < ((0 : Nat) : Int)) = false := by decide
    refine s_test ?_
    simp only [o_pure, o_nil, POp.ev, Opd.ev, gv, setD, Option.some.injEq, exists_eq_left', binV, ne_eq, not_true_eq_false, if_false, lenV, hz]
    refine Test.false_ (s_exit1 ?_)
    simp +decide only [p_seq_normal, p_seq_exit, p_block_exit, reduceIte]
    refine s_reg ?_
    simp only [o_pure, o_nil, POp.ev, Opd.ev, gv, setD, List.set, Option.some.injEq, exists_eq_left']
    refine s_ret1 ?_
    simp +decide only [p_fin_ret, resV, resOne, gv, Option.some.injEq, exists_eq_left']
    exact ⟨by simp [totK], .inl ⟨rfl, rfl⟩, Out.refl _ _ _, trivial⟩
  refine s_loop1 (fun j e' H' => ∃ (i : Nat), i + j = ss.length ∧ OwnK H' lo hi b vs bs s ((mkKK k ss).take i ++ ss.drop i) ∧ Out lo hi H H' ∧ H'.next = H.next ∧ e' = [s, .int .i64 (k + totK (ss.take i)), .int .i64 0, .int .i64 i]) ss.length ⟨0, by omega, by simpa using hX, Out.refl _ _ _, rfl, by simp [totK]⟩ ?_
  rintro j e' H' ⟨i, hij, hv, hc, hnx, rfl⟩
  have hL : ((mkKK k ss).take i ++ ss.drop i).length = ss.length := by simp [hlen]; omega
  have htl := totK_take_le ss i
  refine s_test ?_
  simp only [o_pure, o_nil, POp.ev, Opd.ev, gv, setD, Option.some.injEq, exists_eq_left', binV, ne_eq, not_true_eq_false, if_false, hlv]
  refine Test.split (fun hlt => ?_) (fun hlt => ?_)
  · have hlt' : i < ss.length := by simpa using hlt
    have hget : ((mkKK k ss).take i ++ ss.drop i)[i]? = some ss[i] := by
      rw [List.getElem?_append_right (by simp; omega)]
      simp [hlen, Nat.min_eq_left (Nat.le_of_lt hlt')]
    have hle := len_le_totK hlt'
    have htk := totK_take_succ hlt'
    obtain ⟨s1, c, g1, g2, g3⟩ := hv.el i _ hget
    have hcr := hv.rngs c (List.mem_of_getElem? g2)
    have i1 := Vec.iad hv.vec .i64 (show i < _ by omega)
    rw [Nat.mul_one] at i1
    have i2 := Vec.cell hv.vec g1
    refine s_skip1 ?_
    simp +decide only [p_seq_normal]
    refine s_block ?_
    refine s_reg1 ?_
    simp only [o_pure, o_callF, POp.ev, Opd.ev, gv, setD, List.map, Option.some.injEq, exists_eq_left', load1V, i1, i2]
    refine (Ints.markIntS_ok lim c s1 _ _ H' (by omega) g3 (by omega) (by omega) (by omega)).mono ?_
    rintro _ H2 ⟨rfl, m1, m2, m3⟩
    simp only [o_cont, o_pure, o_nil, POp.ev, Opd.ev, gv, setD, List.set, Option.some.injEq, exists_eq_left']
    simp +decide only [p_seq_normal, p_block_normal]
    refine s_reg1 ?_
    simp only [o_pure, o_nil, POp.ev, Opd.ev, gv, setD, List.set, Option.some.injEq, exists_eq_left', binV, ne_eq, not_true_eq_false, if_false, add1 (i := i) (by omega)]
    simp +decide only [p_seq_normal]
    refine Round.mk (j - 1) (by omega) ⟨i + 1, by omega, ?_, hc.trans (Out.of_chg m2 hcr.1 hcr.2), by omega, by rw [htk]; congr 3; push_cast; omega⟩
    have := hv.upd (show i < _ by omega) g1 g2 m2 m1
    have hset : ((mkKK k ss).take i ++ ss.drop i).set i (iota (k + totK (ss.take i)) ss[i].length) = (mkKK k ss).take (i + 1) ++ ss.drop (i + 1) := by
      have e0 : i - ((mkKK k ss).take i).length = 0 := by simp [hlen]; omega
      rw [List.set_append_right _ _ (by simp [hlen]; omega), e0, List.drop_eq_getElem_cons hlt', List.set_cons_zero, List.take_add_one, mkKK_get k _ _ hlt']
      simp
    rw [← hset]
    exact this
  · have hge : i = ss.length := by simp at hlt; omega
    subst hge
    refine s_exit1 ?_
    simp +decide only [p_seq_normal, p_seq_exit, p_block_exit, reduceIte]
    refine s_reg ?_
    simp only [o_pure, o_nil, POp.ev, Opd.ev, gv, setD, List.set, Option.some.injEq, exists_eq_left']
    refine s_ret1 ?_
    simp +decide only [p_fin_ret, resV, resOne, gv, Option.some.injEq, exists_eq_left']
    rw [List.drop_length, List.append_nil, List.take_of_length_le (by omega)] at hv
    rw [List.take_length]
    exact ⟨rfl, .inr ⟨b, vs, bs, hv⟩, hc, hnx⟩

theorem heldIntSS_ok (lim : Nat) (s : Value) (ss : List (List Int)) (k : Int) (H : AHeap) (hs : SlKK H s (mkKK k ss)) (hn : ss.length ≤ 1000000) (hn2 : totK ss ≤ 1000000) (h0 : 0 ≤ k) (hk : k ≤ 1000000) :
    ACalls Try.prog lim n_laws_heldIntSS [s, .int .i64 k] H fun v H' => v = .int .i64 (k + totK ss) ∧ H' = H := by
  have hlen := mkKK_length k ss
  refine is_laws_heldIntSS.go rfl ?_
  unfold c_laws_heldIntSS
  have hlv := hs.lenV
  rw [hlen] at hlv
  refine s_reg ?_
  simp only [o_pure, o_nil, POp.ev, Opd.ev, env0, gu, setD, List.set, Option.some.injEq, exists_eq_left']
  refine s_assoc (s_reg ?_)
  simp only [o_pure, o_nil, POp.ev, Opd.ev, setD, List.set, Option.some.injEq, exists_eq_left']
  refine s_block ?_
  refine s_loop1 (fun j e' H' => H' = H ∧ ∃ (i : Nat), i + j = ss.length ∧ e' = [s, .int .i64 (k + totK (ss.take i)), .int .i64 0, .int .i64 i]) ss.length ⟨rfl, 0, by omega, by simp [totK]⟩ ?_
  rintro j e' H ⟨rfl, i, hij, rfl⟩
  have htl := totK_take_le ss i
  refine s_test ?_
  simp only [o_pure, o_nil, POp.ev, Opd.ev, gv, setD, Option.some.injEq, exists_eq_left', binV, ne_eq, not_true_eq_false, if_false, hlv]
  refine Test.split (fun hlt => ?_) (fun hlt => ?_)
  · have hlt' : i < ss.length := by simpa using hlt
    have hle := len_le_totK hlt'
    have htk := totK_take_succ hlt'
    obtain ⟨b1, o1, s1, h1, k1, m1⟩ := hs.at (i := i) (by omega)
    have hx : (mkKK k ss)[i]'(by omega) = iota (k + totK (ss.take i)) ss[i].length := by
      have := mkKK_get k ss i hlt'
      rw [List.getElem?_eq_getElem (by omega)] at this
      exact Option.some.inj this
    rw [hx] at m1
    have hneg : decide (k + (totK (ss.take i) : Int) + (ss[i].length : Int) < 0) = false := by simp; omega
    refine s_skip1 ?_
    simp +decide only [p_seq_normal]
    refine s_block ?_
    refine s_reg ?_
    simp only [o_pure, o_callF, POp.ev, Opd.ev, gv, setD, List.map, Option.some.injEq, exists_eq_left', load1V, h1, k1]
    refine (heldIntS_ok _ _ _ _ _ m1 (by omega) (by omega) (by omega)).eq ?_
    simp only [o_cont, o_pure, o_nil, POp.ev, Opd.ev, gv, setD, List.set, Option.some.injEq, exists_eq_left']
    refine s_test1 ?_
    simp only [o_pure, o_nil, POp.ev, Opd.ev, gv, setD, Option.some.injEq, exists_eq_left', binV, ne_eq, not_true_eq_false, if_false, hneg]
    refine Test.false_ (s_skip1 ?_)
    simp +decide only [p_seq_normal, p_block_normal]
    refine s_reg1 ?_
    simp only [o_pure, o_nil, POp.ev, Opd.ev, gv, setD, List.set, Option.some.injEq, exists_eq_left', binV, ne_eq, not_true_eq_false, if_false, add1 (i := i) (by omega)]
    simp +decide only [p_seq_normal]
    exact Round.mk (j - 1) (by omega) ⟨rfl, i + 1, by omega, by rw [htk]; congr 3; push_cast; omega⟩
  · have hge : i = ss.length := by simp at hlt; omega
    subst hge
    refine s_exit1 ?_
    simp +decide only [p_seq_normal, p_seq_exit, p_block_exit, reduceIte]
    refine s_reg ?_
    simp only [o_pure, o_nil, POp.ev, Opd.ev, gv, setD, List.set, Option.some.injEq, exists_eq_left']
    refine s_ret1 ?_
    simp +decide only [p_fin_ret, resV, resOne, gv, Option.some.injEq, exists_eq_left']
    rw [List.take_length]
    trivial
end Go.Proofs.Ytagocdkcnajiiaa

/- Miranda's orders, both sides: the first that passes, all that pass; no condition beyond stated lengths. -/
namespace Go.Proofs.Ytagocdkcnajiiaa
open Go.Ab Ints
set_option linter.unusedSimpArgs false
set_option linter.unusedVariables false

/-- a list of ints of one's own -/
def OwnI (H : AHeap) (lo hi : Nat) (x : Value) (l : List Int) : Prop := (x = .slice none 0 0 ∧ l = []) ∨ ∃ c, lo ≤ c ∧ c < hi ∧ VecI H c x l
theorem OwnI.keep {H H' : AHeap} {lo hi : Nat} {x : Value} {l : List Int} (h : OwnI H lo hi x l) (hn : H.next ≤ H'.next) (hb : ∀ b, b < H.next → lo ≤ b → b < hi → H'.blk b = H.blk b) : OwnI H' lo hi x l := by
  rcases h with h | ⟨c, g1, g2, g3⟩
  · exact .inl h
  · exact .inr ⟨c, g1, g2, Vec.keep g3 hn fun h => hb c h g1 g2⟩
theorem OwnI.ext {H H' : AHeap} {lo hi : Nat} {x : Value} {l : List Int} (h : OwnI H lo hi x l) (hx : Ext H H') : OwnI H' lo hi x l := h.keep hx.next fun b hb _ _ => hx.blk b hb
theorem OwnI.out {H H' : AHeap} {lo hi lo' hi' : Nat} {x : Value} {l : List Int} (h : OwnI H lo hi x l) (hx : Out lo' hi' H H') (hd : hi ≤ lo' ∨ hi' ≤ lo) : OwnI H' lo hi x l := h.keep hx.next fun b hb h1 h2 => hx.blk b hb (by omega)
theorem OwnI.sl {H : AHeap} {lo hi : Nat} {x : Value} {l : List Int} (h : OwnI H lo hi x l) : SlI H x l := by
  rcases h with ⟨rfl, rfl⟩ | ⟨c, _, _, g⟩
  · exact Sl.nil _ _
  · exact Vec.sl g
def ResKK (H : AHeap) (lo : Nat) (v : Value) (r : Option (List (List Nat))) : Prop := ∃ x, v = .tuple #[x, .bool r.isSome] ∧ OwnKK H lo H.next x ((r.getD []).map zl)
theorem OwnKK.first {H : AHeap} {lo hi : Nat} {v : Value} {o : List Nat} {rest : List (List Nat)} (h : OwnKK H lo hi v ((o :: rest).map zl)) : ∃ b w x, iadV 1 v (.int .i64 0) = some (.pointer (some ⟨b, w, none⟩)) ∧ H.cell b w = some x ∧ OwnI H lo hi x (zl o) := by
  rcases h with ⟨_, h⟩ | ⟨b, vs, bs, h⟩
  · cases h
  · obtain ⟨s, c, g1, g2, g3⟩ := h.el 0 (zl o) rfl
    have h1 := Vec.iad h.vec .i64 (i := 0) (by simp)
    obtain ⟨r1, r2⟩ := h.rngs c (List.mem_of_getElem? g2)
    exact ⟨b, 0 * 1, s, h1, Vec.cell h.vec g1, .inr ⟨c, r1, r2, g3⟩⟩
def aoR (ss : List (List Tm)) (k : Int) (L U : List Int) : Option (List (List Nat)) := if askB ss k L U then some (passing k.toNat ss L U ss.length) else none
theorem sAll_ok (lim : Nat) (s v : Value) (ss : List (List Tm)) (k : Int) (L U : List Int) (H : AHeap) (hl : lim ≤ H.next) (hs : SlSS H s ss) (hv : BoxV H v k L U) (hn : ss.length ≤ 1000000) (hn2 : ∀ p ∈ ss, p.length ≤ 1000000) (hL : L.length ≤ 1000000) (hU : U.length ≤ 1000000) :
    ACalls Try.prog lim n_spec_AllMirandaOrders [s, v] H fun v H' => ResKK H' H.next v (aoR ss k L U) ∧ Ext H H' := by
  obtain ⟨ls, us, rfl, hls, hus⟩ := hv
  refine is_spec_AllMirandaOrders.go rfl ?_
  unfold c_spec_AllMirandaOrders
  refine s_reg ?_
  simp only [o_pure, o_eff, o_nil, POp.ev, Opd.ev, EOp.ev, env0, gu, gv, setD, List.set, Option.map_some, Option.some.injEq, exists_eq_left', boxH, cellsV]
  have hx : Ext H (H.alloc [.int .i64 k, ls, us]) := Ext.alloc _ _
  have hls1 := SlI.ext hls hx
  have hus1 := SlI.ext hus hx
  have hbp : (H.alloc [.int .i64 k, ls, us]).blk H.next = some [.int .i64 k, ls, us] := alloc_new _ _
  have hbl : H.next < (H.alloc [.int .i64 k, ls, us]).next := Nat.lt_succ_self _
  generalize H.alloc [.int .i64 k, ls, us] = H1 at hx hls1 hus1 hbp hbl ⊢
  have hn1 := hx.next
  refine s_test ?_
  simp only [o_pure, o_callF, POp.ev, Opd.ev, gv, setD, List.map, Option.some.injEq, exists_eq_left', load3 hbp]
  refine (miAsked_ok lim s _ ss k L U H1 (by omega) (hs.ext hx) ⟨_, _, rfl, hls1, hus1⟩ hn hn2 hL hU).mono ?_
  rintro _ H2 ⟨rfl, hx2⟩
  have hbp2 : H2.blk H.next = some [.int .i64 k, ls, us] := by rw [hx2.blk _ hbl]; exact hbp
  have hn2' := hx2.next
  simp only [o_cont, o_pure, o_nil, POp.ev, Opd.ev, gv, setD, Option.some.injEq, exists_eq_left', unV]
  refine Test.split (fun hg => ?_) (fun hg => ?_)
  · refine s_reg ?_
    simp only [o_pure, o_nil, POp.ev, Opd.ev, setD, List.set, Option.some.injEq, exists_eq_left']
    refine s_ret1 ?_
    simp +decide only [p_seq_ret, p_fin_ret, resV, resOne, resL, gv, Option.some.injEq, exists_eq_left', Option.bind_some, Option.map_some]
    simp only [Bool.not_eq_true'] at hg
    unfold aoR
    rw [hg]
    exact ⟨⟨_, rfl, .inl ⟨rfl, rfl⟩⟩, hx.trans hx2⟩
  simp only [Bool.not_eq_false'] at hg
  obtain ⟨kn, n, rfl, hsn, hc, hgs⟩ := askB_crs hg
  have hgp := goodSS_pol hgs
  have hs2 := hs.ext (hx.trans hx2)
  refine s_skip1 ?_
  simp +decide only [p_seq_normal]
  refine s_reg ?_
  simp only [o_pure, o_callF, POp.ev, Opd.ev, gv, setD, List.map, Option.some.injEq, exists_eq_left', load3 hbp2]
  refine (miAll_ok lim s _ ss L U kn n H2 (by omega) hs2 ⟨_, _, rfl, SlI.ext hls1 hx2, SlI.ext hus1 hx2⟩ hc (fun p hp => (hgp p hp).1) hsn).mono ?_
  rintro lv H3 ⟨hw, hx3⟩
  have hn3' := hx3.next
  simp only [o_cont, o_pure, o_nil, POp.ev, Opd.ev, gv, setD, List.set, Option.some.injEq, exists_eq_left']
  refine s_ret1 ?_
  simp +decide only [p_fin_ret, resV, resOne, resL, gv, Option.some.injEq, exists_eq_left', Option.bind_some, Option.map_some]
  unfold aoR
  rw [hg, if_pos rfl, Int.toNat_natCast, hsn]
  exact ⟨⟨_, rfl, hw.wide (by omega) (Nat.le_refl _)⟩, (hx.trans hx2).trans hx3⟩
theorem iAll_ok (lim : Nat) (s v : Value) (ss : List (List Tm)) (k : Int) (L U : List Int) (H : AHeap) (hl : lim ≤ H.next) (hs : SlSS H s ss) (hv : BoxV H v k L U) (hn : ss.length ≤ 1000000) (hn2 : ∀ p ∈ ss, p.length ≤ 1000000) (hL : L.length ≤ 1000000) (hU : U.length ≤ 1000000) :
    ACalls Try.prog lim n_impl_AllMirandaOrders [s, v] H fun v H' => ResKK H' H.next v (aoR ss k L U) ∧ Ext H H' := by
  obtain ⟨ls, us, rfl, hls, hus⟩ := hv
  refine is_impl_AllMirandaOrders.go rfl ?_
  unfold c_impl_AllMirandaOrders
  refine s_reg ?_
  simp only [o_pure, o_eff, o_nil, POp.ev, Opd.ev, EOp.ev, env0, gu, gv, setD, List.set, Option.map_some, Option.some.injEq, exists_eq_left', boxH, cellsV]
  have hx : Ext H (H.alloc [.int .i64 k, ls, us]) := Ext.alloc _ _
  have hbp : BoxP (H.alloc [.int .i64 k, ls, us]) H.next k ls us L U := ⟨alloc_new _ _, SlI.ext hls hx, SlI.ext hus hx⟩
  have hbl : H.next < (H.alloc [.int .i64 k, ls, us]).next := Nat.lt_succ_self _
  generalize H.alloc [.int .i64 k, ls, us] = H1 at hx hbp hbl ⊢
  have hn1 := hx.next
  refine s_test_I (!askB ss k L U) (Ext H1) ?_ (fun H2 hx2 hg => ?_) (fun H2 hx2 hg => ?_)
  · simp only [o_pure, o_callF, POp.ev, Opd.ev, gv, setD, List.map, Option.some.injEq, exists_eq_left']
    refine (systemOver_ok lim s ls us ss k L U H.next H1 (by omega) (hs.ext hx) hbp hbl hn hn2 hL hU).mono ?_
    rintro _ H2 ⟨rfl, hx2⟩
    have hb2 := hbp.ext hbl hx2
    rw [ask_over]
    cases h1 : overB ss k L U
    · simp only [o_cont, o_pure, o_guard, gk_tf, o_nil, POp.ev, Opd.ev, gv, setD, Option.some.injEq, exists_eq_left', pickV, unV, Bool.not_false]
      exact ⟨by simp, trivial, hx2⟩
    simp only [o_cont, o_pure, o_guard, gk_ff, o_nil, POp.ev, Opd.ev, gv, setD, Option.some.injEq, exists_eq_left', pickV, binV, load1V, unV, fadV, ne_eq, not_true_eq_false, if_false, Bool.not_true, List.getElem?_cons_zero, Nat.zero_add, cell_blk hb2.blk]
    refine ⟨?_, trivial, hx2⟩
    by_cases h2 : k > 4 <;> simp [h2] <;> omega
  · refine s_reg ?_
    simp only [o_pure, o_nil, POp.ev, Opd.ev, setD, List.set, Option.some.injEq, exists_eq_left']
    refine s_ret1 ?_
    simp +decide only [p_seq_ret, p_fin_ret, resV, resOne, resL, gv, Option.some.injEq, exists_eq_left', Option.bind_some, Option.map_some]
    simp only [Bool.not_eq_true'] at hg
    unfold aoR
    rw [hg]
    exact ⟨⟨_, rfl, .inl ⟨rfl, rfl⟩⟩, hx.trans hx2⟩
  simp only [Bool.not_eq_false'] at hg
  obtain ⟨kn, n, rfl, hsn, hc, hgs⟩ := askB_crs hg
  have hn2' := hx2.next
  have hgp : ∀ p ∈ ss, goodP p = true ∧ fromB n p = true := fun p hp => hsn ▸ goodSS_pol hgs p hp
  have hs2 := hs.ext (hx.trans hx2)
  have hbp2 := hbp.ext hbl hx2
  refine s_skip1 ?_
  simp +decide only [p_seq_normal]
  refine s_reg ?_
  simp only [o_pure, o_callF, POp.ev, Opd.ev, gv, setD, List.map, Option.some.injEq, exists_eq_left']
  refine (mirandaOrders_ok lim s ls us ss L U kn n H.next H2 (by omega) hs2 hbp2 (by omega) hc hgp hsn).mono ?_
  rintro lv H3 ⟨hw, hx3⟩
  have hn3' := hx3.next
  simp only [o_cont, o_pure, o_nil, POp.ev, Opd.ev, gv, setD, List.set, Option.some.injEq, exists_eq_left']
  refine s_ret1 ?_
  simp +decide only [p_fin_ret, resV, resOne, resL, gv, Option.some.injEq, exists_eq_left', Option.bind_some, Option.map_some]
  unfold aoR
  rw [hg, if_pos rfl, Int.toNat_natCast, hsn]
  exact ⟨⟨_, rfl, hw.wide (by omega) (Nat.le_refl _)⟩, (hx.trans hx2).trans hx3⟩
end Go.Proofs.Ytagocdkcnajiiaa

/- FnExactAllMirandaOrders, the law's contract: for all arguments the law answers true; no condition. -/
namespace Go.Proofs.Ytagocdkcnajiiaa
open Go.Ab Ints
set_option linter.unusedSimpArgs false
set_option linter.unusedVariables false
theorem lawAllMirandaOrders_ok (lim : Nat) (s v : Value) (ss : List (List Tm)) (k : Int) (L U : List Int) (H : AHeap) (hl : lim ≤ H.next) (hs : SlSS H s ss) (hv : BoxV H v k L U) (hn : ss.length ≤ 20000000000000) (hn2 : ∀ p ∈ ss, p.length ≤ 20000000000000) (hL : L.length ≤ 20000000000000) (hU : U.length ≤ 20000000000000) :
    ACalls Try.prog lim n_laws_FnExactAllMirandaOrders [s, v] H fun v H' => v = .bool true := by
  obtain ⟨ls, us, rfl, hls, hus⟩ := hv
  refine is_laws_FnExactAllMirandaOrders.go rfl ?_
  unfold c_laws_FnExactAllMirandaOrders
  refine s_reg ?_
  simp only [o_pure, o_eff, o_nil, POp.ev, Opd.ev, EOp.ev, env0, gu, gv, setD, List.set, Option.map_some, Option.some.injEq, exists_eq_left', boxH, cellsV]
  have hx : Ext H (H.alloc [.int .i64 k, ls, us]) := Ext.alloc _ _
  have hls1 := SlI.ext hls hx
  have hus1 := SlI.ext hus hx
  have hs1 := hs.ext hx
  have hbp : (H.alloc [.int .i64 k, ls, us]).blk H.next = some [.int .i64 k, ls, us] := alloc_new _ _
  have hbl : H.next < (H.alloc [.int .i64 k, ls, us]).next := Nat.lt_succ_self _
  generalize H.alloc [.int .i64 k, ls, us] = H1 at hx hls1 hus1 hs1 hbp hbl ⊢
  have hn1 := hx.next
  generalize H.next = q at *
  refine s_reg ?_
  simp only [o_pure, o_nil, POp.ev, Opd.ev, setD, List.set, Option.some.injEq, exists_eq_left']
  refine s_reg ?_
  simp only [o_pure, o_callF, POp.ev, Opd.ev, gv, setD, List.map, Option.some.injEq, exists_eq_left']
  refine (szTermSSb_ok lim _ _ 1000000 _ hs1 (by omega) (by omega) hn hn2).mono ?_
  rintro _ HH ⟨⟨z, rfl, hz⟩, hh⟩
  subst HH
  simp only [o_cont, o_pure, o_nil, POp.ev, Opd.ev, gv, setD, List.set, Option.some.injEq, exists_eq_left']
  refine s_test ?_
  simp only [o_pure, o_nil, POp.ev, Opd.ev, gv, setD, Option.some.injEq, exists_eq_left', binV, ne_eq, not_true_eq_false, if_false]
  refine Test.split (fun h => ?_) (fun h => ?_)
  · refine s_reg ?_
    simp only [o_pure, o_nil, POp.ev, Opd.ev, setD, List.set, Option.some.injEq, exists_eq_left']
    refine s_ret1 ?_
    simp +decide only [p_seq_ret, p_fin_ret, resV, resOne, gv, Option.some.injEq, exists_eq_left']
  have hz0 : ¬ z < 0 := by simpa using h
  have hsz := hz hz0
  clear hz h hn hn2
  have hn : ss.length ≤ 1000000 := by omega
  have hn2 : ∀ p ∈ ss, p.length ≤ 1000000 := by
    intro p hp
    obtain ⟨j, hj, rfl⟩ := List.mem_iff_getElem.1 hp
    have := len_le_tot hj
    omega
  have htot : tot ss ≤ 1000000 := by omega
  refine s_skip1 ?_
  simp +decide only [p_seq_normal]
  refine s_reg ?_
  simp only [o_pure, o_callF, POp.ev, Opd.ev, gv, setD, List.map, Option.some.injEq, exists_eq_left', load3 hbp]
  refine (szBox_ok lim _ k L U z H1 (by omega) ⟨_, _, rfl, hls1, hus1⟩ hL hU (by omega) (by omega)).mono ?_
  rintro _ H2 ⟨⟨z2, rfl, hz2⟩, hx2⟩
  simp only [o_cont, o_pure, o_nil, POp.ev, Opd.ev, gv, setD, List.set, Option.some.injEq, exists_eq_left']
  refine s_test ?_
  simp only [o_pure, o_nil, POp.ev, Opd.ev, gv, setD, Option.some.injEq, exists_eq_left', binV, ne_eq, not_true_eq_false, if_false]
  refine Test.split (fun h => ?_) (fun h => ?_)
  · refine s_reg ?_
    simp only [o_pure, o_nil, POp.ev, Opd.ev, setD, List.set, Option.some.injEq, exists_eq_left']
    refine s_ret1 ?_
    simp +decide only [p_seq_ret, p_fin_ret, resV, resOne, gv, Option.some.injEq, exists_eq_left']
  have hsz2 := hz2 (by simpa using h)
  clear hz2 h hL hU
  have hL : L.length ≤ 1000000 := by omega
  have hU : U.length ≤ 1000000 := by omega
  refine s_skip1 ?_
  simp +decide only [p_seq_normal]
  have keep : ∀ G, Ext H1 G → SlSS G s ss ∧ SlI G ls L ∧ SlI G us U ∧ G.blk q = some [.int .i64 k, ls, us] ∧ lim ≤ G.next ∧ q < G.next := fun G hg => by
    have := hg.next
    exact ⟨hs1.ext hg, SlI.ext hls1 hg, SlI.ext hus1 hg, by rw [hg.blk _ hbl]; exact hbp, by omega, by omega⟩
  have hrs := (show (((aoR ss k L U).getD []).map zl).length ≤ 1000 ∧ (∀ p ∈ ((aoR ss k L U).getD []).map zl, p.length ≤ 1000) ∧ totK (((aoR ss k L U).getD []).map zl) ≤ 1000000 by
    have h3 : ∀ l : List (List Nat), l.length ≤ 6 → (∀ o ∈ l, o.length ≤ 3) → totK (l.map zl) ≤ 3 * l.length := by
      intro l
      induction l with
      | nil => intro _ _; simp [totK]
      | cons o l ih =>
        intro h1 h2
        have := ih (by simp at h1; omega) (fun o ho => h2 o (by simp [ho]))
        have h4 := h2 o (by simp)
        rw [List.map_cons, totK_cons, zl_length, List.length_cons]
        omega
    unfold aoR
    split
    · rename_i hg
      obtain ⟨kn, n, rfl, hsn, hc, hgs⟩ := askB_crs hg
      have h1 := passing_len (k := (kn : Int).toNat) (ss := ss) (L := L) (U := U) (n := ss.length) (by rw [hsn]; exact hc.n3)
      have h2 : ∀ o ∈ passing (kn : Int).toNat ss L U ss.length, o.length ≤ 3 := fun o ho => by
        have := (passing_in (by rw [hsn]; exact hc.n3) ho).1
        have := hc.n3
        omega
      have h4 := h3 _ h1 h2
      simp only [Option.getD_some, List.length_map]
      refine ⟨by omega, fun p hp => ?_, by omega⟩
      obtain ⟨o, ho, rfl⟩ := List.mem_map.1 hp
      have := h2 o ho
      rw [zl_length]
      omega
    · simp [totK])
  generalize hR : aoR ss k L U = R at hrs
  generalize hok : R.isSome = ok
  have hne : (!(ok == ok)) = false := by simp
  have hne1 : (!true) = false := rfl
  have hH12 := hx2.next
  -- the reference on copies
  obtain ⟨ks, kl, ku, kb, kn, kq⟩ := keep _ hx2
  refine s_reg ?_
  simp only [o_pure, o_callN, POp.ev, Opd.ev, gv, setD, List.map, Option.some.injEq, exists_eq_left', load3 kb]
  refine (toTermSS_ok _ _ _ false _ (Nat.le_refl _) ks hn hn2).use ?_
  rintro a1 HA ⟨hA, hxA⟩ _
  obtain ⟨ks, kl, ku, kb, kn, kq⟩ := keep _ ((hx2).trans hxA)
  simp only [o_cont, o_callF, Opd.ev, gv, setD, List.map]
  refine (toBox_ok lim _ k L U false HA kn ⟨_, _, rfl, kl, ku⟩ hL hU).mono ?_
  rintro _ HB ⟨bs, bt, bb, bc, rfl, _, _, _, hb1, hb2, hxB⟩
  simp only [o_cont, o_callF, Opd.ev, gv, setD, List.map]
  obtain ⟨_, _, _, _, kn, kq⟩ := keep _ (((hx2).trans hxA).trans hxB)
  refine (sAll_ok lim _ _ ss k L U HB kn (hA.ext hxB).slss ⟨_, _, rfl, hb1.sl, hb2.sl⟩ hn hn2 hL hU).mono ?_
  rintro _ G1 ⟨⟨wv, rfl, hw⟩, hxG1'⟩
  rw [hR] at hw
  have hxG1 := (((hx2).trans hxA).trans hxB).trans hxG1'
  have hnAG1 := hxA.next
  have hnBG1 := hxB.next
  have hnG1 := hxG1'.next
  simp only [o_cont, o_pure, o_nil, POp.ev, Opd.ev, gv, setD, List.set, Option.some.injEq, exists_eq_left', extV, List.getElem?_toArray, List.getElem?_cons_zero, List.getElem?_cons_succ, hR, hok]
  clear hA hb1 hb2
  generalize HB.next = wlo at hw hnBG1 hnG1
  generalize hrr : ((R.getD []).map zl) = r at hw hrs
  -- the program on its own copies
  obtain ⟨ks, kl, ku, kb, kn, kq⟩ := keep _ hxG1
  refine s_reg ?_
  simp only [o_pure, o_callF, POp.ev, Opd.ev, gv, setD, List.map, Option.some.injEq, exists_eq_left']
  refine (toTermSS_ok lim _ _ false _ kn ks hn hn2).mono ?_
  rintro x G2 ⟨hX, hxG2'⟩
  rcases hX with ⟨h0, _⟩ | ⟨xb, xvs, xfs, xbs, hX⟩
  · cases h0
  simp only [o_cont, o_pure, o_nil, POp.ev, Opd.ev, gv, setD, List.set, Option.some.injEq, exists_eq_left']
  have hnG2 := hxG2'.next
  have hxG2 := hxG1.trans hxG2'
  replace hw := hw.ext hxG2'
  obtain ⟨ks, kl, ku, kb, kn, kq⟩ := keep _ hxG2
  refine s_reg ?_
  simp only [o_pure, o_callF, POp.ev, Opd.ev, gv, setD, List.map, Option.some.injEq, exists_eq_left', load3 kb]
  refine (toBox_ok lim _ k L U false _ kn ⟨_, _, rfl, kl, ku⟩ hL hU).mono ?_
  rintro _ G3 ⟨bs, bt, bb, bc, rfl, hbb, hbc, hbne, hb1, hb2, hxG3'⟩
  rcases hb1 with ⟨h0, _⟩ | hb1
  · cases h0
  rcases hb2 with ⟨h0, _⟩ | hb2
  · cases h0
  replace hbne := hbne rfl
  have hnG3 := hxG3'.next
  have hbb2 := hb1.2.1
  have hbc2 := hb2.2.1
  replace hX := hX.ext hxG3'
  replace hw := hw.ext hxG3'
  have hxG3 := hxG2.trans hxG3'
  obtain ⟨ks, kl, ku, kb, kn, kq⟩ := keep _ hxG3
  simp only [o_cont, o_eff, o_nil, Opd.ev, EOp.ev, gv, setD, List.set, Option.some.injEq, exists_eq_left', store3_new (lim := lim) (H := G3) kn]
  have hxa := Ext.alloc G3 [.int .i64 k, bs, bt]
  have hp : (G3.alloc [.int .i64 k, bs, bt]).blk G3.next = some [.int .i64 k, bs, bt] := alloc_new _ _
  have hpl : G3.next < (G3.alloc [.int .i64 k, bs, bt]).next := Nat.lt_succ_self _
  generalize G3.alloc [.int .i64 k, bs, bt] = G4 at hxa hp hpl ⊢
  generalize hppe : G3.next = pp at *
  replace hX := hX.ext hxa
  replace hb1 := hb1.ext hxa
  replace hb2 := hb2.ext hxa
  replace hw := hw.ext hxa
  have hxG4 := hxG3.trans hxa
  have step : ∀ G, Ext G4 G → LaidX G G1.next G2.next xb xvs xfs xbs x ss false ∧ Laid G bb bs L ∧ Laid G bc bt U ∧ G.blk pp = some [.int .i64 k, bs, bt] ∧ OwnKK G wlo G1.next wv r := fun G hg => ⟨hX.ext hg, hb1.ext hg, hb2.ext hg, by rw [hg.blk _ hpl]; exact hp, hw.ext hg⟩
  obtain ⟨_, _, _, _, kn, _⟩ := keep _ hxG4
  refine s_reg ?_
  simp only [o_pure, o_callF, POp.ev, Opd.ev, gv, setD, List.map, Option.some.injEq, exists_eq_left', load3 hp]
  refine (iAll_ok lim _ _ ss k L U G4 kn hX.slss ⟨_, _, rfl, hb1.vec.sl, hb2.vec.sl⟩ hn hn2 hL hU).mono ?_
  rintro _ J1 ⟨⟨gw, rfl, hg⟩, hj1⟩
  rw [hR, hrr] at hg
  have hxJ1 := hxG4.trans hj1
  have hnJ1 := hj1.next
  simp only [o_cont, o_pure, o_nil, POp.ev, Opd.ev, gv, setD, List.set, Option.some.injEq, exists_eq_left', extV, List.getElem?_toArray, List.getElem?_cons_zero, List.getElem?_cons_succ, hR, hok]
  obtain ⟨hr1, hr2, hr3⟩ := hrs
  -- both answers are the same
  refine s_test_I false (Ext J1) ?_ (fun J2 hj2 hg0 => by cases hg0) (fun J2 hj2 _ => ?_)
  · obtain ⟨_, _, _, _, hw⟩ := step _ hj1
    simp only [o_pure, o_callF, POp.ev, Opd.ev, gv, setD, List.map, Option.some.injEq, exists_eq_left']
    refine (eqIntSS_ok _ _ _ _ _ hg.slss hw.slss (by omega) (fun p hp => by have := hr2 p hp; omega)).mono ?_
    rintro _ J ⟨rfl, hyx⟩
    simp only [o_cont, o_pure, o_guard, gk_ff, o_nil, POp.ev, Opd.ev, gv, setD, Option.some.injEq, exists_eq_left', pickV, unV, boolEq, if_true, beq_self_eq_true, Bool.not_true]
    exact ⟨trivial, trivial, hyx⟩
  refine s_skip1 ?_
  simp +decide only [p_seq_normal]
  have hxJ2 := hxJ1.trans hj2
  have hj02 := hj1.trans hj2
  have hnJ2 := hj2.next
  replace hg := hg.ext hj2
  -- the system is as it was
  refine s_test_I false (Ext J2) ?_ (fun J3 hj3 hg0 => by cases hg0) (fun J3 hj3 _ => ?_)
  · obtain ⟨ks, kl, ku, kb, kn, kq⟩ := keep _ hxJ2
    simp only [o_pure, o_callF, POp.ev, Opd.ev, gv, setD, List.map, Option.some.injEq, exists_eq_left']
    refine (toTermSS_ok lim _ _ false _ kn ks hn hn2).mono ?_
    rintro y J ⟨hY, hyx⟩
    rcases hY with ⟨h0, _⟩ | ⟨yb, yvs, yfs, ybs, hY⟩
    · cases h0
    simp only [o_cont, o_callF, Opd.ev, gv, setD, List.map]
    refine (intactTermSS_ok lim _ _ _ _ _ _ _ _ _ _ _ _ _ _ _ _ (step _ (hj02.trans hyx)).1 hY hn hn2).mono ?_
    rintro _ J' ⟨rfl, hyx'⟩
    simp only [o_cont, o_pure, o_nil, POp.ev, Opd.ev, gv, setD, Option.some.injEq, exists_eq_left', unV, Bool.not_true]
    exact ⟨trivial, trivial, hyx.trans hyx'⟩
  refine s_skip1 ?_
  simp +decide only [p_seq_normal]
  have hxJ3 := hxJ2.trans hj3
  have hj03 := hj02.trans hj3
  have hnJ3 := hj3.next
  replace hg := hg.ext hj3
  -- the box is as it was
  refine s_test_I false (Ext J3) ?_ (fun J4 hj4 hg0 => by cases hg0) (fun J4 hj4 _ => ?_)
  · obtain ⟨ks, kl, ku, kb, kn, kq⟩ := keep _ hxJ3
    obtain ⟨_, _, _, t4, _⟩ := step _ hj03
    simp only [o_pure, o_callN, POp.ev, Opd.ev, gv, setD, List.map, Option.some.injEq, exists_eq_left', load3 t4, load3 kb]
    refine (toBox_ok _ _ k L U false J3 (Nat.le_refl _) ⟨_, _, rfl, kl, ku⟩ hL hU).use ?_
    rintro _ J ⟨es, et, eb, ec, rfl, _, _, _, he1, he2, hyx⟩ _
    rcases he1 with ⟨h0, _⟩ | he1
    · cases h0
    rcases he2 with ⟨h0, _⟩ | he2
    · cases h0
    obtain ⟨_, _, _, _, kn, _⟩ := keep _ (hxJ3.trans hyx)
    obtain ⟨_, t2, t3, _, _⟩ := step _ (hj03.trans hyx)
    simp only [o_cont, o_callF, Opd.ev, gv, setD, List.map]
    refine (intactBox_ok lim k L U bb bc eb ec bs bt es et J kn t2 t3 he1 he2 hL hU).mono ?_
    rintro _ J' ⟨rfl, hyx'⟩
    simp only [o_cont, o_pure, o_nil, POp.ev, Opd.ev, gv, setD, Option.some.injEq, exists_eq_left', unV, Bool.not_true]
    exact ⟨trivial, trivial, hyx.trans hyx'⟩
  refine s_skip1 ?_
  simp +decide only [p_seq_normal]
  have hxJ4 := hxJ3.trans hj4
  have hj04 := hj03.trans hj4
  have hnJ4 := hj4.next
  replace hg := hg.ext hj4
  -- the copies are written over
  obtain ⟨tX, t2, t3, t4, hw⟩ := step _ hj04
  have hn04 := hj04.next
  refine s_reg ?_
  simp only [o_pure, o_nil, POp.ev, Opd.ev, setD, List.set, Option.some.injEq, exists_eq_left']
  refine s_reg ?_
  simp only [o_pure, o_callF, POp.ev, Opd.ev, gv, setD, List.map, Option.some.injEq, exists_eq_left']
  refine (markTermSS_ok lim G1.next G2.next _ _ 101 _ (by omega) (.inr ⟨_, _, _, tX.own⟩) hn htot (by omega) (by omega)).mono ?_
  rintro _ K1 ⟨rfl, _, hout, hnK1⟩
  simp only [o_cont, o_pure, o_nil, POp.ev, Opd.ev, gv, setD, List.set, Option.some.injEq, exists_eq_left']
  replace hw := hw.out hout (.inl (by omega))
  replace hg := hg.out hout (.inr (by omega))
  have hxK1 := hout.ext hxJ4 (by omega)
  have t4' : K1.blk pp = some [.int .i64 k, bs, bt] := by rw [hout.blk _ (by omega) (by omega)]; exact t4
  have hBO : BoxO K1 G2.next pp (.agg #[.int .i64 k, bs, bt]) k L U := ⟨_, _, rfl, .inr ⟨bb, bc, hbne, by omega, by omega, by omega, by omega, Vec.keep t2.vec hout.next (fun h => hout.blk _ h (by omega)), Vec.keep t3.vec hout.next (fun h => hout.blk _ h (by omega))⟩⟩
  clear tX t2 t3 t4
  refine s_reg ?_
  simp only [o_pure, o_callF, POp.ev, Opd.ev, gv, setD, List.map, Option.some.injEq, exists_eq_left', load3 t4']
  refine (markBox_ok lim G2.next pp _ k (101 + 4 * (tot ss : Int)) L U K1 (by omega) (by omega) (by omega) hBO (by omega) (by omega) (by omega) (by omega)).mono ?_
  rintro _ K2 ⟨rfl, _, hout2⟩
  simp only [o_cont, o_pure, o_nil, POp.ev, Opd.ev, gv, setD, List.set, Option.some.injEq, exists_eq_left']
  have hnK2 := hout2.next
  replace hw := hw.out hout2 (.inl (by omega))
  replace hg := hg.out hout2 (.inr (by omega))
  have hxK2 := hout2.ext hxK1 (by omega)
  have hneg : decide ((101 : Int) + 4 * (tot ss : Int) + (L.length : Int) + (U.length : Int) < 0) = false := by simp; omega
  refine s_test_I false (Ext K2) ?_ (fun K3 hk3 hg0 => by cases hg0) (fun K3 hk3 _ => ?_)
  · simp only [o_pure, o_callF, o_guard, gk_ff, POp.ev, Opd.ev, gv, setD, List.map, Option.some.injEq, exists_eq_left', binV, ne_eq, not_true_eq_false, if_false, hneg]
    refine (eqIntSS_ok _ _ _ _ _ hg.slss hw.slss (by omega) (fun p hp => by have := hr2 p hp; omega)).mono ?_
    rintro _ J ⟨rfl, hyx⟩
    simp only [o_cont, o_pure, o_guard, gk_ff, o_nil, POp.ev, Opd.ev, gv, setD, Option.some.injEq, exists_eq_left', pickV, unV, boolEq, if_true, beq_self_eq_true, Bool.not_true]
    exact ⟨trivial, trivial, hyx⟩
  refine s_skip1 ?_
  simp +decide only [p_seq_normal]
  have hnK3 := hk3.next
  replace hw := hw.ext hk3
  replace hg := hg.ext hk3
  have hxK3 := hxK2.trans hk3
  -- the answer is written over, and holds what was written
  refine s_reg ?_
  simp only [o_pure, o_nil, POp.ev, Opd.ev, setD, List.set, Option.some.injEq, exists_eq_left']
  refine s_reg ?_
  simp only [o_pure, o_callF, POp.ev, Opd.ev, gv, setD, List.map, Option.some.injEq, exists_eq_left']
  refine (markIntSS_ok lim G4.next J1.next _ _ 101 _ (by omega) hg (by omega) (by omega) (by omega) (by omega)).mono ?_
  rintro _ K5 ⟨rfl, hg5, hout5, hnK5⟩
  simp only [o_cont, o_pure, o_nil, POp.ev, Opd.ev, gv, setD, List.set, Option.some.injEq, exists_eq_left']
  replace hw := hw.out hout5 (.inl (by omega))
  have hxK5 := hout5.ext hxK3 (by omega)
  clear hg
  refine s_reg ?_
  simp only [o_pure, o_nil, POp.ev, Opd.ev, setD, List.set, Option.some.injEq, exists_eq_left']
  refine s_reg ?_
  simp only [o_pure, o_callF, POp.ev, Opd.ev, gv, setD, List.map, Option.some.injEq, exists_eq_left']
  refine (heldIntSS_ok _ _ _ 101 _ hg5.slss (by omega) (by omega) (by omega) (by omega)).eq ?_
  simp only [o_cont, o_pure, o_nil, POp.ev, Opd.ev, gv, setD, List.set, Option.some.injEq, exists_eq_left']
  have hneg2 : decide ((101 : Int) + (totK r : Int) < 0) = false := by simp; omega
  have heq : ((101 : Int) + (totK r : Int) != 101 + (totK r : Int)) = false := by simp
  refine s_test ?_
  simp only [o_pure, o_nil, POp.ev, Opd.ev, gv, setD, Option.some.injEq, exists_eq_left', binV, ne_eq, not_true_eq_false, if_false, hneg2]
  refine Test.false_ (s_skip1 ?_)
  simp +decide only [p_seq_normal]
  refine s_test ?_
  simp only [o_pure, o_nil, POp.ev, Opd.ev, gv, setD, Option.some.injEq, exists_eq_left', binV, ne_eq, not_true_eq_false, if_false, heq]
  refine Test.false_ (s_skip1 ?_)
  simp +decide only [p_seq_normal]
  -- a second answer, on copies without room
  obtain ⟨ks, kl, ku, kb, kn, kq⟩ := keep _ hxK5
  refine s_reg ?_
  simp only [o_pure, o_callN, POp.ev, Opd.ev, gv, setD, List.map, Option.some.injEq, exists_eq_left', load3 kb]
  refine (toTermSS_ok _ _ _ true _ (Nat.le_refl _) ks hn hn2).use ?_
  rintro a1 HA ⟨hA, hxA⟩ _
  obtain ⟨ks, kl, ku, kb, kn, kq⟩ := keep _ ((hxK5).trans hxA)
  simp only [o_cont, o_callF, Opd.ev, gv, setD, List.map]
  refine (toBox_ok lim _ k L U true HA kn ⟨_, _, rfl, kl, ku⟩ hL hU).mono ?_
  rintro _ HB ⟨bs, bt, bb, bc, rfl, _, _, _, hb1, hb2, hxB⟩
  simp only [o_cont, o_callF, Opd.ev, gv, setD, List.map]
  obtain ⟨_, _, _, _, kn, kq⟩ := keep _ (((hxK5).trans hxA).trans hxB)
  refine (iAll_ok lim _ _ ss k L U HB kn (hA.ext hxB).slss ⟨_, _, rfl, hb1.sl, hb2.sl⟩ hn hn2 hL hU).mono ?_
  rintro _ M1 ⟨⟨uv, rfl, hu⟩, hxM1'⟩
  rw [hR] at hu
  have hxM1 := (((hxK5).trans hxA).trans hxB).trans hxM1'
  have hnAM1 := hxA.next
  have hnBM1 := hxB.next
  have hnM1 := hxM1'.next
  simp only [o_cont, o_pure, o_nil, POp.ev, Opd.ev, gv, setD, List.set, Option.some.injEq, exists_eq_left', extV, List.getElem?_toArray, List.getElem?_cons_zero, List.getElem?_cons_succ, hR, hok]
  clear hA hb1 hb2
  rw [hrr] at hu
  replace hw := ((hw.ext hxA).ext hxB).ext hxM1'
  replace hg5 := ((hg5.ext hxA).ext hxB).ext hxM1'
  refine s_test_I false (Ext M1) ?_ (fun M2 hm2 hg0 => by cases hg0) (fun M2 hm2 _ => ?_)
  · simp only [o_pure, o_callF, POp.ev, Opd.ev, gv, setD, List.map, Option.some.injEq, exists_eq_left']
    refine (eqIntSS_ok _ _ _ _ _ hu.slss hw.slss (by omega) (fun p hp => by have := hr2 p hp; omega)).mono ?_
    rintro _ J ⟨rfl, hyx⟩
    simp only [o_cont, o_pure, o_guard, gk_ff, o_nil, POp.ev, Opd.ev, gv, setD, Option.some.injEq, exists_eq_left', pickV, unV, boolEq, if_true, beq_self_eq_true, Bool.not_true]
    exact ⟨trivial, trivial, hyx⟩
  refine s_skip1 ?_
  simp +decide only [p_seq_normal]
  replace hg5 := hg5.ext hm2
  refine s_reg ?_
  simp only [o_pure, o_nil, POp.ev, Opd.ev, setD, List.set, Option.some.injEq, exists_eq_left']
  refine s_reg ?_
  simp only [o_pure, o_callF, POp.ev, Opd.ev, gv, setD, List.map, Option.some.injEq, exists_eq_left']
  refine (heldIntSS_ok _ _ _ 101 _ hg5.slss (by omega) (by omega) (by omega) (by omega)).eq ?_
  simp only [o_cont, o_pure, o_nil, POp.ev, Opd.ev, gv, setD, List.set, Option.some.injEq, exists_eq_left']
  refine s_test ?_
  simp only [o_pure, o_nil, POp.ev, Opd.ev, gv, setD, Option.some.injEq, exists_eq_left', binV, ne_eq, not_true_eq_false, if_false, hneg2]
  refine Test.false_ (s_skip1 ?_)
  simp +decide only [p_seq_normal]
  refine s_test ?_
  simp only [o_pure, o_nil, POp.ev, Opd.ev, gv, setD, Option.some.injEq, exists_eq_left', binV, ne_eq, not_true_eq_false, if_false, heq]
  refine Test.false_ (s_skip1 ?_)
  simp +decide only [p_seq_normal]
  refine s_reg ?_
  simp only [o_pure, o_nil, POp.ev, Opd.ev, setD, List.set, Option.some.injEq, exists_eq_left']
  refine s_ret1 ?_
  simp +decide only [p_fin_ret, resV, resOne, gv, Option.some.injEq, exists_eq_left']
end Go.Proofs.Ytagocdkcnajiiaa
