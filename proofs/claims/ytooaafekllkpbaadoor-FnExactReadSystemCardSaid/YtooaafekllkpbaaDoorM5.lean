/- Parts of the proof of a statement of this seat: contracts of functions that the law calls, or the law's own row; no condition. -/
import Derived.Test.YtooaafekllkpbaaDoorM4
/- Parts of the proof of a statement of this seat: contracts of functions that the law calls, or the law's own row; no condition. -/
/- The reader of expressions, specification: sums and products of values; no condition beyond stated ranges. -/
namespace Go.Proofs.YtooaafekllkpbaaDoor
open Go.Ab
set_option linter.unusedSimpArgs false
set_option linter.unusedVariables false

theorem Good.E {v : V} (h : Good v) : ∀ t ∈ v.ts, E 4 t := fun t ht => by
  have := h.ok t ht
  unfold exC at this
  unfold Go.Proofs.YtooaafekllkpbaaDoor.E
  omega
/-- terms put together stay in bounds -/
theorem put_bn {M : List Tm} {B X : Int} (hB : ∀ t ∈ M, -B ≤ t.c ∧ t.c ≤ B) (hE : ∀ t ∈ M, E X t) (hX : X ≤ 1000) (hl : (M.length : Int) * B ≤ 1000000000000000000) (hB0 : B ≤ 1000000000000000000) : putAll [] M = coll M ∧ ∀ t ∈ putAll [] M, bnC t := by
  have hs := sA_le hB
  have hi : ∀ t ∈ M, inR t.c := fun t ht => by have := hB t ht; unfold inR; omega
  refine ⟨(coll_putAll hi).symm, fun t ht => ⟨?_, ?_⟩⟩
  · rw [← coll_putAll hi] at ht
    have h1 := coll_c (by omega) hi ht
    have h2 := cs_abs t M
    omega
  · rcases mem_putAll ht with h | ⟨u, hu, ho⟩
    · simp at h
    · exact ((hE u hu).ord ho).exS hX
theorem putAll_ex {M : List Tm} {X : Int} (hE : ∀ t ∈ M, E X t) (hX : X ≤ 1000) : ∀ t ∈ putAll [] M, exB t := by
  intro t ht
  rcases mem_putAll ht with h | ⟨u, hu, ho⟩
  · simp at h
  · exact ((hE u hu).ord ho).exB hX
theorem addL_E {a b : V} (ha : Good a) (hb : Good b) (n d : Int) : ∀ t ∈ addL a b n d, E 4 t := by
  intro t ht
  rcases addL_mem ht with ⟨u, hu, rfl⟩ | ⟨u, hu, rfl⟩
  · exact ha.E u hu
  · exact hb.E u hu

theorem txAdd_ok (lim : Nat) (sa sb : Value) (A B : V) (n : Int) (H : AHeap) (hl : lim ≤ H.next) (hsa : SlT H sa A.ts) (hsb : SlT H sb B.ts) (hA : Good A) (hB : Good B) (hn : n = 1 ∨ n = -1) :
    ACalls Tryd.prog lim n_spec_txAdd [.agg #[sa, .int .i64 A.den], .agg #[sb, .int .i64 B.den], .int .i64 n] H fun v H' => MadeS H' H.next v (addV A B n) ∧ Ext H H' := by
  refine is_spec_txAdd.go rfl ?_
  unfold c_spec_txAdd
  obtain ⟨gg, g1, g2, g3, g4, g5, g6, g7, g8, g9⟩ := lcm_facts hA hB
  have hbnd := addL_bnd hA hB hn
  have hE4 := addL_E hA hB n (lcmV A B)
  have hlen := addL_length hA hB n (lcmV A B)
  obtain ⟨hcoll, hbn⟩ := put_bn (fun t ht => (hbnd t ht).1) hE4 (by omega) (by omega) (by omega)
  have hAd := hA.den
  have hBd := hB.den
  refine s_reg ?_
  simp only [o_pure, o_eff, o_nil, POp.ev, Opd.ev, EOp.ev, env0, gu, gv, setD, List.set, Option.some.injEq, exists_eq_left', box2]
  have L3 := Own.mk' (Ext.refl H) [sa, .int .i64 A.den]
  generalize H.alloc [sa, .int .i64 A.den] = H1 at L3 ⊢
  have hq3 := L3.lt
  have L4 := Own.mk' L3.ext [sb, .int .i64 B.den]
  replace L3 := L3.step (Ext.alloc H1 [sb, .int .i64 B.den])
  generalize H1.alloc [sb, .int .i64 B.den] = H2 at L3 L4 ⊢
  have hq4 := L4.lt
  have L5 := Own.mk' L4.ext [.slice none 0 0, .int .i64 0]
  replace L3 := L3.step (Ext.alloc H2 [.slice none 0 0, .int .i64 0])
  replace L4 := L4.step (Ext.alloc H2 [.slice none 0 0, .int .i64 0])
  generalize H2.alloc [.slice none 0 0, .int .i64 0] = H3 at L3 L4 L5 ⊢
  generalize hp3 : H.next = p3 at L3 hq3
  generalize H1.next = p4 at L4 hq3 hq4
  generalize H2.next = p5 at L5 hq4
  have hgz : ((Int.gcd A.den B.den : Int) = 0) = False := by
    have : Int.gcd A.den B.den ≠ 0 := by
      intro h0
      have := (Int.gcd_eq_zero_iff.1 h0).1
      omega
    simp; omega
  have wq : IntKind.i64.wrap (A.den.tdiv (Int.gcd A.den B.den)) = A.den.tdiv (Int.gcd A.den B.den) := by
    have := tdiv_in (c := A.den) (g := Int.gcd A.den B.den) (by omega)
    exact W_of_in (by unfold inR; omega)
  have wm : IntKind.i64.wrap (A.den.tdiv (Int.gcd A.den B.den) * B.den) = lcmV A B := by
    have : A.den.tdiv (Int.gcd A.den B.den) * B.den = lcmV A B := rfl
    rw [this]
    exact W_of_in (by unfold inR; omega)
  refine s_reg ?_
  simp only [o_pure, o_callN, POp.ev, Opd.ev, gv, setD, List.map, Option.some.injEq, exists_eq_left', load1V, fadV, Nat.zero_add, L3.c1, L4.c1]
  refine (txCommon_ok _ _ _ _ (by omega) (by omega)).eq ?_
  simp only [o_cont, o_pure, o_nil, POp.ev, Opd.ev, gv, setD, List.set, Option.some.injEq, exists_eq_left', binV, ne_eq, not_true_eq_false, if_false, hgz, wq, wm]
  refine s_reg ?_
  simp only [o_pure, o_nil, POp.ev, Opd.ev, setD, List.set, Option.some.injEq, exists_eq_left']
  have hs3 := hsa.ext L3.ext
  refine s_assoc (s_reg ?_)
  simp only [o_pure, o_nil, POp.ev, Opd.ev, gv, setD, List.set, Option.some.injEq, exists_eq_left', load1V, fadV, Nat.zero_add, L3.c0, hsa.lenV]
  have hza : (A.den = 0) = False := by simp; omega
  have hzb : (B.den = 0) = False := by simp; omega
  have w1 : IntKind.i64.wrap ((lcmV A B).tdiv A.den) = (lcmV A B).tdiv A.den := W_of_in (by unfold inR; omega)
  have w2 : IntKind.i64.wrap ((lcmV A B).tdiv B.den) = (lcmV A B).tdiv B.den := W_of_in (by unfold inR; omega)
  have w3 : IntKind.i64.wrap (n * (lcmV A B).tdiv B.den) = n * (lcmV A B).tdiv B.den := W_of_in (by unfold inR; rcases hn with rfl | rfl <;> omega)
  refine s_block ?_
  refine s_loop1 (fun j e' H' => ∃ (i b : Nat) (so x9 x10 x14 x15 x16 : Value), i + j = A.ts.length ∧ VecT H' b so (putAll [] ((A.ts.take i).map (scl ((lcmV A B).tdiv A.den)))) ∧ Own H H' p3 [sa, .int .i64 A.den] ∧ Own H H' p4 [sb, .int .i64 B.den] ∧ Own H H' p5 [.slice none 0 0, .int .i64 0] ∧
    e' = [.agg #[sa, .int .i64 A.den], .agg #[sb, .int .i64 B.den], .int .i64 n, pt p3, pt p4, pt p5, .bool false, .int .i64 (lcmV A B), so, x9, x10, sa, .int .i64 A.ts.length, .int .i64 i, x14, x15, x16]) A.ts.length ⟨0, 0, _, _, _, _, _, _, by omega, vecT_nil _ _, L3, L4, L5, rfl⟩ ?_
  clear L3 L4 L5 hs3 H1 H2 H3
  rintro j e' H3 ⟨i, b, so, x9, x10, x14, x15, x16, hij, hv, L3, L4, L5, rfl⟩
  have hnx3 := L3.ext.next
  have hEa : ∀ t ∈ (A.ts.take i).map (scl ((lcmV A B).tdiv A.den)), E 4 t := fun t ht => by
    obtain ⟨u, hu, rfl⟩ := List.mem_map.1 ht
    exact hA.E u (List.mem_of_mem_take hu)
  have hAl := hA.len
  have hBl := hB.len
  refine s_test ?_
  simp only [o_pure, o_nil, POp.ev, Opd.ev, gv, setD, Option.some.injEq, exists_eq_left', binV, ne_eq, not_true_eq_false, if_false]
  refine Test.split (fun hlt => ?_) (fun hlt => ?_)
  · have hlt' : i < A.ts.length := by simpa using hlt
    obtain ⟨b1, o1, h1, hat⟩ := (hsa.ext L3.ext).at hlt'
    have hmem := List.getElem_mem hlt'
    have hcb := hbnd (scl ((lcmV A B).tdiv A.den) A.ts[i]) (List.mem_append.2 (.inl (List.mem_map_of_mem hmem)))
    have hwc : IntKind.i64.wrap (A.ts[i].c * (lcmV A B).tdiv A.den) = (scl ((lcmV A B).tdiv A.den) A.ts[i]).c := W_of_in (a := (scl ((lcmV A B).tdiv A.den) A.ts[i]).c) (by unfold inR; omega)
    refine s_skip1 ?_
    simp +decide only [p_seq_normal]
    refine s_block ?_
    refine s_reg ?_
    simp only [o_pure, o_eff, o_nil, POp.ev, Opd.ev, EOp.ev, gv, setD, List.set, Option.some.injEq, exists_eq_left', h1, hat.all, store4_new (lim := lim) (H := H3) (by omega)]
    have hBx := BoxT.mk' H3 A.ts[i]
    generalize H3.alloc (tc A.ts[i]) = H4 at hBx ⊢
    generalize hq : H3.next = q at hBx
    obtain ⟨cs4, t4, hB4⟩ := hBx.put0 (lim := lim) (by omega) (scl ((lcmV A B).tdiv A.den) A.ts[i]).c
    have L34 := L3.step hBx.ext
    refine s_reg ?_
    simp only [o_pure, o_eff, o_nil, POp.ev, Opd.ev, EOp.ev, gv, setD, Option.some.injEq, exists_eq_left', binV, load1V, fadV, ne_eq, not_true_eq_false, if_false, Nat.zero_add, hBx.c0, L34.c1, hza, w1, hwc, t4]
    generalize H4.put q cs4 = H5 at hB4 ⊢
    clear t4 hBx cs4 L34 H4
    have hall : loadNV H5 4 (.pointer (some ⟨q, 0, none⟩)) = some (tv (scl ((lcmV A B).tdiv A.den) A.ts[i])) := hB4.all
    have hlp := putAll_length ((A.ts.take i).map (scl ((lcmV A B).tdiv A.den))) []
    have hnx5 := hB4.ext.next
    refine s_reg1 ?_
    simp only [o_pure, o_callF, POp.ev, Opd.ev, gv, setD, List.map, Option.some.injEq, exists_eq_left', hall]
    refine (putG_ok lim so _ (scl ((lcmV A B).tdiv A.den) A.ts[i]) H5 (by omega) (Vec.sl (VecT.ext hv hB4.ext)) (by rw [List.length_map, List.length_take, List.length_nil] at hlp; omega) (putAll_ex hEa (by omega)) ((hA.E _ hmem).exB (by omega))).mono ?_
    rintro v' H6 ⟨b6, _, _, hv6, hx6⟩
    simp only [o_cont, o_pure, o_nil, POp.ev, Opd.ev, gv, setD, List.set, Option.some.injEq, exists_eq_left']
    simp +decide only [p_seq_normal, p_block_normal]
    refine s_reg1 ?_
    simp only [o_pure, o_nil, POp.ev, Opd.ev, gv, setD, List.set, Option.some.injEq, exists_eq_left', binV, ne_eq, not_true_eq_false, if_false, add1 (i := i) (by omega)]
    simp +decide only [p_seq_normal]
    have hx36 := hB4.ext.trans hx6
    refine Round.mk (j - 1) (by omega) ⟨i + 1, b6, _, _, _, _, _, _, by omega, ?_, L3.step hx36, L4.step hx36, L5.step hx36, rfl⟩
    rw [List.take_succ_eq_append_getElem hlt', List.map_append, putAll_append]
    exact hv6
  · have hge : i = A.ts.length := by simp at hlt; omega
    subst hge
    rw [List.take_length] at hv hEa
    refine s_exit1 ?_
    simp +decide only [p_seq_normal, p_seq_exit, p_block_exit, reduceIte]
    refine s_assoc (s_reg ?_)
    simp only [o_pure, o_nil, POp.ev, Opd.ev, gv, setD, List.set, Option.some.injEq, exists_eq_left', load1V, fadV, Nat.zero_add, L4.c0, hsb.lenV]
    refine s_block ?_
    refine s_loop1 (fun j e' H' => ∃ (i b : Nat) (so x9 x10 : Value), i + j = B.ts.length ∧ VecT H' b so (putAll [] (A.ts.map (scl ((lcmV A B).tdiv A.den)) ++ (B.ts.take i).map (scl (n * (lcmV A B).tdiv B.den)))) ∧ Own H H' p3 [sa, .int .i64 A.den] ∧ Own H H' p4 [sb, .int .i64 B.den] ∧ Own H H' p5 [.slice none 0 0, .int .i64 0] ∧
      e' = [.agg #[sa, .int .i64 A.den], .agg #[sb, .int .i64 B.den], .int .i64 n, pt p3, pt p4, pt p5, .bool false, .int .i64 (lcmV A B), so, x9, x10, sa, .int .i64 A.ts.length, .int .i64 A.ts.length, sb, .int .i64 B.ts.length, .int .i64 i]) B.ts.length ⟨0, b, _, _, _, by omega, by simpa using hv, L3, L4, L5, rfl⟩ ?_
    clear L3 L4 L5 hv hnx3 H3
    rintro j e' H3 ⟨i, b, so, x9, x10, hij, hv, L3, L4, L5, rfl⟩
    have hnx3 := L3.ext.next
    refine s_test ?_
    simp only [o_pure, o_nil, POp.ev, Opd.ev, gv, setD, Option.some.injEq, exists_eq_left', binV, ne_eq, not_true_eq_false, if_false]
    refine Test.split (fun hlt => ?_) (fun hlt => ?_)
    · have hlt' : i < B.ts.length := by simpa using hlt
      obtain ⟨b1, o1, h1, hat⟩ := (hsb.ext L4.ext).at hlt'
      have hmem := List.getElem_mem hlt'
      have hcb := hbnd (scl (n * (lcmV A B).tdiv B.den) B.ts[i]) (List.mem_append.2 (.inr (List.mem_map_of_mem hmem)))
      have hwc : IntKind.i64.wrap (B.ts[i].c * (n * (lcmV A B).tdiv B.den)) = (scl (n * (lcmV A B).tdiv B.den) B.ts[i]).c := W_of_in (a := (scl (n * (lcmV A B).tdiv B.den) B.ts[i]).c) (by unfold inR; omega)
      have hEb : ∀ t ∈ A.ts.map (scl ((lcmV A B).tdiv A.den)) ++ (B.ts.take i).map (scl (n * (lcmV A B).tdiv B.den)), E 4 t := fun t ht => by
        rcases List.mem_append.1 ht with ht | ht
        · exact hEa t ht
        · obtain ⟨u, hu, rfl⟩ := List.mem_map.1 ht
          exact hB.E u (List.mem_of_mem_take hu)
      refine s_skip1 ?_
      simp +decide only [p_seq_normal]
      refine s_block ?_
      refine s_reg ?_
      simp only [o_pure, o_eff, o_nil, POp.ev, Opd.ev, EOp.ev, gv, setD, List.set, Option.some.injEq, exists_eq_left', h1, hat.all, store4_new (lim := lim) (H := H3) (by omega)]
      have hBx := BoxT.mk' H3 B.ts[i]
      generalize H3.alloc (tc B.ts[i]) = H4 at hBx ⊢
      generalize hq : H3.next = q at hBx
      obtain ⟨cs4, t4, hB4⟩ := hBx.put0 (lim := lim) (by omega) (scl (n * (lcmV A B).tdiv B.den) B.ts[i]).c
      have L44 := L4.step hBx.ext
      refine s_reg ?_
      simp only [o_pure, o_eff, o_nil, POp.ev, Opd.ev, EOp.ev, gv, setD, Option.some.injEq, exists_eq_left', binV, load1V, fadV, ne_eq, not_true_eq_false, if_false, Nat.zero_add, hBx.c0, L44.c1, hzb, w2, w3, hwc, t4]
      generalize H4.put q cs4 = H5 at hB4 ⊢
      clear t4 hBx cs4 L44 H4
      have hall : loadNV H5 4 (.pointer (some ⟨q, 0, none⟩)) = some (tv (scl (n * (lcmV A B).tdiv B.den) B.ts[i])) := hB4.all
      have hlp := putAll_length (A.ts.map (scl ((lcmV A B).tdiv A.den)) ++ (B.ts.take i).map (scl (n * (lcmV A B).tdiv B.den))) []
      have hnx5 := hB4.ext.next
      refine s_reg1 ?_
      simp only [o_pure, o_callF, POp.ev, Opd.ev, gv, setD, List.map, Option.some.injEq, exists_eq_left', hall]
      refine (putG_ok lim so _ (scl (n * (lcmV A B).tdiv B.den) B.ts[i]) H5 (by omega) (Vec.sl (VecT.ext hv hB4.ext)) (by rw [List.length_append, List.length_map, List.length_map, List.length_take, List.length_nil] at hlp; omega) (putAll_ex hEb (by omega)) ((hB.E _ hmem).exB (by omega))).mono ?_
      rintro v' H6 ⟨b6, _, _, hv6, hx6⟩
      simp only [o_cont, o_pure, o_nil, POp.ev, Opd.ev, gv, setD, List.set, Option.some.injEq, exists_eq_left']
      simp +decide only [p_seq_normal, p_block_normal]
      refine s_reg1 ?_
      simp only [o_pure, o_nil, POp.ev, Opd.ev, gv, setD, List.set, Option.some.injEq, exists_eq_left', binV, ne_eq, not_true_eq_false, if_false, add1 (i := i) (by omega)]
      simp +decide only [p_seq_normal]
      have hx36 := hB4.ext.trans hx6
      refine Round.mk (j - 1) (by omega) ⟨i + 1, b6, _, _, _, by omega, ?_, L3.step hx36, L4.step hx36, L5.step hx36, rfl⟩
      rw [List.take_succ_eq_append_getElem hlt', List.map_append, ← List.append_assoc, putAll_append]
      exact hv6
    · have hge : i = B.ts.length := by simp at hlt; omega
      subst hge
      rw [List.take_length] at hv
      refine s_exit1 ?_
      simp +decide only [p_seq_normal, p_seq_exit, p_block_exit, reduceIte]
      have hv' : VecT H3 b so (putAll [] (addL A B n (lcmV A B))) := hv
      have hlp := putAll_length (addL A B n (lcmV A B)) []
      refine s_reg ?_
      simp only [o_pure, o_callF, POp.ev, Opd.ev, gv, setD, List.map, Option.some.injEq, exists_eq_left']
      refine (txMake_ok lim so _ _ H3 (by omega) (Vec.sl hv') (by simp at hlp; omega) (by omega) hbn).mono ?_
      rintro _ H4 ⟨⟨sl, den, ok, rfl, hm⟩, hx4⟩
      obtain ⟨H5, e5, L55, c5, n5⟩ := (L5.step hx4).put2 hl sl (.int .i64 den)
      simp only [o_cont, o_pure, o_eff, o_nil, POp.ev, Opd.ev, EOp.ev, gv, setD, List.set, Option.some.injEq, exists_eq_left', extV, List.getElem?_toArray, List.getElem?_cons_zero, List.getElem?_cons_succ, e5]
      refine s_ret1 ?_
      simp +decide only [p_fin_ret, resV, resOne, resL, gv, Option.some.injEq, exists_eq_left', Option.bind_some, Option.map_some, L55.load2]
      refine ⟨⟨sl, den, ok, rfl, ?_⟩, L55.ext⟩
      unfold addV
      rw [← hcoll]
      have hp5 := L5.lt
      have hp5' := L5.ge
      split at hm
      · obtain ⟨m1, m2, m3⟩ := hm
        exact ⟨m1, m2, (m3.chg c5 (.inl hp5)).low (by omega)⟩
      · exact hm

theorem prod_bnd {A B : V} (hA : Good A) (hB : Good B) : ∀ t ∈ prodL A.ts B.ts, (-1000000000000 ≤ t.c ∧ t.c ≤ 1000000000000) ∧ E 8 t := by
  intro t ht
  obtain ⟨a, ha, b, hb, rfl⟩ := prodL_mem ht
  have h1 := hA.E a ha
  have h2 := hB.E b hb
  have h3 := (hA.ok a ha).1
  have h4 := (hB.ok b hb).1
  have hab : -1000000000000 ≤ a.c * b.c ∧ a.c * b.c ≤ 1000000000000 := by
    have key : ∀ c n : Int, 0 ≤ c → c ≤ 1000000 → 0 ≤ n → n ≤ 1000000 → 0 ≤ c * n ∧ c * n ≤ 1000000000000 := by
      intro c n h1 h2 h3 h4
      refine ⟨Int.mul_nonneg h1 h3, ?_⟩
      have := Int.mul_le_mul h2 h4 h3 (by omega)
      omega
    by_cases q1 : 0 ≤ a.c <;> by_cases q2 : 0 ≤ b.c
    · have := key a.c b.c q1 (by omega) q2 (by omega); omega
    · have := key a.c (-b.c) q1 (by omega) (by omega) (by omega); rw [Int.mul_neg] at this; omega
    · have := key (-a.c) b.c (by omega) (by omega) q2 (by omega); rw [Int.neg_mul] at this; omega
    · have := key (-a.c) (-b.c) (by omega) (by omega) (by omega) (by omega); rw [Int.neg_mul_neg] at this; omega
  have hw : W (a.c * b.c) = a.c * b.c := W_of_in (by unfold inR; omega)
  unfold E at *
  simp only [mulT, hw]
  omega
theorem prod_len {A B : V} (hA : Good A) (hB : Good B) : (prodL A.ts B.ts).length ≤ 7225 := by
  rw [prodL_length]
  exact Nat.mul_le_mul hA.len hB.len

theorem txMul_ok (lim : Nat) (sa sb : Value) (A B : V) (H : AHeap) (hl : lim ≤ H.next) (hsa : SlT H sa A.ts) (hsb : SlT H sb B.ts) (hA : Good A) (hB : Good B) :
    ACalls Tryd.prog lim n_spec_txMul [.agg #[sa, .int .i64 A.den], .agg #[sb, .int .i64 B.den]] H fun v H' => MadeS H' H.next v (mulV A B) ∧ Ext H H' := by
  refine is_spec_txMul.go rfl ?_
  unfold c_spec_txMul
  have hbnd := prod_bnd hA hB
  have hlen := prod_len hA hB
  obtain ⟨hcoll, hbn⟩ := put_bn (fun t ht => (hbnd t ht).1) (fun t ht => (hbnd t ht).2) (by omega) (by omega) (by omega)
  have hAd := hA.den
  have hBd := hB.den
  have hAl := hA.len
  have hBl := hB.len
  refine s_reg ?_
  simp only [o_pure, o_eff, o_nil, POp.ev, Opd.ev, EOp.ev, env0, gu, gv, setD, List.set, Option.some.injEq, exists_eq_left', box2]
  have L3 := Own.mk' (Ext.refl H) [sa, .int .i64 A.den]
  generalize H.alloc [sa, .int .i64 A.den] = H1 at L3 ⊢
  have hq3 := L3.lt
  have L4 := Own.mk' L3.ext [sb, .int .i64 B.den]
  replace L3 := L3.step (Ext.alloc H1 [sb, .int .i64 B.den])
  generalize H1.alloc [sb, .int .i64 B.den] = H2 at L3 L4 ⊢
  have hq4 := L4.lt
  have L5 := Own.mk' L4.ext [.slice none 0 0, .int .i64 0]
  replace L3 := L3.step (Ext.alloc H2 [.slice none 0 0, .int .i64 0])
  replace L4 := L4.step (Ext.alloc H2 [.slice none 0 0, .int .i64 0])
  generalize H2.alloc [.slice none 0 0, .int .i64 0] = H3 at L3 L4 L5 ⊢
  generalize hp3 : H.next = p3 at L3 hq3
  generalize H1.next = p4 at L4 hq3 hq4
  generalize H2.next = p5 at L5 hq4
  refine s_reg ?_
  simp only [o_pure, o_nil, POp.ev, Opd.ev, setD, List.set, Option.some.injEq, exists_eq_left']
  refine s_assoc (s_reg ?_)
  simp only [o_pure, o_nil, POp.ev, Opd.ev, gv, setD, List.set, Option.some.injEq, exists_eq_left', load1V, fadV, Nat.zero_add, L3.c0, hsa.lenV]
  have hE8 : ∀ (i j : Nat) (a : Tm), a ∈ A.ts → ∀ t ∈ prodL (A.ts.take i) B.ts ++ (B.ts.take j).map (mulT a), E 8 t := fun i j a ha t ht => by
    rcases List.mem_append.1 ht with ht | ht
    · obtain ⟨x, hx, y, hy, rfl⟩ := prodL_mem ht
      have h1 := hA.E x (List.mem_of_mem_take hx)
      have h2 := hB.E y hy
      unfold E at *
      simp only [mulT]
      omega
    · obtain ⟨y, hy, rfl⟩ := List.mem_map.1 ht
      have h1 := hA.E a ha
      have h2 := hB.E y (List.mem_of_mem_take hy)
      unfold E at *
      simp only [mulT]
      omega
  refine s_block ?_
  refine s_loop1 (fun k e' H' => ∃ (i b : Nat) (so x7 x8 x12 x13 x14 : Value), i + k = A.ts.length ∧ VecT H' b so (putAll [] (prodL (A.ts.take i) B.ts)) ∧ Own H H' p3 [sa, .int .i64 A.den] ∧ Own H H' p4 [sb, .int .i64 B.den] ∧ Own H H' p5 [.slice none 0 0, .int .i64 0] ∧
    e' = [.agg #[sa, .int .i64 A.den], .agg #[sb, .int .i64 B.den], pt p3, pt p4, pt p5, .bool false, so, x7, x8, sa, .int .i64 A.ts.length, .int .i64 i, x12, x13, x14]) A.ts.length ⟨0, 0, _, _, _, _, _, _, by omega, vecT_nil _ _, L3, L4, L5, rfl⟩ ?_
  clear L3 L4 L5 H1 H2 H3
  rintro k e' H3 ⟨i, b, so, x7, x8, x12, x13, x14, hik, hv, L3, L4, L5, rfl⟩
  have hnx3 := L3.ext.next
  refine s_test ?_
  simp only [o_pure, o_nil, POp.ev, Opd.ev, gv, setD, Option.some.injEq, exists_eq_left', binV, ne_eq, not_true_eq_false, if_false]
  refine Test.split (fun hlt => ?_) (fun hlt => ?_)
  · have hlt' : i < A.ts.length := by simpa using hlt
    obtain ⟨b1, o1, h1, hat⟩ := (hsa.ext L3.ext).at hlt'
    have hmem := List.getElem_mem hlt'
    refine s_skip1 ?_
    simp +decide only [p_seq_normal]
    refine s_block ?_
    refine s_reg ?_
    simp only [o_pure, o_eff, o_nil, POp.ev, Opd.ev, EOp.ev, gv, setD, List.set, Option.some.injEq, exists_eq_left', h1, hat.all, store4_new (lim := lim) (H := H3) (by omega)]
    have hBa := BoxT.mk' H3 A.ts[i]
    have hx4 := hBa.ext
    generalize H3.alloc (tc A.ts[i]) = H4 at hBa hx4 ⊢
    generalize hqa : H3.next = qa at hBa
    replace hBa := hBa.low L3.ext
    replace L3 := L3.step hx4
    replace L4 := L4.step hx4
    replace L5 := L5.step hx4
    replace hv := VecT.ext hv hx4
    refine s_reg ?_
    simp only [o_pure, o_nil, POp.ev, Opd.ev, gv, setD, List.set, Option.some.injEq, exists_eq_left', load1V, fadV, Nat.zero_add, L4.c0, hsb.lenV]
    refine s_block1 ?_
    refine s_loop1 (fun k2 e' H' => ∃ (j b : Nat) (so x8 : Value), j + k2 = B.ts.length ∧ VecT H' b so (putAll [] (prodL (A.ts.take i) B.ts ++ (B.ts.take j).map (mulT A.ts[i]))) ∧ Own H H' p3 [sa, .int .i64 A.den] ∧ Own H H' p4 [sb, .int .i64 B.den] ∧ Own H H' p5 [.slice none 0 0, .int .i64 0] ∧ BoxT H H' qa A.ts[i] ∧
      e' = [.agg #[sa, .int .i64 A.den], .agg #[sb, .int .i64 B.den], pt p3, pt p4, pt p5, .bool false, so, .pointer (some ⟨qa, 0, none⟩), x8, sa, .int .i64 A.ts.length, .int .i64 i, sb, .int .i64 B.ts.length, .int .i64 j]) B.ts.length ⟨0, b, _, _, by omega, by simpa using hv, L3, L4, L5, hBa, rfl⟩ ?_
    clear L3 L4 L5 hv hBa hx4 hnx3 hat h1 H4 hqa H3
    rintro k2 e' H4 ⟨j, b, so, x8, hjk, hv, L3, L4, L5, hBa, rfl⟩
    have hnx4 := L3.ext.next
    refine s_test ?_
    simp only [o_pure, o_nil, POp.ev, Opd.ev, gv, setD, Option.some.injEq, exists_eq_left', binV, ne_eq, not_true_eq_false, if_false]
    refine Test.split (fun hlt2 => ?_) (fun hlt2 => ?_)
    · have hlt3 : j < B.ts.length := by simpa using hlt2
      obtain ⟨b4, o4, h4, a4⟩ := (hsb.ext L4.ext).at hlt3
      have hmem2 := List.getElem_mem hlt3
      refine s_skip1 ?_
      simp +decide only [p_seq_normal]
      refine s_block ?_
      refine s_reg ?_
      simp only [o_pure, o_eff, o_nil, POp.ev, Opd.ev, EOp.ev, gv, setD, List.set, Option.some.injEq, exists_eq_left', h4, a4.all, store4_new (lim := lim) (H := H4) (by omega)]
      have hBb := BoxT.mk' H4 B.ts[j]
      have hx5 := hBb.ext
      generalize H4.alloc (tc B.ts[j]) = H5 at hBb hx5 ⊢
      generalize hqb : H4.next = qb at hBb
      have hBa5 := hBa.mono hx5
      have e1 := hA.E _ hmem
      have e2 := hB.E _ hmem2
      obtain ⟨⟨u1, u2⟩, ⟨u3, u4⟩, u5, u6⟩ := e1
      obtain ⟨⟨v1, v2⟩, ⟨v3, v4⟩, v5, v6⟩ := e2
      have wx : IntKind.i64.wrap (A.ts[i].x + B.ts[j].x) = A.ts[i].x + B.ts[j].x := by rw [IntKind.wrap_i64]; omega
      have wy : IntKind.i64.wrap (A.ts[i].y + B.ts[j].y) = A.ts[i].y + B.ts[j].y := by rw [IntKind.wrap_i64]; omega
      have wz : IntKind.i64.wrap (A.ts[i].z + B.ts[j].z) = A.ts[i].z + B.ts[j].z := by rw [IntKind.wrap_i64]; omega
      have hlp := putAll_length (prodL (A.ts.take i) B.ts ++ (B.ts.take j).map (mulT A.ts[i])) []
      have hpl := prodL_take_le (p := A.ts) (q := B.ts) (i := i)
      have hml : A.ts.length * B.ts.length ≤ 7225 := Nat.mul_le_mul hAl hBl
      have hEm : E 8 (mulT A.ts[i] B.ts[j]) := hE8 0 (j + 1) A.ts[i] hmem _ (List.mem_append.2 (.inr (List.mem_map_of_mem (by
        rw [List.take_succ_eq_append_getElem hlt3]
        exact List.mem_append.2 (.inr (List.mem_singleton.2 rfl))))))
      have hnx5 := hx5.next
      refine s_reg1 ?_
      simp only [o_pure, o_callF, POp.ev, Opd.ev, gv, setD, List.map, Option.map_some, Option.some.injEq, exists_eq_left', binV, load1V, fadV, ne_eq, not_true_eq_false, if_false, Nat.add_zero, Nat.zero_add, hBa5.c0, hBa5.c1, hBa5.c2, hBa5.c3, hBb.c0, hBb.c1, hBb.c2, hBb.c3, wx, wy, wz, bldT]
      refine (putG_ok lim so _ (mulT A.ts[i] B.ts[j]) H5 (by omega) (Vec.sl (VecT.ext hv hx5)) (by rw [List.length_append, List.length_map, List.length_take, List.length_nil] at hlp; omega) (putAll_ex (hE8 i j _ hmem) (by omega)) (hEm.exB (by omega))).mono ?_
      rintro v' H6 ⟨b6, _, _, hv6, hx6⟩
      simp only [o_cont, o_pure, o_nil, POp.ev, Opd.ev, gv, setD, List.set, Option.some.injEq, exists_eq_left']
      simp +decide only [p_seq_normal, p_block_normal]
      refine s_reg1 ?_
      simp only [o_pure, o_nil, POp.ev, Opd.ev, gv, setD, List.set, Option.some.injEq, exists_eq_left', binV, ne_eq, not_true_eq_false, if_false, add1 (i := j) (by omega)]
      simp +decide only [p_seq_normal]
      have hx46 := hx5.trans hx6
      refine Round.mk (k2 - 1) (by omega) ⟨j + 1, b6, _, _, by omega, ?_, L3.step hx46, L4.step hx46, L5.step hx46, hBa.mono hx46, rfl⟩
      rw [List.take_succ_eq_append_getElem hlt3, List.map_append, ← List.append_assoc, putAll_append]
      exact hv6
    · have hge : j = B.ts.length := by simp at hlt2; omega
      subst hge
      rw [List.take_length, ← prodL_take hlt'] at hv
      refine s_exit1 ?_
      simp +decide only [p_seq_normal, p_seq_exit, p_block_normal, p_block_exit, reduceIte]
      refine s_reg1 ?_
      simp only [o_pure, o_nil, POp.ev, Opd.ev, gv, setD, List.set, Option.some.injEq, exists_eq_left', binV, ne_eq, not_true_eq_false, if_false, add1 (i := i) (by omega)]
      simp +decide only [p_seq_normal]
      exact Round.mk (k - 1) (by omega) ⟨i + 1, b, so, _, _, _, _, _, by omega, hv, L3, L4, L5, rfl⟩
  · have hge : i = A.ts.length := by simp at hlt; omega
    subst hge
    rw [List.take_length] at hv
    refine s_exit1 ?_
    simp +decide only [p_seq_normal, p_seq_exit, p_block_exit, reduceIte]
    have hlp := putAll_length (prodL A.ts B.ts) []
    have hdm : 1 ≤ A.den * B.den ∧ A.den * B.den ≤ 1000000 := by
      have h1 := Int.mul_pos (show 0 < A.den by omega) (show 0 < B.den by omega)
      have h2 := Int.mul_le_mul hAd.2 hBd.2 (by omega) (by omega)
      omega
    have wm : IntKind.i64.wrap (A.den * B.den) = A.den * B.den := W_of_in (by unfold inR; omega)
    refine s_reg ?_
    simp only [o_pure, o_callF, POp.ev, Opd.ev, gv, setD, List.map, Option.some.injEq, exists_eq_left', binV, load1V, fadV, ne_eq, not_true_eq_false, if_false, Nat.zero_add, L3.c1, L4.c1, wm]
    refine (txMake_ok lim so _ _ H3 (by omega) (Vec.sl hv) (by simp at hlp; omega) (by omega) hbn).mono ?_
    rintro _ H4 ⟨⟨sl, den, ok, rfl, hm⟩, hx4⟩
    obtain ⟨H5, e5, L55, c5, n5⟩ := (L5.step hx4).put2 hl sl (.int .i64 den)
    simp only [o_cont, o_pure, o_eff, o_nil, POp.ev, Opd.ev, EOp.ev, gv, setD, List.set, Option.some.injEq, exists_eq_left', extV, List.getElem?_toArray, List.getElem?_cons_zero, List.getElem?_cons_succ, e5]
    refine s_ret1 ?_
    simp +decide only [p_fin_ret, resV, resOne, resL, gv, Option.some.injEq, exists_eq_left', Option.bind_some, Option.map_some, L55.load2]
    refine ⟨⟨sl, den, ok, rfl, ?_⟩, L55.ext⟩
    unfold mulV
    rw [← hcoll]
    have hp5 := L5.lt
    have hp5' := L5.ge
    split at hm
    · obtain ⟨m1, m2, m3⟩ := hm
      exact ⟨m1, m2, (m3.chg c5 (.inl hp5)).low (by omega)⟩
    · exact hm
end Go.Proofs.YtooaafekllkpbaaDoor

/- The reader of expressions, specification: numbers; no condition beyond stated ranges. -/
namespace Go.Proofs.YtooaafekllkpbaaDoor
open Go.Ab
set_option linter.unusedSimpArgs false
set_option linter.unusedVariables false

/-- the number that so many digits tell -/
def digN (s : ByteArray) : Nat → Nat → Nat → Nat
  | 0, _, n => n
  | c + 1, i, n => digN s c (i + 1) (10 * n + (ch s i - 48))
theorem numF_run {s : ByteArray} : ∀ (k i n j : Nat), i ≤ j → (∀ p, i ≤ p → p < j → isD (ch s p) = true) → isD (ch s j) = false → numF s k i n = if j - i ≤ k then some (digN s (j - i) i n, j) else none
  | 0, i, n, j, hij, hd, he => by
    unfold numF
    by_cases h : i = j
    · subst h
      simp [he, digN]
    · rw [if_pos (hd i (Nat.le_refl _) (by omega)), if_neg (by omega)]
  | k + 1, i, n, j, hij, hd, he => by
    unfold numF
    by_cases h : i = j
    · subst h
      simp [he, digN]
    · rw [if_pos (hd i (Nat.le_refl _) (by omega)), numF_run k (i + 1) _ j (by omega) (fun p h1 h2 => hd p (by omega) h2) he]
      have e : j - i = (j - (i + 1)) + 1 := by omega
      rw [e, digN]
      by_cases h2 : j - (i + 1) ≤ k
      · rw [if_pos h2, if_pos (by omega)]
      · rw [if_neg h2, if_neg (by omega)]
theorem pNum_run {s : ByteArray} {i j : Nat} (hij : i ≤ j) (hd : ∀ p, i ≤ p → p < j → isD (ch s p) = true) (he : isD (ch s j) = false) : pNum s i = if 1 ≤ j - i ∧ j - i ≤ 4 then some (digN s (j - i) i 0, j) else none := by
  unfold pNum
  by_cases h : i = j
  · subst h
    simp [he]
  · rw [if_pos (hd i (Nat.le_refl _) (by omega)), numF_run 3 (i + 1) _ j (by omega) (fun p h1 h2 => hd p (by omega) h2) he]
    have e : j - i = (j - (i + 1)) + 1 := by omega
    rw [e, digN]
    by_cases h2 : j - (i + 1) ≤ 3
    · rw [if_pos h2, if_pos (by omega)]
      simp
    · rw [if_neg h2, if_neg (by omega)]
theorem isD_two (c : Nat) : isD c = (decide ((c : Int) ≥ 48) && decide ((c : Int) ≤ 57)) := by
  unfold isD
  congr 1
  · exact decide_eq_decide.2 (by omega)
  · exact decide_eq_decide.2 (by omega)
/-- what a number's reading answers -/
def NumR (s : ByteArray) (q : Nat) (i : Nat) (d m : Int) (w l : Bool) (H : AHeap) (v : Value) (H' : AHeap) : Prop :=
  ∃ (n i' : Nat) (w' : Bool), v = .int .i64 n ∧ n ≤ 9999 ∧ i ≤ i' ∧ (i' = i ∨ i' ≤ s.size) ∧ SRd H' q s i' d m w' l ∧ Chg q H H' ∧ (match pNum s i with | some r => n = r.1 ∧ i' = r.2 ∧ w' = w | none => w' = true)

theorem sNumber_ok (lim q : Nat) (s : ByteArray) (i : Nat) (d m : Int) (w l : Bool) (H : AHeap) (hl : lim ≤ H.next) (hq : lim ≤ q) (hqn : q < H.next) (hs : s.size ≤ 100) (hi : i ≤ 1000) (h : SRd H q s i d m w l) :
    ACalls Tryd.prog lim n_spec_txReader_number [pt q] H fun v H' => NumR s q i d m w l H v H' := by
  refine is_spec_txReader_number.go rfl ?_
  unfold c_spec_txReader_number
  refine s_reg ?_
  simp only [o_pure, o_nil, POp.ev, Opd.ev, env0, gu, setD, List.set, Option.some.injEq, exists_eq_left']
  refine s_reg ?_
  simp only [o_pure, o_nil, POp.ev, Opd.ev, gv, setD, List.set, Option.some.injEq, exists_eq_left', load1V, nilchkV, fadV, Nat.zero_add, h.c1]
  refine s_block ?_
  refine s_loop1 (fun k e' H' => ∃ (j : Nat) (x3 x4 : Value), i ≤ j ∧ (j = i ∨ j ≤ s.size) ∧ k = s.size - j ∧ (∀ p, i ≤ p → p < j → isD (ch s p) = true) ∧ SRd H' q s j d m w l ∧ Chg q H H' ∧ e' = [pt q, .int .i64 0, .int .i64 i, x3, x4]) (s.size - i) ⟨i, _, _, Nat.le_refl _, .inl rfl, rfl, fun p h1 h2 => by omega, h, Chg.refl _ _, rfl⟩ ?_
  rintro k e' H1 ⟨j, x3, x4, hij, hjs, rfl, hd, h1, c1, rfl⟩
  have hnx1 := c1.next
  refine s_test_same (isD (ch s j)) ?_ (fun hdt => ?_) (fun hdf => ?_)
  · simp only [o_pure, o_callF, POp.ev, Opd.ev, gv, setD, List.map, Option.some.injEq, exists_eq_left']
    refine (sNext_ok _ _ _ _ _ _ _ _ _ h1).eq ?_
    rw [isD_two]
    cases h48 : decide ((ch s j : Int) ≥ 48)
    · simp only [o_cont, o_pure, o_guard, gk_ft, o_nil, POp.ev, Opd.ev, gv, setD, Option.some.injEq, exists_eq_left', pickV, binV, ne_eq, not_true_eq_false, if_false, h48]
      simp
    · simp only [o_cont, o_pure, o_callF, o_guard, gk_tt, POp.ev, Opd.ev, gv, setD, List.map, Option.some.injEq, exists_eq_left', binV, ne_eq, not_true_eq_false, if_false, h48]
      refine (sNext_ok _ _ _ _ _ _ _ _ _ h1).eq ?_
      simp only [o_cont, o_pure, o_guard, gk_tt, o_nil, POp.ev, Opd.ev, gv, setD, Option.some.injEq, exists_eq_left', pickV, binV, ne_eq, not_true_eq_false, if_false]
      simp
  · have hjl := isD_lt hdt
    obtain ⟨H2, e2, h2, c2⟩ := h1.s1 hq ((j + 1 : Nat) : Int)
    refine s_skip1 ?_
    simp +decide only [p_seq_normal]
    refine s_block1 ?_
    refine s_reg1 ?_
    simp only [o_pure, o_eff, o_nil, POp.ev, Opd.ev, EOp.ev, gv, setD, Option.some.injEq, exists_eq_left', binV, load1V, nilchkV, fadV, ne_eq, not_true_eq_false, if_false, Nat.zero_add, h1.c1, add1 (i := j) (by omega), e2]
    simp +decide only [p_seq_normal, p_block_normal]
    refine Round.mk _ (by omega) ⟨j + 1, x3, x4, by omega, .inr (by omega), rfl, fun p p1 p2 => ?_, h2, c1.trans c2, rfl⟩
    by_cases hp : p < j
    · exact hd p p1 hp
    · have : p = j := by omega
      rw [this]; exact hdt
  · refine s_exit1 ?_
    simp +decide only [p_seq_normal, p_seq_exit, p_block_exit, reduceIte]
    have hrun := pNum_run hij hd hdf
    have hjb : j ≤ 1000 := by rcases hjs with h | h <;> omega
    have hsub : IntKind.i64.wrap ((j : Int) - i) = ((j - i : Nat) : Int) := by
      rw [IntKind.wrap_i64]
      omega
    refine s_test_same (!(decide ((1 : Int) ≤ ((j - i : Nat) : Int)) && decide (((j - i : Nat) : Int) ≤ 4))) ?_ (fun hbad => ?_) (fun hgood => ?_)
    · simp only [o_pure, o_callF, POp.ev, Opd.ev, gv, setD, List.map, Option.some.injEq, exists_eq_left', binV, load1V, nilchkV, fadV, ne_eq, not_true_eq_false, if_false, Nat.zero_add, h1.c1, hsub]
      refine (l1In_ok _ _ _ _ _).eq ?_
      simp only [o_cont, o_pure, o_nil, POp.ev, Opd.ev, gv, setD, Option.some.injEq, exists_eq_left', unV]
      simp
    · obtain ⟨H2, e2, h2, c2⟩ := h1.s4 hq true
      refine s_reg ?_
      simp only [o_pure, o_eff, o_nil, POp.ev, Opd.ev, EOp.ev, gv, setD, Option.some.injEq, exists_eq_left', nilchkV, fadV, Nat.zero_add, e2]
      refine s_reg ?_
      simp only [o_pure, o_nil, POp.ev, Opd.ev, setD, List.set, Option.some.injEq, exists_eq_left']
      refine s_ret1 ?_
      simp +decide only [p_seq_ret, p_fin_ret, resV, resOne, gv, Option.some.injEq, exists_eq_left']
      refine ⟨1, j, true, rfl, by omega, hij, hjs, h2, c1.trans c2, ?_⟩
      rw [hrun, if_neg (by simp at hbad; omega)]
    · have hin : 1 ≤ j - i ∧ j - i ≤ 4 := by simp at hgood; omega
      rw [if_pos hin] at hrun
      have hjs' : j ≤ s.size := by rcases hjs with h | h <;> omega
      refine s_skip1 ?_
      simp +decide only [p_seq_normal]
      refine s_reg ?_
      simp only [o_pure, o_nil, POp.ev, Opd.ev, setD, List.set, Option.some.injEq, exists_eq_left']
      refine s_assoc (s_reg ?_)
      simp only [o_pure, o_nil, POp.ev, Opd.ev, gv, setD, List.set, Option.some.injEq, exists_eq_left']
      refine s_block ?_
      refine s_loop1 (fun k e' H' => ∃ (p n : Nat), i ≤ p ∧ p ≤ j ∧ k = j - p ∧ n + 1 ≤ 10 ^ (p - i) ∧ digN s (j - i) i 0 = digN s (j - p) p n ∧ H' = H1 ∧ e' = [pt q, .int .i64 0, .int .i64 i, .int .i64 n, .int .i64 p]) (j - i) ⟨i, 0, Nat.le_refl _, hij, rfl, by simp, rfl, rfl, rfl⟩ ?_
      rintro k e' H2 ⟨p, n, hip, hpj, rfl, hn, hdig, rfl, rfl⟩
      have hn4 : 10 ^ (p - i) ≤ 10 ^ 4 := Nat.pow_le_pow_right (by omega) (by omega)
      refine s_test ?_
      simp only [o_pure, o_nil, POp.ev, Opd.ev, gv, setD, Option.some.injEq, exists_eq_left', binV, load1V, nilchkV, fadV, ne_eq, not_true_eq_false, if_false, Nat.zero_add, h1.c1]
      refine Test.split (fun hlt => ?_) (fun hlt => ?_)
      · have hlt' : p < j := by simpa using hlt
        have hps : p < s.size := by omega
        obtain ⟨e1, e2⟩ := ch_at hps
        have e3 : sixV (.string s) (.int .i64 (p : Int)) = some (.int .u8 (ch s p : Int)) := by simp [sixV, e1, e2]
        have hdp := hd p hip hlt'
        unfold isD at hdp
        simp at hdp
        have w1 : IntKind.u8.wrap ((ch s p : Int) - 48) = ((ch s p - 48 : Nat) : Int) := by
          rw [IntKind.wrap_u8]
          omega
        have w2 : IntKind.i64.wrap ((ch s p - 48 : Nat) : Int) = ((ch s p - 48 : Nat) : Int) := W_of_in (by unfold inR; omega)
        have w3 : IntKind.i64.wrap (10 * (n : Int)) = ((10 * n : Nat) : Int) := by
          rw [IntKind.wrap_i64]
          omega
        have w4 : IntKind.i64.wrap (((10 * n : Nat) : Int) + ((ch s p - 48 : Nat) : Int)) = ((10 * n + (ch s p - 48) : Nat) : Int) := by
          rw [IntKind.wrap_i64]
          omega
        refine s_skip1 ?_
        simp +decide only [p_seq_normal]
        refine s_block ?_
        refine s_reg1 ?_
        simp only [o_pure, o_nil, POp.ev, Opd.ev, gv, setD, List.set, Option.some.injEq, exists_eq_left', binV, convV, load1V, nilchkV, fadV, ne_eq, not_true_eq_false, if_false, Nat.zero_add, h1.c0, e3, w1, w2, w3, w4]
        simp +decide only [p_seq_normal, p_block_normal]
        refine s_reg1 ?_
        simp only [o_pure, o_nil, POp.ev, Opd.ev, gv, setD, List.set, Option.some.injEq, exists_eq_left', binV, ne_eq, not_true_eq_false, if_false, add1 (i := p) (by omega)]
        simp +decide only [p_seq_normal]
        refine Round.mk _ (by omega) ⟨p + 1, 10 * n + (ch s p - 48), by omega, by omega, rfl, ?_, ?_, rfl, rfl⟩
        · have e4 : p + 1 - i = (p - i) + 1 := by omega
          rw [e4, Nat.pow_succ]
          have : (n + 1) * 10 ≤ 10 ^ (p - i) * 10 := Nat.mul_le_mul_right _ hn
          omega
        · rw [hdig]
          have e4 : j - p = (j - (p + 1)) + 1 := by omega
          rw [e4, digN]
      · have hge : p = j := by simp at hlt; omega
        subst hge
        rw [Nat.sub_self, digN] at hdig
        refine s_exit1 ?_
        simp +decide only [p_seq_normal, p_seq_exit, p_block_exit, reduceIte]
        refine s_reg ?_
        simp only [o_pure, o_nil, POp.ev, Opd.ev, gv, setD, List.set, Option.some.injEq, exists_eq_left']
        refine s_ret1 ?_
        simp +decide only [p_fin_ret, resV, resOne, gv, Option.some.injEq, exists_eq_left']
        refine ⟨n, p, w, rfl, by omega, hij, .inr hjs', h1, c1, ?_⟩
        rw [hrun]
        exact ⟨hdig.symm, rfl, rfl⟩
end Go.Proofs.YtooaafekllkpbaaDoor

/- The reader of expressions, specification: bases; no condition beyond stated ranges. -/
namespace Go.Proofs.YtooaafekllkpbaaDoor
open Go.Ab
set_option linter.unusedSimpArgs false
set_option linter.unusedVariables false

/-- what a reading answers -/
def ResP (s : ByteArray) (q : Nat) (d : Int) (B : Nat) (H0 : AHeap) (r : Option (St × V)) (v : Value) (H' : AHeap) : Prop :=
  Chg q H0 H' ∧ ∃ X : V, Good X ∧ SV H' H0.next v X ∧ (match r with
    | some r => X = r.2 ∧ SRd H' q s r.1.i d r.1.most false r.1.large
    | none => ∃ (i' : Nat) (d' m' : Int) (l' : Bool), i' ≤ B ∧ SRd H' q s i' d' m' true l')
def SOk (lim q : Nat) (s : ByteArray) (d : Int) (B : Nat) (f : FuncId) (F : PF) : Prop :=
  ∀ (H : AHeap) (st : St), lim ≤ H.next → q < H.next → st.i ≤ s.size → SRd H q s st.i d st.most false st.large → ACalls Tryd.prog lim f [pt q] H (ResP s q d B H (F st))
theorem SlF.one (H : AHeap) (t : Tm) (lo : Nat) (h : lo ≤ H.next) : SlF (H.alloc (tc t)) lo (.slice (some ⟨H.next, 0, some 0⟩) 1 1) [t] :=
  .inr ⟨H.next, h, Nat.lt_succ_self _, Vec.lit (n := 1) (sz := 4) (by simp [tcs, tc])⟩
theorem int_beq (a b : Nat) : ((a : Int) == (b : Int)) = decide (a = b) := nat_beq a b
theorem int_bne (a b : Nat) : ((a : Int) != (b : Int)) = !decide (a = b) := by rw [bne, nat_beq]

theorem sBase_ok (lim q : Nat) (s : ByteArray) (d : Int) (B0 : Nat) (S : Option PF) (hq : lim ≤ q) (hs : s.size ≤ 100) (hB : s.size ≤ B0 ∧ B0 ≤ 1000) (hd : 0 ≤ d ∧ d ≤ 4)
    (hS : ∀ f, S = some f → d < 4 ∧ Adv s f ∧ SOk lim q s (d + 1) B0 n_spec_txReader_sum f) (hN : S = none → d = 4) : SOk lim q s d (B0 + 1) n_spec_txReader_base (pBase s d S) := by
  intro H st hl hqn hi h
  refine is_spec_txReader_base.go rfl ?_
  unfold c_spec_txReader_base
  refine s_reg ?_
  simp only [o_eff, o_nil, EOp.ev, env0, gu, setD, List.set, Option.some.injEq, exists_eq_left']
  have L1 := Loc.mk' (Chg.refl q H) [.slice none 0 0, .int .i64 0]
  replace h := h.ext (Ext.alloc H [.slice none 0 0, .int .i64 0]) hqn
  generalize H.alloc [.slice none 0 0, .int .i64 0] = H1 at L1 h ⊢
  have hn1 := L1.lt
  generalize hp1 : H.next = p1 at L1 hn1
  have hb := ch_b s st.i
  refine s_reg ?_
  simp only [o_pure, o_callF, POp.ev, Opd.ev, gv, setD, List.map, Option.some.injEq, exists_eq_left']
  refine (sNext_ok _ _ _ _ _ _ _ _ _ h).eq ?_
  simp only [o_cont, o_pure, o_nil, POp.ev, Opd.ev, gv, setD, List.set, Option.some.injEq, exists_eq_left']
  refine s_test_same (decide ((ch s st.i : Int) ≥ 120) && decide ((ch s st.i : Int) ≤ 122)) ?_ (fun hlet => ?_) (fun hlet => ?_)
  · cases h120 : decide ((ch s st.i : Int) ≥ 120)
    · simp only [o_pure, o_guard, gk_ft, o_nil, POp.ev, Opd.ev, gv, setD, Option.some.injEq, exists_eq_left', pickV, binV, ne_eq, not_true_eq_false, if_false, h120]
      simp
    · simp only [o_pure, o_guard, gk_tt, o_nil, POp.ev, Opd.ev, gv, setD, Option.some.injEq, exists_eq_left', pickV, binV, ne_eq, not_true_eq_false, if_false, h120]
      simp
  · have hc : 120 ≤ ch s st.i ∧ ch s st.i ≤ 122 := by simp at hlet; omega
    have hlt := ch_lt (s := s) (i := st.i) (by omega)
    have hP : pBase s d S st = some ({ st with i := st.i + 1 }, ⟨[xk ((ch s st.i : Int) - 120)], 1⟩) := by unfold pBase; rw [if_pos hc]
    obtain ⟨H2, e2, h2, c2⟩ := h.s1 hq ((st.i + 1 : Nat) : Int)
    refine s_reg ?_
    simp only [o_pure, o_eff, o_nil, POp.ev, Opd.ev, EOp.ev, gv, setD, Option.some.injEq, exists_eq_left', binV, load1V, nilchkV, fadV, ne_eq, not_true_eq_false, if_false, Nat.zero_add, h.c1, add1 (i := st.i) (by omega), e2]
    have L2 := L1.step c2 hqn
    have hn2 := c2.next
    have hf : fillV [.int .i64 0, .int .i64 0, .int .i64 0, .int .i64 0] [(0, 1, .int .i64 1)] = some [.int .i64 1, .int .i64 0, .int .i64 0, .int .i64 0] := rfl
    have w1 : IntKind.u8.wrap ((ch s st.i : Int) - 120) = (ch s st.i : Int) - 120 := by rw [IntKind.wrap_u8]; omega
    have w2 : IntKind.i64.wrap ((ch s st.i : Int) - 120) = (ch s st.i : Int) - 120 := by rw [IntKind.wrap_i64]; omega
    refine s_reg ?_
    simp only [o_pure, o_callF, POp.ev, Opd.ev, gv, setD, List.map, Option.map_some, Option.some.injEq, exists_eq_left', binV, convV, ne_eq, not_true_eq_false, if_false, hf, w1, w2]
    refine (poWith_ok lim oneT ((ch s st.i : Int) - 120) 1 _ (by omega)).mono ?_
    rintro _ H3 ⟨rfl, hx3⟩
    have hn3 := hx3.next
    have hbs : ∀ t : Tm, bsliceH H3 1 [.int .i64 0, .int .i64 0, .int .i64 0, .int .i64 0] [(0, 4, tv t)] = some (.slice (some ⟨H3.next, 0, some 0⟩) 1 1, H3.alloc (tc t)) := fun t => rfl
    have hf2 : fillV [.slice none 0 0, .int .i64 0] [(0, 1, .slice (some ⟨H3.next, 0, some 0⟩) 1 1), (1, 1, .int .i64 1)] = some [.slice (some ⟨H3.next, 0, some 0⟩) 1 1, .int .i64 1] := fill2 rfl rfl
    have hF := SlF.one H3 (wi oneT ((ch s st.i : Int) - 120) 1) H3.next (Nat.le_refl _)
    have hx4 := Ext.alloc H3 (tc (wi oneT ((ch s st.i : Int) - 120) 1))
    have L4 := (L2.ext hx3).ext hx4
    have h4 := h2.ext (hx3.trans hx4) (by omega)
    simp only [o_cont, o_pure, o_eff, o_nil, POp.ev, Opd.ev, EOp.ev, gv, setD, List.map, Option.map_some, Option.some.injEq, exists_eq_left', hbs, hf2]
    generalize H3.alloc (tc (wi oneT ((ch s st.i : Int) - 120) 1)) = H4 at hF hx4 L4 h4 ⊢
    generalize Value.slice (some ⟨H3.next, 0, some 0⟩) 1 1 = sl at hF ⊢
    obtain ⟨H5, e5, L5, c5, n5⟩ := L4.put2 hl sl (.int .i64 1)
    simp only [Option.some.injEq, exists_eq_left', e5]
    refine s_ret1 ?_
    simp +decide only [p_seq_ret, p_fin_ret, resV, resOne, gv, Option.some.injEq, exists_eq_left', L5.load2]
    have hge := L4.ge
    have hn4 := hx4.next
    refine ⟨L5.chg, _, single_good (xk_ex ((ch s st.i : Int) - 120)).1 (xk_ex _).2, ⟨sl, rfl, ?_⟩, ?_⟩
    · exact (hF.chg c5 (.inl (by have := L2.lt; omega))).low (by have := L2.lt; omega)
    · rw [hP]
      exact ⟨rfl, h4.over c5 (by omega) (by omega)⟩
  · have hc : ¬ (120 ≤ ch s st.i ∧ ch s st.i ≤ 122) := by simp at hlet; omega
    refine s_skip1 ?_
    simp +decide only [p_seq_normal]
    have e40 : ((ch s st.i : Int) == 40) = decide (ch s st.i = 40) := int_beq _ 40
    refine s_test_same (decide (ch s st.i = 40)) ?_ (fun h40 => ?_) (fun h40 => ?_)
    · simp only [o_pure, o_nil, POp.ev, Opd.ev, gv, setD, Option.some.injEq, exists_eq_left', binV, ne_eq, not_true_eq_false, if_false, e40]
      simp
    · have hc40 : ch s st.i = 40 := by simpa using h40
      have hlt := ch_lt (s := s) (i := st.i) (by omega)
      have hP : pBase s d S st = S.bind fun f => (f { st with i := st.i + 1, most := mx st.most (d + 1) }).bind fun r => if ch s r.1.i = 41 then some ({ r.1 with i := r.1.i + 1 }, r.2) else none := by
        unfold pBase; rw [if_neg hc, if_pos hc40]
      obtain ⟨H2, e2, h2, c2⟩ := h.s1 hq ((st.i + 1 : Nat) : Int)
      obtain ⟨H3, e3, h3, c3⟩ := h2.s2 hq (d + 1)
      obtain ⟨H4, e4, h4, c4⟩ := h3.s3 hq (mx st.most (d + 1))
      have wd : IntKind.i64.wrap (d + 1) = d + 1 := by rw [IntKind.wrap_i64]; omega
      refine s_reg ?_
      simp only [o_pure, o_eff, o_nil, POp.ev, Opd.ev, EOp.ev, gv, setD, Option.some.injEq, exists_eq_left', binV, load1V, nilchkV, fadV, ne_eq, not_true_eq_false, if_false, Nat.zero_add, h.c1, add1 (i := st.i) (by omega), e2]
      refine s_reg ?_
      simp only [o_pure, o_eff, o_nil, POp.ev, Opd.ev, EOp.ev, gv, setD, Option.some.injEq, exists_eq_left', binV, load1V, nilchkV, fadV, ne_eq, not_true_eq_false, if_false, Nat.zero_add, h2.c2, wd, e3]
      refine s_reg ?_
      simp only [o_pure, o_callF, POp.ev, Opd.ev, gv, setD, List.map, Option.some.injEq, exists_eq_left', load1V, nilchkV, fadV, Nat.zero_add, h3.c3, h3.c2]
      refine (l1Most_ok _ _ _ _).eq ?_
      have emx : (if st.most > d + 1 then st.most else d + 1) = mx st.most (d + 1) := rfl
      simp only [o_cont, o_pure, o_eff, o_nil, POp.ev, Opd.ev, EOp.ev, gv, setD, Option.some.injEq, exists_eq_left', nilchkV, fadV, emx, Nat.zero_add, e4]
      have c14 := (c2.trans c3).trans c4
      have L4 := L1.step c14 hqn
      have hn4 := c14.next
      have hge4 := L4.ge
      refine s_test_same (decide (d + 1 > 4)) ?_ (fun hdeep => ?_) (fun hdeep => ?_)
      · simp only [o_pure, o_nil, POp.ev, Opd.ev, gv, setD, Option.some.injEq, exists_eq_left', binV, load1V, nilchkV, fadV, ne_eq, not_true_eq_false, if_false, Nat.zero_add, h4.c2]
        simp
      · have hSn : S = none := by
          cases hSS : S with
          | none => rfl
          | some f => have := (hS f hSS).1; simp at hdeep; omega
        obtain ⟨H5, e5, h5, c5⟩ := h4.s4 hq true
        have hf : fillV [.slice none 0 0, .int .i64 0] [(1, 1, .int .i64 1)] = some [.slice none 0 0, .int .i64 1] := rfl
        obtain ⟨H6, e6, L6, c6, n6⟩ := (L4.step c5 hqn).put2 hl (.slice none 0 0) (.int .i64 1)
        have hn5 := c5.next
        refine s_reg ?_
        simp only [o_pure, o_eff, o_nil, POp.ev, Opd.ev, EOp.ev, gv, setD, Option.some.injEq, exists_eq_left', nilchkV, fadV, Nat.zero_add, e5]
        refine s_reg ?_
        simp only [o_pure, o_eff, o_nil, POp.ev, Opd.ev, EOp.ev, gv, setD, List.map, Option.map_some, Option.some.injEq, exists_eq_left', hf, e6]
        refine s_ret1 ?_
        simp +decide only [p_seq_ret, p_fin_ret, resV, resOne, gv, Option.some.injEq, exists_eq_left', L6.load2]
        refine ⟨L6.chg, zV, zV_good, sv_zero _ _, ?_⟩
        rw [hP, hSn]
        exact ⟨st.i + 1, d + 1, mx st.most (d + 1), st.large, by omega, h5.over c6 (by omega) (by omega)⟩
      · obtain ⟨f, hf⟩ : ∃ f, S = some f := by
          cases hSS : S with
          | none => have := hN hSS; simp at hdeep; omega
          | some f => exact ⟨f, rfl⟩
        obtain ⟨hd4, hadv, hsum⟩ := hS f hf
        subst hf
        simp only [Option.bind_some] at hP
        refine s_skip1 ?_
        simp +decide only [p_seq_normal]
        refine s_reg ?_
        simp only [o_pure, o_callF, POp.ev, Opd.ev, gv, setD, List.map, Option.some.injEq, exists_eq_left']
        refine (hsum H4 { st with i := st.i + 1, most := mx st.most (d + 1) } (by omega) (by omega) hlt h4).mono ?_
        rintro _ H5 ⟨c5, X, gX, ⟨slx, rfl, fX⟩, hr⟩
        have hn5 := c5.next
        obtain ⟨i6, d6, m6, w6, l6, h6, hi6, hm6⟩ : ∃ (i6 : Nat) (d6 m6 : Int) (w6 l6 : Bool), SRd H5 q s i6 d6 m6 w6 l6 ∧ i6 ≤ B0 ∧
            (match f { st with i := st.i + 1, most := mx st.most (d + 1) } with | some r => X = r.2 ∧ w6 = false ∧ i6 = r.1.i ∧ d6 = d + 1 ∧ m6 = r.1.most ∧ l6 = r.1.large | none => w6 = true) := by
          cases hfr : f { st with i := st.i + 1, most := mx st.most (d + 1) } with
          | some r =>
            rw [hfr] at hr
            have := hadv _ _ hfr
            exact ⟨_, _, _, _, _, hr.2, by omega, hr.1, rfl, rfl, rfl, rfl, rfl⟩
          | none =>
            rw [hfr] at hr
            obtain ⟨i', d', m', l', h1, h2⟩ := hr
            exact ⟨_, _, _, _, _, h2, h1, rfl⟩
        clear hr
        simp only [o_cont, o_eff, o_nil, Opd.ev, EOp.ev, gv, setD, List.set, Option.some.injEq, exists_eq_left', store2_new (lim := lim) (H := H5) (by omega)]
        have L5 := L4.step c5 hqn
        have L3 := Loc.mk' L5.chg [slx, .int .i64 X.den]
        have hx6 := Ext.alloc H5 [slx, .int .i64 X.den]
        have hlt5 := L5.lt
        have h7 := h6.ext hx6 (by omega)
        replace L5 := L5.ext hx6
        have fX2 := fX.ext hx6
        generalize H5.alloc [slx, .int .i64 X.den] = H6 at L3 L5 hx6 h7 fX2 ⊢
        generalize H5.next = p3 at L3 hx6 hlt5
        clear fX h6
        have hn6 := hx6.next
        -- closed or not
        refine s_cut (fun e' H' => ∃ w7 : Bool, w7 = (w6 || !decide (ch s i6 = 41)) ∧ SRd H' q s i6 d6 m6 w7 l6 ∧ Loc q H H' p1 [.slice none 0 0, .int .i64 0] ∧ Loc q H H' p3 [slx, .int .i64 X.den] ∧ SlF H' H4.next slx X.ts ∧ H6.next ≤ H'.next ∧ e' = [pt q, pt p1, .int .u8 (ch s st.i), pt p3, undef, undef]) ?_ ?_
        · have e41 : ((ch s i6 : Int) != 41) = !decide (ch s i6 = 41) := int_bne _ 41
          refine s_test1_same (!decide (ch s i6 = 41)) ?_ (fun hne => ?_) (fun hne => ?_)
          · simp only [o_pure, o_callF, POp.ev, Opd.ev, gv, setD, List.map, Option.some.injEq, exists_eq_left']
            refine (sNext_ok _ _ _ _ _ _ _ _ _ h7).eq ?_
            simp only [o_cont, o_pure, o_nil, POp.ev, Opd.ev, gv, setD, Option.some.injEq, exists_eq_left', binV, ne_eq, not_true_eq_false, if_false, e41]
            simp
          · obtain ⟨H8, e8, h8, c8⟩ := h7.s4 hq true
            refine s_reg1 ?_
            simp only [o_pure, o_eff, o_nil, POp.ev, Opd.ev, EOp.ev, gv, setD, Option.some.injEq, exists_eq_left', nilchkV, fadV, Nat.zero_add, e8]
            simp +decide only [p_seq_normal]
            refine ⟨true, by simp [hne], h8, L5.step c8 hqn, L3.step c8 hqn, fX2.chg c8 (.inl (by omega)), c8.next, trivial⟩
          · refine s_skip1 ?_
            simp +decide only [p_seq_normal]
            refine ⟨w6, by simp [hne], h7, L5, L3, fX2, Nat.le_refl _, trivial⟩
        · rintro e' H8 ⟨w7, hw7, h8, L8, L83, fX8, hn8, rfl⟩
          obtain ⟨H9, e9, h9, c9⟩ := h8.s1 hq ((i6 + 1 : Nat) : Int)
          obtain ⟨H10, e10, h10, c10⟩ := h9.s2 hq (IntKind.i64.wrap (d6 - 1))
          refine s_reg ?_
          simp only [o_pure, o_eff, o_nil, POp.ev, Opd.ev, EOp.ev, gv, setD, Option.some.injEq, exists_eq_left', binV, load1V, nilchkV, fadV, ne_eq, not_true_eq_false, if_false, Nat.zero_add, h8.c1, add1 (i := i6) (by omega), e9]
          refine s_reg ?_
          simp only [o_pure, o_eff, o_nil, POp.ev, Opd.ev, EOp.ev, gv, setD, Option.some.injEq, exists_eq_left', binV, load1V, nilchkV, fadV, ne_eq, not_true_eq_false, if_false, Nat.zero_add, h9.c2, e10]
          have c810 := c9.trans c10
          have L10 := L8.step c810 hqn
          have L103 := L83.step c810 hqn
          have hn10 := c810.next
          have hge10 := L10.ge
          obtain ⟨H11, e11, L11, c11, n11⟩ := L10.put2 hl slx (.int .i64 X.den)
          refine s_reg ?_
          simp only [o_pure, o_eff, o_nil, POp.ev, Opd.ev, EOp.ev, gv, setD, Option.some.injEq, exists_eq_left', L103.load2, e11]
          refine s_ret1 ?_
          simp +decide only [p_seq_ret, p_fin_ret, resV, resOne, gv, Option.some.injEq, exists_eq_left', L11.load2]
          have hfin := h10.over c11 (by omega) (by omega)
          refine ⟨L11.chg, X, gX, ⟨slx, rfl, ((fX8.chg c810 (.inl (by omega))).chg c11 (.inl (by omega))).low (by omega)⟩, ?_⟩
          rw [hP]
          cases hfr : f { st with i := st.i + 1, most := mx st.most (d + 1) } with
          | some r =>
            rw [hfr] at hm6
            obtain ⟨m1, rfl, rfl, rfl, rfl, rfl⟩ := hm6
            simp only [Option.bind_some]
            by_cases h41 : ch s r.1.i = 41
            · rw [if_pos h41]
              have wd2 : IntKind.i64.wrap (d + 1 - 1) = d := by rw [IntKind.wrap_i64]; omega
              rw [wd2] at hfin
              rw [hw7] at hfin
              simp only [h41, decide_true, Bool.not_true, Bool.or_false] at hfin
              exact ⟨m1, hfin⟩
            · rw [if_neg h41]
              rw [hw7] at hfin
              simp only [h41, decide_false, Bool.not_false, Bool.or_true] at hfin
              exact ⟨_, _, _, _, by omega, hfin⟩
          | none =>
            rw [hfr] at hm6
            subst hm6
            rw [hw7, Bool.true_or] at hfin
            exact ⟨_, _, _, _, by omega, hfin⟩
    · have hc40 : ¬ ch s st.i = 40 := by simpa using h40
      have hP : pBase s d S st = (pNum s st.i).bind fun a => if ch s a.2 = 47 then (pNum s (a.2 + 1)).bind fun b => if b.1 = 0 then none else some (keepF { st with i := b.2 } (numV a.1 b.1)) else some (keepF { st with i := a.2 } (numV a.1 1)) := by
        unfold pBase; rw [if_neg hc, if_neg hc40]
      refine s_skip1 ?_
      simp +decide only [p_seq_normal]
      refine s_reg ?_
      simp only [o_pure, o_callF, POp.ev, Opd.ev, gv, setD, List.map, Option.some.injEq, exists_eq_left']
      refine (sNumber_ok lim q s st.i d st.most false st.large H1 (by omega) hq (by omega) hs (by omega) h).mono ?_
      rintro _ H2 ⟨n, i2, w2, rfl, hn9, hi2, hi2b, h2, c2, hm2⟩
      have hi2s : i2 ≤ s.size := by rcases hi2b with h | h <;> omega
      have hnx2 := c2.next
      simp only [o_cont, o_pure, o_nil, POp.ev, Opd.ev, gv, setD, List.set, Option.some.injEq, exists_eq_left']
      have e47 : ((ch s i2 : Int) == 47) = decide (ch s i2 = 47) := int_beq _ 47
      refine s_cut (fun e' H' => ∃ (den i3 : Nat) (w3 : Bool), den ≤ 9999 ∧ i3 ≤ s.size ∧ SRd H' q s i3 d st.most w3 st.large ∧ Chg q H1 H' ∧
        (match pNum s st.i with | none => w3 = true | some a => n = a.1 ∧ (if ch s a.2 = 47 then (match pNum s (a.2 + 1) with | none => w3 = true | some b => den = b.1 ∧ i3 = b.2 ∧ w3 = false) else den = 1 ∧ i3 = a.2 ∧ w3 = false)) ∧
        e' = [pt q, pt p1, .int .u8 (ch s st.i), undef, .int .i64 n, .int .i64 den]) ?_ ?_
      · refine s_test1_same (decide (ch s i2 = 47)) ?_ (fun h47 => ?_) (fun h47 => ?_)
        · simp only [o_pure, o_callF, POp.ev, Opd.ev, gv, setD, List.map, Option.some.injEq, exists_eq_left']
          refine (sNext_ok _ _ _ _ _ _ _ _ _ h2).eq ?_
          simp only [o_cont, o_pure, o_nil, POp.ev, Opd.ev, gv, setD, Option.some.injEq, exists_eq_left', binV, ne_eq, not_true_eq_false, if_false, e47]
          simp
        · have h47' : ch s i2 = 47 := by simpa using h47
          have hlt2 := ch_lt (s := s) (i := i2) (by omega)
          obtain ⟨H3, e3, h3, c3⟩ := h2.s1 hq ((i2 + 1 : Nat) : Int)
          have hnx3 := c3.next
          refine s_reg ?_
          simp only [o_pure, o_eff, o_nil, POp.ev, Opd.ev, EOp.ev, gv, setD, Option.some.injEq, exists_eq_left', binV, load1V, nilchkV, fadV, ne_eq, not_true_eq_false, if_false, Nat.zero_add, h2.c1, add1 (i := i2) (by omega), e3]
          refine s_reg1 ?_
          simp only [o_pure, o_callF, POp.ev, Opd.ev, gv, setD, List.map, Option.some.injEq, exists_eq_left']
          refine (sNumber_ok lim q s (i2 + 1) d st.most w2 st.large H3 (by omega) hq (by omega) hs (by omega) h3).mono ?_
          rintro _ H4 ⟨n4, i4, w4, rfl, hn4, hi4, hi4b, h4, c4, hm4⟩
          simp only [o_cont, o_pure, o_nil, POp.ev, Opd.ev, gv, setD, List.set, Option.some.injEq, exists_eq_left']
          simp +decide only [p_seq_normal]
          refine ⟨n4, i4, w4, hn4, by rcases hi4b with h | h <;> omega, h4, (c2.trans c3).trans c4, ?_, rfl⟩
          cases hpn : pNum s st.i with
          | none =>
            rw [hpn] at hm2
            simp only at hm2 ⊢
            cases hp4 : pNum s (i2 + 1) with
            | none => rw [hp4] at hm4; exact hm4
            | some r => rw [hp4] at hm4; rw [hm4.2.2, hm2]
          | some a =>
            rw [hpn] at hm2
            obtain ⟨m1, rfl, m3⟩ := hm2
            refine ⟨m1, ?_⟩
            rw [if_pos h47']
            cases hp4 : pNum s (a.2 + 1) with
            | none => rw [hp4] at hm4; exact hm4
            | some r => rw [hp4] at hm4; exact ⟨hm4.1, hm4.2.1, by rw [hm4.2.2, m3]⟩
        · have h47' : ¬ ch s i2 = 47 := by simpa using h47
          refine s_skip1 ?_
          simp +decide only [p_seq_normal]
          refine ⟨1, i2, w2, by omega, hi2s, h2, c2, ?_, rfl⟩
          cases hpn : pNum s st.i with
          | none => rw [hpn] at hm2; exact hm2
          | some a =>
            rw [hpn] at hm2
            obtain ⟨m1, rfl, m3⟩ := hm2
            refine ⟨m1, ?_⟩
            rw [if_neg h47']
            exact ⟨rfl, rfl, m3⟩
      · clear hm2 hi2b h2 c2 hnx2
        rintro e' H3 ⟨den, i3, w3, hden, hi3, h3, c3, hm3, rfl⟩
        refine s_cut (fun e' H' => ∃ (den4 : Nat) (w4 : Bool), (1 ≤ den4 ∧ den4 ≤ 9999) ∧ SRd H' q s i3 d st.most w4 st.large ∧ Chg q H1 H' ∧ ((w4 = true ∧ pBase s d S st = none) ∨ (w4 = false ∧ pBase s d S st = some (keepF { st with i := i3 } (numV n den4)))) ∧
          e' = [pt q, pt p1, .int .u8 (ch s st.i), undef, .int .i64 n, .int .i64 den4]) ?_ ?_
        · have e0 : ((den : Int) == 0) = decide (den = 0) := int_beq _ 0
          refine s_test1_same (decide (den = 0)) ?_ (fun h0 => ?_) (fun h0 => ?_)
          · simp only [o_pure, o_nil, POp.ev, Opd.ev, gv, setD, Option.some.injEq, exists_eq_left', binV, ne_eq, not_true_eq_false, if_false, e0]
            simp
          · have h0' : den = 0 := by simpa using h0
            obtain ⟨H4, e4, h4, c4⟩ := h3.s4 hq true
            refine s_reg ?_
            simp only [o_pure, o_eff, o_nil, POp.ev, Opd.ev, EOp.ev, gv, setD, Option.some.injEq, exists_eq_left', nilchkV, fadV, Nat.zero_add, e4]
            refine s_reg1 ?_
            simp only [o_pure, o_nil, POp.ev, Opd.ev, setD, List.set, Option.some.injEq, exists_eq_left']
            simp +decide only [p_seq_normal]
            refine ⟨1, true, by omega, h4, c3.trans c4, .inl ⟨rfl, ?_⟩, rfl⟩
            rw [hP]
            cases hpn : pNum s st.i with
            | none => rfl
            | some a =>
              rw [hpn] at hm3
              simp only [Option.bind_some]
              obtain ⟨m1, m2⟩ := hm3
              by_cases h47 : ch s a.2 = 47
              · rw [if_pos h47] at m2 ⊢
                cases hp4 : pNum s (a.2 + 1) with
                | none => rfl
                | some b =>
                  rw [hp4] at m2
                  simp only [Option.bind_some]
                  rw [if_pos (by omega)]
              · rw [if_neg h47] at m2
                omega
          · have h0' : ¬ den = 0 := by simpa using h0
            refine s_skip1 ?_
            simp +decide only [p_seq_normal]
            refine ⟨den, w3, by omega, h3, c3, ?_, rfl⟩
            rw [hP]
            cases hpn : pNum s st.i with
            | none => rw [hpn] at hm3; exact .inl ⟨hm3, rfl⟩
            | some a =>
              rw [hpn] at hm3
              simp only [Option.bind_some]
              obtain ⟨m1, m2⟩ := hm3
              by_cases h47 : ch s a.2 = 47
              · rw [if_pos h47] at m2 ⊢
                cases hp4 : pNum s (a.2 + 1) with
                | none => rw [hp4] at m2; exact .inl ⟨m2, rfl⟩
                | some b =>
                  rw [hp4] at m2
                  obtain ⟨rfl, rfl, m5⟩ := m2
                  simp only [Option.bind_some]
                  rw [if_neg h0', m1]
                  exact .inr ⟨m5, rfl⟩
              · rw [if_neg h47] at m2 ⊢
                obtain ⟨rfl, rfl, m5⟩ := m2
                rw [m1]
                exact .inr ⟨m5, rfl⟩
        · clear hm3 h3 c3
          rintro e' H4 ⟨den4, w4, hden4, h4, c4, hfin, rfl⟩
          have L4 := L1.step c4 hqn
          have hn4 := c4.next
          have hge4 := L4.ge
          have e0 : ((n : Int) == 0) = decide (n = 0) := int_beq _ 0
          refine s_test_same (decide (n = 0)) ?_ (fun h0 => ?_) (fun h0 => ?_)
          · simp only [o_pure, o_nil, POp.ev, Opd.ev, gv, setD, Option.some.injEq, exists_eq_left', binV, ne_eq, not_true_eq_false, if_false, e0]
            simp
          · have h0' : n = 0 := by simpa using h0
            have hf : fillV [.slice none 0 0, .int .i64 0] [(1, 1, .int .i64 1)] = some [.slice none 0 0, .int .i64 1] := rfl
            obtain ⟨H6, e6, L6, c6, n6⟩ := L4.put2 hl (.slice none 0 0) (.int .i64 1)
            refine s_reg ?_
            simp only [o_pure, o_eff, o_nil, POp.ev, Opd.ev, EOp.ev, gv, setD, List.map, Option.map_some, Option.some.injEq, exists_eq_left', hf, e6]
            refine s_ret1 ?_
            simp +decide only [p_seq_ret, p_fin_ret, resV, resOne, gv, Option.some.injEq, exists_eq_left', L6.load2]
            have h6 := h4.over c6 (by omega) (by omega)
            refine ⟨L6.chg, zV, zV_good, sv_zero _ _, ?_⟩
            rcases hfin with ⟨rfl, hf1⟩ | ⟨rfl, hf1⟩
            · rw [hf1]
              exact ⟨_, _, _, _, by omega, h6⟩
            · rw [hf1, show numV n den4 = some zV by unfold numV; rw [if_pos h0']]
              exact ⟨rfl, h6⟩
          · have h0' : ¬ n = 0 := by simpa using h0
            have hnv : numV n den4 = mkV [⟨n, 0, 0, 0⟩] den4 := by unfold numV; rw [if_neg h0']
            have hf : fillV [.int .i64 0, .int .i64 0, .int .i64 0, .int .i64 0] [(0, 1, .int .i64 n)] = some [.int .i64 n, .int .i64 0, .int .i64 0, .int .i64 0] := rfl
            have hbs : bsliceH H4 1 [.int .i64 0, .int .i64 0, .int .i64 0, .int .i64 0] [(0, 4, .agg #[.int .i64 n, .int .i64 0, .int .i64 0, .int .i64 0])] = some (.slice (some ⟨H4.next, 0, some 0⟩) 1 1, H4.alloc (tc ⟨n, 0, 0, 0⟩)) := rfl
            have hF := SlF.one H4 ⟨n, 0, 0, 0⟩ H4.next (Nat.le_refl _)
            have hx5 := Ext.alloc H4 (tc ⟨n, 0, 0, 0⟩)
            refine s_skip1 ?_
            simp +decide only [p_seq_normal]
            refine s_reg ?_
            simp only [o_pure, o_eff, o_callF, POp.ev, Opd.ev, EOp.ev, gv, setD, List.map, Option.map_some, Option.some.injEq, exists_eq_left', hf, hbs]
            generalize H4.alloc (tc ⟨n, 0, 0, 0⟩) = H5 at hF hx5 ⊢
            generalize Value.slice (some ⟨H4.next, 0, some 0⟩) 1 1 = sl at hF ⊢
            have hn5 := hx5.next
            refine (txMake_ok lim sl [⟨n, 0, 0, 0⟩] den4 H5 (by omega) hF.sl (by simp) (by omega) (fun t ht => by
              rw [List.mem_singleton.1 ht]
              simp only [bnC, exS]
              omega)).mono ?_
            rintro _ H6 ⟨⟨sl2, den2, ok, rfl, hmk⟩, hx6⟩
            have hn6 := hx6.next
            have h6 := h4.ext (hx5.trans hx6) (by omega)
            have L6 := (L4.ext hx5).ext hx6
            simp only [o_cont, o_pure, o_callF, POp.ev, Opd.ev, gv, setD, List.map, Option.some.injEq, exists_eq_left', extV, List.getElem?_toArray, List.getElem?_cons_zero, List.getElem?_cons_succ]
            refine (sKeep_ok lim q s i3 d st.most w4 st.large ok sl2 den2 H6 hq (by omega) (by omega) h6).mono ?_
            rintro _ H7 ⟨rfl, h7, c7⟩
            have hn7 := c7.next
            obtain ⟨H8, e8, L8, c8, n8⟩ := (L6.step c7 hqn).put2 hl (if ok then sl2 else .slice none 0 0) (.int .i64 (if ok then den2 else 1))
            simp only [o_cont, o_eff, o_nil, Opd.ev, EOp.ev, gv, setD, Option.some.injEq, exists_eq_left', e8]
            refine s_ret1 ?_
            simp +decide only [p_fin_ret, resV, resOne, gv, Option.some.injEq, exists_eq_left', L8.load2]
            have h8 := h7.over c8 (by omega) (by omega)
            have hlt6 := L6.lt
            rw [← hnv] at hmk
            cases hnm : numV n den4 with
            | none =>
              rw [hnm] at hmk hfin
              subst hmk
              refine ⟨L8.chg, zV, zV_good, ⟨_, rfl, SlF.nil _ _⟩, ?_⟩
              rcases hfin with ⟨rfl, hf1⟩ | ⟨rfl, hf1⟩
              · rw [hf1]
                exact ⟨_, _, _, _, by omega, h8⟩
              · rw [hf1]
                simp only [Bool.not_false, Bool.or_true] at h8
                exact ⟨rfl, h8⟩
            | some Y =>
              rw [hnm] at hmk hfin
              obtain ⟨rfl, rfl, fY⟩ := hmk
              have gY := numV_good hn9 (by omega) hnm
              refine ⟨L8.chg, Y, gY, ⟨_, rfl, ((((fY.chg c7 (.inl (by omega))).chg c8 (.inl (by omega)))).low (by omega))⟩, ?_⟩
              rcases hfin with ⟨rfl, hf1⟩ | ⟨rfl, hf1⟩
              · rw [hf1]
                exact ⟨_, _, _, _, by omega, h8⟩
              · rw [hf1]
                simp only [Bool.not_true, Bool.or_false] at h8
                exact ⟨rfl, h8⟩
end Go.Proofs.YtooaafekllkpbaaDoor

/- The reader of expressions, specification: factors and products; no condition beyond stated ranges. -/
namespace Go.Proofs.YtooaafekllkpbaaDoor
open Go.Ab
set_option linter.unusedSimpArgs false
set_option linter.unusedVariables false

/-- a slice of terms whose block is not older than lo and none of some -/
def Held (H : AHeap) (lo : Nat) (L : List Nat) (sl : Value) (ts : List Tm) : Prop := (sl = .slice none 0 0 ∧ ts = []) ∨ ∃ b, lo ≤ b ∧ b < H.next ∧ b ∉ L ∧ VecT H b sl ts
theorem SlF.held {H : AHeap} {lo : Nat} {sl : Value} {ts : List Tm} (h : SlF H lo sl ts) (L : List Nat) (hL : ∀ p ∈ L, p < lo ∨ H.next ≤ p) : Held H lo L sl ts :=
  h.imp id fun ⟨b, h1, h2, h3⟩ => ⟨b, h1, h2, fun hm => by have := hL b hm; omega, h3⟩
theorem Held.slf {H : AHeap} {lo : Nat} {L : List Nat} {sl : Value} {ts : List Tm} (h : Held H lo L sl ts) : SlF H lo sl ts := h.imp id fun ⟨b, h1, h2, _, h3⟩ => ⟨b, h1, h2, h3⟩
theorem Held.chg {H H' : AHeap} {lo p : Nat} {L : List Nat} {sl : Value} {ts : List Tm} (h : Held H lo L sl ts) (hx : Chg p H H') (hp : p ∈ L ∨ p < lo) : Held H' lo L sl ts :=
  h.imp id fun ⟨b, h1, h2, h3, h4⟩ => ⟨b, h1, Nat.lt_of_lt_of_le h2 hx.next, h3, VecT.chg h4 hx (by rintro rfl; rcases hp with h | h; exact h3 h; omega)⟩
theorem Held.ext {H H' : AHeap} {lo : Nat} {L : List Nat} {sl : Value} {ts : List Tm} (h : Held H lo L sl ts) (hx : Ext H H') : Held H' lo L sl ts :=
  h.imp id fun ⟨b, h1, h2, h3, h4⟩ => ⟨b, h1, Nat.lt_of_lt_of_le h2 hx.next, h3, VecT.ext h4 hx⟩
theorem Held.more {H : AHeap} {lo : Nat} {L : List Nat} {sl : Value} {ts : List Tm} (h : Held H lo L sl ts) {p : Nat} (hp : H.next ≤ p) : Held H lo (p :: L) sl ts :=
  h.imp id fun ⟨b, h1, h2, h3, h4⟩ => ⟨b, h1, h2, by simp only [List.mem_cons, not_or]; exact ⟨by omega, h3⟩, h4⟩
theorem Held.sl {H : AHeap} {lo : Nat} {L : List Nat} {sl : Value} {ts : List Tm} (h : Held H lo L sl ts) : SlT H sl ts := h.slf.sl

/-- the reader behind a reading -/
theorem ResP.cases {s : ByteArray} {q : Nat} {d : Int} {B : Nat} {H0 H' : AHeap} {F : PF} {st : St} {v : Value} (hadv : Adv s F) (hB : s.size ≤ B) (h : ResP s q d B H0 (F st) v H') :
    Chg q H0 H' ∧ ∃ (X : V) (sl : Value) (i6 : Nat) (d6 m6 : Int) (w6 l6 : Bool), v = .agg #[sl, .int .i64 X.den] ∧ Good X ∧ SlF H' H0.next sl X.ts ∧ SRd H' q s i6 d6 m6 w6 l6 ∧ i6 ≤ B ∧
      ((w6 = true ∧ F st = none) ∨ (w6 = false ∧ d6 = d ∧ st.i < i6 ∧ i6 ≤ s.size ∧ F st = some (⟨i6, m6, l6⟩, X))) := by
  obtain ⟨c, X, gX, ⟨sl, rfl, fX⟩, hr⟩ := h
  refine ⟨c, X, sl, ?_⟩
  cases hf : F st with
  | none =>
    rw [hf] at hr
    obtain ⟨i', d', m', l', h1, h2⟩ := hr
    exact ⟨i', d', m', true, l', rfl, gX, fX, h2, h1, .inl ⟨rfl, rfl⟩⟩
  | some r =>
    rw [hf] at hr
    obtain ⟨rfl, h2⟩ := hr
    obtain ⟨a1, a2, _⟩ := hadv _ _ hf
    exact ⟨r.1.i, d, r.1.most, false, r.1.large, rfl, gX, fX, h2, by omega, .inr ⟨rfl, rfl, a1, a2, rfl⟩⟩

theorem sFactor_ok (lim q : Nat) (s : ByteArray) (d : Int) (B : Nat) (F : PF) (hq : lim ≤ q) (hs : s.size ≤ 100) (hB : s.size + 1 ≤ B ∧ B ≤ 1000) (hadv : Adv s F) (hF : SOk lim q s d B n_spec_txReader_base F) :
    SOk lim q s d B n_spec_txReader_factor (pFactor s F) := by
  intro H st hl hqn hi h
  refine is_spec_txReader_factor.go rfl ?_
  unfold c_spec_txReader_factor
  refine s_reg ?_
  simp only [o_eff, o_nil, EOp.ev, env0, gu, setD, List.set, Option.some.injEq, exists_eq_left']
  have L1 := Loc.mk' (Chg.refl q H) [.slice none 0 0, .int .i64 0]
  replace h := h.ext (Ext.alloc H [.slice none 0 0, .int .i64 0]) hqn
  generalize H.alloc [.slice none 0 0, .int .i64 0] = H1 at L1 h ⊢
  have hn1 := L1.lt
  generalize hp1 : H.next = p1 at L1 hn1
  refine s_reg ?_
  simp only [o_pure, o_callF, POp.ev, Opd.ev, gv, setD, List.map, Option.some.injEq, exists_eq_left']
  refine (hF H1 st (by omega) (by omega) hi h).mono ?_
  intro v H2 hr
  obtain ⟨c2, X, slx, i6, d6, m6, w6, l6, rfl, gX, fX, h2, hi6, hcase⟩ := ResP.cases hadv (by omega) hr
  clear hr h
  have hn2 := c2.next
  simp only [o_cont, o_eff, o_nil, Opd.ev, EOp.ev, gv, setD, List.set, Option.some.injEq, exists_eq_left', store2_new (lim := lim) (H := H2) (by omega)]
  replace L1 := L1.step c2 hqn
  have L2 := Loc.mk' L1.chg [slx, .int .i64 X.den]
  have hlt1 := L1.lt
  have hx3 := Ext.alloc H2 [slx, .int .i64 X.den]
  replace L1 := L1.ext hx3
  replace h2 := h2.ext hx3 (by omega)
  have fX2 := (fX.held [] (by simp)).more (Nat.le_refl H2.next)
  replace fX2 := fX2.ext hx3
  generalize H2.alloc [slx, .int .i64 X.den] = H3 at L1 L2 hx3 h2 fX2 ⊢
  have hn3 := hx3.next
  generalize H2.next = p2 at L2 hx3 fX2 hlt1 hn3 hn2
  clear fX
  have hlt2 := L2.lt
  have hge2 := L2.ge
  have hge1 := L1.ge
  have e94 : ((ch s i6 : Int) != 94) = !decide (ch s i6 = 94) := int_bne _ 94
  refine s_test_same (!decide (ch s i6 = 94)) ?_ (fun hne => ?_) (fun hne => ?_)
  · simp only [o_pure, o_callF, POp.ev, Opd.ev, gv, setD, List.map, Option.some.injEq, exists_eq_left']
    refine (sNext_ok _ _ _ _ _ _ _ _ _ h2).eq ?_
    simp only [o_cont, o_pure, o_nil, POp.ev, Opd.ev, gv, setD, Option.some.injEq, exists_eq_left', binV, ne_eq, not_true_eq_false, if_false, e94]
    simp
  · have h94 : ¬ ch s i6 = 94 := by simpa using hne
    obtain ⟨H4, e4, L4, c4, n4⟩ := L1.put2 hl slx (.int .i64 X.den)
    refine s_reg ?_
    simp only [o_pure, o_eff, o_nil, POp.ev, Opd.ev, EOp.ev, gv, setD, Option.some.injEq, exists_eq_left', L2.load2, e4]
    refine s_ret1 ?_
    simp +decide only [p_seq_ret, p_fin_ret, resV, resOne, gv, Option.some.injEq, exists_eq_left', L4.load2]
    have h4 := h2.over c4 (by omega) (by omega)
    refine ⟨L4.chg, X, gX, ⟨slx, rfl, (fX2.chg c4 (.inr (by omega))).slf.low (by omega)⟩, ?_⟩
    unfold pFactor
    rcases hcase with ⟨rfl, hn⟩ | ⟨rfl, rfl, _, _, hsm⟩
    · rw [hn]
      exact ⟨_, _, _, _, hi6, h4⟩
    · rw [hsm]
      simp only [Option.bind_some]
      rw [if_neg h94]
      exact ⟨rfl, h4⟩
  · have h94 : ch s i6 = 94 := by simpa using hne
    have hlt6 := ch_lt (s := s) (i := i6) (by omega)
    obtain ⟨H4, e4, h4, c4⟩ := h2.s1 hq ((i6 + 1 : Nat) : Int)
    refine s_skip1 ?_
    simp +decide only [p_seq_normal]
    refine s_reg ?_
    simp only [o_pure, o_eff, o_nil, POp.ev, Opd.ev, EOp.ev, gv, setD, Option.some.injEq, exists_eq_left', binV, load1V, nilchkV, fadV, ne_eq, not_true_eq_false, if_false, Nat.zero_add, h2.c1, add1 (i := i6) (by omega), e4]
    have hcb := ch_b s (i6 + 1)
    have w1 : IntKind.i64.wrap (ch s (i6 + 1) : Int) = (ch s (i6 + 1) : Int) := by rw [IntKind.wrap_i64]; omega
    have w2 : IntKind.i64.wrap ((ch s (i6 + 1) : Int) - 48) = (ch s (i6 + 1) : Int) - 48 := by rw [IntKind.wrap_i64]; omega
    refine s_reg ?_
    simp only [o_pure, o_callF, POp.ev, Opd.ev, gv, setD, List.map, Option.some.injEq, exists_eq_left']
    refine (sNext_ok _ _ _ _ _ _ _ _ _ h4).eq ?_
    simp only [o_cont, o_pure, o_nil, POp.ev, Opd.ev, gv, setD, List.set, Option.some.injEq, exists_eq_left', binV, convV, ne_eq, not_true_eq_false, if_false, w1, w2]
    obtain ⟨H5, e5, h5, c5⟩ := h4.s1 hq ((i6 + 2 : Nat) : Int)
    refine s_reg ?_
    simp only [o_pure, o_eff, o_nil, POp.ev, Opd.ev, EOp.ev, gv, setD, Option.some.injEq, exists_eq_left', binV, load1V, nilchkV, fadV, ne_eq, not_true_eq_false, if_false, Nat.zero_add, h4.c1, add1 (i := i6 + 1) (by omega), e5]
    have c35 := c4.trans c5
    replace L1 := L1.step c35 hqn
    replace L2 := L2.step c35 hqn
    replace fX2 := fX2.chg c35 (.inr (by omega))
    have hn5 := c35.next
    clear h4 c4 c5 h2 e4 e5
    refine s_test_same (!(decide ((0 : Int) ≤ (ch s (i6 + 1) : Int) - 48) && decide ((ch s (i6 + 1) : Int) - 48 ≤ 4))) ?_ (fun hbad => ?_) (fun hgood => ?_)
    · simp only [o_pure, o_callF, POp.ev, Opd.ev, gv, setD, List.map, Option.some.injEq, exists_eq_left']
      refine (l1In_ok _ _ _ _ _).eq ?_
      simp only [o_cont, o_pure, o_nil, POp.ev, Opd.ev, gv, setD, Option.some.injEq, exists_eq_left', unV]
      simp
    · obtain ⟨H6, e6, h6, c6⟩ := h5.s4 hq true
      have L16 := L1.step c6 hqn
      have L26 := L2.step c6 hqn
      have hn6 := c6.next
      obtain ⟨H7, e7, L7, c7, n7⟩ := L16.put2 hl slx (.int .i64 X.den)
      refine s_reg ?_
      simp only [o_pure, o_eff, o_nil, POp.ev, Opd.ev, EOp.ev, gv, setD, Option.some.injEq, exists_eq_left', nilchkV, fadV, Nat.zero_add, e6]
      refine s_reg ?_
      simp only [o_pure, o_eff, o_nil, POp.ev, Opd.ev, EOp.ev, gv, setD, Option.some.injEq, exists_eq_left', L26.load2, e7]
      refine s_ret1 ?_
      simp +decide only [p_seq_ret, p_fin_ret, resV, resOne, gv, Option.some.injEq, exists_eq_left', L7.load2]
      have h7 := h6.over c7 (by omega) (by omega)
      refine ⟨L7.chg, X, gX, ⟨slx, rfl, ((fX2.chg c6 (.inr (by omega))).chg c7 (.inr (by omega))).slf.low (by omega)⟩, ?_⟩
      unfold pFactor
      rcases hcase with ⟨rfl, hn⟩ | ⟨rfl, rfl, _, _, hsm⟩
      · rw [hn]
        exact ⟨_, _, _, _, by omega, h7⟩
      · rw [hsm]
        simp only [Option.bind_some]
        rw [if_pos h94, if_neg (by simp at hbad; omega)]
        exact ⟨_, _, _, _, by omega, h7⟩
    · have hc4 : 48 ≤ ch s (i6 + 1) ∧ ch s (i6 + 1) ≤ 52 := by simp at hgood; omega
      obtain ⟨n0, hn0⟩ : ∃ n0 : Nat, n0 = ch s (i6 + 1) - 48 := ⟨_, rfl⟩
      have ecn : (ch s (i6 + 1) : Int) - 48 = (n0 : Int) := by omega
      rw [ecn]
      have hf : fillV [.int .i64 0, .int .i64 0, .int .i64 0, .int .i64 0] [(0, 1, .int .i64 1)] = some [.int .i64 1, .int .i64 0, .int .i64 0, .int .i64 0] := rfl
      have hbs : bsliceH H5 1 [.int .i64 0, .int .i64 0, .int .i64 0, .int .i64 0] [(0, 4, .agg #[.int .i64 1, .int .i64 0, .int .i64 0, .int .i64 0])] = some (.slice (some ⟨H5.next, 0, some 0⟩) 1 1, H5.alloc (tc oneT)) := rfl
      have hF1 := SlF.one H5 oneT H5.next (Nat.le_refl _)
      have hx6 := Ext.alloc H5 (tc oneT)
      have hf2 : fillV [.slice none 0 0, .int .i64 0] [(0, 1, .slice (some ⟨H5.next, 0, some 0⟩) 1 1), (1, 1, .int .i64 1)] = some [.slice (some ⟨H5.next, 0, some 0⟩) 1 1, .int .i64 1] := fill2 rfl rfl
      refine s_skip1 ?_
      simp +decide only [p_seq_normal]
      refine s_reg ?_
      simp only [o_pure, o_eff, o_nil, POp.ev, Opd.ev, EOp.ev, gv, setD, List.set, List.map, Option.map_some, Option.some.injEq, exists_eq_left', hf, hbs, hf2]
      generalize H5.alloc (tc oneT) = H6 at hF1 hx6 ⊢
      generalize Value.slice (some ⟨H5.next, 0, some 0⟩) 1 1 = so at hF1 ⊢
      have hn6 := hx6.next
      simp only [Option.some.injEq, exists_eq_left', store2_new (lim := lim) (H := H6) (by omega)]
      replace L1 := L1.ext hx6
      replace L2 := L2.ext hx6
      replace fX2 := (fX2.ext hx6).more (Nat.le_refl H6.next)
      replace hF1 := (hF1.held [p1] (by simp; omega)).more (Nat.le_refl H6.next)
      replace h5 := h5.ext hx6 (by omega)
      have L4 := Loc.mk' L1.chg [so, .int .i64 1]
      have hx7 := Ext.alloc H6 [so, .int .i64 1]
      have hne14 : p1 < H6.next := L1.lt
      have hne24 : p2 < H6.next := L2.lt
      replace L1 := L1.ext hx7
      replace L2 := L2.ext hx7
      replace fX2 := fX2.ext hx7
      replace hF1 := hF1.ext hx7
      replace h5 := h5.ext hx7 (by omega)
      generalize H6.alloc [so, .int .i64 1] = H7 at L1 L2 L4 hx7 fX2 hF1 h5 ⊢
      have hn7 := hx7.next
      generalize H6.next = p4 at L4 fX2 hF1 hne14 hne24 hn7 hn6 hx7
      clear hx7 hx6
      -- the rounds
      refine s_block ?_
      refine s_loop1 (fun k e' H' => ∃ (su : Value) (U : V) (l' : Bool), Good U ∧ powP k ⟨i6 + 2, m6, l'⟩ U X = powP n0 ⟨i6 + 2, m6, l6⟩ oneV X ∧ Held H' H.next [p4, p1] su U.ts ∧ Held H' H.next [p4, p2] slx X.ts ∧ Loc q H H' p1 [.slice none 0 0, .int .i64 0] ∧ Loc q H H' p2 [slx, .int .i64 X.den] ∧ Loc q H H' p4 [su, .int .i64 U.den] ∧ SRd H' q s ((i6 + 2 : Nat) : Int) d6 m6 w6 l' ∧ k ≤ n0 ∧
        e' = [pt q, pt p1, pt p2, .int .i64 k, pt p4]) n0 ⟨so, oneV, l6, oneV_good, rfl, ?_, ?_, L1, L2, L4, h5, Nat.le_refl _, rfl⟩ ?_
      · exact hF1.imp id fun ⟨b, g1, g2, g3, g4⟩ => ⟨b, by omega, g2, g3, g4⟩
      · exact fX2.imp id fun ⟨b, g1, g2, g3, g4⟩ => ⟨b, by omega, g2, g3, g4⟩
      clear hF1 fX2 L1 L2 L4 h5
      rintro k e' H8 ⟨su, U, l', gU, hpow, hU, hX, L1, L2, L4, h8, hk, rfl⟩
      have hn8 := L1.chg.next
      have hlt8 := L4.lt
      refine s_test ?_
      simp only [o_pure, o_nil, POp.ev, Opd.ev, gv, setD, Option.some.injEq, exists_eq_left', binV, ne_eq, not_true_eq_false, if_false]
      refine Test.split (fun hgt => ?_) (fun hgt => ?_)
      · obtain ⟨k, rfl⟩ : ∃ k', k = k' + 1 := ⟨k - 1, by simp at hgt; omega⟩
        refine s_skip1 ?_
        simp +decide only [p_seq_normal]
        refine s_block ?_
        refine s_reg1 ?_
        simp only [o_pure, o_callF, POp.ev, Opd.ev, gv, setD, List.map, Option.some.injEq, exists_eq_left', L4.load2, L2.load2]
        refine (txMul_ok lim su slx U X H8 (by omega) hU.sl hX.sl gU gX).mono ?_
        rintro _ H9 ⟨⟨sl2, den2, ok, rfl, hmk⟩, hx9⟩
        have hn9 := hx9.next
        simp only [o_cont, o_pure, o_callF, POp.ev, Opd.ev, gv, setD, List.map, Option.some.injEq, exists_eq_left', extV, List.getElem?_toArray, List.getElem?_cons_zero, List.getElem?_cons_succ]
        refine (sKeep_ok lim q s ((i6 + 2 : Nat) : Int) d6 m6 w6 l' ok sl2 den2 H9 hq (by omega) (by omega) (h8.ext hx9 (by omega))).mono ?_
        rintro _ H10 ⟨rfl, h10, c10⟩
        have hn10 := c10.next
        obtain ⟨H11, e11, L11, c11, n11⟩ := ((L4.ext hx9).step c10 hqn).put2 hl (if ok then sl2 else .slice none 0 0) (.int .i64 (if ok then den2 else 1))
        simp only [o_cont, o_eff, o_nil, Opd.ev, EOp.ev, gv, setD, Option.some.injEq, exists_eq_left', e11]
        simp +decide only [p_seq_normal, p_block_normal]
        have wk : IntKind.i64.wrap (((k + 1 : Nat) : Int) - 1) = (k : Int) := by rw [IntKind.wrap_i64]; omega
        refine s_reg1 ?_
        simp only [o_pure, o_nil, POp.ev, Opd.ev, gv, setD, List.set, Option.some.injEq, exists_eq_left', binV, ne_eq, not_true_eq_false, if_false, wk]
        simp +decide only [p_seq_normal]
        have hge4 := L4.ge
        have hX' := ((hX.ext hx9).chg c10 (.inr (by omega))).chg c11 (.inl (by simp))
        have L1' := ((L1.ext hx9).step c10 hqn).other c11 (by omega) hge4
        have L2' := ((L2.ext hx9).step c10 hqn).other c11 (by omega) hge4
        have h11 := h10.over c11 (by omega) (by omega)
        have hp : powP (k + 1) ⟨i6 + 2, m6, l'⟩ U X = powP k (keepF ⟨i6 + 2, m6, l'⟩ (mulV U X)).1 (keepF ⟨i6 + 2, m6, l'⟩ (mulV U X)).2 X := rfl
        rw [hp] at hpow
        cases hmv : mulV U X with
        | none =>
          rw [hmv] at hmk hpow
          subst hmk
          simp only [Bool.not_false, Bool.or_true] at h11
          exact Round.mk k (by omega) ⟨_, zV, true, zV_good, hpow, .inl ⟨rfl, rfl⟩, hX', L1', L2', L11, h11, by omega, rfl⟩
        | some Y =>
          rw [hmv] at hmk hpow
          obtain ⟨rfl, rfl, fY⟩ := hmk
          simp only [Bool.not_true, Bool.or_false] at h11
          have hY := (((fY.held [p4, p1] (by simp; omega)).chg c10 (.inr (by omega))).chg c11 (.inl (by simp)))
          exact Round.mk k (by omega) ⟨_, Y, l', mulV_good gU gX hmv, hpow, hY.imp id fun ⟨b, g1, g2, g3, g4⟩ => ⟨b, by omega, g2, g3, g4⟩, hX', L1', L2', L11, h11, by omega, rfl⟩
      · have hk0 : k = 0 := by simp at hgt; omega
        subst hk0
        refine s_exit1 ?_
        simp +decide only [p_seq_normal, p_seq_exit, p_block_exit, reduceIte]
        obtain ⟨H9, e9, L9, c9, n9⟩ := L1.put2 hl su (.int .i64 U.den)
        refine s_reg ?_
        simp only [o_pure, o_eff, o_nil, POp.ev, Opd.ev, EOp.ev, gv, setD, Option.some.injEq, exists_eq_left', L4.load2, e9]
        refine s_ret1 ?_
        simp +decide only [p_fin_ret, resV, resOne, gv, Option.some.injEq, exists_eq_left', L9.load2]
        have h9 := h8.over c9 (by omega) (by omega)
        refine ⟨L9.chg, U, gU, ⟨su, rfl, (hU.chg c9 (.inl (by simp))).slf⟩, ?_⟩
        unfold pFactor
        rcases hcase with ⟨rfl, hn⟩ | ⟨rfl, rfl, _, _, hsm⟩
        · rw [hn]
          exact ⟨_, _, _, _, by omega, h9⟩
        · rw [hsm]
          simp only [Option.bind_some]
          rw [if_pos h94, if_pos hc4, ← hn0, ← hpow]
          exact ⟨rfl, h9⟩
end Go.Proofs.YtooaafekllkpbaaDoor

/- The reader of expressions, specification: products; no condition beyond stated ranges. -/
namespace Go.Proofs.YtooaafekllkpbaaDoor
open Go.Ab
set_option linter.unusedSimpArgs false
set_option linter.unusedVariables false

theorem sProd_ok (lim q : Nat) (s : ByteArray) (d : Int) (B : Nat) (F : PF) (hq : lim ≤ q) (hs : s.size ≤ 100) (hB : s.size + 1 ≤ B ∧ B ≤ 1000) (hadv : Adv s F) (hF : SOk lim q s d B n_spec_txReader_factor F) :
    SOk lim q s d B n_spec_txReader_product (pProd s F) := by
  intro H st hl hqn hi h
  refine is_spec_txReader_product.go rfl ?_
  unfold c_spec_txReader_product
  refine s_reg ?_
  simp only [o_eff, o_nil, EOp.ev, env0, gu, setD, List.set, Option.some.injEq, exists_eq_left']
  have L1 := Loc.mk' (Chg.refl q H) [.slice none 0 0, .int .i64 0]
  replace h := h.ext (Ext.alloc H [.slice none 0 0, .int .i64 0]) hqn
  generalize H.alloc [.slice none 0 0, .int .i64 0] = H1 at L1 h ⊢
  have hn1 := L1.lt
  generalize hp1 : H.next = p1 at L1 hn1
  refine s_reg ?_
  simp only [o_pure, o_callF, POp.ev, Opd.ev, gv, setD, List.map, Option.some.injEq, exists_eq_left']
  refine (hF H1 st (by omega) (by omega) hi h).mono ?_
  intro v H2 hr
  obtain ⟨c2, X, slx, i6, d6, m6, w6, l6, rfl, gX, fX, h2, hi6, hcase⟩ := ResP.cases hadv (by omega) hr
  clear hr h
  have hn2 := c2.next
  simp only [o_cont, o_eff, o_nil, Opd.ev, EOp.ev, gv, setD, List.set, Option.some.injEq, exists_eq_left', store2_new (lim := lim) (H := H2) (by omega)]
  replace L1 := L1.step c2 hqn
  have L2 := Loc.mk' L1.chg [slx, .int .i64 X.den]
  have hlt1 := L1.lt
  have hx3 := Ext.alloc H2 [slx, .int .i64 X.den]
  replace L1 := L1.ext hx3
  replace h2 := h2.ext hx3 (by omega)
  have fX2 := (fX.held [p1] (by simp; omega)).more (Nat.le_refl H2.next)
  replace fX2 := fX2.ext hx3
  generalize H2.alloc [slx, .int .i64 X.den] = H3 at L1 L2 hx3 h2 fX2 ⊢
  have hn3 := hx3.next
  generalize H2.next = p2 at L2 hx3 fX2 hlt1 hn3 hn2
  clear fX
  obtain ⟨R, hR⟩ : ∃ R, R = pProd s F st := ⟨_, rfl⟩
  have hcase2 : (w6 = true ∧ R = none) ∨ (w6 = false ∧ d6 = d ∧ i6 ≤ s.size ∧ ∃ k, s.size + 1 ≤ k + i6 ∧ R = prodLoop s F k ⟨i6, m6, l6⟩ X) := by
    rcases hcase with ⟨e1, hn⟩ | ⟨e1, e2, _, e3, hsm⟩
    · exact .inl ⟨e1, by rw [hR]; unfold pProd; rw [hn]; rfl⟩
    · exact .inr ⟨e1, e2, e3, s.size + 1, by omega, by rw [hR]; unfold pProd; rw [hsm]; rfl⟩
  clear hcase
  rw [← hR]
  refine s_block ?_
  refine s_loop1 (fun k e' H' => ∃ (su : Value) (U : V) (i6 : Nat) (d6 m6 : Int) (w6 l6 : Bool), k = (if w6 then 0 else s.size + 1 - i6) ∧ Good U ∧ Held H' H.next [p2, p1] su U.ts ∧ Loc q H H' p1 [.slice none 0 0, .int .i64 0] ∧ Loc q H H' p2 [su, .int .i64 U.den] ∧ SRd H' q s i6 d6 m6 w6 l6 ∧ i6 ≤ B ∧
    ((w6 = true ∧ R = none) ∨ (w6 = false ∧ d6 = d ∧ i6 ≤ s.size ∧ ∃ k, s.size + 1 ≤ k + i6 ∧ R = prodLoop s F k ⟨i6, m6, l6⟩ U)) ∧ e' = [pt q, pt p1, pt p2]) _ ⟨slx, X, i6, d6, m6, w6, l6, rfl, gX, fX2.imp id (fun ⟨b, g1, g2, g3, g4⟩ => ⟨b, by omega, g2, g3, g4⟩), L1, L2, h2, hi6, hcase2, rfl⟩ ?_
  clear fX2 L1 L2 h2 hcase2 gX hi6 hx3 hn3
  rintro kk e' H3 ⟨su, U, i6, d6, m6, w6, l6, rfl, gU, hU, L1, L2, h3, hi6, hcase, rfl⟩
  have hn3 := L1.chg.next
  have hge1 := L1.ge
  have hge2 := L2.ge
  have hlt2 := L2.lt
  have e42 : ((ch s i6 : Int) == 42) = decide (ch s i6 = 42) := int_beq _ 42
  refine s_test_same (!w6 && decide (ch s i6 = 42)) ?_ (fun hgo => ?_) (fun hstop => ?_)
  · simp only [o_pure, o_guard, POp.ev, Opd.ev, gv, setD, Option.some.injEq, exists_eq_left', load1V, nilchkV, unV, fadV, Nat.zero_add, h3.c4]
    cases hw : w6
    · simp only [o_pure, o_callF, o_guard, gk_tt, POp.ev, Opd.ev, gv, setD, List.map, Option.some.injEq, exists_eq_left', Bool.not_false]
      refine (sNext_ok _ _ _ _ _ _ _ _ _ h3).eq ?_
      simp only [o_cont, o_pure, o_guard, gk_tt, o_nil, POp.ev, Opd.ev, gv, setD, Option.some.injEq, exists_eq_left', pickV, binV, ne_eq, not_true_eq_false, if_false, e42]
      simp
    · simp only [o_pure, o_guard, gk_ft, o_nil, POp.ev, Opd.ev, gv, setD, Option.some.injEq, exists_eq_left', pickV, Bool.not_true]
      simp
  · simp only [Bool.and_eq_true, Bool.not_eq_true', decide_eq_true_eq] at hgo
    obtain ⟨hw, h42⟩ := hgo
    have hlt6 := ch_lt (s := s) (i := i6) (by omega)
    rcases hcase with ⟨e1, _⟩ | ⟨_, rfl, hi6s, k, hk, hRk⟩
    · rw [hw] at e1; cases e1
    subst hw
    obtain ⟨k, rfl⟩ : ∃ k', k = k' + 1 := ⟨k - 1, by omega⟩
    have hun : prodLoop s F (k + 1) ⟨i6, m6, l6⟩ U = (F ⟨i6 + 1, m6, l6⟩).bind fun r => prodLoop s F k (keepF r.1 (mulV U r.2)).1 (keepF r.1 (mulV U r.2)).2 := by
      rw [prodLoop, if_pos h42]
    rw [hun] at hRk
    obtain ⟨H4, e4, h4, c4⟩ := h3.s1 hq ((i6 + 1 : Nat) : Int)
    have hn4 := c4.next
    refine s_skip1 ?_
    simp +decide only [p_seq_normal, reduceIte]
    refine s_block1 ?_
    refine s_reg ?_
    simp only [o_pure, o_eff, o_nil, POp.ev, Opd.ev, EOp.ev, gv, setD, Option.some.injEq, exists_eq_left', binV, load1V, nilchkV, fadV, ne_eq, not_true_eq_false, if_false, Nat.zero_add, h3.c1, add1 (i := i6) (by omega), e4]
    replace L1 := L1.step c4 hqn
    replace L2 := L2.step c4 hqn
    replace hU := hU.chg c4 (.inr (by omega))
    have hcall := hF H4 ⟨i6 + 1, m6, l6⟩ (by omega) (by omega) hlt6 h4
    refine s_regT1 ?_
    simp only [o_pure, o_eff, o_callF, t_op, t_alt, t_nil, o_nil, POp.ev, Opd.ev, EOp.ev, gv, setD, List.map, Option.map_some, Option.some.injEq, exists_eq_left', extV, L2.load2]
    refine ⟨?_, ?_⟩
    · refine hcall.mono ?_
      intro v H9 hr
      obtain ⟨c9, X, slx, i7, d7, m7, w7, l7, rfl, gX, fX, h9, hi7, hcase7⟩ := ResP.cases hadv (by omega) hr
      have hn9 := c9.next
      have L19 := L1.step c9 hqn
      have L29 := L2.step c9 hqn
      have hU9 := hU.chg c9 (.inr (by omega))
      simp only [o_cont, o_nil, gv, setD]
      refine (txMul_ok lim su slx U X H9 (by omega) (hU9).sl fX.sl gU gX).mono ?_
      rintro _ H10 ⟨⟨sl2, den2, ok, rfl, hmk⟩, hx10⟩
      have hn10 := hx10.next
      simp only [o_cont, o_nil, gv, setD, Option.some.injEq, exists_eq_left', List.getElem?_toArray, List.getElem?_cons_zero, List.getElem?_cons_succ]
      refine (sKeep_ok lim q s i7 d7 m7 w7 l7 ok sl2 den2 H10 hq (by omega) (by omega) (h9.ext hx10 (by omega))).mono ?_
      rintro _ H11 ⟨rfl, h11, c11⟩
      have hn11 := c11.next
      obtain ⟨H12, e12, L12, c12, n12⟩ := ((L29.ext hx10).step c11 hqn).put2 hl (if ok then sl2 else .slice none 0 0) (.int .i64 (if ok then den2 else 1))
      simp only [o_cont, o_nil, gv, setD, Option.some.injEq, exists_eq_left', e12]
      simp +decide only [p_seq_normal, p_block_normal]
      have hge2' := L29.ge
      have L112 := ((L19.ext hx10).step c11 hqn).other c12 (by omega) hge2'
      have h12 := h11.over c12 (by omega) (by omega)
      cases hmv : mulV U X with
      | none =>
        rw [hmv] at hmk
        subst hmk
        simp only [Bool.not_false, Bool.or_true] at h12
        refine Round.mk _ ?_ ⟨_, zV, i7, d7, m7, w7, true, rfl, zV_good, .inl ⟨rfl, rfl⟩, L112, L12, h12, hi7, ?_, rfl⟩
        · rcases hcase7 with ⟨rfl, _⟩ | ⟨rfl, _, g1, _, _⟩
          · simp only [reduceIte]
            omega
          · simp only [reduceIte, Bool.false_eq_true] at g1 ⊢
            omega
        · rcases hcase7 with ⟨rfl, hn⟩ | ⟨rfl, rfl, g1, g2, hsm⟩
          · rw [hn] at hRk
            exact .inl ⟨rfl, hRk⟩
          · rw [hsm, Option.bind_some] at hRk
            simp only [hmv, keepF] at hRk
            simp only at g1
            exact .inr ⟨rfl, rfl, g2, k, by omega, hRk⟩
      | some Y =>
        rw [hmv] at hmk
        obtain ⟨rfl, rfl, fY⟩ := hmk
        simp only [Bool.not_true, Bool.or_false] at h12
        have hY := (((fY.held [p2, p1] (by simp; omega)).chg c11 (.inr (by omega))).chg c12 (.inl (by simp)))
        refine Round.mk _ ?_ ⟨_, Y, i7, d7, m7, w7, l7, rfl, mulV_good gU gX hmv, hY.imp id (fun ⟨b, g1, g2, g3, g4⟩ => ⟨b, by omega, g2, g3, g4⟩), L112, L12, h12, hi7, ?_, rfl⟩
        · rcases hcase7 with ⟨rfl, _⟩ | ⟨rfl, _, g1, _, _⟩
          · simp only [reduceIte]
            omega
          · simp only [reduceIte, Bool.false_eq_true] at g1 ⊢
            omega
        · rcases hcase7 with ⟨rfl, hn⟩ | ⟨rfl, rfl, g1, g2, hsm⟩
          · rw [hn] at hRk
            exact .inl ⟨rfl, hRk⟩
          · rw [hsm, Option.bind_some] at hRk
            simp only [hmv, keepF] at hRk
            simp only at g1
            exact .inr ⟨rfl, rfl, g2, k, by omega, hRk⟩
    · refine hcall.mono ?_
      intro v H9 hr
      obtain ⟨c9, X, slx, i7, d7, m7, w7, l7, rfl, gX, fX, h9, hi7, hcase7⟩ := ResP.cases hadv (by omega) hr
      have hn9 := c9.next
      have L19 := L1.step c9 hqn
      have L29 := L2.step c9 hqn
      have hU9 := hU.chg c9 (.inr (by omega))
      simp only [o_cont, o_nil, gv, setD, Option.map_some, Option.some.injEq, exists_eq_left', L29.load2]
      refine (txMul_ok lim su slx U X H9 (by omega) (hU9).sl fX.sl gU gX).mono ?_
      rintro _ H10 ⟨⟨sl2, den2, ok, rfl, hmk⟩, hx10⟩
      have hn10 := hx10.next
      simp only [o_cont, o_nil, gv, setD, Option.some.injEq, exists_eq_left', List.getElem?_toArray, List.getElem?_cons_zero, List.getElem?_cons_succ]
      refine (sKeep_ok lim q s i7 d7 m7 w7 l7 ok sl2 den2 H10 hq (by omega) (by omega) (h9.ext hx10 (by omega))).mono ?_
      rintro _ H11 ⟨rfl, h11, c11⟩
      have hn11 := c11.next
      obtain ⟨H12, e12, L12, c12, n12⟩ := ((L29.ext hx10).step c11 hqn).put2 hl (if ok then sl2 else .slice none 0 0) (.int .i64 (if ok then den2 else 1))
      simp only [o_cont, o_nil, gv, setD, Option.some.injEq, exists_eq_left', e12]
      simp +decide only [p_seq_normal, p_block_normal]
      have hge2' := L29.ge
      have L112 := ((L19.ext hx10).step c11 hqn).other c12 (by omega) hge2'
      have h12 := h11.over c12 (by omega) (by omega)
      cases hmv : mulV U X with
      | none =>
        rw [hmv] at hmk
        subst hmk
        simp only [Bool.not_false, Bool.or_true] at h12
        refine Round.mk _ ?_ ⟨_, zV, i7, d7, m7, w7, true, rfl, zV_good, .inl ⟨rfl, rfl⟩, L112, L12, h12, hi7, ?_, rfl⟩
        · rcases hcase7 with ⟨rfl, _⟩ | ⟨rfl, _, g1, _, _⟩
          · simp only [reduceIte]
            omega
          · simp only [reduceIte, Bool.false_eq_true] at g1 ⊢
            omega
        · rcases hcase7 with ⟨rfl, hn⟩ | ⟨rfl, rfl, g1, g2, hsm⟩
          · rw [hn] at hRk
            exact .inl ⟨rfl, hRk⟩
          · rw [hsm, Option.bind_some] at hRk
            simp only [hmv, keepF] at hRk
            simp only at g1
            exact .inr ⟨rfl, rfl, g2, k, by omega, hRk⟩
      | some Y =>
        rw [hmv] at hmk
        obtain ⟨rfl, rfl, fY⟩ := hmk
        simp only [Bool.not_true, Bool.or_false] at h12
        have hY := (((fY.held [p2, p1] (by simp; omega)).chg c11 (.inr (by omega))).chg c12 (.inl (by simp)))
        refine Round.mk _ ?_ ⟨_, Y, i7, d7, m7, w7, l7, rfl, mulV_good gU gX hmv, hY.imp id (fun ⟨b, g1, g2, g3, g4⟩ => ⟨b, by omega, g2, g3, g4⟩), L112, L12, h12, hi7, ?_, rfl⟩
        · rcases hcase7 with ⟨rfl, _⟩ | ⟨rfl, _, g1, _, _⟩
          · simp only [reduceIte]
            omega
          · simp only [reduceIte, Bool.false_eq_true] at g1 ⊢
            omega
        · rcases hcase7 with ⟨rfl, hn⟩ | ⟨rfl, rfl, g1, g2, hsm⟩
          · rw [hn] at hRk
            exact .inl ⟨rfl, hRk⟩
          · rw [hsm, Option.bind_some] at hRk
            simp only [hmv, keepF] at hRk
            simp only at g1
            exact .inr ⟨rfl, rfl, g2, k, by omega, hRk⟩
  · refine s_exit1 ?_
    simp +decide only [p_seq_normal, p_seq_exit, p_block_exit, reduceIte]
    obtain ⟨H9, e9, L9, c9, n9⟩ := L1.put2 hl su (.int .i64 U.den)
    refine s_reg ?_
    simp only [o_pure, o_eff, o_nil, POp.ev, Opd.ev, EOp.ev, gv, setD, Option.some.injEq, exists_eq_left', L2.load2, e9]
    refine s_ret1 ?_
    simp +decide only [p_fin_ret, resV, resOne, gv, Option.some.injEq, exists_eq_left', L9.load2]
    have h9 := h3.over c9 (by omega) (by omega)
    refine ⟨L9.chg, U, gU, ⟨su, rfl, (hU.chg c9 (.inl (by simp))).slf⟩, ?_⟩
    rcases hcase with ⟨rfl, hn⟩ | ⟨rfl, rfl, hi6s, k, hk, hRk⟩
    · rw [hn]
      exact ⟨_, _, _, _, hi6, h9⟩
    · obtain ⟨k, rfl⟩ : ∃ k', k = k' + 1 := ⟨k - 1, by omega⟩
      rw [hRk, prodLoop, if_neg (by simpa using hstop)]
      exact ⟨rfl, h9⟩
end Go.Proofs.YtooaafekllkpbaaDoor
