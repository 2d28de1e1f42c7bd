/- Parts of the proof of a statement of this seat: contracts of functions that the law calls, or the law's own row; no condition. -/
import Derived.Test.YtooaafekllkpbaaDoorM3
/- Parts of the proof of a statement of this seat: contracts of functions that the law calls, or the law's own row; no condition. -/
/- Systems of polynomials: the specification's insertion of a term in general; no condition beyond stated ranges. -/
namespace Go.Proofs.YtooaafekllkpbaaDoor
open Go.Ab
set_option linter.unusedSimpArgs false
set_option linter.unusedVariables false

def exB (t : Tm) : Prop := (-1000000 ≤ t.x ∧ t.x ≤ 1000000) ∧ (-1000000 ≤ t.y ∧ t.y ≤ 1000000) ∧ (-1000000 ≤ t.z ∧ t.z ≤ 1000000)
theorem orderG_ok (lim : Nat) (a b : Tm) (H : AHeap) (ha : exB a) (hb : exB b) : ACalls Tryd.prog lim n_spec_poOrder [tv a, tv b] H fun v H' => v = .int .i64 (ordT a b) ∧ Ext H H' := by
  obtain ⟨b1, b2, b3⟩ := ha
  obtain ⟨c1, c2, c3⟩ := hb
  refine is_spec_poOrder.go rfl ?_
  unfold c_spec_poOrder ordT
  refine s_reg ?_
  simp only [o_pure, o_eff, o_nil, POp.ev, Opd.ev, EOp.ev, env0, gu, gv, setD, List.set, Option.some.injEq, exists_eq_left', ne_eq, boxT]
  have hA := BoxT.mk' H a
  have hB := BoxT.mk' (H.alloc (tc a)) b
  replace hA := hA.mono hB.ext
  generalize (H.alloc (tc a)).alloc (tc b) = H1 at hA hB ⊢
  generalize (H.alloc (tc a)).next = q at hB ⊢
  generalize H.next = p at hA ⊢
  have hx := hA.ext
  have w1 : IntKind.i64.wrap (a.x - b.x) = a.x - b.x := by rw [IntKind.wrap_i64]; omega
  have w2 : IntKind.i64.wrap (a.y - b.y) = a.y - b.y := by rw [IntKind.wrap_i64]; omega
  have w3 : IntKind.i64.wrap (a.z - b.z) = a.z - b.z := by rw [IntKind.wrap_i64]; omega
  refine s_block ?_
  refine s_test1 ?_
  simp only [o_pure, o_nil, POp.ev, Opd.ev, gv, setD, Option.some.injEq, exists_eq_left', binV, load1V, fadV, ne_eq, not_true_eq_false, if_false, Nat.zero_add, hA.c1, hB.c1]
  refine Test.split (fun h => ?_) (fun h => ?_)
  · refine s_reg ?_
    simp only [o_pure, o_callF, POp.ev, Opd.ev, gv, setD, List.map, Option.some.injEq, exists_eq_left', binV, load1V, fadV, ne_eq, not_true_eq_false, if_false, Nat.zero_add, hA.c1, hB.c1, w1]
    refine (l1Sign_ok _ _ _).eq ?_
    simp only [o_cont, o_pure, o_nil, POp.ev, Opd.ev, gv, setD, List.set, Option.some.injEq, exists_eq_left']
    refine s_ret1 ?_
    simp +decide only [p_seq_ret, p_block_ret, p_fin_ret, resV, resOne, gv, Option.some.injEq, exists_eq_left']
    rw [if_pos (by simpa using h)]
    exact ⟨rfl, hx⟩
  · refine s_test1 ?_
    simp only [o_pure, o_nil, POp.ev, Opd.ev, gv, setD, Option.some.injEq, exists_eq_left', binV, load1V, fadV, ne_eq, not_true_eq_false, if_false, Nat.zero_add, hA.c2, hB.c2]
    refine Test.split (fun h2 => ?_) (fun h2 => ?_)
    · refine s_reg ?_
      simp only [o_pure, o_callF, POp.ev, Opd.ev, gv, setD, List.map, Option.some.injEq, exists_eq_left', binV, load1V, fadV, ne_eq, not_true_eq_false, if_false, Nat.zero_add, hA.c2, hB.c2, w2]
      refine (l1Sign_ok _ _ _).eq ?_
      simp only [o_cont, o_pure, o_nil, POp.ev, Opd.ev, gv, setD, List.set, Option.some.injEq, exists_eq_left']
      refine s_ret1 ?_
      simp +decide only [p_seq_ret, p_block_ret, p_fin_ret, resV, resOne, gv, Option.some.injEq, exists_eq_left']
      rw [if_neg (by simpa using h), if_pos (by simpa using h2)]
      exact ⟨rfl, hx⟩
    · refine s_skip1 ?_
      simp +decide only [p_seq_normal, p_block_normal]
      refine s_reg ?_
      simp only [o_pure, o_callF, POp.ev, Opd.ev, gv, setD, List.map, Option.some.injEq, exists_eq_left', binV, load1V, fadV, ne_eq, not_true_eq_false, if_false, Nat.zero_add, hA.c3, hB.c3, w3]
      refine (l1Sign_ok _ _ _).eq ?_
      simp only [o_cont, o_pure, o_nil, POp.ev, Opd.ev, gv, setD, List.set, Option.some.injEq, exists_eq_left']
      refine s_ret1 ?_
      simp +decide only [p_fin_ret, resV, resOne, gv, Option.some.injEq, exists_eq_left']
      rw [if_neg (by simpa using h), if_neg (by simpa using h2)]
      exact ⟨rfl, hx⟩

/-- the insertion, by the place -/
def PutAt (t : Tm) (l : List Tm) (c : Int) (j : Nat) : Prop :=
  putF t l = l.take (posF t l) ++ (if c = 0 then [] else [{ t with c := c }]) ++ l.drop j
theorem putF_same {t : Tm} : ∀ {l : List Tm} (h : posF t l < l.length), ordT (l[posF t l]'h) t = 0 → PutAt t l (W (t.c + (l[posF t l]'h).c)) (posF t l + 1)
  | [], h, _ => by simp at h
  | x :: l, h, he => by
    unfold PutAt
    by_cases hx : ordT x t < 0
    · have e : posF t (x :: l) = posF t l + 1 := by rw [posF, if_pos hx]
      have hlt : posF t l < l.length := by rw [e] at h; simpa using h
      simp only [e, List.getElem_cons_succ] at he ⊢
      have ih := putF_same hlt he
      unfold PutAt at ih
      rw [putF, if_pos hx, ih]
      simp
    · have e : posF t (x :: l) = 0 := by rw [posF, if_neg hx]
      simp only [e, List.getElem_cons_zero] at he ⊢
      rw [putF, if_neg hx, if_pos he]
      split <;> simp
theorem putF_new {t : Tm} : ∀ {l : List Tm}, (∀ h : posF t l < l.length, ordT (l[posF t l]'h) t ≠ 0) → PutAt t l t.c (posF t l)
  | [], _ => by
    unfold PutAt putF
    split <;> simp [posF]
  | x :: l, h => by
    unfold PutAt
    by_cases hx : ordT x t < 0
    · have e : posF t (x :: l) = posF t l + 1 := by rw [posF, if_pos hx]
      have ih := putF_new (t := t) (l := l) (fun hlt => by
        have := h (by rw [e]; simpa using hlt)
        simpa only [e, List.getElem_cons_succ] using this)
      unfold PutAt at ih
      rw [putF, if_pos hx, ih, e]
      simp
    · have e : posF t (x :: l) = 0 := by rw [posF, if_neg hx]
      have he : ordT x t ≠ 0 := by simpa only [e, List.getElem_cons_zero] using h (by rw [e]; simp)
      rw [putF, if_neg hx, if_neg he, e]
      split <;> simp

theorem appendT2 {lim : Nat} {H : AHeap} {b : Nat} {v x : Value} {l m : List Tm} (h : VecT H b v l) (hx : SlT H x m) (hl : lim ≤ b) (hn : l.length + m.length ≤ 1000000) :
    ∃ v' H' b', appendH lim H 4 32 v x = some (v', H') ∧ VecT H' b' v' (l ++ m) ∧ (b' = b ∨ H.next ≤ b' ∧ b' < H'.next) ∧ Chg b H H' := by
  obtain ⟨v', H', b', h1, h2, h3, h4, h5⟩ := Vec.append h (lim := lim) hl hx (by decide) (bytes := 32) (by omega)
  have h2' : VecT H' b' v' (l ++ m) := by
    unfold VecT
    rw [List.length_append, tcs_append]
    exact h2
  exact ⟨v', H', b', h1, h2', h3.imp id fun h => by omega, h4⟩
theorem putG_ok (lim : Nat) (s : Value) (l : List Tm) (t : Tm) (H : AHeap) (hl : lim ≤ H.next) (hs : SlT H s l) (hn : l.length ≤ 10000) (hok : ∀ x ∈ l, exB x) (ht : exB t) :
    ACalls Tryd.prog lim n_spec_poPut [s, tv t] H fun v H' => ∃ b, H.next ≤ b ∧ b ≤ H'.next ∧ VecT H' b v (putF t l) ∧ Ext H H' := by
  refine is_spec_poPut.go rfl ?_
  unfold c_spec_poPut
  refine s_reg ?_
  simp only [o_pure, o_eff, o_nil, POp.ev, Opd.ev, EOp.ev, env0, gu, gv, setD, List.set, Option.some.injEq, exists_eq_left', boxT]
  have hB := BoxT.mk' H t
  generalize H.alloc (tc t) = H1 at hB ⊢
  generalize hpe : H.next = p at hB hl ⊢
  have hpl := posF_le t l
  refine s_reg ?_
  simp only [o_pure, o_nil, POp.ev, Opd.ev, setD, List.set, Option.some.injEq, exists_eq_left']
  refine s_cut (fun e' H' => BoxT H H' p t ∧ e' = [s, tv t, .pointer (some ⟨p, 0, none⟩), .slice none 0 0, .int .i64 (posF t l), undef, undef]) ?_ ?_
  · refine s_block1 ?_
    refine s_loop1 (fun j e' H' => ∃ k : Nat, k + j = l.length ∧ k ≤ posF t l ∧ BoxT H H' p t ∧ e' = [s, tv t, .pointer (some ⟨p, 0, none⟩), .slice none 0 0, .int .i64 k, undef, undef]) l.length ⟨0, by omega, Nat.zero_le _, hB, rfl⟩ ?_
    clear hB
    rintro j e' H2 ⟨k, hkj, hkp, hB, rfl⟩
    have hs2 := hs.ext hB.ext
    refine s_test ?_
    by_cases hk : k < l.length
    · have d1 : decide ((k : Int) < (l.length : Int)) = true := decide_eq_true (by omega)
      obtain ⟨b1, o1, h1, a1⟩ := hs2.at hk
      have hst := posF_step (t := t) hk hkp
      simp only [o_pure, o_callF, o_guard, gk_tt, POp.ev, Opd.ev, gv, setD, List.map, Option.some.injEq, exists_eq_left', binV, ne_eq, not_true_eq_false, if_false, hs.lenV, d1, h1, a1.all, hB.all]
      refine (orderG_ok _ _ _ _ (hok _ (List.getElem_mem hk)) ht).mono ?_
      rintro _ H3 ⟨rfl, hx3⟩
      have hB3 := hB.mono hx3
      simp only [o_cont, o_pure, o_guard, gk_tt, o_nil, POp.ev, Opd.ev, gv, setD, Option.some.injEq, exists_eq_left', pickV, binV, ne_eq, not_true_eq_false, if_false]
      refine Test.split (fun hg => ?_) (fun hg => ?_)
      · have hlt : ordT l[k] t < 0 := by simpa using hg
        rw [if_pos hlt] at hst
        refine s_skip1 ?_
        simp +decide only [p_seq_normal]
        refine s_block1 ?_
        refine s_reg1 ?_
        simp only [o_pure, o_nil, POp.ev, Opd.ev, gv, setD, List.set, Option.some.injEq, exists_eq_left', binV, ne_eq, not_true_eq_false, if_false, add1 (i := k) (by omega)]
        simp +decide only [p_seq_normal, p_block_normal]
        exact Round.mk (j - 1) (by omega) ⟨k + 1, by omega, hst, hB3, rfl⟩
      · have hge3 : ¬ ordT l[k] t < 0 := by simpa using hg
        rw [if_neg hge3] at hst
        refine s_exit1 ?_
        simp +decide only [p_seq_normal, p_seq_exit, p_block_exit, reduceIte]
        rw [← hst]
        exact ⟨hB3, rfl⟩
    · have d1 : decide ((k : Int) < (l.length : Int)) = false := decide_eq_false (by omega)
      simp only [o_pure, o_guard, gk_ft, o_nil, POp.ev, Opd.ev, gv, setD, Option.some.injEq, exists_eq_left', pickV, binV, ne_eq, not_true_eq_false, if_false, hs.lenV, d1]
      refine Test.false_ (s_exit1 ?_)
      simp +decide only [p_seq_normal, p_seq_exit, p_block_exit, reduceIte]
      have : k = posF t l := by omega
      rw [← this]
      exact ⟨hB, rfl⟩
  clear hB
  rintro e'' H3 ⟨hB3, rfl⟩
  have hge := hB3.ge
  have hnx3 := hB3.ext.next
  have hs3 := hs.ext hB3.ext
  obtain ⟨⟨v1, m1, m2⟩, v2, m3, m4⟩ := slcT hs3 hpl
  refine s_reg ?_
  simp only [o_pure, o_nil, POp.ev, Opd.ev, gv, setD, List.set, Option.map_none, Option.map_some, Option.some.injEq, exists_eq_left', m3]
  refine s_cut (fun e' H4 => ∃ (c : Int) (j : Nat) (v5 : Value), PutAt t l c j ∧ SlT H4 v5 (l.drop j) ∧ Ext H H4 ∧ BoxT H H4 p { t with c := c } ∧ e' = [s, tv t, .pointer (some ⟨p, 0, none⟩), .slice none 0 0, .int .i64 (posF t l), v5, undef]) ?_ ?_
  · refine s_test1 ?_
    by_cases hk : posF t l < l.length
    · have d1 : decide ((posF t l : Int) < (l.length : Int)) = true := decide_eq_true (by omega)
      obtain ⟨b1, o1, h1, a1⟩ := hs3.at hk
      simp only [o_pure, o_callF, o_guard, gk_tt, POp.ev, Opd.ev, gv, setD, List.map, Option.some.injEq, exists_eq_left', binV, ne_eq, not_true_eq_false, if_false, hs.lenV, d1, h1, a1.all, hB3.all]
      refine (orderG_ok _ _ _ _ (hok _ (List.getElem_mem hk)) ht).mono ?_
      rintro _ H4 ⟨rfl, hx4⟩
      have hB4 := hB3.mono hx4
      have hs4 := hs3.ext hx4
      simp only [o_cont, o_pure, o_guard, gk_tt, o_nil, POp.ev, Opd.ev, gv, setD, Option.some.injEq, exists_eq_left', pickV, binV, ne_eq, not_true_eq_false, if_false]
      refine Test.split (fun hg => ?_) (fun hg => ?_)
      · have hze : ordT l[posF t l] t = 0 := by simpa using hg
        obtain ⟨b4, o4, h4, a4⟩ := hs4.at hk
        obtain ⟨cs4, t4, hB5⟩ := hB4.put0 (lim := lim) (by omega) (W (t.c + l[posF t l].c))
        have hs5 := hs.ext hB5.ext
        obtain ⟨_, v6, m6, m7⟩ := slcT hs5 (k := posF t l + 1) (by omega)
        refine s_reg ?_
        simp only [o_pure, o_eff, o_nil, POp.ev, Opd.ev, EOp.ev, gv, setD, Option.some.injEq, exists_eq_left', binV, load1V, fadV, ne_eq, not_true_eq_false, if_false, Nat.add_zero, hB4.c0, h4, a4.c, t4]
        refine s_reg1 ?_
        simp only [o_pure, o_nil, POp.ev, Opd.ev, gv, setD, List.set, Option.map_none, Option.map_some, Option.some.injEq, exists_eq_left', binV, ne_eq, not_true_eq_false, if_false, add1 (i := posF t l) (by omega), m6]
        simp +decide only [p_seq_normal]
        exact ⟨_, _, _, putF_same hk hze, m7, hB5.ext, hB5, rfl⟩
      · have hze : ordT l[posF t l] t ≠ 0 := by simpa using hg
        refine s_skip1 ?_
        simp +decide only [p_seq_normal]
        exact ⟨t.c, _, _, putF_new (fun _ => hze), m4.ext hx4, hB4.ext, hB4, rfl⟩
    · have d1 : decide ((posF t l : Int) < (l.length : Int)) = false := decide_eq_false (by omega)
      simp only [o_pure, o_guard, gk_ft, o_nil, POp.ev, Opd.ev, gv, setD, Option.some.injEq, exists_eq_left', pickV, binV, ne_eq, not_true_eq_false, if_false, hs.lenV, d1]
      refine Test.false_ (s_skip1 ?_)
      simp +decide only [p_seq_normal]
      exact ⟨t.c, _, _, putF_new (fun h => absurd h hk), m4, hB3.ext, hB3, rfl⟩
  clear hB3 m4 m3 v2 m1 m2 v1 hnx3 hs3
  rintro e'' H4 ⟨c, j, v2, hput, m4, hx4, hB4, rfl⟩
  have hnx4 := hx4.next
  have hs4 := hs.ext hx4
  obtain ⟨⟨v1, m1, m2⟩, _⟩ := slcT hs4 hpl
  obtain ⟨v5, H5, b5, g1, g2, g3, g4, g5⟩ := own_terms (lim := lim) (by omega) m2 (by simp; omega)
  have hB5 := hB4.mono g5
  refine s_reg ?_
  simp only [o_pure, o_eff, o_nil, POp.ev, Opd.ev, EOp.ev, gv, setD, List.set, List.map, Option.map_none, Option.map_some, Option.some.injEq, exists_eq_left', bslice0, m1, g1]
  refine s_cut (fun e' H6 => ∃ (b6 : Nat) (v6 : Value), VecT H6 b6 v6 (l.take (posF t l) ++ if c = 0 then [] else [{ t with c := c }]) ∧ H4.next ≤ b6 ∧ b6 < H6.next ∧ Ext H4 H6 ∧ e' = [s, tv t, .pointer (some ⟨p, 0, none⟩), .slice none 0 0, .int .i64 (posF t l), v2, v6]) ?_ ?_
  · refine s_test1 ?_
    simp only [o_pure, o_nil, POp.ev, Opd.ev, gv, setD, Option.some.injEq, exists_eq_left', binV, load1V, fadV, ne_eq, not_true_eq_false, if_false, Nat.zero_add, hB5.c0]
    refine Test.split (fun hg => ?_) (fun hg => ?_)
    · have hc : c ≠ 0 := by simpa using hg
      obtain ⟨v6, H6, b6, q1, q2, q3, q4, q5⟩ := pushT (lim := lim) g2 { t with c := c } (by omega) (by simp; omega)
      refine s_reg1 ?_
      simp only [o_pure, o_eff, o_nil, POp.ev, Opd.ev, EOp.ev, gv, setD, List.set, List.map, Option.some.injEq, exists_eq_left', hB5.all, bsliceT, q1]
      simp +decide only [p_seq_normal]
      rw [if_neg hc]
      exact ⟨b6, v6, q2, by rcases q3 with rfl | q3; exact g3; have := g5.next; omega, q4, Chg.ext g5 q5 g3, rfl⟩
    · have hc : c = 0 := by simpa using hg
      refine s_skip1 ?_
      simp +decide only [p_seq_normal]
      rw [if_pos hc, List.append_nil]
      exact ⟨b5, v5, g2, g3, g4, g5, rfl⟩
  rintro e'' H6 ⟨b6, v6, q2, q3, q4, hx6, rfl⟩
  have hlen : (l.take (posF t l) ++ if c = 0 then [] else [{ t with c := c }]).length ≤ 10001 := by
    rw [List.length_append, List.length_take]
    split <;> simp <;> omega
  obtain ⟨v7, H7, b7, r1, r2, r3, r5⟩ := appendT2 (lim := lim) q2 (m4.ext hx6) (by omega) (by simp only [List.length_drop]; omega)
  have hx7 : Ext H4 H7 := Chg.ext hx6 r5 q3
  have hn6 := hx6.next
  have hn7 := r5.next
  have hb7 : H4.next ≤ b7 ∧ b7 ≤ H7.next := by rcases r3 with rfl | r3 <;> omega
  refine s_reg ?_
  simp only [o_pure, o_eff, o_nil, POp.ev, Opd.ev, EOp.ev, gv, setD, List.set, Option.some.injEq, exists_eq_left', r1]
  refine s_ret1 ?_
  simp +decide only [p_fin_ret, resV, resOne, gv, Option.some.injEq, exists_eq_left']
  unfold PutAt at hput
  rw [hput]
  exact ⟨b7, by omega, hb7.2, r2, hx4.trans hx7⟩
end Go.Proofs.YtooaafekllkpbaaDoor

/- Systems of polynomials: products of terms and joined lists of terms; no condition beyond stated ranges. -/
namespace Go.Proofs.YtooaafekllkpbaaDoor
open Go.Ab
set_option linter.unusedSimpArgs false
set_option linter.unusedVariables false

theorem bldT (a b c d : Int) : fillV [.int .i64 0, .int .i64 0, .int .i64 0, .int .i64 0] [(0, 1, .int .i64 a), (1, 1, .int .i64 b), (2, 1, .int .i64 c), (3, 1, .int .i64 d)] = some (tc ⟨a, b, c, d⟩) := by
  simp [fillV, cellsV, tc, putL]
def mulT (a b : Tm) : Tm := ⟨W (a.c * b.c), a.x + b.x, a.y + b.y, a.z + b.z⟩
def prodL (p q : List Tm) : List Tm := p.flatMap fun a => q.map (mulT a)
theorem prodL_length (p q : List Tm) : (prodL p q).length = p.length * q.length := by
  induction p with
  | nil => simp [prodL]
  | cons a p ih =>
    have : prodL (a :: p) q = q.map (mulT a) ++ prodL p q := rfl
    rw [this, List.length_append, ih, List.length_map, List.length_cons, Nat.succ_mul]
    omega
theorem prodL_take {p q : List Tm} {i : Nat} (h : i < p.length) : prodL (p.take (i + 1)) q = prodL (p.take i) q ++ q.map (mulT p[i]) := by
  unfold prodL
  rw [List.take_succ_eq_append_getElem h, List.flatMap_append]
  simp
theorem prodL_take_le {p q : List Tm} {i : Nat} : (prodL (p.take i) q).length ≤ p.length * q.length := by
  rw [prodL_length]
  exact Nat.mul_le_mul_right _ (by simp; omega)
/-- exponents within a thousand -/
def exS (t : Tm) : Prop := (0 ≤ t.x ∧ t.x ≤ 1000) ∧ (0 ≤ t.y ∧ t.y ≤ 1000) ∧ (0 ≤ t.z ∧ t.z ≤ 1000)

theorem BoxT.low {Hb Hb' H : AHeap} {q : Nat} {t : Tm} (h : BoxT Hb H q t) (hx : Ext Hb' Hb) : BoxT Hb' H q t := ⟨hx.trans h.ext, Nat.le_trans hx.next h.ge, h.lt, h.blk⟩
theorem BoxT.chg {Hb H H' : AHeap} {q b : Nat} {t : Tm} (h : BoxT Hb H q t) (hc : Chg b H H') (hb : Hb.next ≤ b) (hne : q ≠ b) : BoxT Hb H' q t :=
  ⟨Chg.ext h.ext hc hb, h.ge, Nat.lt_of_lt_of_le h.lt hc.next, by rw [hc.blk q h.lt hne]; exact h.blk⟩
theorem VecT.avoid {H : AHeap} {b a : Nat} {v : Value} {l : List Tm} (h : VecT H b v l) : ∃ b2, VecT H b2 v l ∧ (b2 = b ∧ b < H.next ∨ b2 = a) := by
  rcases h with h | h
  · exact ⟨a, .inl h, .inr rfl⟩
  · obtain ⟨c, sp, rest, h1, h2, h3, h4⟩ := h
    exact ⟨b, .inr ⟨c, sp, rest, h1, h2, h3, h4⟩, .inl ⟨rfl, h3⟩⟩

theorem multiplyTerms_ok (lim : Nat) (sp sq : Value) (p q : List Tm) (H : AHeap) (hl : lim ≤ H.next) (hp : SlT H sp p) (hq : SlT H sq q) (hn : p.length ≤ 100) (hm : q.length ≤ 100) (ep : ∀ t ∈ p, exS t) (eq : ∀ t ∈ q, exS t) :
    ACalls Tryd.prog lim n_impl_multiplyTerms [sp, sq] H fun v H' => ∃ b, H.next ≤ b ∧ b ≤ H'.next ∧ VecT H' b v (coll (prodL p q)) ∧ Ext H H' := by
  refine is_impl_multiplyTerms.go rfl ?_
  unfold c_impl_multiplyTerms
  have hpq : p.length * q.length ≤ 10000 := Nat.mul_le_mul hn hm
  refine s_reg ?_
  simp only [o_pure, o_nil, POp.ev, Opd.ev, env0, gu, setD, List.set, Option.some.injEq, exists_eq_left']
  refine s_reg ?_
  simp only [o_pure, o_nil, POp.ev, Opd.ev, setD, List.set, Option.some.injEq, exists_eq_left']
  refine s_assoc (s_reg ?_)
  simp only [o_pure, o_nil, POp.ev, Opd.ev, gv, setD, List.set, Option.some.injEq, exists_eq_left', hp.lenV]
  refine s_block ?_
  refine s_loop1 (fun k e' H' => ∃ (i b : Nat) (v x4 x5 x9 x10 x11 : Value), i + k = p.length ∧ VecT H' b v (prodL (p.take i) q) ∧ H.next ≤ b ∧ b ≤ H'.next ∧ Ext H H' ∧ e' = [sp, sq, .slice none 0 0, v, x4, x5, sp, .int .i64 p.length, .int .i64 i, x9, x10, x11]) p.length ⟨0, H.next, _, _, _, _, _, _, by omega, vecT_nil _ _, Nat.le_refl _, Nat.le_refl _, Ext.refl _, rfl⟩ ?_
  rintro k e' H1 ⟨i, b, v, x4, x5, x9, x10, x11, hik, hv, hb, hbH, hx, rfl⟩
  have hnx := hx.next
  refine s_test ?_
  simp only [o_pure, o_nil, POp.ev, Opd.ev, gv, setD, Option.some.injEq, exists_eq_left', binV, ne_eq, not_true_eq_false, if_false]
  refine Test.split (fun hlt => ?_) (fun hlt => ?_)
  · have hlt' : i < p.length := by simpa using hlt
    obtain ⟨b2, o2, h2, a2⟩ := (hp.ext hx).at hlt'
    refine s_skip1 ?_
    simp +decide only [p_seq_normal]
    refine s_block ?_
    refine s_reg ?_
    simp only [o_pure, o_eff, o_nil, POp.ev, Opd.ev, EOp.ev, gv, setD, List.set, Option.some.injEq, exists_eq_left', h2, a2.all, store4_new (lim := lim) (H := H1) (by omega)]
    have hA := BoxT.mk' H1 p[i]
    generalize H1.alloc (tc p[i]) = H2 at hA ⊢
    generalize H1.next = a at hA hnx hbH ⊢
    have hx2 := hx.trans hA.ext
    have hn2 := hA.lt
    have hage := hA.ge
    obtain ⟨b', hv', hb'⟩ := VecT.avoid (a := a + 1) hv
    replace hv := VecT.ext hv' hA.ext
    have hq2 := hq.ext hx2
    have hA0 := hA.low hx
    refine s_reg ?_
    simp only [o_pure, o_nil, POp.ev, Opd.ev, gv, setD, List.set, Option.some.injEq, exists_eq_left', hq2.lenV]
    refine s_block1 ?_
    refine s_loop1 (fun k2 e' H' => ∃ (j b : Nat) (v x5 : Value), j + k2 = q.length ∧ VecT H' b v (prodL (p.take i) q ++ (q.take j).map (mulT p[i])) ∧ H.next ≤ b ∧ b ≤ H'.next ∧ b ≠ a ∧ BoxT H H' a p[i] ∧ e' = [sp, sq, .slice none 0 0, v, .pointer (some ⟨a, 0, none⟩), x5, sp, .int .i64 p.length, .int .i64 i, sq, .int .i64 q.length, .int .i64 j]) q.length ⟨0, b', _, _, by omega, by simpa using hv, by omega, by omega, by omega, hA0, rfl⟩ ?_
    clear hv hb hbH hv' hb' hA hA0 hn2 hage
    rintro k2 e' H3 ⟨j, b, v, x5', hjk, hv, hb, hbH, hba, hA, rfl⟩
    have hx3 := hA.ext
    have hn3 := hx3.next
    have hage := hA.ge
    have halt := hA.lt
    refine s_test ?_
    simp only [o_pure, o_nil, POp.ev, Opd.ev, gv, setD, Option.some.injEq, exists_eq_left', binV, ne_eq, not_true_eq_false, if_false]
    refine Test.split (fun hlt2 => ?_) (fun hlt2 => ?_)
    · have hlt3 : j < q.length := by simpa using hlt2
      obtain ⟨b4, o4, h4, a4⟩ := (hq.ext hx3).at hlt3
      refine s_skip1 ?_
      simp +decide only [p_seq_normal]
      refine s_block ?_
      refine s_reg ?_
      simp only [o_pure, o_eff, o_nil, POp.ev, Opd.ev, EOp.ev, gv, setD, List.set, Option.some.injEq, exists_eq_left', h4, a4.all, store4_new (lim := lim) (H := H3) (by omega)]
      have hB := BoxT.mk' H3 q[j]
      generalize H3.alloc (tc q[j]) = H4 at hB ⊢
      generalize H3.next = c at hB hn3 hbH ⊢
      have hn4 := hB.lt
      have hcge := hB.ge
      have hA4 := hA.mono hB.ext
      have e1 := ep _ (List.getElem_mem hlt')
      have e2 := eq _ (List.getElem_mem hlt3)
      obtain ⟨⟨u1, u2⟩, ⟨u3, u4⟩, u5, u6⟩ := e1
      obtain ⟨⟨v1, v2⟩, ⟨v3, v4⟩, v5, v6⟩ := e2
      have wx : IntKind.i64.wrap (p[i].x + q[j].x) = p[i].x + q[j].x := by rw [IntKind.wrap_i64]; omega
      have wy : IntKind.i64.wrap (p[i].y + q[j].y) = p[i].y + q[j].y := by rw [IntKind.wrap_i64]; omega
      have wz : IntKind.i64.wrap (p[i].z + q[j].z) = p[i].z + q[j].z := by rw [IntKind.wrap_i64]; omega
      replace hv := VecT.ext hv hB.ext
      have hlen : (prodL (p.take i) q ++ (q.take j).map (mulT p[i])).length ≤ 20000 := by
        have := prodL_take_le (p := p) (q := q) (i := i)
        simp
        omega
      obtain ⟨v', H5, b', g1, g2, g3, g4, g5⟩ := pushT (lim := lim) hv (mulT p[i] q[j]) (by omega) (by omega)
      refine s_reg1 ?_
      have hbs : bsliceH H4 1 [.int .i64 0, .int .i64 0, .int .i64 0, .int .i64 0] [(0, 4, tv (mulT p[i] q[j]))] = some (.slice (some ⟨H4.next, 0, some 0⟩) 1 1, H4.alloc (tc (mulT p[i] q[j]))) := bsliceT _ _
      simp only [o_pure, o_eff, o_nil, POp.ev, Opd.ev, EOp.ev, gv, setD, List.set, List.map, Option.map_some, Option.some.injEq, exists_eq_left', binV, load1V, fadV, ne_eq, not_true_eq_false, if_false, Nat.add_zero, Nat.zero_add, hA4.c0, hA4.c1, hA4.c2, hA4.c3, hB.c0, hB.c1, hB.c2, hB.c3, wx, wy, wz, bldT]
      refine ⟨_, hbs, _, g1, ?_⟩
      simp +decide only [p_seq_normal, p_block_normal]
      refine s_reg1 ?_
      simp only [o_pure, o_nil, POp.ev, Opd.ev, gv, setD, List.set, Option.some.injEq, exists_eq_left', binV, ne_eq, not_true_eq_false, if_false, add1 (i := j) (by omega)]
      simp +decide only [p_seq_normal]
      refine Round.mk (k2 - 1) (by omega) ⟨j + 1, b', v', _, by omega, ?_, by rcases g3 with rfl | g3 <;> omega, by omega, by rcases g3 with rfl | g3 <;> omega, hA4.chg g5 hb (fun e => hba e.symm), rfl⟩
      · rw [List.take_succ_eq_append_getElem hlt3, List.map_append, ← List.append_assoc]
        exact g2
    · have hge : j = q.length := by simp at hlt2; omega
      subst hge
      rw [List.take_length, ← prodL_take hlt'] at hv
      refine s_exit1 ?_
      simp +decide only [p_seq_normal, p_seq_exit, p_block_normal, p_block_exit, reduceIte]
      refine s_reg1 ?_
      simp only [o_pure, o_nil, POp.ev, Opd.ev, gv, setD, List.set, Option.some.injEq, exists_eq_left', binV, ne_eq, not_true_eq_false, if_false, add1 (i := i) (by omega)]
      simp +decide only [p_seq_normal]
      exact Round.mk (k - 1) (by omega) ⟨i + 1, b, v, _, _, _, _, _, by omega, hv, hb, hbH, hx3, rfl⟩
  · have hge : i = p.length := by simp at hlt; omega
    subst hge
    rw [List.take_length] at hv
    refine s_exit1 ?_
    simp +decide only [p_seq_normal, p_seq_exit, p_block_exit, reduceIte]
    refine s_reg ?_
    simp only [o_pure, o_callF, POp.ev, Opd.ev, gv, setD, List.map, Option.some.injEq, exists_eq_left']
    refine (collectG_ok lim v _ _ (by omega) (Vec.sl hv) (by rw [prodL_length]; omega)).mono ?_
    rintro v' H2 ⟨b', g1, g2, g3, g4⟩
    simp only [o_cont, o_pure, o_nil, POp.ev, Opd.ev, gv, setD, List.set, Option.some.injEq, exists_eq_left']
    refine s_ret1 ?_
    simp +decide only [p_fin_ret, resV, resOne, gv, Option.some.injEq, exists_eq_left']
    exact ⟨b', by omega, g2, g3, hx.trans g4⟩
end Go.Proofs.YtooaafekllkpbaaDoor

/- MixEquations: what both sides compute (plain law) and the walk of the specification's side; no condition beyond stated lengths. -/
namespace Go.Proofs.YtooaafekllkpbaaDoor
open Go.Ab
set_option linter.unusedSimpArgs false
set_option linter.unusedVariables false

def sc (n : Int) (t : Tm) : Tm := { t with c := W (t.c * n) }
end Go.Proofs.YtooaafekllkpbaaDoor

/- MixEquations: the walk of the implementation's side; no condition beyond stated lengths. -/
namespace Go.Proofs.YtooaafekllkpbaaDoor
open Go.Ab
set_option linter.unusedSimpArgs false
set_option linter.unusedVariables false

theorem fill2 {a b z1 z2 : Value} (ha : cellsV a = some [a]) (hb : cellsV b = some [b]) : fillV [z1, z2] [(0, 1, a), (1, 1, b)] = some [a, b] := by
  simp [fillV, ha, hb, putL]
end Go.Proofs.YtooaafekllkpbaaDoor

/- Systems of polynomials, part 19 of the walk: the specification's exchange of unknowns in a polynomial; no condition beyond stated lengths. -/
namespace Go.Proofs.YtooaafekllkpbaaDoor
open Go.Ab
set_option linter.unusedSimpArgs false
set_option linter.unusedVariables false

theorem BoxT.putf {lim : Nat} {Hb H : AHeap} {q : Nat} {t : Tm} (h : BoxT Hb H q t) (hl : lim ≤ q) (c : Int) {j : Nat} (hj : j < 4) : ∃ cs, storeH lim H 1 (.pointer (some ⟨q, j, none⟩)) (.int .i64 c) = some (undef, H.put q cs) ∧ BoxT Hb (H.put q cs) q (t.upd j c) := by
  refine ⟨_, store_int .i64 c hl h.blk (by simpa [tc] using hj), Chg.ext h.ext (Chg.put _ _ _) h.ge, h.ge, h.lt, ?_⟩
  rw [put_same]
  match j, hj with
  | 0, _ => rfl
  | 1, _ => rfl
  | 2, _ => rfl
  | 3, _ => rfl
theorem BoxT.other {Hb H : AHeap} {q r : Nat} {t : Tm} {cs : List Value} (h : BoxT Hb H q t) (hr : Hb.next ≤ r) (hne : q ≠ r) : BoxT Hb (H.put r cs) q t :=
  ⟨Chg.ext h.ext (Chg.put _ _ _) hr, h.ge, h.lt, by rw [put_ne _ _ hne]; exact h.blk⟩
theorem BoxT.base {Hb Hb' H : AHeap} {q : Nat} {t : Tm} (h : BoxT Hb H q t) (hx : Ext Hb' Hb) : BoxT Hb' H q t :=
  ⟨hx.trans h.ext, Nat.le_trans hx.next h.ge, h.lt, h.blk⟩

def wi (t : Tm) (k n : Int) : Tm := if k = 0 then { t with x := n } else if k = 1 then { t with y := n } else { t with z := n }
theorem poWith_ok (lim : Nat) (t : Tm) (k n : Int) (H : AHeap) (hl : lim ≤ H.next) : ACalls Tryd.prog lim n_spec_poWith [tv t, .int .i64 k, .int .i64 n] H fun v H' => v = tv (wi t k n) ∧ Ext H H' := by
  refine is_spec_poWith.go rfl ?_
  unfold c_spec_poWith
  refine s_reg ?_
  simp only [o_eff, o_nil, Opd.ev, EOp.ev, env0, gu, gv, setD, List.set, Option.some.injEq, exists_eq_left', boxT]
  have hB := BoxT.mk' H t
  have hn1 : (H.alloc (tc t)).next = H.next + 1 := rfl
  generalize H.alloc (tc t) = H1 at hB hn1 ⊢
  have hx2 := Ext.alloc H1 [.int .i64 0, .int .i64 0, .int .i64 0, .int .i64 0]
  have hr : (H1.alloc [.int .i64 0, .int .i64 0, .int .i64 0, .int .i64 0]).blk H1.next = some [.int .i64 0, .int .i64 0, .int .i64 0, .int .i64 0] := alloc_new _ _
  have hn2 : (H1.alloc [.int .i64 0, .int .i64 0, .int .i64 0, .int .i64 0]).next = H1.next + 1 := rfl
  replace hB := hB.mono hx2
  generalize H1.alloc [.int .i64 0, .int .i64 0, .int .i64 0, .int .i64 0] = H2 at hB hr hn2 ⊢
  generalize hre : H1.next = r at hr hn2 ⊢
  generalize hpe : H.next = p at hB hl ⊢
  have hpr : p ≠ r := by omega
  refine s_reg ?_
  simp only [o_pure, o_nil, POp.ev, Opd.ev, gv, setD, List.set, Option.some.injEq, exists_eq_left']
  refine s_cut1 (fun e' H' => BoxT H H' p (wi t k n) ∧ H'.blk r = some [.int .i64 0, .int .i64 0, .int .i64 0, .int .i64 0] ∧ e' = [tv t, .int .i64 k, .int .i64 n, .pointer (some ⟨p, 0, none⟩), .pointer (some ⟨r, 0, none⟩), .int .i64 k]) ?_ ?_
  · refine s_block1 ?_
    refine s_test1 ?_
    simp only [o_pure, o_nil, POp.ev, Opd.ev, gv, setD, Option.some.injEq, exists_eq_left', binV, ne_eq, not_true_eq_false, if_false]
    refine Test.split (fun h => ?_) (fun h => ?_)
    · obtain ⟨cs, g1, g2⟩ := hB.putf (lim := lim) (by omega) n (j := 1) (by omega)
      refine s_reg1 ?_
      simp only [o_pure, o_eff, o_nil, POp.ev, Opd.ev, EOp.ev, gv, setD, Option.some.injEq, exists_eq_left', fadV, Nat.zero_add, g1]
      simp +decide only [p_seq_normal, p_block_normal]
      have e : wi t k n = t.upd 1 n := by unfold wi; rw [if_pos (by simpa using h)]; rfl
      rw [e]
      exact ⟨g2, by rw [put_ne _ _ (Ne.symm hpr)]; exact hr, trivial⟩
    · refine s_test1 ?_
      simp only [o_pure, o_nil, POp.ev, Opd.ev, gv, setD, Option.some.injEq, exists_eq_left', binV, ne_eq, not_true_eq_false, if_false]
      refine Test.split (fun h2 => ?_) (fun h2 => ?_)
      · obtain ⟨cs, g1, g2⟩ := hB.putf (lim := lim) (by omega) n (j := 2) (by omega)
        refine s_reg1 ?_
        simp only [o_pure, o_eff, o_nil, POp.ev, Opd.ev, EOp.ev, gv, setD, Option.some.injEq, exists_eq_left', fadV, Nat.zero_add, g1]
        simp +decide only [p_seq_normal, p_block_normal]
        have e : wi t k n = t.upd 2 n := by unfold wi; rw [if_neg (by simpa using h), if_pos (by simpa using h2)]; rfl
        rw [e]
        exact ⟨g2, by rw [put_ne _ _ (Ne.symm hpr)]; exact hr, trivial⟩
      · obtain ⟨cs, g1, g2⟩ := hB.putf (lim := lim) (by omega) n (j := 3) (by omega)
        refine s_reg1 ?_
        simp only [o_pure, o_eff, o_nil, POp.ev, Opd.ev, EOp.ev, gv, setD, Option.some.injEq, exists_eq_left', fadV, Nat.zero_add, g1]
        simp +decide only [p_seq_normal, p_block_normal]
        have e : wi t k n = t.upd 3 n := by unfold wi; rw [if_neg (by simpa using h), if_neg (by simpa using h2)]; rfl
        rw [e]
        exact ⟨g2, by rw [put_ne _ _ (Ne.symm hpr)]; exact hr, trivial⟩
  rintro e' H3 ⟨hB3, hr3, rfl⟩
  refine s_reg ?_
  have hst : storeH lim H3 4 (.pointer (some ⟨r, 0, none⟩)) (tv (wi t k n)) = some (undef, H3.put r (tc (wi t k n))) := store4 (by omega) hr3
  simp only [o_pure, o_eff, o_nil, POp.ev, Opd.ev, EOp.ev, gv, setD, Option.some.injEq, exists_eq_left', hB3.all, hst]
  refine s_ret1 ?_
  have hld : loadNV (H3.put r (tc (wi t k n))) 4 (.pointer (some ⟨r, 0, none⟩)) = some (tv (wi t k n)) := load4 (put_same _ _ _)
  simp +decide only [p_fin_ret, resV, resOne, gv, Option.some.injEq, exists_eq_left', hld]
  exact ⟨trivial, Chg.ext hB3.ext (Chg.put _ _ _) (by omega)⟩

end Go.Proofs.YtooaafekllkpbaaDoor

/- ShiftSystem, plain law: what both sides compute is the same; no condition beyond stated ranges. -/
namespace Go.Proofs.YtooaafekllkpbaaDoor
open Go.Ab
set_option linter.unusedSimpArgs false
set_option linter.unusedVariables false

/-- terms put in one after another -/
def putAll (acc : List Tm) (M : List Tm) : List Tm := M.foldl (fun a u => putF u a) acc
theorem putAll_cons (acc : List Tm) (u : Tm) (M : List Tm) : putAll acc (u :: M) = putAll (putF u acc) M := rfl
theorem putAll_append (acc M N : List Tm) : putAll acc (M ++ N) = putAll (putAll acc M) N := List.foldl_append ..
theorem putAll_can : ∀ {M acc : List Tm}, Can acc → (∀ u ∈ M, inR u.c) → Can (putAll acc M)
  | [], acc, h, _ => h
  | u :: M, acc, h, hm => by
    rw [putAll_cons]
    exact putAll_can (h.put (hm u (by simp))) (fun v hv => hm v (by simp [hv]))
theorem cs_putAll (k : Tm) : ∀ (M acc : List Tm), cg (cs k (putAll acc M)) (cs k acc + cs k M)
  | [], acc => cg.of_eq (by simp [putAll, cs])
  | u :: M, acc => by
    rw [putAll_cons]
    refine (cs_putAll k M _).trans ?_
    refine ((cs_putF k u acc).add (cg.refl (cs k M))).trans (cg.of_eq ?_)
    simp only [cs]
    omega
theorem mem_putAll {y : Tm} : ∀ {M acc : List Tm}, y ∈ putAll acc M → y ∈ acc ∨ ∃ u ∈ M, ordT y u = 0
  | [], acc, h => .inl h
  | u :: M, acc, h => by
    rw [putAll_cons] at h
    rcases mem_putAll h with h | ⟨v, hv, h⟩
    · rcases mem_putF h with h | h
      · exact .inl h
      · exact .inr ⟨u, by simp, h⟩
    · exact .inr ⟨v, by simp [hv], h⟩
theorem putAll_length : ∀ (M acc : List Tm), (putAll acc M).length ≤ acc.length + M.length
  | [], acc => by simp [putAll]
  | u :: M, acc => by
    have h1 := putAll_length M (putF u acc)
    have h2 := putF_length u acc
    rw [putAll_cons, List.length_cons]
    omega
theorem coll_putAll {M : List Tm} (h : ∀ u ∈ M, inR u.c) : coll M = putAll [] M :=
  Can.uniq (can_coll h) (putAll_can Can.nil h) fun k => (cs_coll k M).trans ((cs_putAll k M []).trans (cg.of_eq (by simp [cs]))).symm

/-- exponents from 0 to B -/
def E (B : Int) (t : Tm) : Prop := (0 ≤ t.x ∧ t.x ≤ B) ∧ (0 ≤ t.y ∧ t.y ≤ B) ∧ (0 ≤ t.z ∧ t.z ≤ B)
theorem E.ord {B : Int} {a b : Tm} (h : E B b) (ho : ordT a b = 0) : E B a := by
  rw [ordT_zero] at ho
  unfold E at *
  omega
theorem E.exS {B : Int} {t : Tm} (h : E B t) (hB : B ≤ 1000) : exS t := by unfold E at h; unfold Go.Proofs.YtooaafekllkpbaaDoor.exS; omega
theorem E.exB {B : Int} {t : Tm} (h : E B t) (hB : B ≤ 1000) : exB t := by unfold E at h; unfold Go.Proofs.YtooaafekllkpbaaDoor.exB; omega
def upT (k : Int) (t : Tm) : Tm := wi t k (pw t k + 1)
theorem upT_c (k : Int) (t : Tm) : (upT k t).c = t.c := by
  unfold upT wi
  split
  · rfl
  · split <;> rfl
theorem upT_E {B k : Int} {t : Tm} (h : E B t) : E (B + 1) (upT k t) := by
  unfold E upT wi pw at *
  split
  · simp only; omega
  · split
    · simp only; omega
    · simp only; omega
theorem sc_E {B n : Int} {t : Tm} (h : E B t) : E (B + 1) (sc n t) := by
  unfold E sc at *
  simp only
  omega
def pairs (k n : Int) (L : List Tm) : List Tm := L.flatMap fun u => [upT k u, sc (-n) u]
theorem pairs_length (k n : Int) (L : List Tm) : (pairs k n L).length = 2 * L.length := by
  induction L with
  | nil => rfl
  | cons u L ih =>
    have : pairs k n (u :: L) = [upT k u, sc (-n) u] ++ pairs k n L := rfl
    rw [this, List.length_append, ih, List.length_cons]
    simp
    omega
theorem pairs_mem {k n : Int} {L : List Tm} {y : Tm} (h : y ∈ pairs k n L) : ∃ u ∈ L, y = upT k u ∨ y = sc (-n) u := by
  unfold pairs at h
  rw [List.mem_flatMap] at h
  obtain ⟨u, hu, h⟩ := h
  exact ⟨u, hu, by simpa using h⟩
theorem pairs_in {k n : Int} {L : List Tm} (h : ∀ t ∈ L, inR t.c) : ∀ y ∈ pairs k n L, inR y.c := by
  intro y hy
  obtain ⟨u, hu, rfl | rfl⟩ := pairs_mem hy
  · rw [upT_c]; exact h u hu
  · exact W_in _
theorem pairs_E {B k n : Int} {L : List Tm} (h : ∀ t ∈ L, E B t) : ∀ y ∈ pairs k n L, E (B + 1) y := by
  intro y hy
  obtain ⟨u, hu, rfl | rfl⟩ := pairs_mem hy
  · exact upT_E (h u hu)
  · exact sc_E (h u hu)
def xk (k : Int) : Tm := wi ⟨1, 0, 0, 0⟩ k 1
def stepF (k n : Int) (L : List Tm) : List Tm := putAll [] (pairs k n L)
structure Fine (B : Int) (m : Nat) (L : List Tm) : Prop where
  can : Can L
  ex : ∀ t ∈ L, E B t
  len : L.length ≤ m
theorem Fine.inr {B : Int} {m : Nat} {L : List Tm} (h : Fine B m L) : ∀ t ∈ L, inR t.c := fun t ht => (h.can.nz t ht).2
theorem Fine.step {B k n : Int} {m : Nat} {L : List Tm} (h : Fine B m L) : Fine (B + 1) (2 * m) (stepF k n L) := by
  refine ⟨putAll_can Can.nil (pairs_in h.inr), fun t ht => ?_, ?_⟩
  · rcases mem_putAll ht with ht | ⟨u, hu, ho⟩
    · simp at ht
    · exact (pairs_E h.ex u hu).ord ho
  · have h1 := putAll_length (pairs k n L) []
    rw [pairs_length] at h1
    have := h.len
    unfold stepF
    simp at h1
    omega
end Go.Proofs.YtooaafekllkpbaaDoor

/- The reader of expressions, plain law: values of expressions and how both sides reckon with them; no condition beyond stated ranges. -/
namespace Go.Proofs.YtooaafekllkpbaaDoor
open Go.Ab
set_option linter.unusedSimpArgs false
set_option linter.unusedVariables false

/-- a value: terms over a denominator -/
structure V where
  ts : List Tm
  den : Int
def gcdL (d : Int) (ts : List Tm) : Int := ts.foldl (fun g t => (Int.gcd g t.c : Int)) d
theorem gcdL_cons (d : Int) (t : Tm) (ts : List Tm) : gcdL d (t :: ts) = gcdL (Int.gcd d t.c : Int) ts := rfl
theorem gcdL_pos : ∀ {ts : List Tm} {d : Int}, 0 < d → 0 < gcdL d ts
  | [], d, h => h
  | t :: ts, d, h => by
    rw [gcdL_cons]
    refine gcdL_pos ?_
    have : Int.gcd d t.c ≠ 0 := by
      intro h0
      have := (Int.gcd_eq_zero_iff.1 h0).1
      omega
    omega
theorem gcdL_dvd : ∀ {ts : List Tm} {d : Int}, gcdL d ts ∣ d ∧ ∀ t ∈ ts, gcdL d ts ∣ t.c
  | [], d => ⟨Int.dvd_refl d, by simp⟩
  | t :: ts, d => by
    rw [gcdL_cons]
    obtain ⟨h1, h2⟩ := gcdL_dvd (ts := ts) (d := (Int.gcd d t.c : Int))
    refine ⟨Int.dvd_trans h1 (Int.gcd_dvd_left ..), fun u hu => ?_⟩
    rcases List.mem_cons.1 hu with rfl | hu
    · exact Int.dvd_trans h1 (Int.gcd_dvd_right ..)
    · exact h2 u hu
theorem gcdL_le {ts : List Tm} {d : Int} (h : 0 < d) : gcdL d ts ≤ d := Int.le_of_dvd h gcdL_dvd.1
/-- a term times a number -/
def scl (n : Int) (t : Tm) : Tm := { t with c := t.c * n }
theorem gcdL_scl {g : Int} (hg : 0 < g) : ∀ (ts : List Tm) (d : Int), gcdL (d * g) (ts.map (scl g)) = gcdL d ts * g
  | [], d => rfl
  | t :: ts, d => by
    rw [List.map_cons, gcdL_cons, gcdL_cons]
    have e : (Int.gcd (d * g) (scl g t).c : Int) = (Int.gcd d t.c : Int) * g := by
      show (Int.gcd (d * g) (t.c * g) : Int) = _
      rw [Int.gcd_mul_right]
      rw [Int.natCast_mul, Int.natAbs_of_nonneg (by omega)]
    rw [e]
    exact gcdL_scl hg ts _
def divT (g : Int) (t : Tm) : Tm := { t with c := t.c.tdiv g }
theorem divT_scl {g : Int} (hg : 0 < g) (h : Int) (t : Tm) : divT (h * g) (scl g t) = divT h t := by
  unfold divT scl
  simp only
  rw [Int.mul_tdiv_mul_of_pos_left _ _ hg]
def okC (t : Tm) : Bool := (decide (-1000000 ≤ t.c) && decide (t.c ≤ 1000000)) && !decide (t.x + t.y + t.z > 4)
/-- a value in lowest terms, if it is not too great -/
def mkV (ts : List Tm) (den : Int) : Option V :=
  if (ts.map (divT (gcdL den ts))).all okC && decide (den.tdiv (gcdL den ts) ≤ 1000) then some ⟨ts.map (divT (gcdL den ts)), den.tdiv (gcdL den ts)⟩ else none
theorem mkV_scl {g : Int} (hg : 0 < g) (ts : List Tm) (den : Int) : mkV (ts.map (scl g)) (den * g) = mkV ts den := by
  unfold mkV
  rw [gcdL_scl hg, Int.mul_tdiv_mul_of_pos_left _ _ hg, List.map_map]
  have e : (divT (gcdL den ts * g) ∘ scl g) = divT (gcdL den ts) := by
    funext t
    exact divT_scl hg _ t
  rw [e]

/-! ### sums of absolute values -/
def ab (n : Int) : Int := if n < 0 then -n else n
def sA : List Tm → Int
  | [] => 0
  | t :: l => ab t.c + sA l
theorem sA_nonneg : ∀ l : List Tm, 0 ≤ sA l
  | [] => Int.le_refl _
  | t :: l => by
    have := sA_nonneg l
    unfold sA ab
    split <;> omega
theorem sA_le {B : Int} : ∀ {l : List Tm}, (∀ t ∈ l, -B ≤ t.c ∧ t.c ≤ B) → sA l ≤ (l.length : Int) * B
  | [], _ => by simp [sA]
  | t :: l, h => by
    have h1 := sA_le (l := l) fun u hu => h u (by simp [hu])
    have h2 := h t (by simp)
    unfold sA ab
    rw [List.length_cons, Int.natCast_add, Int.add_mul]
    split <;> omega
theorem cs_abs (k : Tm) : ∀ l : List Tm, -sA l ≤ cs k l ∧ cs k l ≤ sA l
  | [] => by simp [sA, cs]
  | t :: l => by
    have h := cs_abs k l
    unfold sA cs ab
    split <;> split <;> omega
theorem cs_scl (k : Tm) (g : Int) : ∀ l : List Tm, cs k (l.map (scl g)) = cs k l * g
  | [] => by simp [cs]
  | t :: l => by
    rw [List.map_cons, cs, cs, cs_scl k g l, Int.add_mul]
    have : ordT (scl g t) k = ordT t k := rfl
    rw [this]
    split
    · rfl
    · simp
theorem Can.cs_mem : ∀ {l : List Tm} {t : Tm}, Can l → t ∈ l → cs t l = t.c
  | [], t, _, h => by simp at h
  | u :: l, t, hc, h => by
    obtain ⟨s1, s2⟩ := List.pairwise_cons.1 hc.sor
    rcases List.mem_cons.1 h with rfl | h
    · rw [cs, if_pos ((ordT_zero _ _).2 ⟨rfl, rfl, rfl⟩), cs_zero]
      · omega
      · intro x hx h0
        have h1 := s1 x hx
        have h2 := ordT_neg t x
        omega
    · rw [cs, if_neg (by have := s1 t h; omega), Can.cs_mem ⟨s2, fun x hx => hc.nz x (by simp [hx])⟩ h]
      omega
theorem coll_c {L : List Tm} (h : sA L < 9223372036854775808) (hi : ∀ t ∈ L, inR t.c) {t : Tm} (ht : t ∈ coll L) : t.c = cs t L := by
  have hc := can_coll hi
  have h1 := hc.cs_mem ht
  have h2 := cs_coll t L
  rw [h1] at h2
  have h3 := cs_abs t L
  exact h2.eq (hc.nz t ht).2 (by unfold inR; omega)
theorem coll_scl {L : List Tm} {g : Int} (hg : 0 < g) (h : sA L * g < 9223372036854775808) : coll (L.map (scl g)) = (coll L).map (scl g) := by
  have hn := sA_nonneg L
  have hle : sA L ≤ sA L * g := by
    have := Int.mul_le_mul_of_nonneg_left (show (1 : Int) ≤ g by omega) hn
    omega
  have hab : ∀ (t : Tm) (l : List Tm), t ∈ l → ab t.c ≤ sA l := by
    intro t l
    induction l with
    | nil => intro h; simp at h
    | cons u l ih =>
      intro h
      have h0 := sA_nonneg l
      have h1 : 0 ≤ ab u.c := by unfold ab; split <;> omega
      unfold sA
      rcases List.mem_cons.1 h with rfl | h
      · omega
      · have := ih h; omega
  have hin : ∀ t ∈ L, inR t.c := fun t ht => by
    have := hab t L ht
    unfold ab at this
    unfold inR
    split at this <;> omega
  have hmul : ∀ c : Int, ab c ≤ sA L → inR (c * g) := by
    intro c hc
    unfold ab at hc
    unfold inR
    split at hc
    · have h1 := Int.mul_le_mul_of_nonneg_right hc (show (0 : Int) ≤ g by omega)
      rw [Int.neg_mul] at h1
      have h2 := Int.mul_le_mul_of_nonneg_right (show c ≤ 0 by omega) (show (0 : Int) ≤ g by omega)
      omega
    · have h1 := Int.mul_le_mul_of_nonneg_right hc (show (0 : Int) ≤ g by omega)
      have h2 := Int.mul_nonneg (show 0 ≤ c by omega) (show (0 : Int) ≤ g by omega)
      omega
  have hin2 : ∀ t ∈ L.map (scl g), inR t.c := fun t ht => by
    obtain ⟨u, hu, rfl⟩ := List.mem_map.1 ht
    exact hmul u.c (hab u L hu)
  have hc := can_coll hin
  have hc2 : Can ((coll L).map (scl g)) := by
    refine ⟨List.pairwise_map.2 (hc.sor.imp fun h => h), fun t ht => ?_⟩
    obtain ⟨u, hu, rfl⟩ := List.mem_map.1 ht
    have h1 := coll_c (by omega) hin hu
    have h2 := cs_abs u L
    refine ⟨Int.mul_ne_zero (hc.nz u hu).1 (by omega), hmul u.c ?_⟩
    unfold ab
    split <;> omega
  refine Can.uniq (can_coll hin2) hc2 fun k => ?_
  refine (cs_coll k _).trans ?_
  rw [cs_scl, cs_scl]
  exact ((cs_coll k L).mul (cg.refl g)).symm

/-! ### what is kept -/
def exC (t : Tm) : Prop := 0 ≤ t.x ∧ 0 ≤ t.y ∧ 0 ≤ t.z
structure Good (v : V) : Prop where
  can : Can v.ts
  ok : ∀ t ∈ v.ts, (-1000000 ≤ t.c ∧ t.c ≤ 1000000) ∧ exC t ∧ t.x + t.y + t.z ≤ 4
  den : 1 ≤ v.den ∧ v.den ≤ 1000
  red : gcdL v.den v.ts = 1
theorem sor_len {f : Tm → Int} (hf : ∀ a b : Tm, (exC a ∧ a.x + a.y + a.z ≤ 4) → (exC b ∧ b.x + b.y + b.z ≤ 4) → ordT a b < 0 → f a < f b) : ∀ {l : List Tm} {m : Int}, Sor l → (∀ t ∈ l, (exC t ∧ t.x + t.y + t.z ≤ 4)) → (∀ t ∈ l, m ≤ f t ∧ f t ≤ 84) → (l.length : Int) ≤ 85 - m ∨ l = []
  | [], m, _, _, _ => .inr rfl
  | t :: l, m, hs, he, hb => by
    obtain ⟨s1, s2⟩ := List.pairwise_cons.1 hs
    have h1 := hb t (by simp)
    rcases sor_len hf (l := l) (m := f t + 1) s2 (fun u hu => he u (by simp [hu])) (fun u hu => ⟨hf t u (he t (by simp)) (he u (by simp [hu])) (s1 u hu), (hb u (by simp [hu])).2⟩) with h | rfl
    · left; rw [List.length_cons]; omega
    · left; simp; omega
theorem Good.len {v : V} (h : Good v) : v.ts.length ≤ 85 := by
  have hs : ∀ n : Int, sgn3 n < 0 → n < 0 := by
    intro n hn
    unfold sgn3 at hn
    split at hn
    · omega
    · split at hn <;> omega
  have k1 : ∀ a b : Tm, (exC a ∧ a.x + a.y + a.z ≤ 4) → (exC b ∧ b.x + b.y + b.z ≤ 4) → ordT a b < 0 → 21 * a.x + 5 * a.y + a.z < 21 * b.x + 5 * b.y + b.z := by
    intro a b ha hb ho
    unfold exC at ha hb
    unfold ordT at ho
    split at ho
    · have := hs _ ho; omega
    · split at ho
      · have := hs _ ho; omega
      · have := hs _ ho; omega
  have k2 : ∀ t ∈ v.ts, 0 ≤ 21 * t.x + 5 * t.y + t.z ∧ 21 * t.x + 5 * t.y + t.z ≤ 84 := by
    intro t ht
    have := h.ok t ht
    unfold exC at this
    omega
  rcases sor_len (f := fun t => 21 * t.x + 5 * t.y + t.z) (m := 0) k1 h.can.sor (fun t ht => (h.ok t ht).2) k2 with h1 | h1
  · omega
  · rw [h1]; simp
def zV : V := ⟨[], 1⟩
theorem zV_good : Good zV := ⟨Can.nil, by simp [zV], by simp [zV], rfl⟩
theorem mkV_good {ts : List Tm} {den : Int} (hc : Can ts) (he : ∀ t ∈ ts, exC t) (hd : 0 < den) {v : V} (h : mkV ts den = some v) : Good v := by
  unfold mkV at h
  split at h
  · rename_i hk
    cases h
    simp only [Bool.and_eq_true, List.all_eq_true, decide_eq_true_eq] at hk
    obtain ⟨hk1, hk2⟩ := hk
    have hg := gcdL_pos (ts := ts) hd
    obtain ⟨d1, d2⟩ := gcdL_dvd (ts := ts) (d := den)
    have hscl : (ts.map (divT (gcdL den ts))).map (scl (gcdL den ts)) = ts := by
      rw [List.map_map]
      refine (List.map_congr_left fun t ht => ?_).trans (List.map_id ts)
      show scl _ (divT _ t) = t
      unfold scl divT
      simp only
      rw [Int.tdiv_mul_cancel (d2 t ht)]
    have hdd : den.tdiv (gcdL den ts) * gcdL den ts = den := Int.tdiv_mul_cancel d1
    have hred : gcdL (den.tdiv (gcdL den ts)) (ts.map (divT (gcdL den ts))) = 1 := by
      have h1 := gcdL_scl hg (ts.map (divT (gcdL den ts))) (den.tdiv (gcdL den ts))
      rw [hscl, hdd] at h1
      generalize gcdL (den.tdiv (gcdL den ts)) (ts.map (divT (gcdL den ts))) = q at h1 ⊢
      have h2 : (1 : Int) * gcdL den ts = q * gcdL den ts := by omega
      exact (Int.mul_eq_mul_right_iff (by omega)).1 h2.symm
    refine ⟨⟨List.pairwise_map.2 (hc.sor.imp fun h => h), fun t ht => ?_⟩, fun t ht => ?_, ⟨?_, hk2⟩, hred⟩
    · have h1 := hk1 t ht
      obtain ⟨u, hu, rfl⟩ := List.mem_map.1 ht
      simp only [okC, Bool.and_eq_true, decide_eq_true_eq] at h1
      refine ⟨fun h0 => (hc.nz u hu).1 ?_, by unfold inR; omega⟩
      have h2 := Int.tdiv_mul_cancel (d2 u hu)
      have h3 : u.c.tdiv (gcdL den ts) = 0 := h0
      rw [h3] at h2
      omega
    · have h1 := hk1 t ht
      obtain ⟨u, hu, rfl⟩ := List.mem_map.1 ht
      simp only [okC, Bool.and_eq_true, Bool.not_eq_true', decide_eq_true_eq, decide_eq_false_iff_not] at h1
      have h2 := he u hu
      exact ⟨h1.1, h2, by omega⟩
    · show 1 ≤ den.tdiv (gcdL den ts)
      have : 0 < den.tdiv (gcdL den ts) * gcdL den ts := by omega
      have := Int.pos_of_mul_pos_left this hg
      omega
  · cases h
theorem mkV_same {v : V} (h : Good v) : mkV v.ts v.den = some v := by
  unfold mkV
  rw [h.red]
  have e : v.ts.map (divT 1) = v.ts := (List.map_congr_left fun t ht => by unfold divT; simp).trans (List.map_id _)
  rw [e, Int.tdiv_one, if_pos]
  simp only [Bool.and_eq_true, List.all_eq_true, decide_eq_true_eq]
  refine ⟨fun t ht => ?_, h.den.2⟩
  have := h.ok t ht
  simp only [okC, Bool.and_eq_true, Bool.not_eq_true', decide_eq_true_eq, decide_eq_false_iff_not]
  omega

/-! ### products and sums -/
def mulV (a b : V) : Option V := mkV (coll (prodL a.ts b.ts)) (a.den * b.den)
def lcmV (a b : V) : Int := a.den.tdiv (Int.gcd a.den b.den) * b.den
def addL (a b : V) (n : Int) (den : Int) : List Tm := a.ts.map (scl (den.tdiv a.den)) ++ b.ts.map (scl (n * den.tdiv b.den))
def addV (a b : V) (n : Int) : Option V := mkV (coll (addL a b n (lcmV a b))) (lcmV a b)
theorem prodL_mem {p q : List Tm} {t : Tm} (h : t ∈ prodL p q) : ∃ a ∈ p, ∃ b ∈ q, t = mulT a b := by
  unfold prodL at h
  obtain ⟨a, ha, h⟩ := List.mem_flatMap.1 h
  obtain ⟨b, hb, rfl⟩ := List.mem_map.1 h
  exact ⟨a, ha, b, hb, rfl⟩
theorem mem_coll {L : List Tm} (hi : ∀ t ∈ L, inR t.c) {t : Tm} (ht : t ∈ coll L) : ∃ u ∈ L, ordT t u = 0 := by
  rw [coll_putAll hi] at ht
  rcases mem_putAll ht with h | h
  · simp at h
  · exact h
theorem exC_ord {t u : Tm} (h : ordT t u = 0) (hu : exC u) : exC t := by
  rw [ordT_zero] at h
  unfold exC at *
  omega
theorem prodL_in {p q : List Tm} : ∀ t ∈ prodL p q, inR t.c := fun t ht => by
  obtain ⟨a, _, b, _, rfl⟩ := prodL_mem ht
  exact W_in _
theorem mulV_good {a b v : V} (ha : Good a) (hb : Good b) (h : mulV a b = some v) : Good v := by
  refine mkV_good (can_coll prodL_in) (fun t ht => ?_) (Int.mul_pos (by have := ha.den; omega) (by have := hb.den; omega)) h
  obtain ⟨u, hu, ho⟩ := mem_coll prodL_in ht
  obtain ⟨x, hx, y, hy, rfl⟩ := prodL_mem hu
  refine exC_ord ho ?_
  have h1 := (ha.ok x hx).2.1
  have h2 := (hb.ok y hy).2.1
  unfold exC at *
  simp only [mulT]
  omega
theorem lcm_facts {a b : V} (ha : Good a) (hb : Good b) : ∃ g : Int, 1 ≤ g ∧ g ≤ 1000 ∧ lcmV a b * g = a.den * b.den ∧ (lcmV a b).tdiv a.den * g = b.den ∧ (lcmV a b).tdiv b.den * g = a.den ∧ 1 ≤ lcmV a b ∧ lcmV a b ≤ 1000000 ∧
    (1 ≤ (lcmV a b).tdiv a.den ∧ (lcmV a b).tdiv a.den ≤ 1000) ∧ (1 ≤ (lcmV a b).tdiv b.den ∧ (lcmV a b).tdiv b.den ≤ 1000) := by
  obtain ⟨a1, a2⟩ := ha.den
  obtain ⟨b1, b2⟩ := hb.den
  unfold lcmV
  have hg0 : Int.gcd a.den b.den ≠ 0 := by
    intro h0
    have := (Int.gcd_eq_zero_iff.1 h0).1
    omega
  obtain ⟨x, hx⟩ : (Int.gcd a.den b.den : Int) ∣ a.den := Int.gcd_dvd_left ..
  obtain ⟨y, hy⟩ : (Int.gcd a.den b.den : Int) ∣ b.den := Int.gcd_dvd_right ..
  generalize hgg : ((Int.gcd a.den b.den : Nat) : Int) = g at *
  have hg : 1 ≤ g := by omega
  have hx0 : 1 ≤ x := by
    have h : 0 < g * x := by omega
    exact Int.pos_of_mul_pos_right (a := g) (b := x) h (by omega)
  have hy0 : 1 ≤ y := by
    have h : 0 < g * y := by omega
    exact Int.pos_of_mul_pos_right (a := g) (b := y) h (by omega)
  have hxl : x ≤ a.den := by
    have := Int.mul_le_mul_of_nonneg_right hg (show (0 : Int) ≤ x by omega)
    omega
  have hyl : y ≤ b.den := by
    have := Int.mul_le_mul_of_nonneg_right hg (show (0 : Int) ≤ y by omega)
    omega
  have hgl : g ≤ 1000 := by
    have := Int.mul_le_mul_of_nonneg_left hx0 (show (0 : Int) ≤ g by omega)
    omega
  have e1 : a.den.tdiv g = x := by rw [hx, Int.mul_tdiv_cancel_left _ (by omega)]
  rw [e1]
  have e2 : (x * b.den).tdiv a.den = y := by
    have : x * b.den = y * a.den := by rw [hx, hy, Int.mul_left_comm, Int.mul_left_comm y, Int.mul_comm x y]
    rw [this, Int.mul_tdiv_cancel _ (by omega)]
  have e3 : (x * b.den).tdiv b.den = x := Int.mul_tdiv_cancel _ (by omega)
  rw [e2, e3]
  have hlow : 1 ≤ x * b.den := by
    have := Int.mul_pos (show 0 < x by omega) (show 0 < b.den by omega)
    omega
  have hup : x * b.den ≤ 1000000 := by
    have h1 := Int.mul_le_mul_of_nonneg_right (show x ≤ 1000 by omega) (show 0 ≤ b.den by omega)
    omega
  refine ⟨g, hg, hgl, ?_, ?_, ?_, hlow, hup, ⟨hy0, by omega⟩, ⟨hx0, by omega⟩⟩
  · rw [Int.mul_right_comm, Int.mul_comm x g, ← hx]
  · rw [Int.mul_comm, ← hy]
  · rw [Int.mul_comm, ← hx]
theorem addL_mem {a b : V} {n d : Int} {t : Tm} (h : t ∈ addL a b n d) : (∃ u ∈ a.ts, t = scl (d.tdiv a.den) u) ∨ ∃ u ∈ b.ts, t = scl (n * d.tdiv b.den) u := by
  rcases List.mem_append.1 h with h | h
  · obtain ⟨u, hu, rfl⟩ := List.mem_map.1 h; exact .inl ⟨u, hu, rfl⟩
  · obtain ⟨u, hu, rfl⟩ := List.mem_map.1 h; exact .inr ⟨u, hu, rfl⟩
theorem mul_bnd {c n : Int} (hc : -1000000 ≤ c ∧ c ≤ 1000000) (hn : -1000 ≤ n ∧ n ≤ 1000) : -1000000000 ≤ c * n ∧ c * n ≤ 1000000000 := by
  have key : ∀ c n : Int, 0 ≤ c → c ≤ 1000000 → 0 ≤ n → n ≤ 1000 → 0 ≤ c * n ∧ c * n ≤ 1000000000 := by
    intro c n h1 h2 h3 h4
    refine ⟨Int.mul_nonneg h1 h3, ?_⟩
    have := Int.mul_le_mul h2 h4 h3 (by omega)
    omega
  by_cases h1 : 0 ≤ c <;> by_cases h2 : 0 ≤ n
  · have := key c n h1 (by omega) h2 (by omega); omega
  · have := key c (-n) h1 (by omega) (by omega) (by omega); rw [Int.mul_neg] at this; omega
  · have := key (-c) n (by omega) (by omega) h2 (by omega); rw [Int.neg_mul] at this; omega
  · have := key (-c) (-n) (by omega) (by omega) (by omega) (by omega); rw [Int.neg_mul_neg] at this; omega
theorem addL_bnd {a b : V} (ha : Good a) (hb : Good b) {n : Int} (hn : n = 1 ∨ n = -1) : ∀ t ∈ addL a b n (lcmV a b), (-1000000000 ≤ t.c ∧ t.c ≤ 1000000000) ∧ exC t := by
  obtain ⟨g, _, _, _, _, _, _, _, h8, h9⟩ := lcm_facts ha hb
  intro t ht
  rcases addL_mem ht with ⟨u, hu, rfl⟩ | ⟨u, hu, rfl⟩
  · have := ha.ok u hu
    exact ⟨mul_bnd this.1 (by omega), this.2.1⟩
  · have := hb.ok u hu
    refine ⟨mul_bnd this.1 ?_, this.2.1⟩
    rcases hn with rfl | rfl <;> omega
theorem addL_length {a b : V} (ha : Good a) (hb : Good b) (n d : Int) : (addL a b n d).length ≤ 170 := by
  have h1 := ha.len
  have h2 := hb.len
  unfold addL
  simp
  omega
theorem addV_good {a b v : V} (ha : Good a) (hb : Good b) {n : Int} (hn : n = 1 ∨ n = -1) (h : addV a b n = some v) : Good v := by
  have hB := addL_bnd ha hb hn
  have hi : ∀ t ∈ addL a b n (lcmV a b), inR t.c := fun t ht => by have := hB t ht; unfold inR; omega
  refine mkV_good (can_coll hi) (fun t ht => ?_) (by obtain ⟨_, _, _, _, _, _, h, _⟩ := lcm_facts ha hb; omega) h
  obtain ⟨u, hu, ho⟩ := mem_coll hi ht
  exact exC_ord ho (hB u hu).2
/-- what the implementation adds up -/
def addI (a b : V) (n : Int) : Option V := mkV (coll (a.ts.map (scl b.den) ++ b.ts.map (scl (n * a.den)))) (a.den * b.den)
theorem scl_scl (n g : Int) (t : Tm) : scl g (scl n t) = scl (n * g) t := by
  unfold scl
  simp only [Int.mul_assoc]
theorem add_same {a b : V} (ha : Good a) (hb : Good b) {n : Int} (hn : n = 1 ∨ n = -1) : addI a b n = addV a b n := by
  obtain ⟨g, h1, h2, h3, h4, h5, h6, h7, h8, h9⟩ := lcm_facts ha hb
  have hB := addL_bnd ha hb hn
  have hs := sA_le (B := 1000000000) fun t ht => (hB t ht).1
  have hl := addL_length ha hb n (lcmV a b)
  have hn0 := sA_nonneg (addL a b n (lcmV a b))
  have hb2 : sA (addL a b n (lcmV a b)) * g < 9223372036854775808 := by
    have e1 : sA (addL a b n (lcmV a b)) ≤ 170000000000 := by omega
    have := Int.mul_le_mul e1 h2 (by omega) (by omega)
    omega
  have e : a.ts.map (scl b.den) ++ b.ts.map (scl (n * a.den)) = (addL a b n (lcmV a b)).map (scl g) := by
    unfold addL
    rw [List.map_append, List.map_map, List.map_map]
    have e1 : (scl g ∘ scl ((lcmV a b).tdiv a.den)) = scl b.den := by
      funext t
      show scl g (scl _ t) = _
      rw [scl_scl, h4]
    have e2 : (scl g ∘ scl (n * (lcmV a b).tdiv b.den)) = scl (n * a.den) := by
      funext t
      show scl g (scl _ t) = _
      rw [scl_scl, Int.mul_assoc, h5]
    rw [e1, e2]
  unfold addI addV
  rw [e, coll_scl (by omega) hb2, ← h3]
  exact mkV_scl (by omega) _ _
theorem coll_can {L : List Tm} (h : Can L) : coll L = L :=
  Can.uniq (can_coll fun t ht => (h.nz t ht).2) h fun k => cs_coll k L
/-- nothing added to a value -/
theorem add_zero {v : V} (h : Good v) : addV zV v 1 = some v := by
  rw [← add_same zV_good h (.inl rfl)]
  unfold addI
  have e : (zV.ts.map (scl v.den) ++ v.ts.map (scl (1 * zV.den))) = v.ts := by
    show [] ++ v.ts.map (scl (1 * 1)) = v.ts
    rw [List.nil_append]
    exact (List.map_congr_left fun t ht => by unfold scl; simp).trans (List.map_id _)
  rw [e, coll_can h.can]
  show mkV v.ts (1 * v.den) = _
  rw [Int.one_mul]
  exact mkV_same h
end Go.Proofs.YtooaafekllkpbaaDoor

/- The reader of expressions, plain law: what it reads; no condition. -/
namespace Go.Proofs.YtooaafekllkpbaaDoor
open Go.Ab
set_option linter.unusedSimpArgs false
set_option linter.unusedVariables false

/-- the byte at a place, 0 behind the end -/
def ch (s : ByteArray) (i : Nat) : Nat := match s[i]? with | some b => b.toNat | none => 0
theorem ch_lt {s : ByteArray} {i : Nat} (h : ch s i ≠ 0) : i < s.size := by
  by_cases hi : i < s.size
  · exact hi
  · exfalso
    apply h
    unfold ch
    rw [getElem?_neg s i hi]
theorem ch_at {s : ByteArray} {i : Nat} (h : i < s.size) : s[i]? = some s[i] ∧ ch s i = s[i].toNat := by
  have e : s[i]? = some s[i] := getElem?_pos s i h
  exact ⟨e, by unfold ch; rw [e]⟩
theorem ch_end {s : ByteArray} {i : Nat} (h : s.size ≤ i) : ch s i = 0 := by
  unfold ch
  rw [getElem?_neg s i (by omega)]
theorem ch_b (s : ByteArray) (i : Nat) : ch s i ≤ 255 := by
  unfold ch
  split
  · rename_i b _
    have := b.toNat_lt
    omega
  · omega
def isD (c : Nat) : Bool := decide (48 ≤ c) && decide (c ≤ 57)
/-- up to k digits, then none -/
def numF (s : ByteArray) : Nat → Nat → Nat → Option (Nat × Nat)
  | 0, i, n => if isD (ch s i) then none else some (n, i)
  | k + 1, i, n => if isD (ch s i) then numF s k (i + 1) (10 * n + (ch s i - 48)) else some (n, i)
def pNum (s : ByteArray) (i : Nat) : Option (Nat × Nat) := if isD (ch s i) then numF s 3 (i + 1) (ch s i - 48) else none
theorem isD_lt {s : ByteArray} {i : Nat} (h : isD (ch s i) = true) : i < s.size := ch_lt (by
  unfold isD at h
  simp at h
  omega)
theorem numF_b {s : ByteArray} : ∀ {k i n : Nat} {r : Nat × Nat}, numF s k i n = some r → i ≤ s.size → i ≤ r.2 ∧ r.2 ≤ s.size ∧ r.1 + 1 ≤ (n + 1) * 10 ^ k ∧ isD (ch s r.2) = false
  | 0, i, n, r, h, hi => by
    unfold numF at h
    split at h
    · cases h
    · rename_i hd
      cases h
      exact ⟨Nat.le_refl _, hi, by simp, by simpa using hd⟩
  | k + 1, i, n, r, h, hi => by
    unfold numF at h
    split at h
    · rename_i hd
      have hl := isD_lt hd
      obtain ⟨h1, h2, h3, h4⟩ := numF_b h (by omega)
      refine ⟨by omega, h2, Nat.le_trans h3 ?_, h4⟩
      rw [Nat.pow_succ, Nat.mul_comm (10 ^ k) 10, ← Nat.mul_assoc]
      refine Nat.mul_le_mul_right _ ?_
      unfold isD at hd
      simp at hd
      omega
    · rename_i hd
      cases h
      refine ⟨Nat.le_refl _, hi, ?_, by simpa using hd⟩
      have : 1 ≤ 10 ^ (k + 1) := Nat.one_le_pow _ _ (by omega)
      exact Nat.le_mul_of_pos_right _ this
theorem pNum_b {s : ByteArray} {i : Nat} {r : Nat × Nat} (h : pNum s i = some r) : i < r.2 ∧ r.2 ≤ s.size ∧ r.1 ≤ 9999 ∧ isD (ch s r.2) = false := by
  unfold pNum at h
  split at h
  · rename_i hd
    have hl := isD_lt hd
    obtain ⟨h1, h2, h3, h4⟩ := numF_b h (by omega)
    refine ⟨by omega, h2, ?_, h4⟩
    unfold isD at hd
    simp at hd
    have : (ch s i - 48 + 1) * 10 ^ 3 ≤ 10 * 10 ^ 3 := Nat.mul_le_mul_right _ (by omega)
    omega
  · cases h

structure St where
  i : Nat
  most : Int
  large : Bool
def keepF (st : St) : Option V → St × V
  | some v => (st, v)
  | none => ({ st with large := true }, zV)
theorem keepF_i (st : St) (o : Option V) : (keepF st o).1.i = st.i := by cases o <;> rfl
theorem keepF_most (st : St) (o : Option V) : (keepF st o).1.most = st.most := by cases o <;> rfl
theorem keepF_large (st : St) (o : Option V) : (keepF st o).1.large = (st.large || o.isNone) := by cases o <;> simp [keepF]
theorem keepF_good {st : St} {o : Option V} (h : ∀ v, o = some v → Good v) : Good (keepF st o).2 := by
  cases o with
  | none => exact zV_good
  | some v => exact h v rfl
def oneT : Tm := ⟨1, 0, 0, 0⟩
def oneV : V := ⟨[oneT], 1⟩
theorem single_good {t : Tm} (h1 : t.c = 1) (h2 : exC t ∧ t.x + t.y + t.z ≤ 4) : Good ⟨[t], 1⟩ := by
  refine ⟨⟨List.pairwise_singleton _ _, fun u hu => ?_⟩, fun u hu => ?_, by simp, ?_⟩
  · rw [List.mem_singleton.1 hu]; unfold inR; omega
  · rw [List.mem_singleton.1 hu]; exact ⟨by omega, h2⟩
  · show ((Int.gcd 1 t.c : Nat) : Int) = 1
    rw [Int.one_gcd]
    rfl
theorem oneV_good : Good oneV := single_good rfl (by simp [exC, oneT])
theorem xk_ex (k : Int) : (xk k).c = 1 ∧ exC (xk k) ∧ (xk k).x + (xk k).y + (xk k).z ≤ 4 := by
  unfold xk wi exC
  split
  · simp
  · split <;> simp
def mx (a b : Int) : Int := if a > b then a else b
def numV (n m : Nat) : Option V := if n = 0 then some zV else mkV [⟨n, 0, 0, 0⟩] m
theorem numV_good {n m : Nat} (hn : n ≤ 9999) (hm : 0 < m) {v : V} (h : numV n m = some v) : Good v := by
  unfold numV at h
  split at h
  · cases h; exact zV_good
  · rename_i h0
    refine mkV_good ⟨List.pairwise_singleton _ _, fun u hu => ?_⟩ (fun u hu => ?_) (by omega) h
    · rw [List.mem_singleton.1 hu]
      show (n : Int) ≠ 0 ∧ inR n
      unfold inR
      omega
    · rw [List.mem_singleton.1 hu]; simp [exC]
abbrev PF := St → Option (St × V)
def pBase (s : ByteArray) (d : Int) (S : Option PF) (st : St) : Option (St × V) :=
  if 120 ≤ ch s st.i ∧ ch s st.i ≤ 122 then some ({ st with i := st.i + 1 }, ⟨[xk ((ch s st.i : Int) - 120)], 1⟩)
  else if ch s st.i = 40 then S.bind fun f => (f { st with i := st.i + 1, most := mx st.most (d + 1) }).bind fun r => if ch s r.1.i = 41 then some ({ r.1 with i := r.1.i + 1 }, r.2) else none
  else (pNum s st.i).bind fun a =>
    if ch s a.2 = 47 then (pNum s (a.2 + 1)).bind fun b => if b.1 = 0 then none else some (keepF { st with i := b.2 } (numV a.1 b.1))
    else some (keepF { st with i := a.2 } (numV a.1 1))
def powP : Nat → St → V → V → St × V
  | 0, st, out, _ => (st, out)
  | n + 1, st, out, b => powP n (keepF st (mulV out b)).1 (keepF st (mulV out b)).2 b
def pFactor (s : ByteArray) (B : PF) (st : St) : Option (St × V) :=
  (B st).bind fun r => if ch s r.1.i = 94 then (if 48 ≤ ch s (r.1.i + 1) ∧ ch s (r.1.i + 1) ≤ 52 then some (powP (ch s (r.1.i + 1) - 48) { r.1 with i := r.1.i + 2 } oneV r.2) else none) else some r
def prodLoop (s : ByteArray) (F : PF) : Nat → St → V → Option (St × V)
  | 0, _, _ => none
  | k + 1, st, v => if ch s st.i = 42 then (F { st with i := st.i + 1 }).bind fun r => prodLoop s F k (keepF r.1 (mulV v r.2)).1 (keepF r.1 (mulV v r.2)).2 else some (st, v)
def pProd (s : ByteArray) (F : PF) (st : St) : Option (St × V) := (F st).bind fun r => prodLoop s F (s.size + 1) r.1 r.2
def sgnC (c : Nat) : Int := if c = 45 then -1 else 1
def sumLoop (s : ByteArray) (F : PF) : Nat → St → V → Option (St × V)
  | 0, _, _ => none
  | k + 1, st, v => if ch s st.i = 43 ∨ ch s st.i = 45 then (F { st with i := st.i + 1 }).bind fun r => sumLoop s F k (keepF r.1 (addV v r.2 (sgnC (ch s st.i)))).1 (keepF r.1 (addV v r.2 (sgnC (ch s st.i)))).2 else some (st, v)
def pSumF (s : ByteArray) (F : PF) (st : St) : Option (St × V) :=
  if ch s st.i = 45 then (F { st with i := st.i + 1 }).bind fun r => sumLoop s F (s.size + 1) (keepF r.1 (addV zV r.2 (-1))).1 (keepF r.1 (addV zV r.2 (-1))).2
  else (F st).bind fun r => sumLoop s F (s.size + 1) r.1 r.2
def pSum (s : ByteArray) (d : Int) (S : Option PF) : PF := pSumF s (pProd s (pFactor s (pBase s d S)))
/-- a sum with so many brackets left -/
def pS (s : ByteArray) : Nat → PF
  | 0 => pSum s 4 none
  | k + 1 => pSum s (3 - (k : Int)) (some (pS s k))
def pRead (s : ByteArray) : Option (St × V) :=
  if s.size ≤ 100 then (pS s 4 ⟨0, 0, false⟩).bind fun r => if r.1.i = s.size then some r else none else none

/-- what is read goes on and is kept -/
def Adv (s : ByteArray) (f : PF) : Prop := ∀ st r, f st = some r → st.i < r.1.i ∧ r.1.i ≤ s.size ∧ Good r.2
theorem adv_base {s : ByteArray} {d : Int} {S : Option PF} (hS : ∀ f, S = some f → Adv s f) : Adv s (pBase s d S) := by
  intro st r h
  unfold pBase at h
  split at h
  · rename_i hc
    cases h
    have := ch_lt (s := s) (i := st.i) (by omega)
    have hx := xk_ex ((ch s st.i : Int) - 120)
    exact ⟨Nat.lt_succ_self _, this, single_good hx.1 hx.2⟩
  · split at h
    · rename_i hc
      obtain ⟨f, hf, h⟩ := Option.bind_eq_some_iff.1 h
      obtain ⟨q, hq, h⟩ := Option.bind_eq_some_iff.1 h
      split at h
      · rename_i h41
        cases h
        obtain ⟨h1, h2, h3⟩ := hS f hf _ _ hq
        have := ch_lt (s := s) (i := q.1.i) (by omega)
        exact ⟨Nat.lt_succ_of_lt (Nat.lt_of_succ_lt h1), this, h3⟩
      · cases h
    · obtain ⟨a, ha, h⟩ := Option.bind_eq_some_iff.1 h
      obtain ⟨a1, a2, a3, _⟩ := pNum_b ha
      split at h
      · obtain ⟨b, hb, h⟩ := Option.bind_eq_some_iff.1 h
        obtain ⟨b1, b2, b3, _⟩ := pNum_b hb
        split at h
        · cases h
        · rename_i hb0
          cases h
          refine ⟨?_, ?_, keepF_good fun v hv => numV_good a3 (by omega) hv⟩
          · rw [keepF_i]; exact Nat.lt_trans a1 (Nat.lt_of_succ_lt b1)
          · rw [keepF_i]; exact b2
      · cases h
        refine ⟨?_, ?_, keepF_good fun v hv => numV_good a3 (by omega) hv⟩
        · rw [keepF_i]; exact a1
        · rw [keepF_i]; exact a2
theorem powP_ok : ∀ (n : Nat) (st : St) (out b : V), Good out → Good b → (powP n st out b).1.i = st.i ∧ Good (powP n st out b).2
  | 0, st, out, b, h, _ => ⟨rfl, h⟩
  | n + 1, st, out, b, h, hb => by
    have := powP_ok n (keepF st (mulV out b)).1 (keepF st (mulV out b)).2 b (keepF_good fun v hv => mulV_good h hb hv) hb
    rw [keepF_i] at this
    exact this
theorem adv_factor {s : ByteArray} {B : PF} (hB : Adv s B) : Adv s (pFactor s B) := by
  intro st r h
  unfold pFactor at h
  obtain ⟨q, hq, h⟩ := Option.bind_eq_some_iff.1 h
  obtain ⟨h1, h2, h3⟩ := hB _ _ hq
  split at h
  · split at h
    · rename_i hc
      cases h
      obtain ⟨p1, p2⟩ := powP_ok (ch s (q.1.i + 1) - 48) { q.1 with i := q.1.i + 2 } oneV q.2 oneV_good h3
      have := ch_lt (s := s) (i := q.1.i + 1) (by omega)
      rw [p1]
      exact ⟨by show st.i < q.1.i + 2; omega, by show q.1.i + 2 ≤ s.size; omega, p2⟩
    · cases h
  · cases h; exact ⟨h1, h2, h3⟩
theorem adv_prodLoop {s : ByteArray} {F : PF} (hF : Adv s F) : ∀ (k : Nat) (st : St) (v : V) (r : St × V), st.i ≤ s.size → Good v → prodLoop s F k st v = some r → st.i ≤ r.1.i ∧ r.1.i ≤ s.size ∧ Good r.2
  | 0, st, v, r, _, _, h => by cases h
  | k + 1, st, v, r, hi, hv, h => by
    unfold prodLoop at h
    split at h
    · obtain ⟨q, hq, h⟩ := Option.bind_eq_some_iff.1 h
      obtain ⟨h1, h2, h3⟩ := hF _ _ hq
      have := adv_prodLoop hF k _ _ r (by rw [keepF_i]; exact h2) (keepF_good fun u hu => mulV_good hv h3 hu) h
      rw [keepF_i] at this
      exact ⟨Nat.le_trans (Nat.le_of_lt (Nat.lt_of_succ_lt h1)) this.1, this.2⟩
    · cases h; exact ⟨Nat.le_refl _, hi, hv⟩
theorem adv_prod {s : ByteArray} {F : PF} (hF : Adv s F) : Adv s (pProd s F) := by
  intro st r h
  unfold pProd at h
  obtain ⟨q, hq, h⟩ := Option.bind_eq_some_iff.1 h
  obtain ⟨h1, h2, h3⟩ := hF _ _ hq
  obtain ⟨g1, g2⟩ := adv_prodLoop hF _ _ _ r h2 h3 h
  exact ⟨Nat.lt_of_lt_of_le h1 g1, g2⟩
theorem sgnC_or (c : Nat) : sgnC c = 1 ∨ sgnC c = -1 := by unfold sgnC; split <;> simp
theorem adv_sumLoop {s : ByteArray} {F : PF} (hF : Adv s F) : ∀ (k : Nat) (st : St) (v : V) (r : St × V), st.i ≤ s.size → Good v → sumLoop s F k st v = some r → st.i ≤ r.1.i ∧ r.1.i ≤ s.size ∧ Good r.2
  | 0, st, v, r, _, _, h => by cases h
  | k + 1, st, v, r, hi, hv, h => by
    unfold sumLoop at h
    split at h
    · obtain ⟨q, hq, h⟩ := Option.bind_eq_some_iff.1 h
      obtain ⟨h1, h2, h3⟩ := hF _ _ hq
      have := adv_sumLoop hF k _ _ r (by rw [keepF_i]; exact h2) (keepF_good fun u hu => addV_good hv h3 (sgnC_or _) hu) h
      rw [keepF_i] at this
      exact ⟨Nat.le_trans (Nat.le_of_lt (Nat.lt_of_succ_lt h1)) this.1, this.2⟩
    · cases h; exact ⟨Nat.le_refl _, hi, hv⟩
theorem adv_sum {s : ByteArray} {F : PF} (hF : Adv s F) : Adv s (pSumF s F) := by
  intro st r h
  unfold pSumF at h
  split at h
  · obtain ⟨q, hq, h⟩ := Option.bind_eq_some_iff.1 h
    obtain ⟨h1, h2, h3⟩ := hF _ _ hq
    have := adv_sumLoop hF _ _ _ r (by rw [keepF_i]; exact h2) (keepF_good fun u hu => addV_good zV_good h3 (.inr rfl) hu) h
    rw [keepF_i] at this
    exact ⟨Nat.lt_of_lt_of_le (Nat.lt_of_succ_lt h1) this.1, this.2⟩
  · obtain ⟨q, hq, h⟩ := Option.bind_eq_some_iff.1 h
    obtain ⟨h1, h2, h3⟩ := hF _ _ hq
    obtain ⟨g1, g2⟩ := adv_sumLoop hF _ _ _ r h2 h3 h
    exact ⟨Nat.lt_of_lt_of_le h1 g1, g2⟩
theorem adv_pSum {s : ByteArray} {d : Int} {S : Option PF} (hS : ∀ f, S = some f → Adv s f) : Adv s (pSum s d S) := adv_sum (adv_prod (adv_factor (adv_base hS)))
theorem adv_pS (s : ByteArray) : ∀ k, Adv s (pS s k)
  | 0 => adv_pSum (by intro f h; cases h)
  | k + 1 => adv_pSum (by intro f h; cases h; exact adv_pS s k)
end Go.Proofs.YtooaafekllkpbaaDoor

/- The reader of expressions, specification: its cells, the greatest common divisor, the next byte, what is kept; no condition beyond stated ranges. -/
namespace Go.Proofs.YtooaafekllkpbaaDoor
open Go.Ab
set_option linter.unusedSimpArgs false
set_option linter.unusedVariables false

abbrev pt (q : Nat) : Value := .pointer (some ⟨q, 0, none⟩)
theorem gcd_step {x y : Int} : Int.gcd y (x.tmod y) = Int.gcd x y := by
  unfold Int.gcd
  rw [Int.natAbs_tmod, Nat.gcd_comm, ← Nat.gcd_rec, Nat.gcd_comm]
theorem txCommon_ok (lim : Nat) (a b : Int) (H : AHeap) (ha : 0 ≤ a) (hb : 0 ≤ b) : ACalls Tryd.prog lim n_spec_txCommon [.int .i64 a, .int .i64 b] H fun v H' => v = .int .i64 (Int.gcd a b : Int) ∧ H' = H := by
  refine is_spec_txCommon.go rfl ?_
  unfold c_spec_txCommon
  refine s_reg ?_
  simp only [o_pure, o_nil, POp.ev, Opd.ev, env0, gu, setD, List.set, Option.some.injEq, exists_eq_left']
  refine s_block ?_
  refine s_loop1 (fun k e' H' => ∃ (x y : Int) (r : Value), 0 ≤ x ∧ 0 ≤ y ∧ Int.gcd x y = Int.gcd a b ∧ k = y.toNat ∧ H' = H ∧ e' = [.int .i64 x, .int .i64 y, .int .i64 0, r]) b.toNat ⟨a, b, _, ha, hb, rfl, rfl, rfl, rfl⟩ ?_
  rintro k e' H' ⟨x, y, r, hx, hy, hg, rfl, rfl, rfl⟩
  refine s_test ?_
  simp only [o_pure, o_nil, POp.ev, Opd.ev, gv, setD, Option.some.injEq, exists_eq_left', binV, ne_eq, not_true_eq_false, if_false]
  refine Test.split (fun hgt => ?_) (fun hgt => ?_)
  · have hy0 : 0 < y := by simpa using hgt
    have hne : (y = 0) = False := by simp; omega
    refine s_skip1 ?_
    simp +decide only [p_seq_normal]
    refine s_block1 ?_
    refine s_reg ?_
    simp only [o_pure, o_nil, POp.ev, Opd.ev, gv, setD, List.set, Option.some.injEq, exists_eq_left', binV, ne_eq, not_true_eq_false, if_false, hne]
    refine s_reg ?_
    simp only [o_pure, o_nil, POp.ev, Opd.ev, gv, setD, List.set, Option.some.injEq, exists_eq_left']
    refine s_reg1 ?_
    simp only [o_pure, o_nil, POp.ev, Opd.ev, gv, setD, List.set, Option.some.injEq, exists_eq_left']
    simp +decide only [p_seq_normal, p_block_normal]
    have h1 := Int.tmod_nonneg y hx
    have h2 := Int.tmod_lt_of_pos x hy0
    exact Round.mk _ (by omega) ⟨y, x.tmod y, _, hy, h1, by rw [gcd_step, hg], rfl, rfl, rfl⟩
  · have hy0 : y = 0 := by simp at hgt; omega
    subst hy0
    refine s_exit1 ?_
    simp +decide only [p_seq_normal, p_seq_exit, p_block_exit, reduceIte]
    refine s_reg ?_
    simp only [o_pure, o_nil, POp.ev, Opd.ev, gv, setD, List.set, Option.some.injEq, exists_eq_left']
    refine s_ret1 ?_
    simp +decide only [p_fin_ret, resV, resOne, gv, Option.some.injEq, exists_eq_left']
    refine ⟨?_, trivial⟩
    rw [← hg, Int.gcd_zero_right, Int.natAbs_of_nonneg hx]
theorem l1Abs_ok (lim : Nat) (a : Int) (H : AHeap) (ha : -9223372036854775807 ≤ a ∧ a ≤ 9223372036854775807) : ACalls Tryd.prog lim n_spec_l1Abs [.int .i64 a] H fun v H' => v = .int .i64 (a.natAbs : Int) ∧ H' = H := by
  refine is_spec_l1Abs.go rfl ?_
  unfold c_spec_l1Abs
  refine s_reg ?_
  simp only [o_pure, o_nil, POp.ev, Opd.ev, env0, gu, setD, List.set, Option.some.injEq, exists_eq_left']
  refine s_reg ?_
  simp only [o_pure, o_callF, POp.ev, Opd.ev, gv, setD, List.map, Option.some.injEq, exists_eq_left', unV]
  refine (l1Most_ok _ _ _ _).eq ?_
  simp only [o_cont, o_pure, o_nil, POp.ev, Opd.ev, gv, setD, List.set, Option.some.injEq, exists_eq_left']
  refine s_ret1 ?_
  simp +decide only [p_fin_ret, resV, resOne, gv, Option.some.injEq, exists_eq_left']
  refine ⟨?_, trivial⟩
  have hw : IntKind.i64.wrap (0 - a) = -a := by rw [IntKind.wrap_i64]; omega
  rw [hw]
  congr 1
  split <;> omega
theorem gcd_ok (lim : Nat) (a b : Int) (H : AHeap) (ha : -9223372036854775807 ≤ a ∧ a ≤ 9223372036854775807) (hb : -9223372036854775807 ≤ b ∧ b ≤ 9223372036854775807) : ACalls Tryd.prog lim n_impl_gcd [.int .i64 a, .int .i64 b] H fun v H' => v = .int .i64 (Int.gcd a b : Int) ∧ H' = H := by
  refine is_impl_gcd.go rfl ?_
  unfold c_impl_gcd
  refine s_reg ?_
  simp only [o_pure, o_nil, POp.ev, Opd.ev, env0, gu, setD, List.set, Option.some.injEq, exists_eq_left']
  refine s_block ?_
  refine s_loop1 (fun k e' H' => ∃ (x y : Int), (-9223372036854775807 ≤ x ∧ x ≤ 9223372036854775807) ∧ Int.gcd x y = Int.gcd a b ∧ k = y.natAbs ∧ (-9223372036854775807 ≤ y ∧ y ≤ 9223372036854775807) ∧ H' = H ∧ e' = [.int .i64 x, .int .i64 y, .int .i64 0]) b.natAbs ⟨a, b, ha, rfl, rfl, hb, rfl, rfl⟩ ?_
  rintro k e' H' ⟨x, y, hx, hg, rfl, hy, rfl, rfl⟩
  refine s_test ?_
  simp only [o_pure, o_nil, POp.ev, Opd.ev, gv, setD, Option.some.injEq, exists_eq_left', binV, ne_eq, not_true_eq_false, if_false]
  refine Test.split (fun hne => ?_) (fun hne => ?_)
  · have hy0 : y ≠ 0 := by simpa using hne
    have hne : (y = 0) = False := by simp [hy0]
    refine s_skip1 ?_
    simp +decide only [p_seq_normal]
    refine s_block1 ?_
    refine s_reg1 ?_
    simp only [o_pure, o_nil, POp.ev, Opd.ev, gv, setD, List.set, Option.some.injEq, exists_eq_left', binV, ne_eq, not_true_eq_false, if_false, hne]
    simp +decide only [p_seq_normal, p_block_normal]
    have h1 : (x.tmod y).natAbs < y.natAbs := by
      rw [Int.natAbs_tmod]
      exact Nat.mod_lt _ (by omega)
    exact Round.mk _ h1 ⟨y, x.tmod y, hy, by rw [gcd_step, hg], rfl, by omega, rfl, rfl⟩
  · have hy0 : y = 0 := by simpa using hne
    subst hy0
    refine s_exit1 ?_
    simp +decide only [p_seq_normal, p_seq_exit, p_block_exit, reduceIte]
    refine s_reg ?_
    simp only [o_pure, o_nil, POp.ev, Opd.ev, gv, setD, List.set, Option.some.injEq, exists_eq_left', max2V, unV]
    refine s_ret1 ?_
    simp +decide only [p_fin_ret, resV, resOne, gv, Option.some.injEq, exists_eq_left']
    refine ⟨?_, trivial⟩
    have hw : IntKind.i64.wrap (0 - x) = -x := by rw [IntKind.wrap_i64]; omega
    rw [hw, ← hg, Int.gcd_zero_right]
    congr 1
    split <;> omega

/-! ### the reader's cells -/
def SRd (H : AHeap) (q : Nat) (s : ByteArray) (i d m : Int) (w l : Bool) : Prop := H.blk q = some [.string s, .int .i64 i, .int .i64 d, .int .i64 m, .bool w, .bool l]
section
variable {lim q : Nat} {H H' : AHeap} {s : ByteArray} {i d m : Int} {w l : Bool}
theorem SRd.c0 (h : SRd H q s i d m w l) : H.cell q 0 = some (.string s) := cell_blk h 0
theorem SRd.c1 (h : SRd H q s i d m w l) : H.cell q 1 = some (.int .i64 i) := cell_blk h 1
theorem SRd.c2 (h : SRd H q s i d m w l) : H.cell q 2 = some (.int .i64 d) := cell_blk h 2
theorem SRd.c3 (h : SRd H q s i d m w l) : H.cell q 3 = some (.int .i64 m) := cell_blk h 3
theorem SRd.c4 (h : SRd H q s i d m w l) : H.cell q 4 = some (.bool w) := cell_blk h 4
theorem SRd.c5 (h : SRd H q s i d m w l) : H.cell q 5 = some (.bool l) := cell_blk h 5
theorem SRd.ext (h : SRd H q s i d m w l) (hx : Ext H H') (hq : q < H.next) : SRd H' q s i d m w l := by unfold SRd at *; rw [hx.blk q hq]; exact h
theorem SRd.chg {b : Nat} (h : SRd H q s i d m w l) (hx : Chg b H H') (hq : q < H.next) (hne : q ≠ b) : SRd H' q s i d m w l := by unfold SRd at *; rw [hx.blk q hq hne]; exact h
theorem SRd.s1 (h : SRd H q s i d m w l) (hl : lim ≤ q) (x : Int) : ∃ H', storeH lim H 1 (.pointer (some ⟨q, 1, none⟩)) (.int .i64 x) = some (undef, H') ∧ SRd H' q s x d m w l ∧ Chg q H H' :=
  ⟨_, store_cell rfl hl h (by simp), put_same _ _ _, Chg.put _ _ _⟩
theorem SRd.s2 (h : SRd H q s i d m w l) (hl : lim ≤ q) (x : Int) : ∃ H', storeH lim H 1 (.pointer (some ⟨q, 2, none⟩)) (.int .i64 x) = some (undef, H') ∧ SRd H' q s i x m w l ∧ Chg q H H' :=
  ⟨_, store_cell rfl hl h (by simp), put_same _ _ _, Chg.put _ _ _⟩
theorem SRd.s3 (h : SRd H q s i d m w l) (hl : lim ≤ q) (x : Int) : ∃ H', storeH lim H 1 (.pointer (some ⟨q, 3, none⟩)) (.int .i64 x) = some (undef, H') ∧ SRd H' q s i d x w l ∧ Chg q H H' :=
  ⟨_, store_cell rfl hl h (by simp), put_same _ _ _, Chg.put _ _ _⟩
theorem SRd.s4 (h : SRd H q s i d m w l) (hl : lim ≤ q) (x : Bool) : ∃ H', storeH lim H 1 (.pointer (some ⟨q, 4, none⟩)) (.bool x) = some (undef, H') ∧ SRd H' q s i d m x l ∧ Chg q H H' :=
  ⟨_, store_cell rfl hl h (by simp), put_same _ _ _, Chg.put _ _ _⟩
theorem SRd.s5 (h : SRd H q s i d m w l) (hl : lim ≤ q) (x : Bool) : ∃ H', storeH lim H 1 (.pointer (some ⟨q, 5, none⟩)) (.bool x) = some (undef, H') ∧ SRd H' q s i d m w x ∧ Chg q H H' :=
  ⟨_, store_cell rfl hl h (by simp), put_same _ _ _, Chg.put _ _ _⟩
end
/-- a slice of terms whose block is not older than lo -/
def SlF (H : AHeap) (lo : Nat) (sl : Value) (ts : List Tm) : Prop := (sl = .slice none 0 0 ∧ ts = []) ∨ ∃ b, lo ≤ b ∧ b < H.next ∧ VecT H b sl ts
theorem SlF.of {H : AHeap} {lo b : Nat} {sl : Value} {ts : List Tm} (h : VecT H b sl ts) (hb : lo ≤ b) : SlF H lo sl ts := by
  rcases h with ⟨h1, _, h2⟩ | ⟨c, sp, rest, h1, h2, h3, h4⟩
  · refine .inl ⟨h1, ?_⟩
    cases ts with
    | nil => rfl
    | cons t ts => simp [tcs, tc] at h2
  · exact .inr ⟨b, hb, h3, .inr ⟨c, sp, rest, h1, h2, h3, h4⟩⟩
theorem SlF.nil (H : AHeap) (lo : Nat) : SlF H lo (.slice none 0 0) [] := .inl ⟨rfl, rfl⟩
theorem SlF.get {H : AHeap} {lo : Nat} {sl : Value} {ts : List Tm} (h : SlF H lo sl ts) (p q : Nat) (hp : p < lo ∨ H.next ≤ p) (hq : q < lo ∨ H.next ≤ q) : ∃ b, VecT H b sl ts ∧ b ≠ p ∧ b ≠ q := by
  rcases h with ⟨rfl, rfl⟩ | ⟨b, h1, h2, h3⟩
  · exact ⟨p + q + 1, vecT_nil _ _, by omega, by omega⟩
  · exact ⟨b, h3, by omega, by omega⟩
theorem SlF.sl {H : AHeap} {lo : Nat} {sl : Value} {ts : List Tm} (h : SlF H lo sl ts) : SlT H sl ts := by
  obtain ⟨b, h1, _⟩ := h.get H.next H.next (.inr (Nat.le_refl _)) (.inr (Nat.le_refl _))
  exact Vec.sl h1
theorem SlF.cell {H : AHeap} {lo : Nat} {sl : Value} {ts : List Tm} (h : SlF H lo sl ts) : cellsV sl = some [sl] := by
  rcases h with ⟨rfl, rfl⟩ | ⟨b, h1, h2, h3⟩
  · rfl
  · rcases h3 with ⟨rfl, _⟩ | ⟨c, sp, rest, rfl, _⟩ <;> rfl
theorem SlF.low {H : AHeap} {lo lo' : Nat} {sl : Value} {ts : List Tm} (h : SlF H lo sl ts) (hl : lo' ≤ lo) : SlF H lo' sl ts := h.imp id fun ⟨b, h1, h2⟩ => ⟨b, Nat.le_trans hl h1, h2⟩
theorem SlF.chg {H H' : AHeap} {lo p : Nat} {sl : Value} {ts : List Tm} (h : SlF H lo sl ts) (hx : Chg p H H') (hp : p < lo ∨ H.next ≤ p) : SlF H' lo sl ts :=
  h.imp id fun ⟨b, h1, h2, h3⟩ => ⟨b, h1, Nat.lt_of_lt_of_le h2 hx.next, VecT.chg h3 hx (by omega)⟩
theorem SlF.ext {H H' : AHeap} {lo : Nat} {sl : Value} {ts : List Tm} (h : SlF H lo sl ts) (hx : Ext H H') : SlF H' lo sl ts := h.chg (Chg.of_ext (b := H.next) hx) (.inr (Nat.le_refl _))
/-- a value whose terms lie in a block not older than lo -/
def SV (H : AHeap) (lo : Nat) (v : Value) (V : V) : Prop := ∃ sl, v = .agg #[sl, .int .i64 V.den] ∧ SlF H lo sl V.ts
theorem sv_zero (H : AHeap) (lo : Nat) : SV H lo (.agg #[.slice none 0 0, .int .i64 1]) zV := ⟨_, rfl, SlF.nil _ _⟩
/-- a block of one's own beside block q -/
structure Loc (q : Nat) (Hb H : AHeap) (p : Nat) (cs : List Value) : Prop where
  chg : Chg q Hb H
  ge : Hb.next ≤ p
  lt : p < H.next
  blk : H.blk p = some cs
theorem Loc.mk' {q : Nat} {Hb H : AHeap} (h : Chg q Hb H) (cs : List Value) : Loc q Hb (H.alloc cs) H.next cs := ⟨h.trans (Chg.of_ext (Ext.alloc _ _)), h.next, Nat.lt_succ_self _, alloc_new _ _⟩
theorem Loc.step {q : Nat} {Hb H H' : AHeap} {p : Nat} {cs : List Value} (h : Loc q Hb H p cs) (c : Chg q H H') (hq : q < Hb.next) : Loc q Hb H' p cs :=
  ⟨h.chg.trans c, h.ge, Nat.lt_of_lt_of_le h.lt c.next, by rw [c.blk p h.lt (by have := h.ge; omega)]; exact h.blk⟩
theorem Loc.ext {q : Nat} {Hb H H' : AHeap} {p : Nat} {cs : List Value} (h : Loc q Hb H p cs) (c : Ext H H') : Loc q Hb H' p cs :=
  ⟨h.chg.trans (Chg.of_ext c), h.ge, Nat.lt_of_lt_of_le h.lt c.next, by rw [c.blk p h.lt]; exact h.blk⟩
theorem chg_over {q p : Nat} {Hb H H' : AHeap} (h : Chg q Hb H) (c : Chg p H H') (hp : Hb.next ≤ p) : Chg q Hb H' :=
  ⟨Nat.le_trans h.next c.next, fun b hb hn => (c.blk b (Nat.lt_of_lt_of_le hb h.next) (by omega)).trans (h.blk b hb hn)⟩
theorem Loc.other {q : Nat} {Hb H H' : AHeap} {p p' : Nat} {cs : List Value} (h : Loc q Hb H p cs) (c : Chg p' H H') (hne : p ≠ p') (hp : Hb.next ≤ p') : Loc q Hb H' p cs :=
  ⟨chg_over h.chg c hp, h.ge, Nat.lt_of_lt_of_le h.lt c.next, by rw [c.blk p h.lt hne]; exact h.blk⟩
theorem Loc.put2 {lim q : Nat} {Hb H : AHeap} {p : Nat} {a b : Value} (h : Loc q Hb H p [a, b]) (hl : lim ≤ Hb.next) (x y : Value) : ∃ H', storeH lim H 2 (pt p) (.agg #[x, y]) = some (undef, H') ∧ Loc q Hb H' p [x, y] ∧ Chg p H H' ∧ H'.next = H.next :=
  ⟨_, store_all (cs := [a, b]) (xs := [x, y]) (Nat.le_trans hl h.ge) h.blk rfl, ⟨chg_over h.chg (Chg.put _ _ _) h.ge, h.ge, h.lt, put_same _ _ _⟩, Chg.put _ _ _, rfl⟩
theorem Loc.load2 {q : Nat} {Hb H : AHeap} {p : Nat} {a b : Value} (h : Loc q Hb H p [a, b]) : loadNV H 2 (pt p) = some (.agg #[a, b]) := loadNV_blk h.blk
theorem Loc.c0 {q : Nat} {Hb H : AHeap} {p : Nat} {a : Value} {l : List Value} (h : Loc q Hb H p (a :: l)) : H.cell p 0 = some a := cell_blk h.blk 0
theorem Loc.c1 {q : Nat} {Hb H : AHeap} {p : Nat} {a b : Value} {l : List Value} (h : Loc q Hb H p (a :: b :: l)) : H.cell p 1 = some b := cell_blk h.blk 1
theorem SRd.over {q p : Nat} {H H' : AHeap} {s : ByteArray} {i d m : Int} {w l : Bool} (h : SRd H q s i d m w l) (hx : Chg p H H') (hq : q < H.next) (hne : q ≠ p) : SRd H' q s i d m w l := h.chg hx hq hne
theorem box2 (H : AHeap) (a b : Value) : boxH H (.agg #[a, b]) = some (pt H.next, H.alloc [a, b]) := rfl

theorem sNext_ok (lim q : Nat) (s : ByteArray) (i : Nat) (d m : Int) (w l : Bool) (H : AHeap) (h : SRd H q s i d m w l) : ACalls Tryd.prog lim n_spec_txReader_next [pt q] H fun v H' => v = .int .u8 (ch s i : Int) ∧ H' = H := by
  refine is_spec_txReader_next.go rfl ?_
  unfold c_spec_txReader_next
  refine s_reg ?_
  simp only [o_pure, o_nil, POp.ev, Opd.ev, env0, gu, setD, List.set, Option.some.injEq, exists_eq_left']
  refine s_test ?_
  simp only [o_pure, o_nil, POp.ev, Opd.ev, gv, setD, Option.some.injEq, exists_eq_left', binV, load1V, nilchkV, fadV, slenV, ne_eq, not_true_eq_false, if_false, Nat.zero_add, h.c0, h.c1]
  refine Test.split (fun hlt => ?_) (fun hlt => ?_)
  · have hlt' : i < s.size := by simpa using hlt
    obtain ⟨e1, e2⟩ := ch_at hlt'
    have e3 : sixV (.string s) (.int .i64 (i : Int)) = some (.int .u8 (ch s i : Int)) := by simp [sixV, e1, e2]
    refine s_reg ?_
    simp only [o_pure, o_nil, POp.ev, Opd.ev, gv, setD, List.set, Option.some.injEq, exists_eq_left', load1V, nilchkV, fadV, Nat.zero_add, h.c0, h.c1, e3]
    refine s_ret1 ?_
    simp +decide only [p_seq_ret, p_fin_ret, resV, resOne, gv, Option.some.injEq, exists_eq_left']
    all_goals trivial
  · have hlt' : s.size ≤ i := by simpa using hlt
    refine s_skip1 ?_
    simp +decide only [p_seq_normal]
    refine s_reg ?_
    simp only [o_pure, o_nil, POp.ev, Opd.ev, setD, List.set, Option.some.injEq, exists_eq_left']
    refine s_ret1 ?_
    simp +decide only [p_fin_ret, resV, resOne, gv, Option.some.injEq, exists_eq_left']
    rw [ch_end hlt']
    trivial

theorem sKeep_ok (lim q : Nat) (s : ByteArray) (i d m : Int) (w l ok : Bool) (sl : Value) (den : Int) (H : AHeap) (hq : lim ≤ q) (hqn : q < H.next) (hl : lim ≤ H.next) (h : SRd H q s i d m w l) :
    ACalls Tryd.prog lim n_spec_txReader_keep [pt q, .agg #[sl, .int .i64 den], .bool ok] H fun v H' => v = .agg #[if ok then sl else .slice none 0 0, .int .i64 (if ok then den else 1)] ∧ SRd H' q s i d m w (l || !ok) ∧ Chg q H H' := by
  refine is_spec_txReader_keep.go rfl ?_
  unfold c_spec_txReader_keep
  refine s_reg ?_
  simp only [o_eff, o_nil, Opd.ev, EOp.ev, env0, gu, gv, setD, List.set, Option.some.injEq, exists_eq_left', box2]
  have L3 := Loc.mk' (Chg.refl q H) [sl, .int .i64 den]
  have hx1 := Ext.alloc H [sl, .int .i64 den]
  generalize H.alloc [sl, .int .i64 den] = H1 at L3 hx1 ⊢
  have L4 := Loc.mk' L3.chg [.slice none 0 0, .int .i64 0]
  have hne : H.next ≠ H1.next := by have := L3.lt; omega
  have hx2 := Ext.alloc H1 [.slice none 0 0, .int .i64 0]
  replace L3 := L3.ext hx2
  generalize H1.alloc [.slice none 0 0, .int .i64 0] = H2 at L3 L4 hx2 ⊢
  generalize H1.next = p4 at L4 hne ⊢
  generalize hp3 : H.next = p3 at L3 hne
  have h2 := h.ext (hx1.trans hx2) hqn
  refine s_test ?_
  simp only [o_pure, o_nil, POp.ev, Opd.ev, gv, setD, Option.some.injEq, exists_eq_left', unV]
  cases ok
  · refine Test.true_ ?_
    obtain ⟨H3, e3, h3, c3⟩ := h2.s5 hq true
    refine s_reg ?_
    simp only [o_pure, o_eff, o_nil, POp.ev, Opd.ev, EOp.ev, gv, setD, Option.some.injEq, exists_eq_left', nilchkV, fadV, if_false, Bool.false_eq_true, Bool.not_false, Nat.zero_add, e3]
    replace L4 := L4.step c3 hqn
    obtain ⟨H4, e4, L4', c4, n4⟩ := L4.put2 hl (.slice none 0 0) (.int .i64 1)
    have hf : fillV [.slice none 0 0, .int .i64 0] [(1, 1, .int .i64 1)] = some [.slice none 0 0, .int .i64 1] := rfl
    refine s_reg ?_
    simp only [o_pure, o_eff, o_nil, POp.ev, Opd.ev, EOp.ev, gv, setD, List.map, Option.map_some, Option.some.injEq, exists_eq_left', hf, e4]
    refine s_ret1 ?_
    simp +decide only [p_seq_ret, p_fin_ret, resV, resOne, gv, Option.some.injEq, exists_eq_left', L4'.load2]
    refine ⟨trivial, ?_, L4'.chg⟩
    rw [Bool.or_true]
    exact h3.over c4 (Nat.lt_of_lt_of_le hqn (Nat.le_trans L4.chg.next (Nat.le_refl _))) (by have := L4.ge; omega)
  · refine Test.false_ (s_skip1 ?_)
    simp +decide only [p_seq_normal, reduceIte]
    obtain ⟨H4, e4, L4', c4, n4⟩ := L4.put2 hl sl (.int .i64 den)
    refine s_reg ?_
    simp only [o_pure, o_eff, o_nil, POp.ev, Opd.ev, EOp.ev, gv, setD, Option.some.injEq, exists_eq_left', Bool.not_true, L3.load2, e4]
    refine s_ret1 ?_
    simp +decide only [p_fin_ret, resV, resOne, gv, Option.some.injEq, exists_eq_left', L4'.load2]
    refine ⟨trivial, ?_, L4'.chg⟩
    rw [Bool.or_false]
    exact h2.over c4 (Nat.lt_of_lt_of_le hqn (Nat.le_trans L4.chg.next (Nat.le_refl _))) (by have := L4.ge; omega)
end Go.Proofs.YtooaafekllkpbaaDoor

/- The reader of expressions, specification: values in lowest terms; no condition beyond stated ranges. -/
namespace Go.Proofs.YtooaafekllkpbaaDoor
open Go.Ab
set_option linter.unusedSimpArgs false
set_option linter.unusedVariables false

/-- a block of one's own -/
structure Own (Hb H : AHeap) (p : Nat) (cs : List Value) : Prop where
  ext : Ext Hb H
  ge : Hb.next ≤ p
  lt : p < H.next
  blk : H.blk p = some cs
theorem Own.mk' {Hb H : AHeap} (h : Ext Hb H) (cs : List Value) : Own Hb (H.alloc cs) H.next cs := ⟨h.trans (Ext.alloc _ _), h.next, Nat.lt_succ_self _, alloc_new _ _⟩
theorem Own.step {Hb H H' : AHeap} {p : Nat} {cs : List Value} (h : Own Hb H p cs) (c : Ext H H') : Own Hb H' p cs := ⟨h.ext.trans c, h.ge, Nat.lt_of_lt_of_le h.lt c.next, by rw [c.blk p h.lt]; exact h.blk⟩
theorem Own.other {Hb H H' : AHeap} {p p' : Nat} {cs : List Value} (h : Own Hb H p cs) (c : Chg p' H H') (hne : p ≠ p') (hp : Hb.next ≤ p') : Own Hb H' p cs :=
  ⟨Chg.ext h.ext c hp, h.ge, Nat.lt_of_lt_of_le h.lt c.next, by rw [c.blk p h.lt hne]; exact h.blk⟩
theorem Own.load2 {Hb H : AHeap} {p : Nat} {a b : Value} (h : Own Hb H p [a, b]) : loadNV H 2 (pt p) = some (.agg #[a, b]) := loadNV_blk h.blk
theorem Own.c0 {Hb H : AHeap} {p : Nat} {a : Value} {l : List Value} (h : Own Hb H p (a :: l)) : H.cell p 0 = some a := cell_blk h.blk 0
theorem Own.c1 {Hb H : AHeap} {p : Nat} {a b : Value} {l : List Value} (h : Own Hb H p (a :: b :: l)) : H.cell p 1 = some b := cell_blk h.blk 1
theorem Own.put2 {lim : Nat} {Hb H : AHeap} {p : Nat} {a b : Value} (h : Own Hb H p [a, b]) (hl : lim ≤ Hb.next) (x y : Value) : ∃ H', storeH lim H 2 (pt p) (.agg #[x, y]) = some (undef, H') ∧ Own Hb H' p [x, y] ∧ Chg p H H' ∧ H'.next = H.next :=
  ⟨_, store_all (cs := [a, b]) (xs := [x, y]) (Nat.le_trans hl h.ge) h.blk rfl, ⟨Chg.ext h.ext (Chg.put _ _ _) h.ge, h.ge, h.lt, put_same _ _ _⟩, Chg.put _ _ _, rfl⟩
theorem Own.put0 {lim : Nat} {Hb H : AHeap} {p : Nat} {a b : Value} (h : Own Hb H p [a, b]) (hl : lim ≤ Hb.next) {x : Value} (hx : cellsV x = some [x]) : ∃ H', storeH lim H 1 (pt p) x = some (undef, H') ∧ Own Hb H' p [x, b] ∧ Chg p H H' ∧ H'.next = H.next :=
  ⟨_, store_cell hx (Nat.le_trans hl h.ge) h.blk (by simp), ⟨Chg.ext h.ext (Chg.put _ _ _) h.ge, h.ge, h.lt, put_same _ _ _⟩, Chg.put _ _ _, rfl⟩
theorem VecT.cell {H : AHeap} {b : Nat} {v : Value} {l : List Tm} (h : VecT H b v l) : cellsV v = some [v] := by
  rcases h with ⟨rfl, _⟩ | ⟨c, sp, rest, rfl, _⟩ <;> rfl
theorem store2_new {lim : Nat} {H : AHeap} {p r x y : Value} (hl : lim ≤ H.next) : storeH lim (H.alloc [p, r]) 2 (pt H.next) (.agg #[x, y]) = some (undef, H.alloc [x, y]) := by
  have := store_all (lim := lim) (H := H.alloc [p, r]) (b := H.next) (cs := [p, r]) (xs := [x, y]) hl (alloc_new _ _) rfl
  rw [alloc_put] at this
  exact this
theorem tdiv_in {c g : Int} (hc : -1000000000000000000 ≤ c ∧ c ≤ 1000000000000000000) : -1000000000000000000 ≤ c.tdiv g ∧ c.tdiv g ≤ 1000000000000000000 := by
  have h := Int.natAbs_tdiv c g
  have h2 := Nat.div_le_self c.natAbs g.natAbs
  have h3 : (c.tdiv g).natAbs = c.natAbs / g.natAbs := h
  omega
def bnC (t : Tm) : Prop := (-1000000000000000000 ≤ t.c ∧ t.c ≤ 1000000000000000000) ∧ exS t
/-- what a try to make a value answers -/
def MadeS (H : AHeap) (lo : Nat) (v : Value) (o : Option V) : Prop := ∃ (sl : Value) (den : Int) (ok : Bool), v = .tuple #[.agg #[sl, .int .i64 den], .bool ok] ∧ (match o with | some V => ok = true ∧ den = V.den ∧ SlF H lo sl V.ts | none => ok = false)

theorem txMake_ok (lim : Nat) (sl : Value) (ts : List Tm) (den : Int) (H : AHeap) (hl : lim ≤ H.next) (hs : SlT H sl ts) (hn : ts.length ≤ 10000) (hd : 0 < den ∧ den ≤ 1000000000) (hc : ∀ t ∈ ts, bnC t) :
    ACalls Tryd.prog lim n_spec_txMake [sl, .int .i64 den] H fun v H' => MadeS H' H.next v (mkV ts den) ∧ Ext H H' := by
  refine is_spec_txMake.go rfl ?_
  unfold c_spec_txMake
  have hg0 := gcdL_pos (ts := ts) hd.1
  have hgle := gcdL_le (ts := ts) hd.1
  refine s_reg ?_
  simp only [o_pure, o_eff, o_nil, POp.ev, Opd.ev, EOp.ev, env0, gu, setD, List.set, Option.some.injEq, exists_eq_left']
  have L2 := Own.mk' (Ext.refl H) [.slice none 0 0, .int .i64 0]
  generalize H.alloc [.slice none 0 0, .int .i64 0] = H1 at L2 ⊢
  generalize hp2 : H.next = p2 at L2
  have hnx1 := L2.ext.next
  refine s_reg ?_
  simp only [o_pure, o_nil, POp.ev, Opd.ev, gv, setD, List.set, Option.some.injEq, exists_eq_left']
  refine s_assoc (s_reg ?_)
  simp only [o_pure, o_nil, POp.ev, Opd.ev, gv, setD, List.set, Option.some.injEq, exists_eq_left', hs.lenV]
  refine s_block ?_
  refine s_loop1 (fun j e' H' => ∃ (i : Nat) (g : Int) (y6 y7 y11 y12 y13 x5 : Value), i + j = ts.length ∧ gcdL den ts = gcdL g (ts.drop i) ∧ 0 < g ∧ g ≤ den ∧ Own H H' p2 [.slice none 0 0, .int .i64 0] ∧
    e' = [sl, .int .i64 den, pt p2, .bool false, .int .i64 g, x5, y6, y7, sl, .int .i64 ts.length, .int .i64 i, y11, y12, y13]) ts.length ⟨0, den, _, _, _, _, _, _, by omega, rfl, hd.1, Int.le_refl _, L2, rfl⟩ ?_
  clear L2 hnx1 H1
  rintro j e' H1 ⟨i, g, y6, y7, y11, y12, y13, x5, hij, hall, hgp, hgd, L2, rfl⟩
  have hnx1 := L2.ext.next
  refine s_test ?_
  simp only [o_pure, o_nil, POp.ev, Opd.ev, gv, setD, Option.some.injEq, exists_eq_left', binV, ne_eq, not_true_eq_false, if_false]
  refine Test.split (fun hlt => ?_) (fun hlt => ?_)
  · have hlt' : i < ts.length := by simpa using hlt
    obtain ⟨b1, o1, h1, hat⟩ := (hs.ext L2.ext).at hlt'
    have hci := (hc _ (List.getElem_mem hlt')).1
    rw [List.drop_eq_getElem_cons hlt', gcdL_cons] at hall
    refine s_skip1 ?_
    simp +decide only [p_seq_normal]
    refine s_block ?_
    refine s_reg ?_
    simp only [o_pure, o_eff, o_nil, POp.ev, Opd.ev, EOp.ev, gv, setD, List.set, Option.some.injEq, exists_eq_left', h1, hat.all, store4_new (lim := lim) (H := H1) (by omega)]
    have hB := BoxT.mk' H1 ts[i]
    generalize H1.alloc (tc ts[i]) = H2 at hB ⊢
    generalize hq : H1.next = q at hB
    refine s_reg1 ?_
    simp only [o_pure, o_callF, POp.ev, Opd.ev, gv, setD, List.map, Option.some.injEq, exists_eq_left', load1V, fadV, Nat.zero_add, hB.c0]
    refine (l1Abs_ok _ _ _ (by omega)).eq ?_
    simp only [o_cont, o_callF, Opd.ev, gv, setD, List.map]
    refine (txCommon_ok _ _ _ _ (by omega) (by omega)).eq ?_
    simp only [o_cont, o_pure, o_nil, POp.ev, Opd.ev, gv, setD, List.set, Option.some.injEq, exists_eq_left']
    simp +decide only [p_seq_normal, p_block_normal]
    refine s_reg1 ?_
    simp only [o_pure, o_nil, POp.ev, Opd.ev, gv, setD, List.set, Option.some.injEq, exists_eq_left', binV, ne_eq, not_true_eq_false, if_false, add1 (i := i) (by omega)]
    simp +decide only [p_seq_normal]
    have e1 : Int.gcd g (ts[i].c.natAbs : Int) = Int.gcd g ts[i].c := by simp [Int.gcd]
    rw [e1]
    have hgz : 0 < (Int.gcd g ts[i].c : Int) := by
      have : Int.gcd g ts[i].c ≠ 0 := by
        intro h0
        have := (Int.gcd_eq_zero_iff.1 h0).1
        omega
      omega
    have hgl : (Int.gcd g ts[i].c : Int) ≤ g := Int.le_of_dvd hgp (Int.gcd_dvd_left ..)
    exact Round.mk (j - 1) (by omega) ⟨i + 1, _, _, _, _, _, _, _, by omega, hall, hgz, by omega, L2.step hB.ext, rfl⟩
  · have hge : i = ts.length := by simp at hlt; omega
    subst hge
    rw [List.drop_length] at hall
    have hG : gcdL den ts = g := hall
    clear hall
    refine s_exit1 ?_
    simp +decide only [p_seq_normal, p_seq_exit, p_block_exit, reduceIte]
    have hgz : (g = 0) = False := by simp; omega
    have hdd : den.tdiv g = den.tdiv (gcdL den ts) := by rw [hG]
    have hdr := tdiv_in (c := den) (g := g) (by omega)
    have hwd : IntKind.i64.wrap (den.tdiv g) = den.tdiv g := W_of_in (by unfold inR; omega)
    have hf : ∀ x : Int, fillV [.slice none 0 0, .int .i64 0] [(1, 1, .int .i64 x)] = some [.slice none 0 0, .int .i64 x] := fun _ => rfl
    refine s_reg ?_
    simp only [o_pure, o_eff, o_nil, POp.ev, Opd.ev, EOp.ev, gv, setD, List.set, List.map, Option.map_some, Option.some.injEq, exists_eq_left', binV, ne_eq, not_true_eq_false, if_false, hgz, hwd, hf, store2_new (lim := lim) (H := H1) (by omega)]
    have L6 := Own.mk' L2.ext [.slice none 0 0, .int .i64 (den.tdiv g)]
    have hne : p2 ≠ H1.next := by have := L2.lt; omega
    replace L2 := L2.step (Ext.alloc H1 [.slice none 0 0, .int .i64 (den.tdiv g)])
    generalize H1.alloc [.slice none 0 0, .int .i64 (den.tdiv g)] = H2 at L2 L6 ⊢
    generalize H1.next = p6 at L6 hne ⊢
    refine s_assoc (s_reg ?_)
    simp only [o_pure, o_nil, POp.ev, Opd.ev, gv, setD, List.set, Option.some.injEq, exists_eq_left', hs.lenV]
    refine s_block ?_
    refine s_loop1 (fun j e' H' => ∃ (i b : Nat) (so y5 y7 y8 y9 y10 : Value), i + j = ts.length ∧ (∀ t ∈ ts.take i, okC (divT g t) = true) ∧ Own H H' p2 [.slice none 0 0, .int .i64 0] ∧ Own H H' p6 [so, .int .i64 (den.tdiv g)] ∧ VecT H' b so ((ts.take i).map (divT g)) ∧ H.next ≤ b ∧ b ≠ p6 ∧ b ≠ p2 ∧
      e' = [sl, .int .i64 den, pt p2, .bool false, .int .i64 g, y5, pt p6, y7, y8, y9, y10, sl, .int .i64 ts.length, .int .i64 i]) ts.length ⟨0, p2 + p6 + H.next + 1, _, _, _, _, _, _, by omega, by simp, L2, L6, vecT_nil _ _, by omega, by omega, by omega, rfl⟩ ?_
    clear L2 L6 hnx1 H2
    rintro j e' H2 ⟨i, b, so, y5, y7, y8, y9, y10, hij, hok, L2, L6, hv, hb0, hb6, hb2, rfl⟩
    have hnx2 := L2.ext.next
    refine s_test ?_
    simp only [o_pure, o_nil, POp.ev, Opd.ev, gv, setD, Option.some.injEq, exists_eq_left', binV, ne_eq, not_true_eq_false, if_false]
    refine Test.split (fun hlt => ?_) (fun hlt => ?_)
    · have hlt' : i < ts.length := by simpa using hlt
      obtain ⟨b1, o1, h1, hat⟩ := (hs.ext L2.ext).at hlt'
      have hmem := List.getElem_mem hlt'
      obtain ⟨hci, hxi⟩ := hc _ hmem
      have htr := tdiv_in (g := g) hci
      have hwc : IntKind.i64.wrap (ts[i].c.tdiv g) = ts[i].c.tdiv g := W_of_in (by unfold inR; omega)
      unfold exS at hxi
      have hw1 : IntKind.i64.wrap (ts[i].x + ts[i].y) = ts[i].x + ts[i].y := W_of_in (by unfold inR; omega)
      have hw2 : IntKind.i64.wrap (ts[i].x + ts[i].y + ts[i].z) = ts[i].x + ts[i].y + ts[i].z := W_of_in (by unfold inR; omega)
      refine s_skip1 ?_
      simp +decide only [p_seq_normal]
      refine s_block ?_
      refine s_reg ?_
      simp only [o_pure, o_eff, o_nil, POp.ev, Opd.ev, EOp.ev, gv, setD, List.set, Option.some.injEq, exists_eq_left', h1, hat.all, store4_new (lim := lim) (H := H2) (by omega)]
      have hB := BoxT.mk' H2 ts[i]
      generalize H2.alloc (tc ts[i]) = H3 at hB ⊢
      generalize hq : H2.next = q at hB
      obtain ⟨cs4, t4, hB4⟩ := hB.put0 (lim := lim) (by omega) (ts[i].c.tdiv g)
      refine s_reg ?_
      simp only [o_pure, o_eff, o_nil, POp.ev, Opd.ev, EOp.ev, gv, setD, Option.some.injEq, exists_eq_left', binV, load1V, fadV, ne_eq, not_true_eq_false, if_false, Nat.zero_add, hB.c0, hgz, hwc, t4]
      generalize H3.put q cs4 = H4 at hB4 ⊢
      clear t4 hB cs4 H3
      have hBc1 := hB4.c1
      have hBc2 := hB4.c2
      have hBc3 := hB4.c3
      have hBc0 := hB4.c0
      simp only at hBc0 hBc1 hBc2 hBc3
      refine s_test_same (!okC (divT g ts[i])) ?_ (fun hbad => ?_) (fun hgood => ?_)
      · simp only [o_pure, o_callF, POp.ev, Opd.ev, gv, setD, List.map, Option.some.injEq, exists_eq_left', load1V, fadV, Nat.zero_add, hBc0]
        refine (l1In_ok _ _ _ _ _).eq ?_
        unfold okC divT
        cases hin : (decide (-1000000 ≤ ts[i].c.tdiv g) && decide (ts[i].c.tdiv g ≤ 1000000))
        · simp only [o_cont, o_pure, o_guard, gk_tf, o_nil, POp.ev, Opd.ev, gv, setD, Option.some.injEq, exists_eq_left', pickV, unV, Bool.not_false]
          simp
        · simp only [o_cont, o_pure, o_guard, gk_ff, o_nil, POp.ev, Opd.ev, gv, setD, Option.some.injEq, exists_eq_left', pickV, binV, load1V, unV, fadV, ne_eq, not_true_eq_false, if_false, Bool.not_true, Nat.zero_add, hBc1, hBc2, hBc3, hw1, hw2]
          simp
      · have hnone : mkV ts den = none := by
          unfold mkV
          rw [if_neg]
          rw [hG]
          intro hh
          simp only [Bool.and_eq_true, List.all_eq_true] at hh
          have := hh.1 _ (List.mem_map_of_mem hmem)
          rw [this] at hbad
          cases hbad
        have hf0 : fillV [.slice none 0 0, .int .i64 0] [] = some [.slice none 0 0, .int .i64 0] := rfl
        obtain ⟨H5, e5, L5, c5, n5⟩ := (L2.step hB4.ext).put2 hl (.slice none 0 0) (.int .i64 0)
        refine s_reg ?_
        simp only [o_pure, o_eff, o_nil, POp.ev, Opd.ev, EOp.ev, gv, setD, List.set, List.map, Option.map_some, Option.some.injEq, exists_eq_left', hf0, e5]
        refine s_ret1 ?_
        simp +decide only [p_seq_ret, p_block_ret, p_fin_ret, resV, resOne, resL, gv, Option.some.injEq, exists_eq_left', Option.bind_some, Option.map_some, L5.load2]
        refine ⟨?_, L5.ext⟩
        rw [hnone]
        exact ⟨_, _, _, rfl, rfl⟩
      · have hgood' : okC (divT g ts[i]) = true := by simpa using hgood
        refine s_skip1 ?_
        simp +decide only [p_seq_normal]
        replace L2 := L2.step hB4.ext
        replace L6 := L6.step hB4.ext
        replace hv := VecT.ext hv hB4.ext
        have hq6 := L6.lt
        have hq2 := L2.lt
        have hnx4 := L2.ext.next
        have hlen : ((ts.take i).map (divT g)).length ≤ 10000 := by simp; omega
        obtain ⟨v', H6, b', e6, hv6, hb6', hlt6, c6⟩ := pushT (lim := lim) hv (divT g ts[i]) (by omega) (by omega)
        have L6' := L6.other c6 (Ne.symm hb6) hb0
        have L2' := L2.other c6 (Ne.symm hb2) hb0
        obtain ⟨H7, e7, L7, c7, n7⟩ := L6'.put0 hl (VecT.cell hv6)
        have hall4 : loadNV H4 4 (.pointer (some ⟨q, 0, none⟩)) = some (tv (divT g ts[i])) := hB4.all
        have hbs : ∀ t : Tm, bsliceH H4 1 [.int .i64 0, .int .i64 0, .int .i64 0, .int .i64 0] [(0, 4, tv t)] = some (.slice (some ⟨H4.next, 0, some 0⟩) 1 1, H4.alloc (tc t)) := fun t => rfl
        refine s_reg1 ?_
        simp only [o_pure, o_eff, o_nil, POp.ev, Opd.ev, EOp.ev, gv, setD, List.map, Option.some.injEq, exists_eq_left', load1V, fadV, Nat.zero_add, L6.c0, hall4, hbs, e6, e7]
        simp +decide only [p_seq_normal, p_block_normal]
        refine s_reg1 ?_
        simp only [o_pure, o_nil, POp.ev, Opd.ev, gv, setD, List.set, Option.some.injEq, exists_eq_left', binV, ne_eq, not_true_eq_false, if_false, add1 (i := i) (by omega)]
        simp +decide only [p_seq_normal]
        have htk : ts.take (i + 1) = ts.take i ++ [ts[i]] := List.take_succ_eq_append_getElem hlt'
        refine Round.mk (j - 1) (by omega) ⟨i + 1, b', _, _, _, _, _, _, by omega, ?_, L2'.other c7 hne L7.ge, L7, ?_, ?_, ?_, ?_, rfl⟩
        · intro t ht
          rw [htk] at ht
          rcases List.mem_append.1 ht with ht | ht
          · exact hok t ht
          · rw [List.mem_singleton.1 ht]; exact hgood'
        · rw [htk, List.map_append]
          exact VecT.chg hv6 c7 (by rcases hb6' with h | h <;> omega)
        · rcases hb6' with h | h <;> omega
        · rcases hb6' with h | h <;> omega
        · rcases hb6' with h | h <;> omega
    · have hge : i = ts.length := by simp at hlt; omega
      subst hge
      rw [List.take_length] at hok hv
      refine s_exit1 ?_
      simp +decide only [p_seq_normal, p_seq_exit, p_block_exit, reduceIte]
      obtain ⟨H5, e5, L5, c5, n5⟩ := L2.put2 hl so (.int .i64 (den.tdiv g))
      have L6' := L6.other c5 (Ne.symm hne) L2.ge
      refine s_regT_cut (fun e' H' => e' = [sl, .int .i64 den, pt p2, .bool (decide (den.tdiv g ≤ 1000)), .int .i64 g, y5, pt p6, y7, y8, y9, y10, sl, .int .i64 ts.length, .int .i64 ts.length] ∧ H' = H5) ?_ ?_
      · simp only [o_pure, o_eff, t_op, t_alt, t_nil, o_nil, POp.ev, Opd.ev, EOp.ev, gv, setD, List.set, Option.map_some, Option.some.injEq, exists_eq_left', binV, load1V, fadV, ne_eq, not_true_eq_false, if_false, Nat.zero_add, L6.load2, L6.c1, L6'.c1, e5, and_self]
      · rintro e' H' ⟨rfl, rfl⟩
        refine s_ret1 ?_
        simp +decide only [p_fin_ret, resV, resOne, resL, gv, Option.some.injEq, exists_eq_left', Option.bind_some, Option.map_some, L5.load2]
        refine ⟨⟨so, den.tdiv g, _, rfl, ?_⟩, L5.ext⟩
        have hall : (ts.map (divT g)).all okC = true := by
          rw [List.all_eq_true]
          intro t ht
          obtain ⟨u, hu, rfl⟩ := List.mem_map.1 ht
          exact hok u hu
        unfold mkV
        rw [hG, hall]
        cases hd1 : decide (den.tdiv g ≤ 1000)
        · rfl
        · exact ⟨rfl, rfl, SlF.of (VecT.chg hv c5 hb2) (by omega)⟩
end Go.Proofs.YtooaafekllkpbaaDoor
