/- Parts of the proof of a statement of this seat: contracts of functions that the law calls, or the law's own row; no condition. -/
import Derived.Lib.Strings
import Derived.Lib.Slices
import Derived.Lib.Walk
import Derived.Lib.Bytealg
import Derived.Test.YtooaafekllkpbaaDoorM7
/- FnExactReadSystem: texts split and trimmed, by both sides; no condition beyond stated lengths. -/
namespace Go.Proofs.YtooaafekllkpbaaDoor
open Go.Ab
set_option linter.unusedSimpArgs false
set_option linter.unusedVariables false

set_option maxHeartbeats 1000000 in
set_option maxRecDepth 100000 in
theorem strings_Count_one (s : ByteArray) (c : UInt8) (w : World) :
    Calls Tryd.prog n_strings_Count #[.string s, .string ⟨#[c]⟩] w fun e w' => e = .returned (.int .i64 (Lib.countByte s.data.toList c)) ∧ w' = w := by
  go_enter Tryd.func32, Tryd.ntmps32
  go_wp2
  rw [run_callFunc_extern Tryd.func46 (by kernel_rfl) (by kernel_rfl) (by kernel_rfl) (e := Extern.BytealgCount.count) (by kernel_rfl), Lib.run_countString]
  simp only [Result.andThen]
  rw [Oper.upon_value]
  go_wp2
  go_ret
  exact ⟨rfl, rfl⟩
theorem countByte_cntS : ∀ l : List UInt8, Lib.countByte l 59 = cntS l
  | [] => rfl
  | c :: l => by
    have ih := countByte_cntS l
    unfold Lib.countByte at ih ⊢
    rw [List.count_cons, ih, cntS]
    by_cases h : c = 59
    · simp [h]; omega
    · simp [h]
abbrev strV (l : List UInt8) : Value := .string ⟨⟨l⟩⟩
theorem count_ok (lim : Nat) (l : List UInt8) (H : AHeap) : ACalls Tryd.prog lim n_strings_Count [strV l, .string ⟨⟨[59]⟩⟩] H fun v H' => v = .int .i64 (cntS l : Int) ∧ H' = H := by
  rw [← countByte_cntS]
  exact acalls_of_calls is_strings_Count.enter rfl rfl fun w => strings_Count_one ⟨⟨l⟩⟩ 59 w
theorem indexByte2_ok (lim : Nat) (s : ByteArray) (c : Int) (H : AHeap) : ACalls Tryd.prog lim n_internal_stringslite_IndexByte [.string s, .int .u8 c] H fun v H' => v = .int .i64 (Lib.indexByte s.data.toList c.toNat.toUInt8) ∧ H' = H :=
  acalls_of_calls is_internal_stringslite_IndexByte.enter rfl rfl fun w => stringslite_IndexByte s c w
theorem idx_first : ∀ {a b : List UInt8}, (∀ x ∈ a, x ≠ 59) → Lib.indexByte (a ++ 59 :: b) 59 = (a.length : Int)
  | [], b, _ => rfl
  | c :: a, b, h => by
    have ih := idx_first (a := a) (b := b) fun x hx => h x (by simp [hx])
    have hc : (c == 59) = false := by simpa using h c (by simp)
    rw [List.cons_append, show Lib.indexByte (c :: (a ++ 59 :: b)) 59 = if c == 59 then 0 else if Lib.indexByte (a ++ 59 :: b) 59 == -1 then -1 else Lib.indexByte (a ++ 59 :: b) 59 + 1 from rfl, hc, ih]
    have h1 : ((a.length : Int) == -1) = false := by
      rw [beq_eq_false_iff_ne]
      omega
    rw [h1]
    simp
theorem toListB (l : List UInt8) : (⟨⟨l⟩⟩ : ByteArray).toList = l := by rw [ByteArray.toList_eq]
theorem sIndex_ok (lim : Nat) (a b : List UInt8) (H : AHeap) (ha : ∀ x ∈ a, x ≠ 59) : ACalls Tryd.prog lim n_internal_stringslite_Index [strV (a ++ 59 :: b), .string ⟨⟨[59]⟩⟩] H fun v H' => v = .int .i64 (a.length : Int) ∧ H' = H := by
  refine is_internal_stringslite_Index.go rfl ?_
  unfold c_internal_stringslite_Index
  refine s_reg ?_
  simp only [o_pure, o_nil, POp.ev, Opd.ev, env0, gu, setD, List.set, Option.some.injEq, exists_eq_left']
  refine s_reg ?_
  simp only [o_pure, o_nil, POp.ev, Opd.ev, gv, setD, List.set, Option.some.injEq, exists_eq_left', slenV]
  have e1 : ((⟨⟨[59]⟩⟩ : ByteArray).size : Int) = 1 := rfl
  have e2 : ((1 : Int) == 0) = false := rfl
  have e3 : ((1 : Int) == 1) = true := rfl
  refine s_block ?_
  refine s_test1 ?_
  simp only [o_pure, o_guard, gk_ff, o_nil, POp.ev, Opd.ev, gv, setD, Option.some.injEq, exists_eq_left', pickV, binV, ne_eq, not_true_eq_false, if_false, e1, e2, toListB]
  cases hs : ([59] == a ++ 59 :: b)
  · refine Test.false_ ?_
    refine s_test1 ?_
    simp only [o_pure, o_nil, POp.ev, Opd.ev, gv, setD, Option.some.injEq, exists_eq_left', binV, ne_eq, not_true_eq_false, if_false, beq_self_eq_true]
    refine Test.true_ (s_reg ?_)
    have e4 : sixV (.string ⟨⟨[59]⟩⟩) (.int .i64 0) = some (.int .u8 59) := rfl
    simp only [o_pure, o_callF, POp.ev, Opd.ev, gv, setD, List.map, Option.some.injEq, exists_eq_left', e4]
    refine (indexByte2_ok _ _ _ _).eq ?_
    have e5 : ((59 : Int)).toNat.toUInt8 = 59 := rfl
    simp only [o_cont, o_pure, o_nil, POp.ev, Opd.ev, gv, setD, List.set, Option.some.injEq, exists_eq_left', e5]
    refine s_ret1 ?_
    simp +decide only [p_seq_ret, p_block_ret, p_fin_ret, resV, resOne, gv, Option.some.injEq, exists_eq_left']
    refine ⟨?_, trivial⟩
    rw [idx_first ha]
  · refine Test.true_ (s_reg ?_)
    simp only [o_pure, o_nil, POp.ev, Opd.ev, setD, List.set, Option.some.injEq, exists_eq_left']
    refine s_ret1 ?_
    simp +decide only [p_seq_ret, p_block_ret, p_fin_ret, resV, resOne, gv, Option.some.injEq, exists_eq_left']
    have h1 : [59] = a ++ 59 :: b := by simpa using hs
    have : a = [] := by
      cases a with
      | nil => rfl
      | cons c a =>
        exfalso
        simp at h1
    subst this
    simp
theorem index_ok (lim : Nat) (a b : List UInt8) (H : AHeap) (ha : ∀ x ∈ a, x ≠ 59) : ACalls Tryd.prog lim n_strings_Index [strV (a ++ 59 :: b), .string ⟨⟨[59]⟩⟩] H fun v H' => v = .int .i64 (a.length : Int) ∧ H' = H := by
  refine is_strings_Index.go rfl ?_
  unfold c_strings_Index
  refine s_reg ?_
  simp only [o_pure, o_nil, POp.ev, Opd.ev, env0, gu, setD, List.set, Option.some.injEq, exists_eq_left']
  refine s_reg ?_
  simp only [o_pure, o_callF, POp.ev, Opd.ev, gv, setD, List.map, Option.some.injEq, exists_eq_left']
  refine (sIndex_ok _ _ _ _ ha).eq ?_
  simp only [o_cont, o_pure, o_nil, POp.ev, Opd.ev, gv, setD, List.set, Option.some.injEq, exists_eq_left']
  refine s_ret1 ?_
  simp +decide only [p_fin_ret, resV, resOne, gv, Option.some.injEq, exists_eq_left']
theorem hasSuffix_ok (lim : Nat) (a : List UInt8) (H : AHeap) (hn : a.length ≤ 1000000) : ACalls Tryd.prog lim n_internal_stringslite_HasSuffix [strV (a ++ [59]), .string ⟨⟨[59]⟩⟩] H fun v H' => v = .bool true ∧ H' = H := by
  refine is_internal_stringslite_HasSuffix.go rfl ?_
  unfold c_internal_stringslite_HasSuffix
  have e1 : ((⟨⟨[59]⟩⟩ : ByteArray).size : Int) = 1 := rfl
  have e2 : ((⟨⟨a ++ [59]⟩⟩ : ByteArray).size : Int) = (a.length : Int) + 1 := by rw [sizeB]; simp
  have e3 : decide ((a.length : Int) + 1 ≥ 1) = true := decide_eq_true (by omega)
  have e4 : IntKind.i64.wrap ((a.length : Int) + 1 - 1) = (a.length : Int) := by rw [IntKind.wrap_i64]; omega
  have e5 : sslcV (strV (a ++ [59])) (some (.int .i64 (a.length : Int))) none = some (strV [59]) := by
    have hb : bounds (⟨⟨a ++ [59]⟩⟩ : ByteArray).size (⟨⟨a ++ [59]⟩⟩ : ByteArray).size (some (.int .i64 (a.length : Int))) none none = some (a.length, a.length + 1, a.length + 1) := by
      simp [bounds, sliceB, intV, sizeB]
      rw [if_pos (by omega)]
      rfl
    simp only [sslcV, hb, Option.bind_some, extractB]
    rw [List.take_of_length_le (by simp), List.drop_left]
  refine s_reg ?_
  simp only [o_pure, o_nil, POp.ev, Opd.ev, env0, gu, setD, List.set, Option.some.injEq, exists_eq_left']
  refine s_reg ?_
  simp only [o_pure, o_guard, gk_tt, o_nil, POp.ev, Opd.ev, gv, setD, List.set, Option.map_none, Option.map_some, Option.some.injEq, exists_eq_left', pickV, binV, slenV, ne_eq, not_true_eq_false, if_false, beq_self_eq_true, e1, e2, e3, e4, e5, toListB]
  refine s_ret1 ?_
  simp +decide only [p_fin_ret, resV, resOne, gv, Option.some.injEq, exists_eq_left']
theorem trim_ok (lim : Nat) (a : List UInt8) (H : AHeap) (hn : a.length ≤ 1000000) : ACalls Tryd.prog lim n_strings_TrimSuffix [strV (a ++ [59]), .string ⟨⟨[59]⟩⟩] H fun v H' => v = strV a ∧ H' = H := by
  refine is_strings_TrimSuffix.go rfl ?_
  unfold c_strings_TrimSuffix
  refine s_reg ?_
  simp only [o_pure, o_nil, POp.ev, Opd.ev, env0, gu, setD, List.set, Option.some.injEq, exists_eq_left']
  refine s_reg ?_
  simp only [o_pure, o_callF, POp.ev, Opd.ev, gv, setD, List.map, Option.some.injEq, exists_eq_left']
  have key : ACalls Tryd.prog lim n_internal_stringslite_TrimSuffix [strV (a ++ [59]), .string ⟨⟨[59]⟩⟩] H fun v H' => v = strV a ∧ H' = H := by
    refine is_internal_stringslite_TrimSuffix.go rfl ?_
    unfold c_internal_stringslite_TrimSuffix
    have e1 : ((⟨⟨[59]⟩⟩ : ByteArray).size : Int) = 1 := rfl
    have e2 : ((⟨⟨a ++ [59]⟩⟩ : ByteArray).size : Int) = (a.length : Int) + 1 := by rw [sizeB]; simp
    have e4 : IntKind.i64.wrap ((a.length : Int) + 1 - 1) = (a.length : Int) := by rw [IntKind.wrap_i64]; omega
    have e5 : sslcV (strV (a ++ [59])) none (some (.int .i64 (a.length : Int))) = some (strV a) := by
      have hb : bounds (⟨⟨a ++ [59]⟩⟩ : ByteArray).size (⟨⟨a ++ [59]⟩⟩ : ByteArray).size none (some (.int .i64 (a.length : Int))) none = some (0, a.length, a.length + 1) := by
        simp [bounds, sliceB, intV, sizeB]
        rw [if_pos (by omega)]
        rfl
      simp only [sslcV, hb, Option.bind_some, extractB]
      simp
    refine s_reg ?_
    simp only [o_pure, o_nil, POp.ev, Opd.ev, env0, gu, setD, List.set, Option.some.injEq, exists_eq_left']
    refine s_test ?_
    simp only [o_pure, o_callF, POp.ev, Opd.ev, gv, setD, List.map, Option.some.injEq, exists_eq_left']
    refine (hasSuffix_ok _ _ _ hn).eq ?_
    simp only [o_cont, o_nil, gv, setD]
    refine Test.true_ (s_reg ?_)
    simp only [o_pure, o_nil, POp.ev, Opd.ev, gv, setD, List.set, Option.map_none, Option.map_some, Option.some.injEq, exists_eq_left', binV, slenV, ne_eq, not_true_eq_false, if_false, e1, e2, e4, e5]
    refine s_ret1 ?_
    simp +decide only [p_seq_ret, p_fin_ret, resV, resOne, gv, Option.some.injEq, exists_eq_left']
  refine key.eq ?_
  simp only [o_cont, o_pure, o_nil, POp.ev, Opd.ev, gv, setD, List.set, Option.some.injEq, exists_eq_left']
  refine s_ret1 ?_
  simp +decide only [p_fin_ret, resV, resOne, gv, Option.some.injEq, exists_eq_left']
end Go.Proofs.YtooaafekllkpbaaDoor

/- FnExactReadSystem: texts split at semicolons, by both sides; no condition beyond stated lengths. -/
namespace Go.Proofs.YtooaafekllkpbaaDoor
open Go.Ab
set_option linter.unusedSimpArgs false
set_option linter.unusedVariables false

theorem cntS_le : ∀ l : List UInt8, cntS l ≤ l.length
  | [] => Nat.le_refl _
  | c :: l => by
    have := cntS_le l
    rw [cntS, List.length_cons]
    split <;> omega
theorem sslc_from (l : List UInt8) {i : Nat} (hi : i ≤ l.length) : sslcV (strV l) (some (.int .i64 i)) none = some (strV (l.drop i)) := by
  have hb : bounds (⟨⟨l⟩⟩ : ByteArray).size (⟨⟨l⟩⟩ : ByteArray).size (some (.int .i64 i)) none none = some (i, l.length, l.length) := by
    simp [bounds, sliceB, intV, sizeB]
    rw [if_pos (by omega)]
    rfl
  simp only [sslcV, hb, Option.bind_some, extractB]
  rw [List.take_of_length_le (Nat.le_refl _)]
theorem sslc_to (l : List UInt8) {i : Nat} (hi : i ≤ l.length) : sslcV (strV l) none (some (.int .i64 i)) = some (strV (l.take i)) := by
  have hb : bounds (⟨⟨l⟩⟩ : ByteArray).size (⟨⟨l⟩⟩ : ByteArray).size none (some (.int .i64 i)) none = some (0, i, l.length) := by
    simp [bounds, sliceB, intV, sizeB]
    rw [if_pos (by omega)]
    rfl
  simp only [sslcV, hb, Option.bind_some, extractB]
  rw [List.drop_zero]
theorem sslc_mid (l : List UInt8) {i j : Nat} (hij : i ≤ j) (hj : j ≤ l.length) : sslcV (strV l) (some (.int .i64 i)) (some (.int .i64 j)) = some (strV ((l.take j).drop i)) := by
  have hb : bounds (⟨⟨l⟩⟩ : ByteArray).size (⟨⟨l⟩⟩ : ByteArray).size (some (.int .i64 i)) (some (.int .i64 j)) none = some (i, j, l.length) := by
    simp [bounds, sliceB, intV, sizeB]
    rw [if_pos (by omega)]
    simp only [Option.bind_some]
    rw [if_pos (by omega)]
    rfl
  simp only [sslcV, hb, Option.bind_some, extractB]

/-- what SplitAfter lays: all parts but the last with their semicolon -/
def afterV (B : List (List UInt8)) (r : List UInt8) : List Value := B.map (fun b => strV (b ++ [59])) ++ [strV r]
theorem genSplit_ok (lim : Nat) (l : List UInt8) (H : AHeap) (hl : lim ≤ H.next) (hn : l.length ≤ 1000000) :
    ACalls Tryd.prog lim n_strings_genSplit [strV l, .string ⟨⟨[59]⟩⟩, .int .i64 1, .int .i64 (-1)] H fun v H' => ∃ B r, splitL l = B ++ [r] ∧ Sl H' v (B.length + 1) 1 (afterV B r) ∧ Ext H H' := by
  refine is_strings_genSplit.go rfl ?_
  unfold c_strings_genSplit
  have hc := cntS_le l
  have e1 : ((-1 : Int) == 0) = false := rfl
  have e2 : ([59] == ([] : List UInt8)) = false := rfl
  have e3 : decide ((-1 : Int) < 0) = true := rfl
  have e4 : ((⟨⟨[59]⟩⟩ : ByteArray).size : Int) = 1 := rfl
  refine s_reg ?_
  simp only [o_pure, o_nil, POp.ev, Opd.ev, env0, gu, setD, List.set, Option.some.injEq, exists_eq_left']
  refine s_test ?_
  simp only [o_pure, o_nil, POp.ev, Opd.ev, gv, setD, Option.some.injEq, exists_eq_left', binV, ne_eq, not_true_eq_false, if_false, e1]
  refine Test.false_ (s_skip1 ?_)
  simp +decide only [p_seq_normal]
  refine s_test ?_
  simp only [o_pure, o_nil, POp.ev, Opd.ev, gv, setD, Option.some.injEq, exists_eq_left', binV, ne_eq, toListB, e2]
  refine Test.false_ (s_skip1 ?_)
  simp +decide only [p_seq_normal]
  refine s_test ?_
  simp only [o_pure, o_nil, POp.ev, Opd.ev, gv, setD, Option.some.injEq, exists_eq_left', binV, ne_eq, not_true_eq_false, if_false, e3]
  refine Test.true_ (s_reg1 ?_)
  simp only [o_pure, o_callF, POp.ev, Opd.ev, gv, setD, List.map, Option.some.injEq, exists_eq_left']
  refine (count_ok _ _ _).eq ?_
  simp only [o_cont, o_pure, o_nil, POp.ev, Opd.ev, gv, setD, List.set, Option.some.injEq, exists_eq_left', binV, ne_eq, not_true_eq_false, if_false, add1 (i := cntS l) (by omega)]
  simp +decide only [p_seq_normal]
  have emin : (if ((l.length + 1 : Nat) : Int) < ((cntS l + 1 : Nat) : Int) then ((l.length + 1 : Nat) : Int) else ((cntS l + 1 : Nat) : Int)) = ((cntS l + 1 : Nat) : Int) := if_neg (by omega)
  refine s_reg ?_
  simp only [o_pure, o_nil, POp.ev, Opd.ev, gv, setD, List.set, Option.some.injEq, exists_eq_left', binV, min2V, slenV, ne_eq, not_true_eq_false, if_false, sizeB, add1 (i := l.length) (by omega), emin]
  have hmk := mkslice_int (H := H) 16 (cntS l + 1) (cntS l + 1) [.string ⟨⟨[]⟩⟩] (Nat.le_refl _) (by omega) (by omega)
  rw [zerosL_one] at hmk
  refine s_reg ?_
  simp only [o_pure, o_eff, o_nil, POp.ev, Opd.ev, EOp.ev, gv, setD, List.set, Option.some.injEq, exists_eq_left', hmk]
  have hv0 : Vec (H.alloc (List.replicate (cntS l + 1) (.string ⟨⟨[]⟩⟩))) H.next (.slice (some ⟨H.next, 0, some 0⟩) (cntS l + 1) (cntS l + 1)) (cntS l + 1) 1 (List.replicate (cntS l + 1) (.string ⟨⟨[]⟩⟩)) := Vec.lit (by simp)
  have hx0 := Ext.alloc H (List.replicate (cntS l + 1) (.string ⟨⟨[]⟩⟩))
  generalize H.alloc (List.replicate (cntS l + 1) (.string ⟨⟨[]⟩⟩)) = H1 at hv0 hx0 ⊢
  generalize hsl : Value.slice (some ⟨H.next, 0, some 0⟩) (cntS l + 1) (cntS l + 1) = sl at hv0 ⊢
  have ew : IntKind.i64.wrap (((cntS l + 1 : Nat) : Int) - 1) = (cntS l : Int) := by rw [IntKind.wrap_i64]; omega
  refine s_reg ?_
  simp only [o_pure, o_nil, POp.ev, Opd.ev, gv, setD, List.set, Option.some.injEq, exists_eq_left', binV, ne_eq, not_true_eq_false, if_false, ew]
  refine s_reg ?_
  simp only [o_pure, o_nil, POp.ev, Opd.ev, setD, List.set, Option.some.injEq, exists_eq_left']
  refine s_block ?_
  refine s_loop1 (fun k e' H' => ∃ (B : List (List UInt8)) (r : List UInt8) (x7 : Value), B.length + k = cntS l ∧ cntS r = k ∧ r.length ≤ 1000000 ∧ splitL l = B ++ splitL r ∧ Vec H' H.next sl (cntS l + 1) 1 (B.map (fun b => strV (b ++ [59])) ++ List.replicate (k + 1) (.string ⟨⟨[]⟩⟩)) ∧ Ext H H' ∧
    e' = [strV r, .string ⟨⟨[59]⟩⟩, .int .i64 1, .int .i64 (cntS l), .slice none 0 0, sl, .int .i64 B.length, x7]) (cntS l) ⟨[], l, _, by simp, rfl, hn, rfl, by simpa using hv0, hx0, rfl⟩ ?_
  clear hv0 hx0
  rintro k e' H2 ⟨B, r, x7, hBk, hcr, hrn, hsp, hv, hx, rfl⟩
  refine s_test ?_
  simp only [o_pure, o_nil, POp.ev, Opd.ev, gv, setD, Option.some.injEq, exists_eq_left', binV, ne_eq, not_true_eq_false, if_false]
  refine Test.split (fun hlt => ?_) (fun hlt => ?_)
  · have hk : 0 < k := by simp at hlt; omega
    obtain ⟨a, b, hab, hna⟩ := cntS_pos (l := r) (by omega)
    subst hab
    obtain ⟨k, rfl⟩ : ∃ k', k = k' + 1 := ⟨k - 1, by omega⟩
    have hcb : cntS b = k := by
      rw [cntS_append, cntS_zero hna, cntS] at hcr
      simp at hcr
      omega
    have hal : a.length ≤ 1000000 := by simp at hrn; omega
    have hbl : b.length ≤ 1000000 := by simp at hrn; omega
    refine s_skip1 ?_
    simp +decide only [p_seq_normal]
    refine s_block1 ?_
    refine s_reg ?_
    simp only [o_pure, o_callF, POp.ev, Opd.ev, gv, setD, List.map, Option.some.injEq, exists_eq_left']
    refine (index_ok _ _ _ _ hna).eq ?_
    simp only [o_cont, o_pure, o_nil, POp.ev, Opd.ev, gv, setD, List.set, Option.some.injEq, exists_eq_left']
    have e5 : decide ((a.length : Int) < 0) = false := decide_eq_false (by omega)
    refine s_test ?_
    simp only [o_pure, o_nil, POp.ev, Opd.ev, gv, setD, Option.some.injEq, exists_eq_left', binV, ne_eq, not_true_eq_false, if_false, e5]
    refine Test.false_ (s_skip1 ?_)
    simp +decide only [p_seq_normal]
    have e6 : sslcV (strV (a ++ 59 :: b)) none (some (.int .i64 ((a.length + 1 : Nat) : Int))) = some (strV (a ++ [59])) := by
      rw [sslc_to _ (by simp), show (a ++ 59 :: b).take (a.length + 1) = a ++ [59] from by rw [List.take_length_add_append]; rfl]
    have e7 : sslcV (strV (a ++ 59 :: b)) (some (.int .i64 ((a.length + 1 : Nat) : Int))) none = some (strV b) := by
      rw [sslc_from _ (by simp), show (a ++ 59 :: b).drop (a.length + 1) = b from by rw [List.drop_length_add_append]; rfl]
    have hiad := hv.iad .i64 (i := B.length) (by omega)
    rw [Nat.mul_one] at hiad
    obtain ⟨cs, hst, hv'⟩ := hv.put1 (lim := lim) hl (i := B.length) (x := strV (a ++ [59])) rfl (by omega)
    refine s_reg ?_
    simp only [o_pure, o_eff, o_nil, POp.ev, Opd.ev, EOp.ev, gv, setD, Option.map_none, Option.map_some, Option.some.injEq, exists_eq_left', binV, ne_eq, not_true_eq_false, if_false, add1 (i := a.length) (by omega), e6, hiad, hst]
    refine s_reg ?_
    simp only [o_pure, o_nil, POp.ev, Opd.ev, gv, setD, List.set, Option.map_none, Option.map_some, Option.some.injEq, exists_eq_left', binV, slenV, ne_eq, not_true_eq_false, if_false, e4, add1 (i := a.length) (by omega), e7]
    refine s_reg1 ?_
    simp only [o_pure, o_nil, POp.ev, Opd.ev, gv, setD, List.set, Option.some.injEq, exists_eq_left', binV, ne_eq, not_true_eq_false, if_false, add1 (i := B.length) (by omega)]
    simp +decide only [p_seq_normal, p_block_normal]
    refine Round.mk k (by omega) ⟨B ++ [a], b, .int .i64 (a.length : Int), by simp; omega, hcb, hbl, ?_, ?_, Chg.ext hx (Chg.put _ _ _) (Nat.le_refl _), by simp⟩
    · rw [hsp, split_semi hna]
      simp
    · have : (B.map (fun b => strV (b ++ [59])) ++ List.replicate (k + 1 + 1) (Value.string ⟨⟨[]⟩⟩)).set B.length (strV (a ++ [59])) = (B ++ [a]).map (fun b => strV (b ++ [59])) ++ List.replicate (k + 1) (Value.string ⟨⟨[]⟩⟩) := by
        rw [List.set_append_right _ _ (by simp), List.replicate_succ, List.length_map, Nat.sub_self, List.set_cons_zero, List.map_append, List.append_assoc]
        rfl
      rw [this] at hv'
      exact hv'
  · have hk : k = 0 := by simp at hlt; omega
    subst hk
    have hr := split_none (cntS_none hcr)
    refine s_exit1 ?_
    simp +decide only [p_seq_normal, p_seq_exit, p_block_exit, reduceIte]
    have hiad := hv.iad .i64 (i := B.length) (by omega)
    rw [Nat.mul_one] at hiad
    obtain ⟨cs, hst, hv'⟩ := hv.put1 (lim := lim) hl (i := B.length) (x := strV r) rfl (by omega)
    have hBl : B.length = cntS l := by omega
    refine s_reg ?_
    simp only [o_pure, o_eff, o_nil, POp.ev, Opd.ev, EOp.ev, gv, setD, Option.some.injEq, exists_eq_left', hiad, hst]
    have hslc : slcV 1 sl none (some (.int .i64 ((B.length + 1 : Nat) : Int))) none = some sl := by
      rw [← hsl, hBl]
      exact slc_to .i64 (Nat.le_refl _)
    refine s_reg ?_
    simp only [o_pure, o_nil, POp.ev, Opd.ev, gv, setD, List.set, Option.map_none, Option.map_some, Option.some.injEq, exists_eq_left', binV, ne_eq, not_true_eq_false, if_false, add1 (i := B.length) (by omega), hslc]
    refine s_ret1 ?_
    simp +decide only [p_fin_ret, resV, resOne, gv, Option.some.injEq, exists_eq_left']
    refine ⟨B, r, by rw [hsp, hr], ?_, Chg.ext hx (Chg.put _ _ _) (Nat.le_refl _)⟩
    have : (B.map (fun b => strV (b ++ [59])) ++ List.replicate (0 + 1) (Value.string ⟨⟨[]⟩⟩)).set B.length (strV r) = afterV B r := by
      rw [List.set_append_right _ _ (by simp), List.length_map, Nat.sub_self]
      rfl
    rw [this, ← hBl] at hv'
    exact hv'.sl
theorem splitAfter_ok (lim : Nat) (l : List UInt8) (H : AHeap) (hl : lim ≤ H.next) (hn : l.length ≤ 1000000) :
    ACalls Tryd.prog lim n_strings_SplitAfter [strV l, .string ⟨⟨[59]⟩⟩] H fun v H' => ∃ B r, splitL l = B ++ [r] ∧ Sl H' v (B.length + 1) 1 (afterV B r) ∧ Ext H H' := by
  refine is_strings_SplitAfter.go rfl ?_
  unfold c_strings_SplitAfter
  have e4 : ((⟨⟨[59]⟩⟩ : ByteArray).size : Int) = 1 := rfl
  refine s_reg ?_
  simp only [o_pure, o_nil, POp.ev, Opd.ev, env0, gu, setD, List.set, Option.some.injEq, exists_eq_left']
  refine s_reg ?_
  simp only [o_pure, o_callF, POp.ev, Opd.ev, gv, setD, List.map, Option.some.injEq, exists_eq_left', slenV, e4]
  refine (genSplit_ok lim l H hl hn).mono ?_
  rintro v H1 ⟨B, r, h1, h2, h3⟩
  simp only [o_cont, o_pure, o_nil, POp.ev, Opd.ev, gv, setD, List.set, Option.some.injEq, exists_eq_left']
  refine s_ret1 ?_
  simp +decide only [p_fin_ret, resV, resOne, gv, Option.some.injEq, exists_eq_left']
  exact ⟨B, r, h1, h2, h3⟩

theorem l1Split_ok (lim : Nat) (l : List UInt8) (H : AHeap) (hl : lim ≤ H.next) (hn : l.length ≤ 1000000) :
    ACalls Tryd.prog lim n_spec_l1Split [strV l, .int .u8 59] H fun v H' => Sl H' v (splitL l).length 1 ((splitL l).map strV) ∧ Ext H H' := by
  refine is_spec_l1Split.go rfl ?_
  unfold c_spec_l1Split
  refine s_reg ?_
  simp only [o_pure, o_nil, POp.ev, Opd.ev, env0, gu, setD, List.set, Option.some.injEq, exists_eq_left']
  refine s_reg ?_
  simp only [o_pure, o_nil, POp.ev, Opd.ev, setD, List.set, Option.some.injEq, exists_eq_left']
  refine s_reg ?_
  simp only [o_pure, o_nil, POp.ev, Opd.ev, setD, List.set, Option.some.injEq, exists_eq_left']
  refine s_assoc (s_reg ?_)
  simp only [o_pure, o_nil, POp.ev, Opd.ev, setD, List.set, Option.some.injEq, exists_eq_left']
  refine s_block ?_
  refine s_loop1 (fun k e' H' => ∃ (B : List (List UInt8)) (fr i b : Nat) (so : Value), i + k = l.length ∧ fr ≤ i ∧ B.length ≤ i ∧ splitL l = B ++ splitL (l.drop fr) ∧ (∀ x ∈ (l.take i).drop fr, x ≠ 59) ∧ Vec H' b so B.length 1 (B.map strV) ∧ H.next ≤ b ∧ Ext H H' ∧
    e' = [strV l, .int .u8 59, .slice none 0 0, so, .int .i64 fr, .int .i64 i]) l.length ⟨[], 0, 0, H.next, _, by simp, Nat.le_refl _, by simp, by simp, by simp, Vec.nil _ _ _, Nat.le_refl _, Ext.refl _, rfl⟩ ?_
  rintro k e' H1 ⟨B, fr, i, b, so, hik, hfi, hBi, hsp, hno, hv, hb, hx, rfl⟩
  have hn1 := hx.next
  refine s_test ?_
  simp only [o_pure, o_nil, POp.ev, Opd.ev, gv, setD, Option.some.injEq, exists_eq_left', binV, slenV, ne_eq, not_true_eq_false, if_false, sizeB]
  refine Test.split (fun hlt => ?_) (fun hlt => ?_)
  · have hlt' : i < l.length := by simpa using hlt
    have e3 : sixV (strV l) (.int .i64 (i : Int)) = some (.int .u8 (l[i].toNat : Int)) := by
      have : (⟨⟨l⟩⟩ : ByteArray)[i]? = some l[i] := by
        rw [getElem?_pos (⟨⟨l⟩⟩ : ByteArray) i hlt']
        rfl
      simp [sixV, this]
    have e4 : ((l[i].toNat : Int) == 59) = decide (l[i] = 59) := by
      rw [show (59 : Int) = ((59 : Nat) : Int) from rfl, nat_beq]
      exact decide_eq_decide.2 ⟨fun h => UInt8.toNat_inj.1 h, fun h => by rw [h]; rfl⟩
    have htk : (l.take (i + 1)).drop fr = (l.take i).drop fr ++ [l[i]] := by
      rw [List.take_succ_eq_append_getElem hlt', List.drop_append_of_le_length (by simp; omega)]
    refine s_skip1 ?_
    simp +decide only [p_seq_normal]
    refine s_block ?_
    refine s_test1 ?_
    simp only [o_pure, o_nil, POp.ev, Opd.ev, gv, setD, Option.some.injEq, exists_eq_left', binV, ne_eq, not_true_eq_false, if_false, e3, e4]
    by_cases hc : l[i] = 59
    · simp only [hc, decide_true]
      refine Test.true_ ?_
      have hpiece : splitL (l.drop fr) = (l.take i).drop fr :: splitL (l.drop (i + 1)) := by
        have e : l.drop fr = (l.take i).drop fr ++ 59 :: l.drop (i + 1) := by
          have h1 : l = l.take i ++ l[i] :: l.drop (i + 1) := by rw [← List.drop_eq_getElem_cons hlt', List.take_append_drop]
          rw [hc] at h1
          conv => lhs; rw [h1]
          rw [List.drop_append_of_le_length (by simp; omega)]
        rw [e, split_semi hno]
      obtain ⟨v', H6, b', e6, hv6, hb6', hlt6, c6, n6⟩ := push1 (lim := lim) (bytes := 16) hv (strV ((l.take i).drop fr)) (by omega) (by omega)
      have hbs := bsliceV H1 (.string ⟨⟨[]⟩⟩) (x := strV ((l.take i).drop fr)) rfl
      refine s_reg ?_
      simp only [o_pure, o_eff, o_nil, POp.ev, Opd.ev, EOp.ev, gv, setD, List.set, List.map, Option.map_some, Option.some.injEq, exists_eq_left', sslc_mid l hfi (by omega), hbs, e6]
      refine s_reg1 ?_
      simp only [o_pure, o_nil, POp.ev, Opd.ev, gv, setD, List.set, Option.some.injEq, exists_eq_left', binV, ne_eq, not_true_eq_false, if_false, add1 (i := i) (by omega)]
      simp +decide only [p_seq_normal, p_block_normal]
      refine s_reg1 ?_
      simp only [o_pure, o_nil, POp.ev, Opd.ev, gv, setD, List.set, Option.some.injEq, exists_eq_left', binV, ne_eq, not_true_eq_false, if_false, add1 (i := i) (by omega)]
      simp +decide only [p_seq_normal]
      refine Round.mk (k - 1) (by omega) ⟨B ++ [(l.take i).drop fr], i + 1, i + 1, b', _, by omega, Nat.le_refl _, by simp; omega, ?_, ?_, ?_, by rcases hb6' with h | h <;> omega, Chg.ext hx c6 hb, rfl⟩
      · rw [hsp, hpiece]; simp
      · intro x hx
        rw [List.drop_of_length_le (by simp; omega)] at hx
        simp at hx
      · simpa using hv6
    · simp only [hc, decide_false]
      refine Test.false_ (s_skip1 ?_)
      simp +decide only [p_seq_normal, p_block_normal]
      refine s_reg1 ?_
      simp only [o_pure, o_nil, POp.ev, Opd.ev, gv, setD, List.set, Option.some.injEq, exists_eq_left', binV, ne_eq, not_true_eq_false, if_false, add1 (i := i) (by omega)]
      simp +decide only [p_seq_normal]
      refine Round.mk (k - 1) (by omega) ⟨B, fr, i + 1, b, so, by omega, by omega, by omega, hsp, ?_, hv, hb, hx, rfl⟩
      intro x hx
      rw [htk] at hx
      rcases List.mem_append.1 hx with h | h
      · exact hno x h
      · rw [List.mem_singleton.1 h]; exact hc
  · have hge : i = l.length := by simp at hlt; omega
    subst hge
    rw [List.take_length] at hno
    refine s_exit1 ?_
    simp +decide only [p_seq_normal, p_seq_exit, p_block_exit, reduceIte]
    obtain ⟨v', H6, b', e6, hv6, hb6', hlt6, c6, n6⟩ := push1 (lim := lim) (bytes := 16) hv (strV (l.drop fr)) (by omega) (by omega)
    have hbs := bsliceV H1 (.string ⟨⟨[]⟩⟩) (x := strV (l.drop fr)) rfl
    refine s_reg ?_
    simp only [o_pure, o_eff, o_nil, POp.ev, Opd.ev, EOp.ev, gv, setD, List.set, List.map, Option.map_none, Option.map_some, Option.some.injEq, exists_eq_left', sslc_from l hfi, hbs, e6]
    refine s_ret1 ?_
    simp +decide only [p_fin_ret, resV, resOne, gv, Option.some.injEq, exists_eq_left']
    rw [hsp, split_none hno]
    refine ⟨?_, Chg.ext hx c6 hb⟩
    have := hv6.sl
    simpa using this
end Go.Proofs.YtooaafekllkpbaaDoor

/- FnExactReadSystem: the system that a text tells, by both sides; no condition beyond stated lengths. -/
namespace Go.Proofs.YtooaafekllkpbaaDoor
open Go.Ab
set_option linter.unusedSimpArgs false
set_option linter.unusedVariables false

theorem readSys_eq {l : List UInt8} {A : List (List UInt8)} {r : List UInt8} (h : splitL l = A ++ [r]) :
    readSys l = if r = [] ∧ A.length ≤ 3 then (allP A).bind fun ss => if goodSS ss = true then some ss else none else none := by
  unfold readSys
  rw [h, List.getLast?_concat, List.dropLast_concat]
  have : (some r = some [] ∧ (A ++ [r]).length ≤ 4) ↔ (r = [] ∧ A.length ≤ 3) := by
    simp
  simp only [this]
theorem split_ex (l : List UInt8) : ∃ A r, splitL l = A ++ [r] ∧ A.length ≤ l.length := by
  have h1 := splitL_length l
  have h2 := cntS_le l
  refine ⟨(splitL l).dropLast, (splitL l).getLast (splitL_ne l), (List.dropLast_concat_getLast _).symm, ?_⟩
  rw [List.length_dropLast]
  omega
/-- what a reader of systems answers -/
def SysR (l : List UInt8) (H : AHeap) (v : Value) (H' : AHeap) : Prop :=
  Ext H H' ∧ ∃ sl, v = .tuple #[sl, .bool (readSys l).isSome] ∧ OwnSS H' H.next H'.next sl ((readSys l).getD [])
theorem SysR.none {l : List UInt8} {H H' : AHeap} (hx : Ext H H') (h : readSys l = none) : SysR l H (.tuple #[.slice none 0 0, .bool false]) H' := by
  refine ⟨hx, _, ?_, .inl ⟨rfl, ?_⟩⟩
  · rw [h]; rfl
  · rw [h]; rfl
theorem SysR.some {l : List UInt8} {H H' : AHeap} {sl : Value} {ss : List (List Tm)} (hx : Ext H H') (h : readSys l = some ss) (ho : OwnSS H' H.next H'.next sl ss) : SysR l H (.tuple #[sl, .bool true]) H' := by
  refine ⟨hx, sl, ?_, ?_⟩
  · rw [h]; rfl
  · rw [h]; exact ho
theorem polyAll_some {s : ByteArray} {X : V} (h : polyF s = some X) : polyL s = X.ts := by
  unfold polyL; rw [h]
theorem slf_vec {H H' : AHeap} {sl : Value} {ts : List Tm} (h : SlF H' H.next sl ts) (hx : Ext H H') : ∃ c, H.next ≤ c ∧ c ≤ H'.next ∧ VecT H' c sl ts := by
  have hn := hx.next
  rcases h with ⟨rfl, rfl⟩ | ⟨b, g1, g2, g3⟩
  · exact ⟨H.next, Nat.le_refl _, hn, vecT_nil _ _⟩
  · exact ⟨b, g1, by omega, g3⟩
theorem allP_take {A : List (List UInt8)} {n : Nat} (h : n < A.length) : allP (A.take (n + 1)) = (allP (A.take n)).bind fun l => (polyF ⟨⟨A[n]⟩⟩).map fun X => l ++ [X.ts] := by
  rw [List.take_succ_eq_append_getElem h, allP_snoc]

theorem OwnSS.wide {H : AHeap} {lo hi lo' hi' : Nat} {v : Value} {ss : List (List Tm)} (h : OwnSS H lo hi v ss) (h1 : lo' ≤ lo) (h2 : hi ≤ hi') : OwnSS H lo' hi' v ss := by
  rcases h with h | ⟨b, vs, bs, g1, g2, g3, g4, g5, g6, g7⟩
  · exact .inl h
  · exact .inr ⟨b, vs, bs, g1, g2, by omega, g4, g5, fun c hc => by have := g6 c hc; omega, g7⟩

theorem sTxSystem_ok (lim : Nat) (l : List UInt8) (H : AHeap) (hl : lim ≤ H.next) (hn : l.length ≤ 1000000) : ACalls Tryd.prog lim n_spec_txSystem [strV l] H fun v H' => SysR l H v H' := by
  refine is_spec_txSystem.go rfl ?_
  unfold c_spec_txSystem
  obtain ⟨A, r, hsp, hAl⟩ := split_ex l
  have hre := readSys_eq hsp
  refine s_reg ?_
  simp only [o_pure, o_nil, POp.ev, Opd.ev, env0, gu, setD, List.set, Option.some.injEq, exists_eq_left']
  refine s_reg ?_
  simp only [o_pure, o_callF, POp.ev, Opd.ev, gv, setD, List.map, Option.some.injEq, exists_eq_left']
  refine (l1Split_ok lim l H hl hn).mono ?_
  rintro w H1 ⟨hw, hx1⟩
  rw [hsp, List.length_append, List.length_singleton] at hw
  have hn1 := hx1.next
  have ew : IntKind.i64.wrap (((A.length + 1 : Nat) : Int) - 1) = (A.length : Int) := by rw [IntKind.wrap_i64]; omega
  obtain ⟨b, o, hi1, hi2, hi3⟩ := hw.cell .i64 (i := (A.length : Int)) (by omega) (by omega)
  have hi4 : H1.cell b o = some (strV r) := by rw [hi3]; simp
  simp only [o_cont, o_pure, o_nil, POp.ev, Opd.ev, gv, setD, List.set, Option.some.injEq, exists_eq_left']
  by_cases hlen : 1 ≤ A.length ∧ A.length ≤ 3
  · have hd : (decide ((2 : Int) ≤ ((A.length + 1 : Nat) : Int)) && decide (((A.length + 1 : Nat) : Int) ≤ 4)) = true := by
      rw [decide_eq_true (by omega), decide_eq_true (by omega)]; rfl
    refine s_test ?_
    simp only [o_pure, o_callF, POp.ev, Opd.ev, gv, setD, List.map, Option.some.injEq, exists_eq_left', hw.lenV]
    refine (l1In_ok _ _ _ _ _).eq ?_
    simp only [o_cont, o_pure, o_guard, gk_ff, o_nil, POp.ev, Opd.ev, gv, setD, Option.some.injEq, exists_eq_left', pickV, binV, load1V, unV, ne_eq, not_true_eq_false, if_false, Bool.not_true, hd, hw.lenV, ew, hi1, hi4]
    by_cases hr : r = []
    · subst hr
      have e0 : (([] : List UInt8) != []) = false := rfl
      simp only [beq_self_eq_true, Bool.not_true, toListB]
      refine Test.false_ (s_skip1 ?_)
      simp +decide only [p_seq_normal]
      refine s_reg ?_
      simp only [o_pure, o_nil, POp.ev, Opd.ev, setD, List.set, Option.some.injEq, exists_eq_left']
      obtain ⟨tv, ht1, ht2⟩ := hw.slc (lo := none) (hi := some (.int .i64 (A.length : Int))) (i := 0) (j := A.length) (by omega) (by omega) (.inl ⟨rfl, rfl⟩) (.inr ⟨_, rfl⟩)
      have hcs : ((((A ++ [([] : List UInt8)]).map strV).drop (0 * 1)).take ((A.length - 0) * 1)) = A.map strV := by simp
      rw [hcs, Nat.sub_zero] at ht2
      refine s_assoc (s_reg ?_)
      simp only [o_pure, o_nil, POp.ev, Opd.ev, gv, setD, List.set, Option.map_none, Option.map_some, Option.some.injEq, exists_eq_left', binV, ne_eq, not_true_eq_false, if_false, hw.lenV, ew, ht1, ht2.lenV]
      refine s_block ?_
      refine s_loop1 (fun j e' H' => ∃ (n b : Nat) (vs : List Value) (bs : List Nat) (v x5 x6 x7 : Value) (ss : List (List Tm)), n + j = A.length ∧ allP (A.take n) = some ss ∧ GrowX H' H1.next b vs bs v ss ∧ Ext H1 H' ∧ e' = [strV l, .slice none 0 0, .bool false, w, v, x5, x6, x7, tv, .int .i64 A.length, .int .i64 n]) A.length ⟨0, H1.next, [], [], _, _, _, _, [], by omega, rfl, GrowX.nil' _, Ext.refl _, rfl⟩ ?_
      rintro j e' H' ⟨n, b, vs, bs, v, x5, x6, x7, ss, hnj, hall, hG, hx, rfl⟩
      have hnx := hx.next
      refine s_test ?_
      simp only [o_pure, o_nil, POp.ev, Opd.ev, gv, setD, Option.some.injEq, exists_eq_left', binV, ne_eq, not_true_eq_false, if_false]
      refine Test.split (fun hlt => ?_) (fun hlt => ?_)
      · have hlt' : n < A.length := by simpa using hlt
        obtain ⟨b1, o1, u1, _, u2⟩ := (ht2.keep (Keep.of_ext hx (Nat.le_refl _)) (Nat.le_refl _)).cell .i64 (i := (n : Int)) (by omega) (by omega)
        have u3 : H'.cell b1 o1 = some (strV A[n]) := by rw [u2]; simp [hlt']
        refine s_skip1 ?_
        simp +decide only [p_seq_normal]
        refine s_block ?_
        refine s_reg ?_
        simp only [o_pure, o_nil, POp.ev, Opd.ev, gv, setD, List.set, Option.some.injEq, exists_eq_left', load1V, u1, u3]
        refine s_reg ?_
        simp only [o_pure, o_callF, POp.ev, Opd.ev, gv, setD, List.map, Option.some.injEq, exists_eq_left']
        refine (sPoly_ok lim _ _ (by omega)).mono ?_
        intro _ H2 hr
        obtain ⟨hx2, g0, rfl, fg⟩ := hr.all
        simp only [o_cont, o_pure, o_nil, POp.ev, Opd.ev, gv, setD, List.set, Option.some.injEq, exists_eq_left', extV, List.getElem?_toArray, List.getElem?_cons_zero, List.getElem?_cons_succ]
        have hal := allP_take hlt'
        rw [hall, Option.bind_some] at hal
        cases hp : polyF ⟨⟨A[n]⟩⟩ with
        | none =>
          rw [hp] at hal
          refine s_test ?_
          simp only [o_pure, o_nil, POp.ev, Opd.ev, gv, setD, Option.some.injEq, exists_eq_left', unV, Bool.not_false, Option.isSome_none]
          refine Test.true_ (s_reg ?_)
          simp only [o_pure, o_nil, POp.ev, Opd.ev, setD, List.set, Option.some.injEq, exists_eq_left']
          refine s_ret1 ?_
          simp +decide only [p_seq_ret, p_block_ret, p_fin_ret, resV, resOne, resL, gv, Option.some.injEq, exists_eq_left', Option.bind_some, Option.map_some]
          refine SysR.none (hx1.trans (hx.trans hx2)) ?_
          rw [hre, allP_none hal]
          simp
        | some X =>
          rw [hp] at hal
          refine s_test ?_
          simp only [o_pure, o_nil, POp.ev, Opd.ev, gv, setD, Option.some.injEq, exists_eq_left', unV, Bool.not_true, Option.isSome_some]
          refine Test.false_ (s_skip1 ?_)
          simp +decide only [p_seq_normal]
          rw [polyAll_some hp] at fg
          obtain ⟨c, hc1, hc2, hv4⟩ := slf_vec fg hx2
          have hcv : cellsV g0 = some [g0] := Vec.cellsV hv4
          have hsl := (allP_len hall).1
          rw [List.length_take] at hsl
          obtain ⟨v', H3, b', g1, g2, g3⟩ := hG.push (lim := lim) (by omega) hx (Nat.le_refl _) (by omega) hx2 hc1 hc2 hv4 (by omega)
          refine s_reg1 ?_
          simp only [o_pure, o_eff, o_nil, POp.ev, Opd.ev, EOp.ev, gv, setD, List.set, List.map, Option.some.injEq, exists_eq_left', bsliceV _ _ hcv, g1]
          simp +decide only [p_seq_normal, p_block_normal]
          refine s_reg1 ?_
          simp only [o_pure, o_nil, POp.ev, Opd.ev, gv, setD, List.set, Option.some.injEq, exists_eq_left', binV, ne_eq, not_true_eq_false, if_false, add1 (i := n) (by omega)]
          simp +decide only [p_seq_normal]
          exact Round.mk (j - 1) (by omega) ⟨n + 1, b', vs ++ [g0], bs ++ [c], v', _, _, _, _, by omega, hal, g2, g3, rfl⟩
      · have hge : n = A.length := by simp at hlt; omega
        subst hge
        refine s_exit1 ?_
        simp +decide only [p_seq_normal, p_seq_exit, p_block_exit, reduceIte]
        rw [List.take_length] at hall
        rw [hall, if_pos ⟨rfl, hlen.2⟩, Option.bind_some] at hre
        have hsl := (allP_len hall).1
        have hown := (OwnSS.wide hG.own hn1 (Nat.le_refl _))
        have key := poSystem_ok lim v ss H' (by omega) hG.own.slss (by omega) (fun p hp => by have := (allP_len hall).2 p hp; omega)
        by_cases hg : goodSS ss = true
        · rw [if_pos hg] at hre
          refine s_test_I false (fun H2 => Ext H' H2) ?_ (fun H2 _ e => by cases e) (fun H2 hx2 _ => ?_)
          · simp only [o_pure, o_callF, POp.ev, Opd.ev, gv, setD, List.map, Option.some.injEq, exists_eq_left']
            refine key.mono ?_
            rintro _ H2 ⟨rfl, hx2⟩
            simp only [o_cont, o_pure, o_nil, POp.ev, Opd.ev, gv, setD, Option.some.injEq, exists_eq_left', unV, Bool.not_true, hg]
            exact ⟨trivial, trivial, hx2⟩
          · refine s_skip1 ?_
            simp +decide only [p_seq_normal]
            refine s_reg ?_
            simp only [o_pure, o_nil, POp.ev, Opd.ev, gv, setD, List.set, Option.some.injEq, exists_eq_left']
            refine s_ret1 ?_
            simp +decide only [p_fin_ret, resV, resOne, resL, gv, Option.some.injEq, exists_eq_left', Option.bind_some, Option.map_some]
            exact SysR.some (hx1.trans (hx.trans hx2)) hre (OwnSS.wide (OwnSS.ext hown hx2) (Nat.le_refl _) hx2.next)
        · rw [if_neg hg] at hre
          have hg' : goodSS ss = false := by simpa using hg
          refine s_test_I true (fun H2 => Ext H' H2) ?_ (fun H2 hx2 _ => ?_) (fun H2 _ e => by cases e)
          · simp only [o_pure, o_callF, POp.ev, Opd.ev, gv, setD, List.map, Option.some.injEq, exists_eq_left']
            refine key.mono ?_
            rintro _ H2 ⟨rfl, hx2⟩
            simp only [o_cont, o_pure, o_nil, POp.ev, Opd.ev, gv, setD, Option.some.injEq, exists_eq_left', unV, Bool.not_false, hg']
            exact ⟨trivial, trivial, hx2⟩
          · refine s_reg ?_
            simp only [o_pure, o_nil, POp.ev, Opd.ev, setD, List.set, Option.some.injEq, exists_eq_left']
            refine s_ret1 ?_
            simp +decide only [p_seq_ret, p_fin_ret, resV, resOne, resL, gv, Option.some.injEq, exists_eq_left', Option.bind_some, Option.map_some]
            exact SysR.none (hx1.trans (hx.trans hx2)) hre
    · have e0 : (r == []) = false := by simpa using hr
      simp only [Bool.not_false, toListB, e0]
      refine Test.true_ (s_reg ?_)
      simp only [o_pure, o_nil, POp.ev, Opd.ev, setD, List.set, Option.some.injEq, exists_eq_left']
      refine s_ret1 ?_
      simp +decide only [p_seq_ret, p_fin_ret, resV, resOne, resL, gv, Option.some.injEq, exists_eq_left', Option.bind_some, Option.map_some]
      exact SysR.none hx1 (by rw [hre, if_neg (fun h => hr h.1)])
  · have hd : (decide ((2 : Int) ≤ ((A.length + 1 : Nat) : Int)) && decide (((A.length + 1 : Nat) : Int) ≤ 4)) = false := by
      by_cases h1 : 1 ≤ A.length
      · rw [decide_eq_true (by omega), decide_eq_false (by omega)]; rfl
      · rw [decide_eq_false (by omega)]; rfl
    refine s_test ?_
    simp only [o_pure, o_callF, POp.ev, Opd.ev, gv, setD, List.map, Option.some.injEq, exists_eq_left', hw.lenV]
    refine (l1In_ok _ _ _ _ _).eq ?_
    simp only [o_cont, o_pure, o_guard, gk_tf, o_nil, POp.ev, Opd.ev, gv, setD, Option.some.injEq, exists_eq_left', pickV, unV, Bool.not_false, hd]
    refine Test.true_ (s_reg ?_)
    simp only [o_pure, o_nil, POp.ev, Opd.ev, setD, List.set, Option.some.injEq, exists_eq_left']
    refine s_ret1 ?_
    simp +decide only [p_seq_ret, p_fin_ret, resV, resOne, resL, gv, Option.some.injEq, exists_eq_left', Option.bind_some, Option.map_some]
    refine SysR.none hx1 ?_
    rw [hre]
    by_cases h1 : r = [] ∧ A.length ≤ 3
    · rw [if_pos h1]
      have : A = [] := by
        cases A with
        | nil => rfl
        | cons => simp at hlen; simp at h1; omega
      subst this
      rfl
    · rw [if_neg h1]
end Go.Proofs.YtooaafekllkpbaaDoor

/- FnExactReadSystem: the implementation's reader of systems; no condition beyond stated lengths. -/
namespace Go.Proofs.YtooaafekllkpbaaDoor
open Go.Ab
set_option linter.unusedSimpArgs false
set_option linter.unusedVariables false

theorem part_le : ∀ (l : List UInt8), ∀ x ∈ splitL l, x.length ≤ l.length
  | [], x, h => by simp [splitL] at h; simp [h]
  | c :: l, x, h => by
    have ih := part_le l
    unfold splitL at h
    rw [List.length_cons]
    split at h
    · rcases List.mem_cons.1 h with rfl | h
      · simp
      · have := ih x h; omega
    · split at h
      · rename_i a t e
        rcases List.mem_cons.1 h with rfl | h
        · have := ih a (by rw [e]; simp)
          simp; omega
        · have := ih x (by rw [e]; simp [h])
          omega
      · rename_i e
        exact absurd e (splitL_ne l)
theorem iReadSystem_ok (lim : Nat) (l : List UInt8) (H : AHeap) (hl : lim ≤ H.next) (hn : l.length ≤ 1000000) : ACalls Tryd.prog lim n_impl_ReadSystem [strV l] H fun v H' => SysR l H v H' := by
  refine is_impl_ReadSystem.go rfl ?_
  unfold c_impl_ReadSystem
  refine s_reg ?_
  simp only [o_pure, o_nil, POp.ev, Opd.ev, env0, gu, setD, List.set, Option.some.injEq, exists_eq_left']
  refine s_reg ?_
  simp only [o_pure, o_callF, POp.ev, Opd.ev, gv, setD, List.map, Option.some.injEq, exists_eq_left']
  refine (splitAfter_ok lim l H hl hn).mono ?_
  rintro w H1 ⟨A, r, hsp, hw, hx1⟩
  have hre := readSys_eq hsp
  have hAl : A.length ≤ l.length := by
    have h1 := splitL_length l
    have h2 := cntS_le l
    rw [hsp, List.length_append, List.length_singleton] at h1
    omega
  have hpl : ∀ x ∈ A, x.length ≤ 1000000 := fun x hx => by
    have := part_le l x (by rw [hsp]; simp [hx])
    omega
  have hn1 := hx1.next
  have ew : IntKind.i64.wrap (((A.length + 1 : Nat) : Int) - 1) = (A.length : Int) := by rw [IntKind.wrap_i64]; omega
  simp only [o_cont, o_pure, o_nil, POp.ev, Opd.ev, gv, setD, List.set, Option.some.injEq, exists_eq_left']
  refine s_reg ?_
  simp only [o_pure, o_nil, POp.ev, Opd.ev, setD, List.set, Option.some.injEq, exists_eq_left']
  obtain ⟨tv, ht1, ht2⟩ := hw.slc (lo := none) (hi := some (.int .i64 (A.length : Int))) (i := 0) (j := A.length) (by omega) (by omega) (.inl ⟨rfl, rfl⟩) (.inr ⟨_, rfl⟩)
  have hcs : (((afterV A r).drop (0 * 1)).take ((A.length - 0) * 1)) = A.map (fun b => strV (b ++ [59])) := by simp [afterV]
  rw [hcs, Nat.sub_zero] at ht2
  refine s_assoc (s_reg ?_)
  simp only [o_pure, o_nil, POp.ev, Opd.ev, gv, setD, List.set, Option.map_none, Option.map_some, Option.some.injEq, exists_eq_left', binV, ne_eq, not_true_eq_false, if_false, hw.lenV, ew, ht1, ht2.lenV]
  refine s_block ?_
  refine s_loop1 (fun j e' H' => ∃ (n b : Nat) (vs : List Value) (bs : List Nat) (v x5 x6 x7 : Value) (ss : List (List Tm)), n + j = A.length ∧ n ≤ 3 ∧ allP (A.take n) = some ss ∧ GrowX H' H1.next b vs bs v ss ∧ Ext H1 H' ∧ e' = [strV l, .slice none 0 0, .bool false, w, v, x5, x6, x7, tv, .int .i64 A.length, .int .i64 n]) A.length ⟨0, H1.next, [], [], _, _, _, _, [], by omega, by omega, rfl, GrowX.nil' _, Ext.refl _, rfl⟩ ?_
  rintro j e' H' ⟨n, b, vs, bs, v, x5, x6, x7, ss, hnj, hn3, hall, hG, hx, rfl⟩
  have hnx := hx.next
  have hsl := (allP_len hall).1
  rw [List.length_take, Nat.min_eq_left (by omega)] at hsl
  refine s_test ?_
  simp only [o_pure, o_nil, POp.ev, Opd.ev, gv, setD, Option.some.injEq, exists_eq_left', binV, ne_eq, not_true_eq_false, if_false]
  refine Test.split (fun hlt => ?_) (fun hlt => ?_)
  · have hlt' : n < A.length := by simpa using hlt
    obtain ⟨b1, o1, u1, _, u2⟩ := (ht2.keep (Keep.of_ext hx (Nat.le_refl _)) (Nat.le_refl _)).cell .i64 (i := (n : Int)) (by omega) (by omega)
    have u3 : H'.cell b1 o1 = some (strV (A[n] ++ [59])) := by rw [u2]; simp [hlt']
    refine s_skip1 ?_
    simp +decide only [p_seq_normal]
    refine s_block ?_
    refine s_reg ?_
    simp only [o_pure, o_nil, POp.ev, Opd.ev, gv, setD, List.set, Option.some.injEq, exists_eq_left', load1V, u1, u3]
    refine s_reg ?_
    simp only [o_pure, o_callF, POp.ev, Opd.ev, gv, setD, List.map, Option.some.injEq, exists_eq_left']
    refine (trim_ok lim _ _ (hpl _ (List.getElem_mem hlt'))).eq ?_
    simp only [o_cont, o_callF, Opd.ev, gv, setD, List.map]
    refine (iPoly_ok lim _ _ (by omega)).mono ?_
    intro _ H2 hr
    obtain ⟨hx2, g0, rfl, fg⟩ := hr.all
    simp only [o_cont, o_pure, o_nil, POp.ev, Opd.ev, gv, setD, List.set, Option.some.injEq, exists_eq_left', extV, List.getElem?_toArray, List.getElem?_cons_zero, List.getElem?_cons_succ]
    have hal := allP_take hlt'
    rw [hall, Option.bind_some] at hal
    cases hp : polyF ⟨⟨A[n]⟩⟩ with
    | none =>
      rw [hp] at hal
      refine s_test ?_
      simp only [o_pure, o_guard, gk_tf, o_nil, POp.ev, Opd.ev, gv, setD, Option.some.injEq, exists_eq_left', pickV, unV, Bool.not_false, Option.isSome_none]
      refine Test.true_ (s_reg ?_)
      simp only [o_pure, o_nil, POp.ev, Opd.ev, setD, List.set, Option.some.injEq, exists_eq_left']
      refine s_ret1 ?_
      simp +decide only [p_seq_ret, p_block_ret, p_fin_ret, resV, resOne, resL, gv, Option.some.injEq, exists_eq_left', Option.bind_some, Option.map_some]
      refine SysR.none (hx1.trans (hx.trans hx2)) ?_
      rw [hre, allP_none hal]
      simp
    | some X =>
      rw [hp] at hal
      have hlv := hG.vec.sl.lenV
      rw [hsl] at hlv
      by_cases hk3 : n = 3
      · have e3 : ((n : Int) == 3) = true := by rw [hk3]; rfl
        refine s_test ?_
        simp only [o_pure, o_guard, gk_ff, o_nil, POp.ev, Opd.ev, gv, setD, Option.some.injEq, exists_eq_left', pickV, binV, unV, ne_eq, not_true_eq_false, if_false, Bool.not_true, Option.isSome_some, hlv, e3]
        refine Test.true_ (s_reg ?_)
        simp only [o_pure, o_nil, POp.ev, Opd.ev, setD, List.set, Option.some.injEq, exists_eq_left']
        refine s_ret1 ?_
        simp +decide only [p_seq_ret, p_block_ret, p_fin_ret, resV, resOne, resL, gv, Option.some.injEq, exists_eq_left', Option.bind_some, Option.map_some]
        refine SysR.none (hx1.trans (hx.trans hx2)) ?_
        rw [hre, if_neg (fun h => by omega)]
      · have e3 : ((n : Int) == 3) = false := beq_eq_false_iff_ne.2 (by omega)
        refine s_test ?_
        simp only [o_pure, o_guard, gk_ff, o_nil, POp.ev, Opd.ev, gv, setD, Option.some.injEq, exists_eq_left', pickV, binV, unV, ne_eq, not_true_eq_false, if_false, Bool.not_true, Option.isSome_some, hlv, e3]
        refine Test.false_ (s_skip1 ?_)
        simp +decide only [p_seq_normal]
        rw [polyAll_some hp] at fg
        obtain ⟨c, hc1, hc2, hv4⟩ := slf_vec fg hx2
        have hcv : cellsV g0 = some [g0] := Vec.cellsV hv4
        obtain ⟨v', H3, b', g1, g2, g3⟩ := hG.push (lim := lim) (by omega) hx (Nat.le_refl _) (by omega) hx2 hc1 hc2 hv4 (by omega)
        refine s_reg1 ?_
        simp only [o_pure, o_eff, o_nil, POp.ev, Opd.ev, EOp.ev, gv, setD, List.set, List.map, Option.some.injEq, exists_eq_left', bsliceV _ _ hcv, g1]
        simp +decide only [p_seq_normal, p_block_normal]
        refine s_reg1 ?_
        simp only [o_pure, o_nil, POp.ev, Opd.ev, gv, setD, List.set, Option.some.injEq, exists_eq_left', binV, ne_eq, not_true_eq_false, if_false, add1 (i := n) (by omega)]
        simp +decide only [p_seq_normal]
        exact Round.mk (j - 1) (by omega) ⟨n + 1, b', vs ++ [g0], bs ++ [c], v', _, _, _, _, by omega, by omega, hal, g2, g3, rfl⟩
  · have hge : n = A.length := by simp at hlt; omega
    subst hge
    refine s_exit1 ?_
    simp +decide only [p_seq_normal, p_seq_exit, p_block_exit, reduceIte]
    rw [List.take_length] at hall
    rw [hall, Option.bind_some] at hre
    have hown := (OwnSS.wide hG.own hn1 (Nat.le_refl _))
    have key := isSystem_ok lim v ss H' (by omega) hG.own.slss (by omega) (fun p hp => by have := (allP_len hall).2 p hp; omega)
    have hw' := hw.keep (Keep.of_ext hx (Nat.le_refl _)) (Nat.le_refl _)
    obtain ⟨b1, o1, u1, _, u2⟩ := hw'.cell .i64 (i := (A.length : Int)) (by omega) (by omega)
    have u3 : H'.cell b1 o1 = some (strV r) := by rw [u2]; simp [afterV]
    by_cases hr : r = []
    · subst hr
      have e0 : (([] : List UInt8) == []) = true := rfl
      rw [if_pos ⟨rfl, hn3⟩] at hre
      by_cases hg : goodSS ss = true
      · rw [if_pos hg] at hre
        refine s_test_I false (fun H2 => Ext H' H2) ?_ (fun H2 _ e => by cases e) (fun H2 hx2 _ => ?_)
        · simp only [o_pure, o_callF, o_guard, gk_ff, POp.ev, Opd.ev, gv, setD, List.map, Option.some.injEq, exists_eq_left', binV, load1V, ne_eq, not_true_eq_false, if_false, beq_self_eq_true, Bool.not_true, hw'.lenV, ew, u1, u3, toListB]
          refine key.mono ?_
          rintro _ H2 ⟨rfl, hx2⟩
          simp only [o_cont, o_pure, o_guard, gk_ff, o_nil, POp.ev, Opd.ev, gv, setD, Option.some.injEq, exists_eq_left', pickV, unV, Bool.not_true, hg]
          exact ⟨trivial, trivial, hx2⟩
        · refine s_skip1 ?_
          simp +decide only [p_seq_normal]
          refine s_reg ?_
          simp only [o_pure, o_nil, POp.ev, Opd.ev, gv, setD, List.set, Option.some.injEq, exists_eq_left']
          refine s_ret1 ?_
          simp +decide only [p_fin_ret, resV, resOne, resL, gv, Option.some.injEq, exists_eq_left', Option.bind_some, Option.map_some]
          exact SysR.some (hx1.trans (hx.trans hx2)) hre (OwnSS.wide (OwnSS.ext hown hx2) (Nat.le_refl _) hx2.next)
      · rw [if_neg hg] at hre
        have hg' : goodSS ss = false := by simpa using hg
        refine s_test_I true (fun H2 => Ext H' H2) ?_ (fun H2 hx2 _ => ?_) (fun H2 _ e => by cases e)
        · simp only [o_pure, o_callF, o_guard, gk_ff, POp.ev, Opd.ev, gv, setD, List.map, Option.some.injEq, exists_eq_left', binV, load1V, ne_eq, not_true_eq_false, if_false, beq_self_eq_true, Bool.not_true, hw'.lenV, ew, u1, u3, toListB]
          refine key.mono ?_
          rintro _ H2 ⟨rfl, hx2⟩
          simp only [o_cont, o_pure, o_guard, gk_ff, o_nil, POp.ev, Opd.ev, gv, setD, Option.some.injEq, exists_eq_left', pickV, unV, Bool.not_false, hg']
          exact ⟨trivial, trivial, hx2⟩
        · refine s_reg ?_
          simp only [o_pure, o_nil, POp.ev, Opd.ev, setD, List.set, Option.some.injEq, exists_eq_left']
          refine s_ret1 ?_
          simp +decide only [p_seq_ret, p_fin_ret, resV, resOne, resL, gv, Option.some.injEq, exists_eq_left', Option.bind_some, Option.map_some]
          exact SysR.none (hx1.trans (hx.trans hx2)) hre
    · have e0 : (r == []) = false := by simpa using hr
      refine s_test ?_
      simp only [o_pure, o_guard, gk_tf, o_nil, POp.ev, Opd.ev, gv, setD, Option.some.injEq, exists_eq_left', pickV, binV, load1V, ne_eq, not_true_eq_false, if_false, Bool.not_false, hw'.lenV, ew, u1, u3, toListB, e0]
      refine Test.true_ (s_reg ?_)
      simp only [o_pure, o_nil, POp.ev, Opd.ev, setD, List.set, Option.some.injEq, exists_eq_left']
      refine s_ret1 ?_
      simp +decide only [p_seq_ret, p_fin_ret, resV, resOne, resL, gv, Option.some.injEq, exists_eq_left', Option.bind_some, Option.map_some]
      exact SysR.none (hx1.trans hx) (by rw [hre, if_neg (fun h => hr h.1)])
end Go.Proofs.YtooaafekllkpbaaDoor

/- FnExactReadSystem, the law's contract: for every text the law answers true; no condition. -/
namespace Go.Proofs.YtooaafekllkpbaaDoor
open Go.Ab
set_option linter.unusedSimpArgs false
set_option linter.unusedVariables false

theorem sReadSystem_ok (lim : Nat) (l : List UInt8) (H : AHeap) (hl : lim ≤ H.next) (hn : l.length ≤ 1000000) : ACalls Tryd.prog lim n_spec_ReadSystem [strV l] H fun v H' => SysR l H v H' := by
  refine is_spec_ReadSystem.go rfl ?_
  unfold c_spec_ReadSystem
  refine s_reg ?_
  simp only [o_pure, o_nil, POp.ev, Opd.ev, env0, gu, setD, List.set, Option.some.injEq, exists_eq_left']
  refine s_reg ?_
  simp only [o_pure, o_callF, POp.ev, Opd.ev, gv, setD, List.map, Option.some.injEq, exists_eq_left']
  refine (sTxSystem_ok lim l H hl hn).mono ?_
  intro v H1 hr
  have hr' := hr
  obtain ⟨hx, sl, rfl, ho⟩ := hr'
  simp only [o_cont, o_pure, o_nil, POp.ev, Opd.ev, gv, setD, List.set, Option.some.injEq, exists_eq_left', extV, List.getElem?_toArray, List.getElem?_cons_zero, List.getElem?_cons_succ]
  refine s_ret1 ?_
  simp +decide only [p_fin_ret, resV, resOne, resL, gv, Option.some.injEq, exists_eq_left', Option.bind_some, Option.map_some]
  exact hr
theorem readSys_small (l : List UInt8) : ((readSys l).getD []).length ≤ 3 ∧ (∀ p ∈ (readSys l).getD [], p.length ≤ 20) ∧ tot ((readSys l).getD []) ≤ 60 := by
  cases h : readSys l with
  | none => simp [tot]
  | some ss =>
    have hg : goodSS ss = true := by
      unfold readSys at h
      split at h
      · obtain ⟨s2, _, h⟩ := Option.bind_eq_some_iff.1 h
        split at h
        · cases h; assumption
        · cases h
      · cases h
    obtain ⟨_, h2, h3⟩ := goodSS_all hg
    have h4 : ∀ p ∈ ss, p.length ≤ 20 := fun p hp => (h3 p hp).1
    refine ⟨h2, h4, ?_⟩
    simp only [Option.getD_some]
    have : ∀ l : List (List Tm), (∀ p ∈ l, p.length ≤ 20) → tot l ≤ 20 * l.length := by
      intro l
      induction l with
      | nil => intro _; simp [tot]
      | cons p l ih =>
        intro h
        have h1 := h p (by simp)
        have h2 := ih fun q hq => h q (by simp [hq])
        rw [tot_cons, List.length_cons]
        omega
    have := this ss h4
    omega

theorem lawReadSystem_ok (lim : Nat) (l : List UInt8) (H : AHeap) (hl : lim ≤ H.next) : ACalls Tryd.prog lim n_laws_FnExactReadSystem [strV l] H fun v _ => v = .bool true := by
  refine is_laws_FnExactReadSystem.go rfl ?_
  unfold c_laws_FnExactReadSystem
  obtain ⟨hr1, hr2, hr3⟩ := readSys_small l
  refine s_reg ?_
  simp only [o_pure, o_nil, POp.ev, Opd.ev, env0, gu, setD, List.set, Option.some.injEq, exists_eq_left']
  refine s_test ?_
  simp only [o_pure, o_nil, POp.ev, Opd.ev, gv, setD, Option.some.injEq, exists_eq_left', binV, slenV, ne_eq, not_true_eq_false, if_false, sizeB]
  refine Test.split (fun hbig => ?_) (fun hsm => ?_)
  · refine s_reg ?_
    simp only [o_pure, o_nil, POp.ev, Opd.ev, setD, List.set, Option.some.injEq, exists_eq_left']
    refine s_ret1 ?_
    simp +decide only [p_seq_ret, p_fin_ret, resV, resOne, gv, Option.some.injEq, exists_eq_left']
  have hn : l.length ≤ 1000000 := by simp at hsm; omega
  refine s_skip1 ?_
  simp +decide only [p_seq_normal]
  refine s_reg ?_
  simp only [o_pure, o_callF, POp.ev, Opd.ev, gv, setD, List.map, Option.some.injEq, exists_eq_left']
  refine (sReadSystem_ok lim l H hl hn).mono ?_
  rintro _ H1 ⟨hx1, w, rfl, hw⟩
  have hn1 := hx1.next
  simp only [o_cont, o_pure, o_nil, POp.ev, Opd.ev, gv, setD, List.set, Option.some.injEq, exists_eq_left', extV, List.getElem?_toArray, List.getElem?_cons_zero, List.getElem?_cons_succ]
  refine s_reg ?_
  simp only [o_pure, o_callF, POp.ev, Opd.ev, gv, setD, List.map, Option.some.injEq, exists_eq_left']
  refine (iReadSystem_ok lim l H1 (by omega) hn).mono ?_
  rintro _ H2 ⟨hx2, g, rfl, hg⟩
  have hn2 := hx2.next
  simp only [o_cont, o_pure, o_nil, POp.ev, Opd.ev, gv, setD, List.set, Option.some.injEq, exists_eq_left', extV, List.getElem?_toArray, List.getElem?_cons_zero, List.getElem?_cons_succ]
  replace hw := OwnSS.ext hw hx2
  generalize hrr : (readSys l).getD [] = r at hr1 hr2 hr3 hw hg
  generalize hok : (readSys l).isSome = ok
  have hne : (ok != ok) = false := by simp
  have hne1 : (!true) = false := rfl
  refine s_test_I false (fun H' => Ext H2 H') ?_ (fun H3 hx3 e => by cases e) (fun H3 hx3 _ => ?_)
  · simp only [o_pure, o_callF, POp.ev, Opd.ev, gv, setD, List.map, Option.some.injEq, exists_eq_left']
    refine (eqTermSS_ok _ _ _ _ _ hg.slss hw.slss (by omega) (fun p hp => by have := hr2 p hp; omega)).mono ?_
    rintro _ H' ⟨rfl, hx⟩
    simp only [o_cont, o_pure, o_guard, gk_ff, o_nil, POp.ev, Opd.ev, gv, setD, Option.some.injEq, exists_eq_left', pickV, unV, boolEq, if_true, beq_self_eq_true, Bool.not_true]
    exact ⟨trivial, trivial, hx⟩
  refine s_skip1 ?_
  simp +decide only [p_seq_normal]
  have hn3 := hx3.next
  replace hw := OwnSS.ext hw hx3
  replace hg := OwnSS.ext hg hx3
  refine s_reg ?_
  simp only [o_pure, o_nil, POp.ev, Opd.ev, setD, List.set, Option.some.injEq, exists_eq_left']
  refine s_reg ?_
  simp only [o_pure, o_callF, POp.ev, Opd.ev, gv, setD, List.map, Option.some.injEq, exists_eq_left']
  refine (markTermSS_ok lim H1.next H2.next _ _ 101 _ (by omega) hg (by omega) (by omega) (by omega) (by omega)).mono ?_
  rintro _ H4 ⟨rfl, hg4, hout, hn4⟩
  simp only [o_cont, o_pure, o_nil, POp.ev, Opd.ev, gv, setD, List.set, Option.some.injEq, exists_eq_left']
  replace hw := OwnSS.out hw hout (.inl (by omega))
  clear hg
  have hneg : decide ((101 : Int) + 4 * (tot r : Int) < 0) = false := decide_eq_false (by omega)
  have heq : ((101 : Int) + 4 * (tot r : Int) != 101 + 4 * (tot r : Int)) = false := by simp
  refine s_reg ?_
  simp only [o_pure, o_nil, POp.ev, Opd.ev, setD, List.set, Option.some.injEq, exists_eq_left']
  refine s_reg ?_
  simp only [o_pure, o_callF, POp.ev, Opd.ev, gv, setD, List.map, Option.some.injEq, exists_eq_left']
  refine (heldTermSS_ok _ _ _ 101 _ hg4.slss (by omega) (by omega) (by omega) (by omega)).eq ?_
  simp only [o_cont, o_pure, o_nil, POp.ev, Opd.ev, gv, setD, List.set, Option.some.injEq, exists_eq_left']
  refine s_test ?_
  simp only [o_pure, o_nil, POp.ev, Opd.ev, gv, setD, Option.some.injEq, exists_eq_left', binV, ne_eq, not_true_eq_false, if_false, hneg]
  refine Test.false_ (s_skip1 ?_)
  simp +decide only [p_seq_normal]
  refine s_test ?_
  simp only [o_pure, o_nil, POp.ev, Opd.ev, gv, setD, Option.some.injEq, exists_eq_left', binV, ne_eq, not_true_eq_false, if_false, heq]
  refine Test.false_ (s_skip1 ?_)
  simp +decide only [p_seq_normal]
  -- once more
  refine s_reg ?_
  simp only [o_pure, o_callF, POp.ev, Opd.ev, gv, setD, List.map, Option.some.injEq, exists_eq_left']
  refine (iReadSystem_ok lim l H4 (by omega) hn).mono ?_
  rintro _ H5 ⟨hx5, u, rfl, hu⟩
  have hn5 := hx5.next
  simp only [o_cont, o_pure, o_nil, POp.ev, Opd.ev, gv, setD, List.set, Option.some.injEq, exists_eq_left', extV, List.getElem?_toArray, List.getElem?_cons_zero, List.getElem?_cons_succ, hok]
  rw [hrr] at hu
  replace hw := OwnSS.ext hw hx5
  replace hg4 := OwnSS.ext hg4 hx5
  refine s_test_I false (fun H' => Ext H5 H') ?_ (fun H6 hx6 e => by cases e) (fun H6 hx6 _ => ?_)
  · simp only [o_pure, o_callF, POp.ev, Opd.ev, gv, setD, List.map, Option.some.injEq, exists_eq_left']
    refine (eqTermSS_ok _ _ _ _ _ hu.slss hw.slss (by omega) (fun p hp => by have := hr2 p hp; omega)).mono ?_
    rintro _ H' ⟨rfl, hx⟩
    simp only [o_cont, o_pure, o_guard, gk_ff, o_nil, POp.ev, Opd.ev, gv, setD, Option.some.injEq, exists_eq_left', pickV, unV, boolEq, if_true, beq_self_eq_true, Bool.not_true]
    exact ⟨trivial, trivial, hx⟩
  refine s_skip1 ?_
  simp +decide only [p_seq_normal]
  replace hg4 := OwnSS.ext hg4 hx6
  refine s_reg ?_
  simp only [o_pure, o_nil, POp.ev, Opd.ev, setD, List.set, Option.some.injEq, exists_eq_left']
  refine s_reg ?_
  simp only [o_pure, o_callF, POp.ev, Opd.ev, gv, setD, List.map, Option.some.injEq, exists_eq_left']
  refine (heldTermSS_ok _ _ _ 101 _ hg4.slss (by omega) (by omega) (by omega) (by omega)).eq ?_
  simp only [o_cont, o_pure, o_nil, POp.ev, Opd.ev, gv, setD, List.set, Option.some.injEq, exists_eq_left']
  refine s_test ?_
  simp only [o_pure, o_nil, POp.ev, Opd.ev, gv, setD, Option.some.injEq, exists_eq_left', binV, ne_eq, not_true_eq_false, if_false, hneg]
  refine Test.false_ (s_skip1 ?_)
  simp +decide only [p_seq_normal]
  refine s_test ?_
  simp only [o_pure, o_nil, POp.ev, Opd.ev, gv, setD, Option.some.injEq, exists_eq_left', binV, ne_eq, not_true_eq_false, if_false, heq]
  refine Test.false_ (s_skip1 ?_)
  simp +decide only [p_seq_normal]
  refine s_reg ?_
  simp only [o_pure, o_nil, POp.ev, Opd.ev, setD, List.set, Option.some.injEq, exists_eq_left']
  refine s_ret1 ?_
  simp +decide only [p_fin_ret, resV, resOne, gv, Option.some.injEq, exists_eq_left']
end Go.Proofs.YtooaafekllkpbaaDoor
