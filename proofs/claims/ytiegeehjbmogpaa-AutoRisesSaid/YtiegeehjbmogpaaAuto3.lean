/-
  auto: what its functions do.
-/
import Derived.Test.YtiegeehjbmogpaaAxH
import Derived.Test.YtiegeehjbmogpaaProg
import Derived.KernelRfl
set_option linter.unusedSimpArgs false
set_option linter.unusedVariables false
namespace Go.Proofs.Ytiegeehjbmogpaa.W
open Go Go.AX
noncomputable section
noncomputable abbrev P : Program := Try.prog
theorem cf3 (first cap args : List AV) (h : H) : callV P (.func 3 first cap) args h = .enter 3 (first ++ args ++ cap) h := callV_func 3 (by kernel_rfl) first cap args
theorem cf6 (first cap args : List AV) (h : H) : callV P (.func 6 first cap) args h = .enter 6 (first ++ args ++ cap) h := callV_func 6 (by kernel_rfl) first cap args
theorem cf7 (first cap args : List AV) (h : H) : callV P (.func 7 first cap) args h = .enter 7 (first ++ args ++ cap) h := callV_func 7 (by kernel_rfl) first cap args
theorem u25 : P.underlying 25 = some (.int .i64) := by kernel_rfl
theorem u24 : P.underlying 24 = some (.pointer 40) := by kernel_rfl
theorem eq24 (h : H) (x y : Operand) (b o : Nat) : binR P h .eql 24 x y (.ptr b o) .nilptr = .val (.bool false) h := b_eqlPn u24 b o
theorem ne24 (h : H) (x y : Operand) (b o : Nat) : binR P h .neq 24 x y (.ptr b o) .nilptr = .val (.bool true) h := b_neqPn u24 b o
theorem en24 (h : H) (x y : Operand) : binR P h .eql 24 x y .nilptr .nilptr = .val (.bool true) h := b_eqlNn u24
theorem nn24 (h : H) (x y : Operand) : binR P h .neq 24 x y .nilptr .nilptr = .val (.bool false) h := b_neqNn u24
theorem u28 : P.underlying 28 = some (.pointer 43) := by kernel_rfl
theorem eq28 (h : H) (x y : Operand) (b o : Nat) : binR P h .eql 28 x y (.ptr b o) .nilptr = .val (.bool false) h := b_eqlPn u28 b o
theorem ne28 (h : H) (x y : Operand) (b o : Nat) : binR P h .neq 28 x y (.ptr b o) .nilptr = .val (.bool true) h := b_neqPn u28 b o
theorem en28 (h : H) (x y : Operand) : binR P h .eql 28 x y .nilptr .nilptr = .val (.bool true) h := b_eqlNn u28
theorem nn28 (h : H) (x y : Operand) : binR P h .neq 28 x y .nilptr .nilptr = .val (.bool false) h := b_neqNn u28
theorem u4 : P.underlying 4 = some (.bool) := by kernel_rfl
theorem eq4 (h : H) (x y : Operand) (a b : Bool) : binR P h .eql 4 x y (.bool a) (.bool b) = .val (.bool (a == b)) h := b_eqlB u4 a b
theorem ne4 (h : H) (x y : Operand) (a b : Bool) : binR P h .neq 4 x y (.bool a) (.bool b) = .val (.bool (!(a == b))) h := b_neqB u4 a b
theorem cf8 (first cap args : List AV) (h : H) : callV P (.func 8 first cap) args h = .enter 8 (first ++ args ++ cap) h := callV_func 8 (by kernel_rfl) first cap args
theorem u23 : P.underlying 23 = some (.slice 22) := by kernel_rfl
theorem ln23 (h : H) (b o n : Nat) (c : Cap) (ts : List TypeId) (xs : List AV) : builtinA P .len (23 :: ts) (.slice b o n c :: xs) h = .val (.int .i64 (.ofNat n)) h := bi_len_slice u23 b o n c ts xs
theorem lm23 (h : H) (ts : List TypeId) (xs : List AV) : builtinA P .len (23 :: ts) (.nilslice :: xs) h = .val (.int .i64 (.ofNat 0)) h := bi_len_nil u23 ts xs
theorem ia23 (b o len : Nat) (cap : Cap) (kd : IntKind) (i : Nat) : indexAddrA P 23 (.slice b o len cap) (.int kd (.ofNat i)) = if i < len then some (.ptr b (o + i * 1)) else none := indexAddr_slice (e := 22) (by kernel_rfl) (by kernel_rfl) (by kernel_rfl) b o len cap kd i
theorem ok22 : okT P 22 = true := by kernel_rfl
theorem ld22 (h : H) (b o : Nat) : loadV P h 22 b o = cellAt h b o := loadV_one (by kernel_rfl) h b o
theorem cf9 (first cap args : List AV) (h : H) : callV P (.func 9 first cap) args h = .enter 9 (first ++ args ++ cap) h := callV_func 9 (by kernel_rfl) first cap args
theorem cf10 (first cap args : List AV) (h : H) : callV P (.func 10 first cap) args h = .enter 10 (first ++ args ++ cap) h := callV_func 10 (by kernel_rfl) first cap args
theorem u22 : P.underlying 22 = some (.int .u64) := by kernel_rfl
theorem cf4 (first cap args : List AV) (h : H) : callV P (.func 4 first cap) args h = .enter 4 (first ++ args ++ cap) h := callV_func 4 (by kernel_rfl) first cap args
theorem cv5_3 (j : IntKind) (n : Int) (h : H) : convR P 5 3 (.int j n) h = .val (.int .i64 (wrapF .i64 n)) h := conv_int (u := .int .u8) (by kernel_rfl) (by kernel_rfl) j n
theorem cv5_22 (j : IntKind) (n : Int) (h : H) : convR P 5 22 (.int j n) h = .val (.int .u64 (wrapF .u64 n)) h := conv_int (u := .int .u8) (by kernel_rfl) (by kernel_rfl) j n
theorem u35 : P.underlying 35 = some (.slice 5) := by kernel_rfl
theorem ln35 (h : H) (b o n : Nat) (c : Cap) (ts : List TypeId) (xs : List AV) : builtinA P .len (35 :: ts) (.slice b o n c :: xs) h = .val (.int .i64 (.ofNat n)) h := bi_len_slice u35 b o n c ts xs
theorem lm35 (h : H) (ts : List TypeId) (xs : List AV) : builtinA P .len (35 :: ts) (.nilslice :: xs) h = .val (.int .i64 (.ofNat 0)) h := bi_len_nil u35 ts xs
theorem ia35 (b o len : Nat) (cap : Cap) (kd : IntKind) (i : Nat) : indexAddrA P 35 (.slice b o len cap) (.int kd (.ofNat i)) = if i < len then some (.ptr b (o + i * 1)) else none := indexAddr_slice (e := 5) (by kernel_rfl) (by kernel_rfl) (by kernel_rfl) b o len cap kd i
theorem ok5 : okT P 5 = true := by kernel_rfl
theorem ld5 (h : H) (b o : Nat) : loadV P h 5 b o = cellAt h b o := loadV_one (by kernel_rfl) h b o
theorem bs23_1_0 (p0_0 : AV) : buildSC P 23 1 [(0, [p0_0])] = some (22, [p0_0]) := by kernel_rfl
theorem ap23_23 (h : H) (s : AV) (b o n : Nat) (c : Cap) (ts : List TypeId) (xs : List AV) : builtinA P .append (23 :: 23 :: ts) (s :: .slice b o n c :: xs) h = obs (h.row b o (n * 1)) fun new => appendN 22 1 s n new h := bi_append2 u23 u23 (fun _ q => nomatch q) (by kernel_rfl) s b o n c ts xs
theorem u3 : P.underlying 3 = some (.int .i64) := by kernel_rfl
theorem bc40_2 (p2_0 : AV) : buildC P 40 [(2, [p2_0])] = some (.agg [.nilFunc, .nilFunc, p2_0, (.int .u64 (.ofNat 0)), (.int .u64 (.ofNat 0))]) := by kernel_rfl
theorem cf12 (first cap args : List AV) (h : H) : callV P (.func 12 first cap) args h = .enter 12 (first ++ args ++ cap) h := callV_func 12 (by kernel_rfl) first cap args
theorem fa40_0 (b o : Nat) : fieldAddrA P 40 (.ptr b o) 0 = some (.ptr b o) := by kernel_rfl
theorem ok38 : okT P 38 = true := by kernel_rfl
theorem st38 (h : H) (v : AV) (hv : v.cells = [v]) (b o : Nat) : storeV P h 38 b o v = h.put b o [v] := storeV_one (by kernel_rfl) hv b o
theorem cf13 (first cap args : List AV) (h : H) : callV P (.func 13 first cap) args h = .enter 13 (first ++ args ++ cap) h := callV_func 13 (by kernel_rfl) first cap args
theorem cf14 (first cap args : List AV) (h : H) : callV P (.func 14 first cap) args h = .enter 14 (first ++ args ++ cap) h := callV_func 14 (by kernel_rfl) first cap args
theorem fa40_1 (b o : Nat) : fieldAddrA P 40 (.ptr b o) 1 = some (.ptr b (o + 1)) := by kernel_rfl
theorem ok31 : okT P 31 = true := by kernel_rfl
theorem st31 (h : H) (v : AV) (hv : v.cells = [v]) (b o : Nat) : storeV P h 31 b o v = h.put b o [v] := storeV_one (by kernel_rfl) hv b o
theorem bc43_0_1 (p0_0 p1_0 : AV) : buildC P 43 [(0, [p0_0]), (1, [p1_0])] = some (.agg [p0_0, p1_0, .nilslice, (.int .u64 (.ofNat 0))]) := by kernel_rfl
theorem ld38 (h : H) (b o : Nat) : loadV P h 38 b o = cellAt h b o := loadV_one (by kernel_rfl) h b o
theorem fa40_4 (b o : Nat) : fieldAddrA P 40 (.ptr b o) 4 = some (.ptr b (o + 4)) := by kernel_rfl
theorem st22 (h : H) (v : AV) (hv : v.cells = [v]) (b o : Nat) : storeV P h 22 b o v = h.put b o [v] := storeV_one (by kernel_rfl) hv b o
theorem fa43_2 (b o : Nat) : fieldAddrA P 43 (.ptr b o) 2 = some (.ptr b (o + 2)) := by kernel_rfl
theorem ok23 : okT P 23 = true := by kernel_rfl
theorem ld23 (h : H) (b o : Nat) : loadV P h 23 b o = cellAt h b o := loadV_one (by kernel_rfl) h b o
theorem st23 (h : H) (v : AV) (hv : v.cells = [v]) (b o : Nat) : storeV P h 23 b o v = h.put b o [v] := storeV_one (by kernel_rfl) hv b o
theorem fa43_1 (b o : Nat) : fieldAddrA P 43 (.ptr b o) 1 = some (.ptr b (o + 1)) := by kernel_rfl
theorem fa43_0 (b o : Nat) : fieldAddrA P 43 (.ptr b o) 0 = some (.ptr b o) := by kernel_rfl
theorem ok3 : okT P 3 = true := by kernel_rfl
theorem ld3 (h : H) (b o : Nat) : loadV P h 3 b o = cellAt h b o := loadV_one (by kernel_rfl) h b o
theorem fa43_3 (b o : Nat) : fieldAddrA P 43 (.ptr b o) 3 = some (.ptr b (o + 3)) := by kernel_rfl
theorem fa40_2 (b o : Nat) : fieldAddrA P 40 (.ptr b o) 2 = some (.ptr b (o + 2)) := by kernel_rfl
theorem ld31 (h : H) (b o : Nat) : loadV P h 31 b o = cellAt h b o := loadV_one (by kernel_rfl) h b o
theorem fa40_3 (b o : Nat) : fieldAddrA P 40 (.ptr b o) 3 = some (.ptr b (o + 3)) := by kernel_rfl
theorem z3 : zeroA P 3 = some (.int .i64 (.ofNat 0)) := by kernel_rfl
theorem st3 (h : H) (v : AV) (hv : v.cells = [v]) (b o : Nat) : storeV P h 3 b o v = h.put b o [v] := storeV_one (by kernel_rfl) hv b o
theorem cf15 (first cap args : List AV) (h : H) : callV P (.func 15 first cap) args h = .enter 15 (first ++ args ++ cap) h := callV_func 15 (by kernel_rfl) first cap args
theorem F : ((((((type_of% @cf3) ∧ ((type_of% @cf6) ∧ (type_of% @cf7))) ∧ (((type_of% @eq24) ∧ (type_of% @ne24)) ∧ ((type_of% @en24) ∧ (type_of% @nn24)))) ∧ ((((type_of% @eq28) ∧ (type_of% @ne28)) ∧ ((type_of% @en28) ∧ (type_of% @nn28))) ∧ (((type_of% @eq4) ∧ (type_of% @ne4)) ∧ ((type_of% @cf8) ∧ (type_of% @ln23))))) ∧ ((((type_of% @lm23) ∧ ((type_of% @ia23) ∧ (type_of% @ok22))) ∧ (((type_of% @ld22) ∧ (type_of% @cf9)) ∧ ((type_of% @cf10) ∧ (type_of% @cf4)))) ∧ ((((type_of% @cv5_3) ∧ (type_of% @cv5_22)) ∧ ((type_of% @ln35) ∧ (type_of% @lm35))) ∧ (((type_of% @ia35) ∧ (type_of% @ok5)) ∧ ((type_of% @ld5) ∧ (type_of% @bs23_1_0)))))) ∧ (((((type_of% @ap23_23) ∧ ((type_of% @bc40_2) ∧ (type_of% @cf12))) ∧ (((type_of% @fa40_0) ∧ (type_of% @ok38)) ∧ ((type_of% @st38) ∧ (type_of% @cf13)))) ∧ ((((type_of% @cf14) ∧ (type_of% @fa40_1)) ∧ ((type_of% @ok31) ∧ (type_of% @st31))) ∧ (((type_of% @bc43_0_1) ∧ (type_of% @ld38)) ∧ ((type_of% @fa40_4) ∧ (type_of% @st22))))) ∧ ((((type_of% @fa43_2) ∧ ((type_of% @ok23) ∧ (type_of% @ld23))) ∧ (((type_of% @st23) ∧ (type_of% @fa43_1)) ∧ ((type_of% @fa43_0) ∧ (type_of% @ok3)))) ∧ ((((type_of% @ld3) ∧ (type_of% @fa43_3)) ∧ ((type_of% @fa40_2) ∧ (type_of% @ld31))) ∧ (((type_of% @fa40_3) ∧ (type_of% @z3)) ∧ ((type_of% @st3) ∧ (type_of% @cf15))))))) :=
  ⟨⟨⟨⟨⟨@cf3, ⟨@cf6, @cf7⟩⟩, ⟨⟨@eq24, @ne24⟩, ⟨@en24, @nn24⟩⟩⟩, ⟨⟨⟨@eq28, @ne28⟩, ⟨@en28, @nn28⟩⟩, ⟨⟨@eq4, @ne4⟩, ⟨@cf8, @ln23⟩⟩⟩⟩, ⟨⟨⟨@lm23, ⟨@ia23, @ok22⟩⟩, ⟨⟨@ld22, @cf9⟩, ⟨@cf10, @cf4⟩⟩⟩, ⟨⟨⟨@cv5_3, @cv5_22⟩, ⟨@ln35, @lm35⟩⟩, ⟨⟨@ia35, @ok5⟩, ⟨@ld5, @bs23_1_0⟩⟩⟩⟩⟩, ⟨⟨⟨⟨@ap23_23, ⟨@bc40_2, @cf12⟩⟩, ⟨⟨@fa40_0, @ok38⟩, ⟨@st38, @cf13⟩⟩⟩, ⟨⟨⟨@cf14, @fa40_1⟩, ⟨@ok31, @st31⟩⟩, ⟨⟨@bc43_0_1, @ld38⟩, ⟨@fa40_4, @st22⟩⟩⟩⟩, ⟨⟨⟨@fa43_2, ⟨@ok23, @ld23⟩⟩, ⟨⟨@st23, @fa43_1⟩, ⟨@fa43_0, @ok3⟩⟩⟩, ⟨⟨⟨@ld3, @fa43_3⟩, ⟨@fa40_2, @ld31⟩⟩, ⟨⟨@fa40_3, @z3⟩, ⟨@st3, @cf15⟩⟩⟩⟩⟩⟩

def Post12 (h : H) (rev keep : Nat) (v : AV) (h' : H) : Prop := h' = h ∧ v = .int .u64 (.ofNat (if rev ≤ keep then 0 else rev - keep))

theorem byRet (h : H) (a rev keep : Nat) (hk : cellAt h a 2 = some (.int .u64 (.ofNat keep))) (hr : rev < 18446744073709551616) :
    PushC P (.enter 12 [.ptr a 0, .int .u64 (.ofNat rev)] h) (Post12 h rev keep) := by
  refine pushC_of_codeW (fn := Try.f12) (c := bodyC Try.f12) Try.func12 rfl ?_
  show codeW P 12 17 none _ _ _ _ _
  refine codeW_root ?_
  repeat' (first
    | ((with_reducible refine st_seq ?_ ?_); (exact rfl))
    | ((with_reducible refine st_reg ?_ rfl rfl ?_); (exact rfl); (conv => arg 4; whnf); (conv => arg 3; whnf); simp only [B, F, Nat.reduceLT, Nat.reduceLeDiff, Nat.reduceEqDiff, Nat.reduceAdd, Nat.reduceMul, Nat.reduceSub, ↓reduceIte, eq_self, hk])
    | ((with_reducible refine st_drawn ?_ rfl rfl ?_ ?_); (exact rfl); (kernel_rfl); (conv => arg 4; whnf); (conv => arg 3; whnf); simp only [B, F, Nat.reduceLT, Nat.reduceLeDiff, Nat.reduceEqDiff, Nat.reduceAdd, Nat.reduceMul, Nat.reduceSub, ↓reduceIte, eq_self, hk])
    | ((with_reducible refine st_cond ?_ rfl ?_); (exact rfl); (conv => arg 1; arg 2; whnf); simp only [B, F, Nat.reduceLT, Nat.reduceLeDiff, Nat.reduceEqDiff, Nat.reduceAdd, Nat.reduceMul, Nat.reduceSub, ↓reduceIte, eq_self, hk])
    | ((with_reducible refine ifB_split (fun hb => ?_) (fun hb => ?_)) <;> simp only [hb, B, F, Nat.reduceLT, Nat.reduceLeDiff, Nat.reduceEqDiff, Nat.reduceAdd, Nat.reduceMul, Nat.reduceSub, ↓reduceIte, eq_self, hk])
    | ((with_reducible refine gW_split (fun hb => ?_) (fun hb => ?_)) <;> (try rw [Bool.not_true] at hb) <;> (try rw [Bool.not_false] at hb) <;> simp only [hb, B, F, Nat.reduceLT, Nat.reduceLeDiff, Nat.reduceEqDiff, Nat.reduceAdd, Nat.reduceMul, Nat.reduceSub, ↓reduceIte, eq_self, hk])
    | ((with_reducible refine st_block ?_ rfl ?_); (exact rfl); (conv => arg 9; arg 1; whnf))
    | ((with_reducible refine st_skip ?_ ?_); (exact rfl); simp only [B, F, Nat.reduceLT, Nat.reduceLeDiff, Nat.reduceEqDiff, Nat.reduceAdd, Nat.reduceMul, Nat.reduceSub, ↓reduceIte, eq_self, hk])
    | ((with_reducible refine st_exit ?_ rfl ?_); (exact rfl); (conv in exitId _ => whnf); simp only [B, F, Nat.reduceLT, Nat.reduceLeDiff, Nat.reduceEqDiff, Nat.reduceAdd, Nat.reduceMul, Nat.reduceSub, ↓reduceIte, eq_self, hk])
    | ((with_reducible refine st_ret ?_ ?_); (exact rfl); try simp only [B, F, Nat.reduceLT, Nat.reduceLeDiff, Nat.reduceEqDiff, Nat.reduceAdd, Nat.reduceMul, Nat.reduceSub, ↓reduceIte, eq_self, hk])
    | ((with_reducible refine retW_intro rfl ?_); (conv => arg 2; whnf); simp only [B, F, Nat.reduceLT, Nat.reduceLeDiff, Nat.reduceEqDiff, Nat.reduceAdd, Nat.reduceMul, Nat.reduceSub, ↓reduceIte, eq_self, hk]))
  · exact ⟨rfl, by rw [if_pos (of_decide_eq_true hb)]⟩
  · have hb := of_decide_eq_false hb
    exact ⟨rfl, by rw [if_neg hb, u64_sub (by omega) hr]⟩

/-- A period's end. -/
def Post15 (h : H) (nb n e : Nat) (v : AV) (h' : H) : Prop := h' = h.sts nb 0 [.int .i64 (.ofNat ((n + 1) % e))] ∧ v = .bool (decide ((n + 1) % e = 0))


theorem ends (h : H) (nb eb n e : Nat) (hne : nb ≠ eb) (hw : wrAt h nb = true) (hn : cellAt h nb 0 = some (.int .i64 (.ofNat n))) (he : cellAt h eb 0 = some (.int .i64 (.ofNat e))) (h0 : 0 < e) (h1 : n < e) (h2 : e ≤ 1000000) :
    PushC P (.enter 15 [.ptr nb 0, .ptr eb 0] h) (Post15 h nb n e) := by
  have ha : wrapF .i64 (Int.ofNat n + Int.ofNat 1) = Int.ofNat (n + 1) := i64_add (by omega)
  have hq := nat_ne_zero h0
  refine pushC_of_codeW (fn := Try.f15) (c := bodyC Try.f15) Try.func15 rfl ?_
  show codeW P 15 9 none _ _ _ _ _
  refine codeW_root ?_
  repeat' (first
    | ((with_reducible refine st_seq ?_ ?_); (exact rfl))
    | ((with_reducible refine st_reg ?_ rfl rfl ?_); (exact rfl); (conv => arg 4; whnf); (conv => arg 3; whnf); simp only [B, F, Nat.reduceLT, Nat.reduceLeDiff, Nat.reduceEqDiff, Nat.reduceAdd, Nat.reduceMul, Nat.reduceSub, ↓reduceIte, eq_self, hn, he, ha, b_rem _ _ _ hq, put_sts, hw, cellAt_sts hw])
    | ((with_reducible refine st_drawn ?_ rfl rfl ?_ ?_); (exact rfl); (kernel_rfl); (conv => arg 4; whnf); (conv => arg 3; whnf); simp only [B, F, Nat.reduceLT, Nat.reduceLeDiff, Nat.reduceEqDiff, Nat.reduceAdd, Nat.reduceMul, Nat.reduceSub, ↓reduceIte, eq_self, hn, he, ha, b_rem _ _ _ hq, put_sts, hw, cellAt_sts hw])
    | ((with_reducible refine st_cond ?_ rfl ?_); (exact rfl); (conv => arg 1; arg 2; whnf); simp only [B, F, Nat.reduceLT, Nat.reduceLeDiff, Nat.reduceEqDiff, Nat.reduceAdd, Nat.reduceMul, Nat.reduceSub, ↓reduceIte, eq_self, hn, he, ha, b_rem _ _ _ hq, put_sts, hw, cellAt_sts hw])
    | ((with_reducible refine ifB_split (fun hb => ?_) (fun hb => ?_)) <;> simp only [hb, B, F, Nat.reduceLT, Nat.reduceLeDiff, Nat.reduceEqDiff, Nat.reduceAdd, Nat.reduceMul, Nat.reduceSub, ↓reduceIte, eq_self, hn, he, ha, b_rem _ _ _ hq, put_sts, hw, cellAt_sts hw])
    | ((with_reducible refine gW_split (fun hb => ?_) (fun hb => ?_)) <;> (try rw [Bool.not_true] at hb) <;> (try rw [Bool.not_false] at hb) <;> simp only [hb, B, F, Nat.reduceLT, Nat.reduceLeDiff, Nat.reduceEqDiff, Nat.reduceAdd, Nat.reduceMul, Nat.reduceSub, ↓reduceIte, eq_self, hn, he, ha, b_rem _ _ _ hq, put_sts, hw, cellAt_sts hw])
    | ((with_reducible refine st_block ?_ rfl ?_); (exact rfl); (conv => arg 9; arg 1; whnf))
    | ((with_reducible refine st_skip ?_ ?_); (exact rfl); simp only [B, F, Nat.reduceLT, Nat.reduceLeDiff, Nat.reduceEqDiff, Nat.reduceAdd, Nat.reduceMul, Nat.reduceSub, ↓reduceIte, eq_self, hn, he, ha, b_rem _ _ _ hq, put_sts, hw, cellAt_sts hw])
    | ((with_reducible refine st_exit ?_ rfl ?_); (exact rfl); (conv in exitId _ => whnf); simp only [B, F, Nat.reduceLT, Nat.reduceLeDiff, Nat.reduceEqDiff, Nat.reduceAdd, Nat.reduceMul, Nat.reduceSub, ↓reduceIte, eq_self, hn, he, ha, b_rem _ _ _ hq, put_sts, hw, cellAt_sts hw])
    | ((with_reducible refine st_ret ?_ ?_); (exact rfl); try simp only [B, F, Nat.reduceLT, Nat.reduceLeDiff, Nat.reduceEqDiff, Nat.reduceAdd, Nat.reduceMul, Nat.reduceSub, ↓reduceIte, eq_self, hn, he, ha, b_rem _ _ _ hq, put_sts, hw, cellAt_sts hw])
    | ((with_reducible refine retW_intro rfl ?_); (conv => arg 2; whnf); simp only [B, F, Nat.reduceLT, Nat.reduceLeDiff, Nat.reduceEqDiff, Nat.reduceAdd, Nat.reduceMul, Nat.reduceSub, ↓reduceIte, eq_self, hn, he, ha, b_rem _ _ _ hq, put_sts, hw, cellAt_sts hw]))

  exact ⟨rfl, rfl⟩

/-- One that tells by retention. -/
structure RetR (h : H) (a keep told : Nat) : Prop where
  lt : a < h.nx
  wr : wrAt h a = true
  c0 : cellAt h a 0 = some (.func 12 [.ptr a 0] [])
  c2 : cellAt h a 2 = some (.int .u64 (.ofNat keep))
  c4 : cellAt h a 4 = some (.int .u64 (.ofNat told))

/-- One that tells by periods. -/
structure PerR (h : H) (a nb eb every n seen told : Nat) : Prop where
  lt : a < h.nx ∧ nb < h.nx ∧ eb < h.nx
  ne : nb ≠ a ∧ eb ≠ a ∧ nb ≠ eb
  wr : wrAt h a = true ∧ wrAt h nb = true
  c0 : cellAt h a 0 = some (.func 13 [.ptr a 0] [])
  c1 : cellAt h a 1 = some (.func 15 [] [.ptr nb 0, .ptr eb 0])
  c3 : cellAt h a 3 = some (.int .u64 (.ofNat seen))
  c4 : cellAt h a 4 = some (.int .u64 (.ofNat told))
  cn : cellAt h nb 0 = some (.int .i64 (.ofNat n))
  ce : cellAt h eb 0 = some (.int .i64 (.ofNat every))

def badArg (e : Int) (k : Nat) : Bool := decide (e < 0) || ((decide (0 < e)) == decide (0 < k)) || decide (1000000 < e) || decide (1099511627776 < k)

def PostBad (h : H) (v : AV) (h' : H) : Prop := h' = h ∧ v = .tuple [.nilptr, .int .i64 (.ofNat 2)]

theorem newBad (h : H) (e : Int) (k : Nat) (hbad : badArg e k = true) : PushC P (.enter 6 [.int .i64 e, .int .u64 (.ofNat k)] h) (PostBad h) := by
  unfold badArg at hbad
  refine pushC_of_codeW (fn := Try.f6) (c := bodyC Try.f6) Try.func6 rfl ?_
  show codeW P 6 45 none _ _ _ _ _
  refine codeW_root ?_
  repeat' (first
    | ((with_reducible refine st_seq ?_ ?_); (exact rfl))
    | ((with_reducible refine st_reg ?_ rfl rfl ?_); (exact rfl); (conv => arg 4; whnf); (conv => arg 3; whnf); simp only [B, F, Nat.reduceLT, Nat.reduceLeDiff, Nat.reduceEqDiff, Nat.reduceAdd, Nat.reduceMul, Nat.reduceSub, ↓reduceIte, eq_self])
    | ((with_reducible refine st_drawn ?_ rfl rfl ?_ ?_); (exact rfl); (kernel_rfl); (conv => arg 4; whnf); (conv => arg 3; whnf); simp only [B, F, Nat.reduceLT, Nat.reduceLeDiff, Nat.reduceEqDiff, Nat.reduceAdd, Nat.reduceMul, Nat.reduceSub, ↓reduceIte, eq_self])
    | ((with_reducible refine st_cond ?_ rfl ?_); (exact rfl); (conv => arg 1; arg 2; whnf); simp only [B, F, Nat.reduceLT, Nat.reduceLeDiff, Nat.reduceEqDiff, Nat.reduceAdd, Nat.reduceMul, Nat.reduceSub, ↓reduceIte, eq_self])
    | ((with_reducible refine ifB_split (fun hb => ?_) (fun hb => ?_)) <;> simp only [hb, B, F, Nat.reduceLT, Nat.reduceLeDiff, Nat.reduceEqDiff, Nat.reduceAdd, Nat.reduceMul, Nat.reduceSub, ↓reduceIte, eq_self])
    | ((with_reducible refine gW_split (fun hb => ?_) (fun hb => ?_)) <;> (try rw [Bool.not_true] at hb) <;> (try rw [Bool.not_false] at hb) <;> simp only [hb, B, F, Nat.reduceLT, Nat.reduceLeDiff, Nat.reduceEqDiff, Nat.reduceAdd, Nat.reduceMul, Nat.reduceSub, ↓reduceIte, eq_self])
    | ((with_reducible refine st_block ?_ rfl ?_); (exact rfl); (conv => arg 9; arg 1; whnf))
    | ((with_reducible refine st_skip ?_ ?_); (exact rfl); simp only [B, F, Nat.reduceLT, Nat.reduceLeDiff, Nat.reduceEqDiff, Nat.reduceAdd, Nat.reduceMul, Nat.reduceSub, ↓reduceIte, eq_self])
    | ((with_reducible refine st_exit ?_ rfl ?_); (exact rfl); (conv in exitId _ => whnf); simp only [B, F, Nat.reduceLT, Nat.reduceLeDiff, Nat.reduceEqDiff, Nat.reduceAdd, Nat.reduceMul, Nat.reduceSub, ↓reduceIte, eq_self])
    | ((with_reducible refine st_ret ?_ ?_); (exact rfl); try simp only [B, F, Nat.reduceLT, Nat.reduceLeDiff, Nat.reduceEqDiff, Nat.reduceAdd, Nat.reduceMul, Nat.reduceSub, ↓reduceIte, eq_self])
    | ((with_reducible refine retW_intro rfl ?_); (conv => arg 2; whnf); simp only [B, F, Nat.reduceLT, Nat.reduceLeDiff, Nat.reduceEqDiff, Nat.reduceAdd, Nat.reduceMul, Nat.reduceSub, ↓reduceIte, eq_self]))
  all_goals first | exact ⟨rfl, rfl⟩ | (exfalso; simp_all; done) | (exfalso; simp_all; omega)

def Post14 (h : H) (e : Nat) (v : AV) (h' : H) : Prop := h' = ((h.newCells 3 [.int .i64 (.ofNat e)]).newCells 3 [.int .i64 (.ofNat 0)]).sts (h.nx + 1) 0 [.int .i64 (.ofNat 0)] ∧ v = .func 15 [] [.ptr (h.nx + 1) 0, .ptr h.nx 0]

theorem periods (h : H) (e : Nat) : PushC P (.enter 14 [.int .i64 (.ofNat e)] h) (Post14 h e) := by
  refine pushC_of_codeW (fn := Try.f14) (c := bodyC Try.f14) Try.func14 rfl ?_
  show codeW P 14 5 none _ _ _ _ _
  refine codeW_root ?_
  repeat' (first
    | ((with_reducible refine st_seq ?_ ?_); (exact rfl))
    | ((with_reducible refine st_reg ?_ rfl rfl ?_); (exact rfl); (conv => arg 4; whnf); (conv => arg 3; whnf); simp only [B, F, Nat.reduceLT, Nat.reduceLeDiff, Nat.reduceEqDiff, Nat.reduceAdd, Nat.reduceMul, Nat.reduceSub, ↓reduceIte, eq_self])
    | ((with_reducible refine st_drawn ?_ rfl rfl ?_ ?_); (exact rfl); (kernel_rfl); (conv => arg 4; whnf); (conv => arg 3; whnf); simp only [B, F, Nat.reduceLT, Nat.reduceLeDiff, Nat.reduceEqDiff, Nat.reduceAdd, Nat.reduceMul, Nat.reduceSub, ↓reduceIte, eq_self])
    | ((with_reducible refine st_cond ?_ rfl ?_); (exact rfl); (conv => arg 1; arg 2; whnf); simp only [B, F, Nat.reduceLT, Nat.reduceLeDiff, Nat.reduceEqDiff, Nat.reduceAdd, Nat.reduceMul, Nat.reduceSub, ↓reduceIte, eq_self])
    | ((with_reducible refine ifB_split (fun hb => ?_) (fun hb => ?_)) <;> simp only [hb, B, F, Nat.reduceLT, Nat.reduceLeDiff, Nat.reduceEqDiff, Nat.reduceAdd, Nat.reduceMul, Nat.reduceSub, ↓reduceIte, eq_self])
    | ((with_reducible refine gW_split (fun hb => ?_) (fun hb => ?_)) <;> (try rw [Bool.not_true] at hb) <;> (try rw [Bool.not_false] at hb) <;> simp only [hb, B, F, Nat.reduceLT, Nat.reduceLeDiff, Nat.reduceEqDiff, Nat.reduceAdd, Nat.reduceMul, Nat.reduceSub, ↓reduceIte, eq_self])
    | ((with_reducible refine st_block ?_ rfl ?_); (exact rfl); (conv => arg 9; arg 1; whnf))
    | ((with_reducible refine st_skip ?_ ?_); (exact rfl); simp only [B, F, Nat.reduceLT, Nat.reduceLeDiff, Nat.reduceEqDiff, Nat.reduceAdd, Nat.reduceMul, Nat.reduceSub, ↓reduceIte, eq_self])
    | ((with_reducible refine st_exit ?_ rfl ?_); (exact rfl); (conv in exitId _ => whnf); simp only [B, F, Nat.reduceLT, Nat.reduceLeDiff, Nat.reduceEqDiff, Nat.reduceAdd, Nat.reduceMul, Nat.reduceSub, ↓reduceIte, eq_self])
    | ((with_reducible refine st_ret ?_ ?_); (exact rfl); try simp only [B, F, Nat.reduceLT, Nat.reduceLeDiff, Nat.reduceEqDiff, Nat.reduceAdd, Nat.reduceMul, Nat.reduceSub, ↓reduceIte, eq_self])
    | ((with_reducible refine retW_intro rfl ?_); (conv => arg 2; whnf); simp only [B, F, Nat.reduceLT, Nat.reduceLeDiff, Nat.reduceEqDiff, Nat.reduceAdd, Nat.reduceMul, Nat.reduceSub, ↓reduceIte, eq_self]))
  exact ⟨rfl, rfl⟩

def PostRet (h : H) (k : Nat) (v : AV) (h' : H) : Prop := ∃ a, v = .tuple [.ptr a 0, .int .i64 (.ofNat 0)] ∧ h.nx ≤ a ∧ a < h'.nx ∧ RetR h' a k 0 ∧ Only h h' []

theorem newRet (h : H) (k : Nat) (h0 : 0 < k) (h1 : k ≤ 1099511627776) : PushC P (.enter 6 [.int .i64 (.ofNat 0), .int .u64 (.ofNat k)] h) (PostRet h k) := by
  have d0 : decide (0 < k) = true := decide_eq_true h0
  have d1 : decide (1099511627776 < k) = false := decide_eq_false (by omega)
  refine pushC_of_codeW (fn := Try.f6) (c := bodyC Try.f6) Try.func6 rfl ?_
  show codeW P 6 45 none _ _ _ _ _
  refine codeW_root ?_
  repeat' (first
    | ((with_reducible refine st_seq ?_ ?_); (exact rfl))
    | ((with_reducible refine st_reg ?_ rfl rfl ?_); (exact rfl); (conv => arg 4; whnf); (conv => arg 3; whnf); simp only [B, F, Nat.reduceLT, Nat.reduceLeDiff, Nat.reduceEqDiff, Nat.reduceAdd, Nat.reduceMul, Nat.reduceSub, ↓reduceIte, eq_self, d0, d1])
    | ((with_reducible refine st_drawn ?_ rfl rfl ?_ ?_); (exact rfl); (kernel_rfl); (conv => arg 4; whnf); (conv => arg 3; whnf); simp only [B, F, Nat.reduceLT, Nat.reduceLeDiff, Nat.reduceEqDiff, Nat.reduceAdd, Nat.reduceMul, Nat.reduceSub, ↓reduceIte, eq_self, d0, d1])
    | ((with_reducible refine st_cond ?_ rfl ?_); (exact rfl); (conv => arg 1; arg 2; whnf); simp only [B, F, Nat.reduceLT, Nat.reduceLeDiff, Nat.reduceEqDiff, Nat.reduceAdd, Nat.reduceMul, Nat.reduceSub, ↓reduceIte, eq_self, d0, d1])
    | ((with_reducible refine ifB_split (fun hb => ?_) (fun hb => ?_)) <;> simp only [hb, B, F, Nat.reduceLT, Nat.reduceLeDiff, Nat.reduceEqDiff, Nat.reduceAdd, Nat.reduceMul, Nat.reduceSub, ↓reduceIte, eq_self, d0, d1])
    | ((with_reducible refine gW_split (fun hb => ?_) (fun hb => ?_)) <;> (try rw [Bool.not_true] at hb) <;> (try rw [Bool.not_false] at hb) <;> simp only [hb, B, F, Nat.reduceLT, Nat.reduceLeDiff, Nat.reduceEqDiff, Nat.reduceAdd, Nat.reduceMul, Nat.reduceSub, ↓reduceIte, eq_self, d0, d1])
    | ((with_reducible refine st_block ?_ rfl ?_); (exact rfl); (conv => arg 9; arg 1; whnf))
    | ((with_reducible refine st_skip ?_ ?_); (exact rfl); simp only [B, F, Nat.reduceLT, Nat.reduceLeDiff, Nat.reduceEqDiff, Nat.reduceAdd, Nat.reduceMul, Nat.reduceSub, ↓reduceIte, eq_self, d0, d1])
    | ((with_reducible refine st_exit ?_ rfl ?_); (exact rfl); (conv in exitId _ => whnf); simp only [B, F, Nat.reduceLT, Nat.reduceLeDiff, Nat.reduceEqDiff, Nat.reduceAdd, Nat.reduceMul, Nat.reduceSub, ↓reduceIte, eq_self, d0, d1])
    | ((with_reducible refine st_ret ?_ ?_); (exact rfl); try simp only [B, F, Nat.reduceLT, Nat.reduceLeDiff, Nat.reduceEqDiff, Nat.reduceAdd, Nat.reduceMul, Nat.reduceSub, ↓reduceIte, eq_self, d0, d1])
    | ((with_reducible refine retW_intro rfl ?_); (conv => arg 2; whnf); simp only [B, F, Nat.reduceLT, Nat.reduceLeDiff, Nat.reduceEqDiff, Nat.reduceAdd, Nat.reduceMul, Nat.reduceSub, ↓reduceIte, eq_self, d0, d1]))
  refine ⟨h.nx, rfl, Nat.le_refl _, ?_, ⟨?_, ?_, ?_, ?_, ?_⟩, ?_⟩
  all_goals first
    | (simp only [B, F, Nat.reduceLT, Nat.reduceLeDiff, Nat.reduceEqDiff, Nat.reduceAdd, Nat.reduceMul, Nat.reduceSub, ↓reduceIte, eq_self]; done)
    | (rw [nx_sts, nx_new]; exact Nat.lt_succ_self _)
    | exact ((Only.refl _ _).new _ _).sts (.inr (Nat.le_refl _))

def PostPer (h : H) (e : Nat) (v : AV) (h' : H) : Prop := ∃ a nb eb, v = .tuple [.ptr a 0, .int .i64 (.ofNat 0)] ∧ h.nx ≤ a ∧ h.nx ≤ nb ∧ h.nx ≤ eb ∧ PerR h' a nb eb e 0 0 0 ∧ Only h h' []

theorem newPer (h : H) (e : Nat) (h0 : 0 < e) (h1 : e ≤ 1000000) : PushC P (.enter 6 [.int .i64 (.ofNat e), .int .u64 (.ofNat 0)] h) (PostPer h e) := by
  have d0 : decide (0 < e) = true := decide_eq_true h0
  have d1 : decide (1000000 < e) = false := decide_eq_false (by omega)
  refine pushC_of_codeW (fn := Try.f6) (c := bodyC Try.f6) Try.func6 rfl ?_
  show codeW P 6 45 none _ _ _ _ _
  refine codeW_root ?_
  repeat' (first
    | ((with_reducible refine st_seq ?_ ?_); (exact rfl))
    | ((with_reducible refine st_reg ?_ rfl rfl ?_); (exact rfl); (conv => arg 4; whnf); (conv => arg 3; whnf); simp only [B, F, Nat.reduceLT, Nat.reduceLeDiff, Nat.reduceEqDiff, Nat.reduceAdd, Nat.reduceMul, Nat.reduceSub, ↓reduceIte, eq_self, d0, d1])
    | ((with_reducible refine st_drawn ?_ rfl rfl ?_ ?_); (exact rfl); (kernel_rfl); (conv => arg 4; whnf); (conv => arg 3; whnf); simp only [B, F, Nat.reduceLT, Nat.reduceLeDiff, Nat.reduceEqDiff, Nat.reduceAdd, Nat.reduceMul, Nat.reduceSub, ↓reduceIte, eq_self, d0, d1])
    | ((with_reducible refine st_cond ?_ rfl ?_); (exact rfl); (conv => arg 1; arg 2; whnf); simp only [B, F, Nat.reduceLT, Nat.reduceLeDiff, Nat.reduceEqDiff, Nat.reduceAdd, Nat.reduceMul, Nat.reduceSub, ↓reduceIte, eq_self, d0, d1])
    | ((with_reducible refine ifB_split (fun hb => ?_) (fun hb => ?_)) <;> simp only [hb, B, F, Nat.reduceLT, Nat.reduceLeDiff, Nat.reduceEqDiff, Nat.reduceAdd, Nat.reduceMul, Nat.reduceSub, ↓reduceIte, eq_self, d0, d1])
    | ((with_reducible refine gW_split (fun hb => ?_) (fun hb => ?_)) <;> (try rw [Bool.not_true] at hb) <;> (try rw [Bool.not_false] at hb) <;> simp only [hb, B, F, Nat.reduceLT, Nat.reduceLeDiff, Nat.reduceEqDiff, Nat.reduceAdd, Nat.reduceMul, Nat.reduceSub, ↓reduceIte, eq_self, d0, d1])
    | ((with_reducible refine st_block ?_ rfl ?_); (exact rfl); (conv => arg 9; arg 1; whnf))
    | ((with_reducible refine st_skip ?_ ?_); (exact rfl); simp only [B, F, Nat.reduceLT, Nat.reduceLeDiff, Nat.reduceEqDiff, Nat.reduceAdd, Nat.reduceMul, Nat.reduceSub, ↓reduceIte, eq_self, d0, d1])
    | ((with_reducible refine st_exit ?_ rfl ?_); (exact rfl); (conv in exitId _ => whnf); simp only [B, F, Nat.reduceLT, Nat.reduceLeDiff, Nat.reduceEqDiff, Nat.reduceAdd, Nat.reduceMul, Nat.reduceSub, ↓reduceIte, eq_self, d0, d1])
    | ((with_reducible refine st_ret ?_ ?_); (exact rfl); try simp only [B, F, Nat.reduceLT, Nat.reduceLeDiff, Nat.reduceEqDiff, Nat.reduceAdd, Nat.reduceMul, Nat.reduceSub, ↓reduceIte, eq_self, d0, d1])
    | ((with_reducible refine retW_intro rfl ?_); (conv => arg 2; whnf); simp only [B, F, Nat.reduceLT, Nat.reduceLeDiff, Nat.reduceEqDiff, Nat.reduceAdd, Nat.reduceMul, Nat.reduceSub, ↓reduceIte, eq_self, d0, d1]))
  refine ((periods _ e).call P).mono P ?_
  rintro v h' ⟨rfl, rfl⟩
  simp only [B, F, Nat.reduceLT, Nat.reduceLeDiff, Nat.reduceEqDiff, Nat.reduceAdd, Nat.reduceMul, Nat.reduceSub, ↓reduceIte, eq_self, d0, d1]
  repeat' (first
    | ((with_reducible refine st_seq ?_ ?_); (exact rfl))
    | ((with_reducible refine st_reg ?_ rfl rfl ?_); (exact rfl); (conv => arg 4; whnf); (conv => arg 3; whnf); simp only [B, F, Nat.reduceLT, Nat.reduceLeDiff, Nat.reduceEqDiff, Nat.reduceAdd, Nat.reduceMul, Nat.reduceSub, ↓reduceIte, eq_self])
    | ((with_reducible refine st_drawn ?_ rfl rfl ?_ ?_); (exact rfl); (kernel_rfl); (conv => arg 4; whnf); (conv => arg 3; whnf); simp only [B, F, Nat.reduceLT, Nat.reduceLeDiff, Nat.reduceEqDiff, Nat.reduceAdd, Nat.reduceMul, Nat.reduceSub, ↓reduceIte, eq_self])
    | ((with_reducible refine st_cond ?_ rfl ?_); (exact rfl); (conv => arg 1; arg 2; whnf); simp only [B, F, Nat.reduceLT, Nat.reduceLeDiff, Nat.reduceEqDiff, Nat.reduceAdd, Nat.reduceMul, Nat.reduceSub, ↓reduceIte, eq_self])
    | ((with_reducible refine ifB_split (fun hb => ?_) (fun hb => ?_)) <;> simp only [hb, B, F, Nat.reduceLT, Nat.reduceLeDiff, Nat.reduceEqDiff, Nat.reduceAdd, Nat.reduceMul, Nat.reduceSub, ↓reduceIte, eq_self])
    | ((with_reducible refine gW_split (fun hb => ?_) (fun hb => ?_)) <;> (try rw [Bool.not_true] at hb) <;> (try rw [Bool.not_false] at hb) <;> simp only [hb, B, F, Nat.reduceLT, Nat.reduceLeDiff, Nat.reduceEqDiff, Nat.reduceAdd, Nat.reduceMul, Nat.reduceSub, ↓reduceIte, eq_self])
    | ((with_reducible refine st_block ?_ rfl ?_); (exact rfl); (conv => arg 9; arg 1; whnf))
    | ((with_reducible refine st_skip ?_ ?_); (exact rfl); simp only [B, F, Nat.reduceLT, Nat.reduceLeDiff, Nat.reduceEqDiff, Nat.reduceAdd, Nat.reduceMul, Nat.reduceSub, ↓reduceIte, eq_self])
    | ((with_reducible refine st_exit ?_ rfl ?_); (exact rfl); (conv in exitId _ => whnf); simp only [B, F, Nat.reduceLT, Nat.reduceLeDiff, Nat.reduceEqDiff, Nat.reduceAdd, Nat.reduceMul, Nat.reduceSub, ↓reduceIte, eq_self])
    | ((with_reducible refine st_ret ?_ ?_); (exact rfl); try simp only [B, F, Nat.reduceLT, Nat.reduceLeDiff, Nat.reduceEqDiff, Nat.reduceAdd, Nat.reduceMul, Nat.reduceSub, ↓reduceIte, eq_self])
    | ((with_reducible refine retW_intro rfl ?_); (conv => arg 2; whnf); simp only [B, F, Nat.reduceLT, Nat.reduceLeDiff, Nat.reduceEqDiff, Nat.reduceAdd, Nat.reduceMul, Nat.reduceSub, ↓reduceIte, eq_self]))
  refine ⟨h.nx, h.nx + 2, h.nx + 1, rfl, Nat.le_refl _, by omega, by omega, ⟨⟨?_, ?_, ?_⟩, ⟨?_, ?_, ?_⟩, ⟨?_, ?_⟩, ?_, ?_, ?_, ?_, ?_, ?_⟩, ?_⟩
  all_goals first
    | (simp only [B, F, Nat.reduceLT, Nat.reduceLeDiff, Nat.reduceEqDiff, Nat.reduceAdd, Nat.reduceMul, Nat.reduceSub, ↓reduceIte, eq_self]; done)
    | (simp only [nx_sts, nx_new]; omega)
    | omega
    | exact (((((((Only.refl _ _).new _ _).sts (.inr (by omega))).new _ _).new _ _).sts (.inr (by omega))).sts (.inr (by omega))).sts (.inr (by omega))

end
end Go.Proofs.Ytiegeehjbmogpaa.W

