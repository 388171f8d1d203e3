/-
  gens: what lies in memory; the small functions.
-/
import Derived.Test.YtlkngpckibidlaaGreatAxI
import Derived.Test.YtlkngpckibidlaaGreatAxH
import Derived.Test.YtlkngpckibidlaaGreatProg
import Derived.KernelRfl
set_option linter.unusedSimpArgs false
set_option linter.unusedVariables false
set_option linter.unusedSectionVars false
open Nat (reduceLT reduceLeDiff reduceEqDiff reduceAdd reduceMul reduceSub)
namespace Go.Proofs.YtlkngpckibidlaaGreat.W
open Go Go.AX
noncomputable section
set_option maxRecDepth 100000
noncomputable abbrev P : Program := Tryz.prog
theorem cf31 (first cap args : List AV) (h : H) : callV P (.func 31 first cap) args h = .enter 31 (first ++ args ++ cap) h := callV_func 31 (by kernel_rfl) first cap args
theorem ok55 : okT P 55 = true:= by kernel_rfl
theorem ld55 (h : H) (b o : Nat) : loadV P h 55 b o = aggO (seqO [cellAt h b o]) := ld_agg (k := 0) (by kernel_rfl) (by kernel_rfl) b o
theorem z55 : zeroA P 55 = some (.agg [.nilslice]):= by kernel_rfl
theorem cf63 (first cap args : List AV) (h : H) : callV P (.func 63 first cap) args h = .enter 63 (first ++ args ++ cap) h := callV_func 63 (by kernel_rfl) first cap args
theorem z31 : zeroA P 31 = some (.agg [(.int .u64 (.ofNat 0)), (.int .u64 (.ofNat 0))]):= by kernel_rfl
theorem ok31 : okT P 31 = true:= by kernel_rfl
theorem st31 (h : H) (l : List AV) (hl : l.length = 2) (b o : Nat) : storeV P h 31 b o (.agg l) = h.put b o l := storeV_agg (by kernel_rfl) hl b o
theorem fa55_0 (b o : Nat) : fieldAddrA P 55 (.ptr b o) 0 = some (.ptr b o):= by kernel_rfl
theorem ok53 : okT P 53 = true:= by kernel_rfl
theorem ld53 (h : H) (b o : Nat) : loadV P h 53 b o = cellAt h b o := loadV_one (by kernel_rfl) h b o
theorem u53 : P.underlying 53 = some (.slice 107):= by kernel_rfl
theorem ln53 (h : H) (b o n : Nat) (c : Cap) (ts : List TypeId) (xs : List AV) : builtinA P .len (53 :: ts) (.slice b o n c :: xs) h = .val (.int .i64 (.ofNat n)) h := bi_len_slice u53 b o n c ts xs
theorem lm53 (h : H) (ts : List TypeId) (xs : List AV) : builtinA P .len (53 :: ts) (.nilslice :: xs) h = .val (.int .i64 (.ofNat 0)) h := bi_len_nil u53 ts xs
theorem ia53 (b o len : Nat) (cap : Cap) (kd : IntKind) (i : Nat) : indexAddrA P 53 (.slice b o len cap) (.int kd (.ofNat i)) = if i < len then some (.ptr b (o + i * 6)) else none := indexAddr_slice (e := 107) (by kernel_rfl) (by kernel_rfl) (by kernel_rfl) b o len cap kd i
theorem ok107 : okT P 107 = true:= by kernel_rfl
theorem ld107 (h : H) (b o : Nat) : loadV P h 107 b o = aggO (seqO [cellAt h b o, cellAt h b (o + 1), cellAt h b (o + 2), cellAt h b (o + 3), cellAt h b (o + 4), cellAt h b (o + 5)]) := ld_agg (k := 5) (by kernel_rfl) (by kernel_rfl) b o
theorem z107 : zeroA P 107 = some (.agg [(.int .u64 (.ofNat 0)), (.int .u64 (.ofNat 0)), .nilslice, (.int .u64 (.ofNat 0)), (.int .u64 (.ofNat 0)), (.bool false)]):= by kernel_rfl
theorem st107 (h : H) (l : List AV) (hl : l.length = 6) (b o : Nat) : storeV P h 107 b o (.agg l) = h.put b o l := storeV_agg (by kernel_rfl) hl b o
theorem fa107_2 (b o : Nat) : fieldAddrA P 107 (.ptr b o) 2 = some (.ptr b (o + 2)):= by kernel_rfl
theorem ok42 : okT P 42 = true:= by kernel_rfl
theorem st42 (h : H) (v : AV) (hv : v.cells = [v]) (b o : Nat) : storeV P h 42 b o v = h.put b o [v] := storeV_one (by kernel_rfl) hv b o
theorem ld42 (h : H) (b o : Nat) : loadV P h 42 b o = cellAt h b o := loadV_one (by kernel_rfl) h b o
theorem u42 : P.underlying 42 = some (.slice 31):= by kernel_rfl
theorem ln42 (h : H) (b o n : Nat) (c : Cap) (ts : List TypeId) (xs : List AV) : builtinA P .len (42 :: ts) (.slice b o n c :: xs) h = .val (.int .i64 (.ofNat n)) h := bi_len_slice u42 b o n c ts xs
theorem lm42 (h : H) (ts : List TypeId) (xs : List AV) : builtinA P .len (42 :: ts) (.nilslice :: xs) h = .val (.int .i64 (.ofNat 0)) h := bi_len_nil u42 ts xs
theorem ia42 (b o len : Nat) (cap : Cap) (kd : IntKind) (i : Nat) : indexAddrA P 42 (.slice b o len cap) (.int kd (.ofNat i)) = if i < len then some (.ptr b (o + i * 2)) else none := indexAddr_slice (e := 31) (by kernel_rfl) (by kernel_rfl) (by kernel_rfl) b o len cap kd i
theorem ld31 (h : H) (b o : Nat) : loadV P h 31 b o = aggO (seqO [cellAt h b o, cellAt h b (o + 1)]) := ld_agg (k := 1) (by kernel_rfl) (by kernel_rfl) b o
theorem fa31_0 (b o : Nat) : fieldAddrA P 31 (.ptr b o) 0 = some (.ptr b o):= by kernel_rfl
theorem ok29 : okT P 29 = true:= by kernel_rfl
theorem ld29 (h : H) (b o : Nat) : loadV P h 29 b o = cellAt h b o := loadV_one (by kernel_rfl) h b o
theorem ex31 (a0 b0 : Int) (a1 b1 : Int) : eqA P 12 31 (.agg [.int .u64 a0, .int .u64 a1]) (.agg [.int .u64 b0, .int .u64 b1]) = andO (some (a0 == b0)) (andO (some (a1 == b1)) (some true)):= by kernel_rfl
theorem ea31 (h : H) (x y : Operand) (a b : List AV) : binR P h .eql 31 x y (.agg a) (.agg b) = eqO (eqA P 12 31 (.agg a) (.agg b)) h := b_eqlA (by kernel_rfl) a b
theorem na31 (h : H) (x y : Operand) (a b : List AV) : binR P h .neq 31 x y (.agg a) (.agg b) = neO (eqA P 12 31 (.agg a) (.agg b)) h := b_neqA (by kernel_rfl) a b
theorem u3 : P.underlying 3 = some (.int .i64):= by kernel_rfl
theorem fa107_1 (b o : Nat) : fieldAddrA P 107 (.ptr b o) 1 = some (.ptr b (o + 1)):= by kernel_rfl
theorem cv3_29 (j : IntKind) (n : Int) (h : H) : convR P 3 29 (.int j n) h = .val (.int .u64 (wrapF .u64 n)) h := conv_int (u := .int .i64) (by kernel_rfl) (by kernel_rfl) j n
theorem st29 (h : H) (v : AV) (hv : v.cells = [v]) (b o : Nat) : storeV P h 29 b o v = h.put b o [v] := storeV_one (by kernel_rfl) hv b o
theorem bs42_1_0 (p0_0 p0_1 : AV) : buildSC P 42 1 [(0, [p0_0, p0_1])] = some (31, [p0_0, p0_1]):= by kernel_rfl
theorem ap42_42 (h : H) (s : AV) (b o n : Nat) (c : Cap) (ts : List TypeId) (xs : List AV) : builtinA P .append (42 :: 42 :: ts) (s :: .slice b o n c :: xs) h = obs (h.row b o (n * 2)) fun new => appendN 31 2 s n new h := bi_append2 u42 u42 (fun _ q => nomatch q) (by kernel_rfl) s b o n c ts xs
theorem fa107_4 (b o : Nat) : fieldAddrA P 107 (.ptr b o) 4 = some (.ptr b (o + 5)):= by kernel_rfl
theorem ok4 : okT P 4 = true:= by kernel_rfl
theorem ld4 (h : H) (b o : Nat) : loadV P h 4 b o = cellAt h b o := loadV_one (by kernel_rfl) h b o
theorem fa107_3 (b o : Nat) : fieldAddrA P 107 (.ptr b o) 3 = some (.ptr b (o + 3)):= by kernel_rfl
theorem bs53_1_0 (p0_0 p0_1 p0_2 p0_3 p0_4 p0_5 : AV) : buildSC P 53 1 [(0, [p0_0, p0_1, p0_2, p0_3, p0_4, p0_5])] = some (107, [p0_0, p0_1, p0_2, p0_3, p0_4, p0_5]):= by kernel_rfl
theorem ap53_53 (h : H) (s : AV) (b o n : Nat) (c : Cap) (ts : List TypeId) (xs : List AV) : builtinA P .append (53 :: 53 :: ts) (s :: .slice b o n c :: xs) h = obs (h.row b o (n * 6)) fun new => appendN 107 6 s n new h := bi_append2 u53 u53 (fun _ q => nomatch q) (by kernel_rfl) s b o n c ts xs
theorem st53 (h : H) (v : AV) (hv : v.cells = [v]) (b o : Nat) : storeV P h 53 b o v = h.put b o [v] := storeV_one (by kernel_rfl) hv b o
theorem st55 (h : H) (l : List AV) (hl : l.length = 1) (b o : Nat) : storeV P h 55 b o (.agg l) = h.put b o l := storeV_agg (by kernel_rfl) hl b o
theorem cf11 (first cap args : List AV) (h : H) : callV P (.func 11 first cap) args h = .enter 11 (first ++ args ++ cap) h := callV_func 11 (by kernel_rfl) first cap args
theorem cf43 (first cap args : List AV) (h : H) : callV P (.func 43 first cap) args h = .enter 43 (first ++ args ++ cap) h := callV_func 43 (by kernel_rfl) first cap args
theorem z42 : zeroA P 42 = some .nilslice:= by kernel_rfl
theorem cf69 (first cap args : List AV) (h : H) : callV P (.func 69 first cap) args h = .enter 69 (first ++ args ++ cap) h := callV_func 69 (by kernel_rfl) first cap args
theorem z124 : zeroA P 124 = some (.agg [(.int .u64 (.ofNat 0)), (.int .u64 (.ofNat 0)), (.int .u64 (.ofNat 0)), (.int .u64 (.ofNat 0)), (.bool false)]):= by kernel_rfl
theorem ok124 : okT P 124 = true:= by kernel_rfl
theorem st124 (h : H) (l : List AV) (hl : l.length = 5) (b o : Nat) : storeV P h 124 b o (.agg l) = h.put b o l := storeV_agg (by kernel_rfl) hl b o
theorem fa124_0 (b o : Nat) : fieldAddrA P 124 (.ptr b o) 0 = some (.ptr b o):= by kernel_rfl
theorem cf81 (first cap args : List AV) (h : H) : callV P (.func 81 first cap) args h = .enter 81 (first ++ args ++ cap) h := callV_func 81 (by kernel_rfl) first cap args
theorem cf71 (first cap args : List AV) (h : H) : callV P (.func 71 first cap) args h = .enter 71 (first ++ args ++ cap) h := callV_func 71 (by kernel_rfl) first cap args
theorem fa124_3 (b o : Nat) : fieldAddrA P 124 (.ptr b o) 3 = some (.ptr b (o + 4)):= by kernel_rfl
theorem bc31_ : buildC P 31 [] = some (.agg [(.int .u64 (.ofNat 0)), (.int .u64 (.ofNat 0))]):= by kernel_rfl
theorem fa124_1 (b o : Nat) : fieldAddrA P 124 (.ptr b o) 1 = some (.ptr b (o + 2)):= by kernel_rfl
theorem fa124_2 (b o : Nat) : fieldAddrA P 124 (.ptr b o) 2 = some (.ptr b (o + 3)):= by kernel_rfl
theorem cf18 (first cap args : List AV) (h : H) : callV P (.func 18 first cap) args h = .enter 18 (first ++ args ++ cap) h := callV_func 18 (by kernel_rfl) first cap args
theorem cf49 (first cap args : List AV) (h : H) : callV P (.func 49 first cap) args h = .enter 49 (first ++ args ++ cap) h := callV_func 49 (by kernel_rfl) first cap args
theorem cf50 (first cap args : List AV) (h : H) : callV P (.func 50 first cap) args h = .enter 50 (first ++ args ++ cap) h := callV_func 50 (by kernel_rfl) first cap args
theorem cf24 (first cap args : List AV) (h : H) : callV P (.func 24 first cap) args h = .enter 24 (first ++ args ++ cap) h := callV_func 24 (by kernel_rfl) first cap args
theorem cf55 (first cap args : List AV) (h : H) : callV P (.func 55 first cap) args h = .enter 55 (first ++ args ++ cap) h := callV_func 55 (by kernel_rfl) first cap args
theorem cf56 (first cap args : List AV) (h : H) : callV P (.func 56 first cap) args h = .enter 56 (first ++ args ++ cap) h := callV_func 56 (by kernel_rfl) first cap args
theorem st4 (h : H) (v : AV) (hv : v.cells = [v]) (b o : Nat) : storeV P h 4 b o v = h.put b o [v] := storeV_one (by kernel_rfl) hv b o
theorem cf27 (first cap args : List AV) (h : H) : callV P (.func 27 first cap) args h = .enter 27 (first ++ args ++ cap) h := callV_func 27 (by kernel_rfl) first cap args
theorem fa107_0 (b o : Nat) : fieldAddrA P 107 (.ptr b o) 0 = some (.ptr b o):= by kernel_rfl
theorem cf32 (first cap args : List AV) (h : H) : callV P (.func 32 first cap) args h = .enter 32 (first ++ args ++ cap) h := callV_func 32 (by kernel_rfl) first cap args
theorem cf82 (first cap args : List AV) (h : H) : callV P (.func 82 first cap) args h = .enter 82 (first ++ args ++ cap) h := callV_func 82 (by kernel_rfl) first cap args
theorem ld124 (h : H) (b o : Nat) : loadV P h 124 b o = aggO (seqO [cellAt h b o, cellAt h b (o + 1), cellAt h b (o + 2), cellAt h b (o + 3), cellAt h b (o + 4)]) := ld_agg (k := 4) (by kernel_rfl) (by kernel_rfl) b o
theorem z4 : zeroA P 4 = some (.bool false):= by kernel_rfl
theorem ok128 : okT P 128 = true:= by kernel_rfl
theorem ld128 (h : H) (b o : Nat) : loadV P h 128 b o = cellAt h b o := loadV_one (by kernel_rfl) h b o
theorem cf72 (first cap args : List AV) (h : H) : callV P (.func 72 first cap) args h = .enter 72 (first ++ args ++ cap) h := callV_func 72 (by kernel_rfl) first cap args
theorem cf73 (first cap args : List AV) (h : H) : callV P (.func 73 first cap) args h = .enter 73 (first ++ args ++ cap) h := callV_func 73 (by kernel_rfl) first cap args
theorem bc107_0_1 (p0_0 p1_0 : AV) : buildC P 107 [(0, [p0_0]), (1, [p1_0])] = some (.agg [p0_0, p1_0, .nilslice, (.int .u64 (.ofNat 0)), (.int .u64 (.ofNat 0)), (.bool false)]):= by kernel_rfl
theorem ms53 (j k : IntKind) (l c : Nat) (h : H) (hl : l ≤ c) (hc : c ≤ 4194304) : makeSliceA P 53 (.int j (.ofNat l)) (.int k (.ofNat c)) h = .val (.slice h.nx 0 l (.exact c)) (h.newCells 107 (repl [(.int .u64 (.ofNat 0)), (.int .u64 (.ofNat 0)), .nilslice, (.int .u64 (.ofNat 0)), (.int .u64 (.ofNat 0)), (.bool false)] c)) := makeSlice_eq (e := 107) (z := (.agg [(.int .u64 (.ofNat 0)), (.int .u64 (.ofNat 0)), .nilslice, (.int .u64 (.ofNat 0)), (.int .u64 (.ofNat 0)), (.bool false)])) (by kernel_rfl) (by kernel_rfl) (by kernel_rfl) hl hc j k
theorem ms42 (j k : IntKind) (l c : Nat) (h : H) (hl : l ≤ c) (hc : c ≤ 4194304) : makeSliceA P 42 (.int j (.ofNat l)) (.int k (.ofNat c)) h = .val (.slice h.nx 0 l (.exact c)) (h.newCells 31 (repl [(.int .u64 (.ofNat 0)), (.int .u64 (.ofNat 0))] c)) := makeSlice_eq (e := 31) (z := (.agg [(.int .u64 (.ofNat 0)), (.int .u64 (.ofNat 0))])) (by kernel_rfl) (by kernel_rfl) (by kernel_rfl) hl hc j k
theorem bc55_0 (p0_0 : AV) : buildC P 55 [(0, [p0_0])] = some (.agg [p0_0]):= by kernel_rfl
theorem cf25 (first cap args : List AV) (h : H) : callV P (.func 25 first cap) args h = .enter 25 (first ++ args ++ cap) h := callV_func 25 (by kernel_rfl) first cap args
theorem ok62 : okT P 62 = true:= by kernel_rfl
theorem ld62 (h : H) (b o : Nat) : loadV P h 62 b o = aggO (seqO [cellAt h b o]) := ld_agg (k := 0) (by kernel_rfl) (by kernel_rfl) b o
theorem z62 : zeroA P 62 = some (.agg [.nilslice]):= by kernel_rfl
theorem cf52 (first cap args : List AV) (h : H) : callV P (.func 52 first cap) args h = .enter 52 (first ++ args ++ cap) h := callV_func 52 (by kernel_rfl) first cap args
theorem st62 (h : H) (l : List AV) (hl : l.length = 1) (b o : Nat) : storeV P h 62 b o (.agg l) = h.put b o l := storeV_agg (by kernel_rfl) hl b o
theorem cf53 (first cap args : List AV) (h : H) : callV P (.func 53 first cap) args h = .enter 53 (first ++ args ++ cap) h := callV_func 53 (by kernel_rfl) first cap args
theorem bc102_0_1 (p0_0 p0_1 p1_0 : AV) : buildC P 102 [(0, [p0_0, p0_1]), (1, [p1_0])] = some (.agg [p0_0, p0_1, p1_0, (.int .u64 (.ofNat 0)), (.int .u64 (.ofNat 0))]):= by kernel_rfl
theorem cf54 (first cap args : List AV) (h : H) : callV P (.func 54 first cap) args h = .enter 54 (first ++ args ++ cap) h := callV_func 54 (by kernel_rfl) first cap args
theorem cf28 (first cap args : List AV) (h : H) : callV P (.func 28 first cap) args h = .enter 28 (first ++ args ++ cap) h := callV_func 28 (by kernel_rfl) first cap args
theorem fa62_0 (b o : Nat) : fieldAddrA P 62 (.ptr b o) 0 = some (.ptr b o):= by kernel_rfl
theorem ok60 : okT P 60 = true:= by kernel_rfl
theorem ld60 (h : H) (b o : Nat) : loadV P h 60 b o = cellAt h b o := loadV_one (by kernel_rfl) h b o
theorem u60 : P.underlying 60 = some (.slice 102):= by kernel_rfl
theorem ln60 (h : H) (b o n : Nat) (c : Cap) (ts : List TypeId) (xs : List AV) : builtinA P .len (60 :: ts) (.slice b o n c :: xs) h = .val (.int .i64 (.ofNat n)) h := bi_len_slice u60 b o n c ts xs
theorem lm60 (h : H) (ts : List TypeId) (xs : List AV) : builtinA P .len (60 :: ts) (.nilslice :: xs) h = .val (.int .i64 (.ofNat 0)) h := bi_len_nil u60 ts xs
theorem ia60 (b o len : Nat) (cap : Cap) (kd : IntKind) (i : Nat) : indexAddrA P 60 (.slice b o len cap) (.int kd (.ofNat i)) = if i < len then some (.ptr b (o + i * 5)) else none := indexAddr_slice (e := 102) (by kernel_rfl) (by kernel_rfl) (by kernel_rfl) b o len cap kd i
theorem ok102 : okT P 102 = true:= by kernel_rfl
theorem ld102 (h : H) (b o : Nat) : loadV P h 102 b o = aggO (seqO [cellAt h b o, cellAt h b (o + 1), cellAt h b (o + 2), cellAt h b (o + 3), cellAt h b (o + 4)]) := ld_agg (k := 4) (by kernel_rfl) (by kernel_rfl) b o
theorem z102 : zeroA P 102 = some (.agg [(.int .u64 (.ofNat 0)), (.int .u64 (.ofNat 0)), (.bool false), (.int .u64 (.ofNat 0)), (.int .u64 (.ofNat 0))]):= by kernel_rfl
theorem st102 (h : H) (l : List AV) (hl : l.length = 5) (b o : Nat) : storeV P h 102 b o (.agg l) = h.put b o l := storeV_agg (by kernel_rfl) hl b o
theorem fa102_2 (b o : Nat) : fieldAddrA P 102 (.ptr b o) 2 = some (.ptr b (o + 3)):= by kernel_rfl
theorem fa102_3 (b o : Nat) : fieldAddrA P 102 (.ptr b o) 3 = some (.ptr b (o + 4)):= by kernel_rfl
theorem fa102_0 (b o : Nat) : fieldAddrA P 102 (.ptr b o) 0 = some (.ptr b o):= by kernel_rfl
theorem bc102_0_2_3 (p0_0 p0_1 p2_0 p3_0 : AV) : buildC P 102 [(0, [p0_0, p0_1]), (2, [p2_0]), (3, [p3_0])] = some (.agg [p0_0, p0_1, (.bool false), p2_0, p3_0]):= by kernel_rfl
theorem cf34 (first cap args : List AV) (h : H) : callV P (.func 34 first cap) args h = .enter 34 (first ++ args ++ cap) h := callV_func 34 (by kernel_rfl) first cap args
theorem cf65 (first cap args : List AV) (h : H) : callV P (.func 65 first cap) args h = .enter 65 (first ++ args ++ cap) h := callV_func 65 (by kernel_rfl) first cap args
theorem bs60_1_0 (p0_0 p0_1 p0_2 p0_3 p0_4 : AV) : buildSC P 60 1 [(0, [p0_0, p0_1, p0_2, p0_3, p0_4])] = some (102, [p0_0, p0_1, p0_2, p0_3, p0_4]):= by kernel_rfl
theorem ap60_60 (h : H) (s : AV) (b o n : Nat) (c : Cap) (ts : List TypeId) (xs : List AV) : builtinA P .append (60 :: 60 :: ts) (s :: .slice b o n c :: xs) h = obs (h.row b o (n * 5)) fun new => appendN 102 5 s n new h := bi_append2 u60 u60 (fun _ q => nomatch q) (by kernel_rfl) s b o n c ts xs
theorem fa102_1 (b o : Nat) : fieldAddrA P 102 (.ptr b o) 1 = some (.ptr b (o + 2)):= by kernel_rfl
theorem bc62_0 (p0_0 : AV) : buildC P 62 [(0, [p0_0])] = some (.agg [p0_0]):= by kernel_rfl
theorem cf21 (first cap args : List AV) (h : H) : callV P (.func 21 first cap) args h = .enter 21 (first ++ args ++ cap) h := callV_func 21 (by kernel_rfl) first cap args
theorem cf68 (first cap args : List AV) (h : H) : callV P (.func 68 first cap) args h = .enter 68 (first ++ args ++ cap) h := callV_func 68 (by kernel_rfl) first cap args
theorem cf44 (first cap args : List AV) (h : H) : callV P (.func 44 first cap) args h = .enter 44 (first ++ args ++ cap) h := callV_func 44 (by kernel_rfl) first cap args
theorem bc124_0_1_2 (p0_0 p0_1 p1_0 p2_0 : AV) : buildC P 124 [(0, [p0_0, p0_1]), (1, [p1_0]), (2, [p2_0])] = some (.agg [p0_0, p0_1, p1_0, p2_0, (.bool false)]):= by kernel_rfl
theorem bc124_0_3 (p0_0 p0_1 p3_0 : AV) : buildC P 124 [(0, [p0_0, p0_1]), (3, [p3_0])] = some (.agg [p0_0, p0_1, (.int .u64 (.ofNat 0)), (.int .u64 (.ofNat 0)), p3_0]):= by kernel_rfl
theorem fa31_1 (b o : Nat) : fieldAddrA P 31 (.ptr b o) 1 = some (.ptr b (o + 1)):= by kernel_rfl
theorem cf74 (first cap args : List AV) (h : H) : callV P (.func 74 first cap) args h = .enter 74 (first ++ args ++ cap) h := callV_func 74 (by kernel_rfl) first cap args
set_option maxRecDepth 100000 in
theorem F : (((((((type_of% @cf31) ∧ ((type_of% @ok55) ∧ (type_of% @ld55))) ∧ (((type_of% @z55) ∧ (type_of% @cf63)) ∧ ((type_of% @z31) ∧ (type_of% @ok31)))) ∧ (((type_of% @st31) ∧ ((type_of% @fa55_0) ∧ (type_of% @ok53))) ∧ (((type_of% @ld53) ∧ (type_of% @ln53)) ∧ ((type_of% @lm53) ∧ (type_of% @ia53))))) ∧ ((((type_of% @ok107) ∧ ((type_of% @ld107) ∧ (type_of% @z107))) ∧ (((type_of% @st107) ∧ (type_of% @fa107_2)) ∧ ((type_of% @ok42) ∧ (type_of% @st42)))) ∧ ((((type_of% @ld42) ∧ (type_of% @ln42)) ∧ ((type_of% @lm42) ∧ (type_of% @ia42))) ∧ (((type_of% @ld31) ∧ (type_of% @fa31_0)) ∧ ((type_of% @ok29) ∧ (type_of% @ld29)))))) ∧ (((((type_of% @ex31) ∧ ((type_of% @ea31) ∧ (type_of% @na31))) ∧ (((type_of% @fa107_1) ∧ (type_of% @cv3_29)) ∧ ((type_of% @st29) ∧ (type_of% @bs42_1_0)))) ∧ (((type_of% @ap42_42) ∧ ((type_of% @fa107_4) ∧ (type_of% @ok4))) ∧ (((type_of% @ld4) ∧ (type_of% @fa107_3)) ∧ ((type_of% @bs53_1_0) ∧ (type_of% @ap53_53))))) ∧ ((((type_of% @st53) ∧ ((type_of% @st55) ∧ (type_of% @cf11))) ∧ (((type_of% @cf43) ∧ (type_of% @z42)) ∧ ((type_of% @cf69) ∧ (type_of% @z124)))) ∧ ((((type_of% @ok124) ∧ (type_of% @st124)) ∧ ((type_of% @fa124_0) ∧ (type_of% @cf81))) ∧ (((type_of% @cf71) ∧ (type_of% @fa124_3)) ∧ ((type_of% @bc31_) ∧ (type_of% @fa124_1))))))) ∧ ((((((type_of% @fa124_2) ∧ ((type_of% @cf18) ∧ (type_of% @cf49))) ∧ (((type_of% @cf50) ∧ (type_of% @cf24)) ∧ ((type_of% @cf55) ∧ (type_of% @cf56)))) ∧ (((type_of% @st4) ∧ ((type_of% @cf27) ∧ (type_of% @fa107_0))) ∧ (((type_of% @cf32) ∧ (type_of% @cf82)) ∧ ((type_of% @ld124) ∧ (type_of% @z4))))) ∧ ((((type_of% @ok128) ∧ ((type_of% @ld128) ∧ (type_of% @cf72))) ∧ (((type_of% @cf73) ∧ (type_of% @bc107_0_1)) ∧ ((type_of% @ms53) ∧ (type_of% @ms42)))) ∧ ((((type_of% @bc55_0) ∧ (type_of% @cf25)) ∧ ((type_of% @ok62) ∧ (type_of% @ld62))) ∧ (((type_of% @z62) ∧ (type_of% @cf52)) ∧ ((type_of% @st62) ∧ (type_of% @cf53)))))) ∧ (((((type_of% @bc102_0_1) ∧ ((type_of% @cf54) ∧ (type_of% @cf28))) ∧ (((type_of% @fa62_0) ∧ (type_of% @ok60)) ∧ ((type_of% @ld60) ∧ (type_of% @ln60)))) ∧ ((((type_of% @lm60) ∧ (type_of% @ia60)) ∧ ((type_of% @ok102) ∧ (type_of% @ld102))) ∧ (((type_of% @z102) ∧ (type_of% @st102)) ∧ ((type_of% @fa102_2) ∧ (type_of% @fa102_3))))) ∧ ((((type_of% @fa102_0) ∧ ((type_of% @bc102_0_2_3) ∧ (type_of% @cf34))) ∧ (((type_of% @cf65) ∧ (type_of% @bs60_1_0)) ∧ ((type_of% @ap60_60) ∧ (type_of% @fa102_1)))) ∧ ((((type_of% @bc62_0) ∧ (type_of% @cf21)) ∧ ((type_of% @cf68) ∧ (type_of% @cf44))) ∧ (((type_of% @bc124_0_1_2) ∧ (type_of% @bc124_0_3)) ∧ ((type_of% @fa31_1) ∧ (type_of% @cf74)))))))) :=
 ⟨⟨⟨⟨⟨⟨@cf31, ⟨@ok55, @ld55⟩⟩, ⟨⟨@z55, @cf63⟩, ⟨@z31, @ok31⟩⟩⟩, ⟨⟨@st31, ⟨@fa55_0, @ok53⟩⟩, ⟨⟨@ld53, @ln53⟩, ⟨@lm53, @ia53⟩⟩⟩⟩, ⟨⟨⟨@ok107, ⟨@ld107, @z107⟩⟩, ⟨⟨@st107, @fa107_2⟩, ⟨@ok42, @st42⟩⟩⟩, ⟨⟨⟨@ld42, @ln42⟩, ⟨@lm42, @ia42⟩⟩, ⟨⟨@ld31, @fa31_0⟩, ⟨@ok29, @ld29⟩⟩⟩⟩⟩, ⟨⟨⟨⟨@ex31, ⟨@ea31, @na31⟩⟩, ⟨⟨@fa107_1, @cv3_29⟩, ⟨@st29, @bs42_1_0⟩⟩⟩, ⟨⟨@ap42_42, ⟨@fa107_4, @ok4⟩⟩, ⟨⟨@ld4, @fa107_3⟩, ⟨@bs53_1_0, @ap53_53⟩⟩⟩⟩, ⟨⟨⟨@st53, ⟨@st55, @cf11⟩⟩, ⟨⟨@cf43, @z42⟩, ⟨@cf69, @z124⟩⟩⟩, ⟨⟨⟨@ok124, @st124⟩, ⟨@fa124_0, @cf81⟩⟩, ⟨⟨@cf71, @fa124_3⟩, ⟨@bc31_, @fa124_1⟩⟩⟩⟩⟩⟩, ⟨⟨⟨⟨⟨@fa124_2, ⟨@cf18, @cf49⟩⟩, ⟨⟨@cf50, @cf24⟩, ⟨@cf55, @cf56⟩⟩⟩, ⟨⟨@st4, ⟨@cf27, @fa107_0⟩⟩, ⟨⟨@cf32, @cf82⟩, ⟨@ld124, @z4⟩⟩⟩⟩, ⟨⟨⟨@ok128, ⟨@ld128, @cf72⟩⟩, ⟨⟨@cf73, @bc107_0_1⟩, ⟨@ms53, @ms42⟩⟩⟩, ⟨⟨⟨@bc55_0, @cf25⟩, ⟨@ok62, @ld62⟩⟩, ⟨⟨@z62, @cf52⟩, ⟨@st62, @cf53⟩⟩⟩⟩⟩, ⟨⟨⟨⟨@bc102_0_1, ⟨@cf54, @cf28⟩⟩, ⟨⟨@fa62_0, @ok60⟩, ⟨@ld60, @ln60⟩⟩⟩, ⟨⟨⟨@lm60, @ia60⟩, ⟨@ok102, @ld102⟩⟩, ⟨⟨@z102, @st102⟩, ⟨@fa102_2, @fa102_3⟩⟩⟩⟩, ⟨⟨⟨@fa102_0, ⟨@bc102_0_2_3, @cf34⟩⟩, ⟨⟨@cf65, @bs60_1_0⟩, ⟨@ap60_60, @fa102_1⟩⟩⟩, ⟨⟨⟨@bc62_0, @cf21⟩, ⟨@cf68, @cf44⟩⟩, ⟨⟨@bc124_0_1_2, @bc124_0_3⟩, ⟨@fa31_1, @cf74⟩⟩⟩⟩⟩⟩⟩
theorem V {a b : Prop} (x : a) (y : b) : a ∧ b := ⟨x, y⟩
theorem rN {p q r : Prop} (hq : q) (fs : r) (f : r → q → p:= by intro fs hq; (repeat' (first | ((with_reducible refine st1 ?_); (conv => whnf); (with_reducible refine ⟨?_⟩)) | ((with_reducible refine retW_intro rfl ?_); (conv => arg 2; whnf)) | ((with_reducible first | refine iB ?_ ?_ | refine gWt ?_ ?_ | refine gWf ?_ ?_) <;> intro hb <;> (try simp only [hb])) | (simp only [B, F, reduceLT, reduceLeDiff, reduceEqDiff, reduceAdd, reduceMul, reduceSub, ↓reduceIte, eq_self, fs]))); exact hq) : p := f fs hq
theorem rN0 {p q : Prop} (hq : q) (f : q → p:= by intro hq; (repeat' (first | ((with_reducible refine st1 ?_); (conv => whnf); (with_reducible refine ⟨?_⟩)) | ((with_reducible refine retW_intro rfl ?_); (conv => arg 2; whnf)) | ((with_reducible first | refine iB ?_ ?_ | refine gWt ?_ ?_ | refine gWf ?_ ?_) <;> intro hb <;> (try simp only [hb])) | (simp only [B, F, reduceLT, reduceLeDiff, reduceEqDiff, reduceAdd, reduceMul, reduceSub, ↓reduceIte, eq_self]))); exact hq) : p := f hq
theorem rT {p q r : Prop} (hq : q) (fs : r) (f : r → q → p:= by intro fs hq; (repeat' (first | ((with_reducible refine st1 ?_); (conv => whnf); (with_reducible refine ⟨?_⟩)) | ((with_reducible refine st_dw ?_ rfl rfl ?_ ?_); exact rfl; kernel_rfl; (conv => arg 5; whnf); (conv => arg 3; whnf)) | ((with_reducible refine retW_intro rfl ?_); (conv => arg 2; whnf)) | ((with_reducible first | refine iB ?_ ?_ | refine gWt ?_ ?_ | refine gWf ?_ ?_ | refine gXt ?_ ?_ | refine gXf ?_ ?_) <;> intro hb <;> (try simp only [hb])) | ((with_reducible show drawI _ _ _ _ _ _ _ _ _); first | ((with_reducible refine kI_rd ?_ ?_); exact rfl) | ((with_reducible apply kI_rg); exact rfl; exact rfl) | ((with_reducible refine kI_cv ?_ ?_ ?_); exact rfl; kernel_rfl) | ((with_reducible apply kI_al); exact rfl; exact rfl) | ((with_reducible refine kI_ex ?_ ?_ ?_ ?_ ?_); exact rfl; kernel_rfl; exact rfl) | ((with_reducible apply kI_eg); exact rfl; kernel_rfl; exact rfl) | ((with_reducible refine kI_nl ?_ ?_))) | ((with_reducible show eOk _ _ _ _ _ _); first | (exact eok_nil) | (refine ke_rd ?_ ?_ ?_; exact rfl) | (apply ke_rg; exact rfl; exact rfl) | (refine ke_cv ?_ ?_ ?_ ?_; exact rfl; kernel_rfl) | (apply ke_fl; exact rfl) | (apply ke_al; exact rfl; exact rfl)) | ((with_reducible refine freshIs_new ?_); kernel_rfl) | (simp only [B, xB, F, reduceLT, reduceLeDiff, reduceEqDiff, reduceAdd, reduceMul, reduceSub, ↓reduceIte, eq_self, fs]))); exact hq) : p := f fs hq
theorem rT0 {p q : Prop} (hq : q) (f : q → p:= by intro hq; (repeat' (first | ((with_reducible refine st1 ?_); (conv => whnf); (with_reducible refine ⟨?_⟩)) | ((with_reducible refine st_dw ?_ rfl rfl ?_ ?_); exact rfl; kernel_rfl; (conv => arg 5; whnf); (conv => arg 3; whnf)) | ((with_reducible refine retW_intro rfl ?_); (conv => arg 2; whnf)) | ((with_reducible first | refine iB ?_ ?_ | refine gWt ?_ ?_ | refine gWf ?_ ?_ | refine gXt ?_ ?_ | refine gXf ?_ ?_) <;> intro hb <;> (try simp only [hb])) | ((with_reducible show drawI _ _ _ _ _ _ _ _ _); first | ((with_reducible refine kI_rd ?_ ?_); exact rfl) | ((with_reducible apply kI_rg); exact rfl; exact rfl) | ((with_reducible refine kI_cv ?_ ?_ ?_); exact rfl; kernel_rfl) | ((with_reducible apply kI_al); exact rfl; exact rfl) | ((with_reducible refine kI_ex ?_ ?_ ?_ ?_ ?_); exact rfl; kernel_rfl; exact rfl) | ((with_reducible apply kI_eg); exact rfl; kernel_rfl; exact rfl) | ((with_reducible refine kI_nl ?_ ?_))) | ((with_reducible show eOk _ _ _ _ _ _); first | (exact eok_nil) | (refine ke_rd ?_ ?_ ?_; exact rfl) | (apply ke_rg; exact rfl; exact rfl) | (refine ke_cv ?_ ?_ ?_ ?_; exact rfl; kernel_rfl) | (apply ke_fl; exact rfl) | (apply ke_al; exact rfl; exact rfl)) | ((with_reducible refine freshIs_new ?_); kernel_rfl) | (simp only [B, xB, F, reduceLT, reduceLeDiff, reduceEqDiff, reduceAdd, reduceMul, reduceSub, ↓reduceIte, eq_self]))); exact hq) : p := f hq
theorem sT {p : Prop} (h : p:= by first | (simp only [B, xB, F, reduceLT, reduceLeDiff, reduceEqDiff, reduceAdd, reduceMul, reduceSub, ↓reduceIte, eq_self]; done) | (simp only [B, xB, F, reduceLT, reduceLeDiff, reduceEqDiff, reduceAdd, reduceMul, reduceSub, ↓reduceIte, eq_self]; with_reducible assumption)) : p := h
abbrev Rv := Nat × Nat
def n64 (n : Nat) : AV := .int .u64 (.ofNat n)
def M64 : Nat := 18446744073709551616
def rvC (r : Rv) : List AV := [.int .u64 (.ofNat r.1), .int .u64 (.ofNat r.2)]
def rvsC (l : List Rv) : List AV := l.flatMap rvC
def rvA (r : Rv) : AV := .agg (rvC r)
structure Gn where
 made : Nat
 first : Nat
 puts : List Rv
 en : Rv
 ended : Bool
def gC (x : Gn × AV) : List AV := [.int .u64 (.ofNat x.1.made), .int .u64 (.ofNat x.1.first), x.2, .int .u64 (.ofNat x.1.en.1), .int .u64 (.ofNat x.1.en.2), .bool x.1.ended]
structure Ch where
 rev : Rv
 made : Nat
 nth : Nat
 tomb : Bool
deriving DecidableEq
def chC (c : Ch) : List AV := [.int .u64 (.ofNat c.rev.1), .int .u64 (.ofNat c.rev.2), .int .u64 (.ofNat c.made), .int .u64 (.ofNat c.nth), .bool c.tomb]
def chA (c : Ch) : AV := .agg (chC c)
def putChs (made : Nat) : Nat → List Rv → List Ch
 | _, [] => []
 | n, r :: l => ⟨r, made, n % M64, false⟩ :: putChs made (n + 1) l
def endChs (g : Gn) : List Ch := if g.ended then [⟨g.en, 0, 0, true⟩] else []
def gChs (g : Gn) : List Ch := putChs g.made g.first g.puts ++ endChs g
def all (L : List Gn) : List Ch := L.flatMap gChs
def Has (h : H) (s : AV) (X : List (Gn × AV)) : Prop := SliceAt h s X.length (X.flatMap gC) ∧ ∀ x, x ∈ X → SliceAt h x.2 x.1.puts.length (rvsC x.1.puts)
def Nz (s : AV) (X : List (Gn × AV)) : Prop := (X = [] → s = .nilslice) ∧ ∀ Y x, X = Y ++ [x] → x.1.puts = [] → x.2 = .nilslice
def GensAt (h : H) (v : AV) (L : List Gn) : Prop := ∃ s X, v = .agg [s] ∧ X.map (·.1) = L ∧ Has h s X ∧ Nz s X
theorem putChs_len (made : Nat) : ∀ (n : Nat) (l : List Rv), (putChs made n l).length = l.length
 | _, [] => rfl
 | n, _ :: l => by simp [putChs, putChs_len made (n + 1) l]
theorem putChs_get (made : Nat) : ∀ (n : Nat) (l : List Rv) (i : Nat), (putChs made n l)[i]? = (l[i]?).map fun r => ⟨r, made, (n + i) % M64, false⟩
 | _, [], i => by simp [putChs]
 | n, r :: l, 0 => by simp [putChs]
 | n, r :: l, i + 1 => by simp [putChs, putChs_get made (n + 1) l i, Nat.add_assoc, Nat.add_comm 1 i]
theorem flat_get {α : Type} (f : α → List AV) (k : Nat) (hf : ∀ a, (f a).length = k) : ∀ (l : List α) (i j : Nat) (x : α), l[i]? = some x → j < k → (l.flatMap f)[i * k + j]? = (f x)[j]?
 | [], i, j, x, h, _ => by simp at h
 | a :: l, 0, j, x, h, hj => by
  simp at h; subst h
  simp only [List.flatMap_cons, Nat.zero_mul, Nat.zero_add]
  rw [List.getElem?_append_left (by rw [hf]; exact hj)]
 | a :: l, i + 1, j, x, h, hj => by
  simp only [List.flatMap_cons]
  rw [List.getElem?_append_right (by rw [hf, Nat.add_mul]; omega), hf, show (i + 1) * k + j - k = i * k + j by rw [Nat.add_mul]; omega]
  exact flat_get f k hf l i j x (by simpa using h) hj
theorem flat_len {α : Type} (f : α → List AV) (k : Nat) (hf : ∀ a, (f a).length = k) : ∀ (l : List α), (l.flatMap f).length = l.length * k
 | [] => by simp
 | a :: l => by rw [List.flatMap_cons, List.length_append, hf, flat_len f k hf l, List.length_cons, Nat.add_mul]; omega
theorem gC_len (x : Gn × AV) : (gC x).length = 6 := rfl
theorem rvC_len (x : Rv) : (rvC x).length = 2 := rfl
theorem sl_cell {h : H} {α : Type} {f : α → List AV} {k : Nat} (hf : ∀ a, (f a).length = k) {b o n : Nat} {cap : Cap} {l : List α} (hs : SliceAt h (.slice b o n cap) n (l.flatMap f)) {i j : Nat} {x : α} (hx : l[i]? = some x) (hj : j < k) :
  cellAt h b (o + i * k + j) = (f x)[j]? := by
 cases hs with
 | cell _ _ _ _ _ hb hc =>
  have hi : i < l.length := (List.getElem?_eq_some_iff.1 hx).1
  have : i * k + j < (l.flatMap f).length := by
   rw [flat_len f k hf]
   have : (i + 1) * k ≤ l.length * k := Nat.mul_le_mul_right _ hi
   rw [Nat.add_mul] at this; omega
  have := hc _ this
  rw [Nat.add_assoc, this, flat_get f k hf l i j x hx hj]
theorem gC_at {h : H} {b o n : Nat} {cap : Cap} {X : List (Gn × AV)} (hs : SliceAt h (.slice b o n cap) n (X.flatMap gC)) {i : Nat} {x : Gn × AV} (hx : X[i]? = some x) :
  cellAt h b (o + i * 6) = some (.int .u64 (.ofNat x.1.made)) ∧ cellAt h b (o + (i * 6 + 1)) = some (.int .u64 (.ofNat x.1.first)) ∧ cellAt h b (o + (i * 6 + 2)) = some x.2 ∧ cellAt h b (o + (i * 6 + 3)) = some (.int .u64 (.ofNat x.1.en.1)) ∧
  cellAt h b (o + (i * 6 + 4)) = some (.int .u64 (.ofNat x.1.en.2)) ∧ cellAt h b (o + (i * 6 + 5)) = some (.bool x.1.ended) := by
 have hc := fun j (hj : j < 6) => sl_cell gC_len hs hx hj
 simp only [Nat.add_assoc] at hc
 exact ⟨hc 0 (by omega), hc 1 (by omega), hc 2 (by omega), hc 3 (by omega), hc 4 (by omega), hc 5 (by omega)⟩
theorem rvC_at {h : H} {b o n : Nat} {cap : Cap} {l : List Rv} (hs : SliceAt h (.slice b o n cap) n (rvsC l)) {i : Nat} {x : Rv} (hx : l[i]? = some x) :
  cellAt h b (o + i * 2) = some (.int .u64 (.ofNat x.1)) ∧ cellAt h b (o + (i * 2 + 1)) = some (.int .u64 (.ofNat x.2)) := by
 have hc := fun j (hj : j < 2) => sl_cell rvC_len hs hx hj
 simp only [Nat.add_assoc] at hc
 exact ⟨hc 0 (by omega), hc 1 (by omega)⟩
theorem SliceAt.one {h : H} {v : AV} {n : Nat} {cs : List AV} (hs : SliceAt h v n cs) : v.one = true:= by cases hs <;> rfl
theorem SliceAt.cells {h : H} {v : AV} {n : Nat} {cs : List AV} (hs : SliceAt h v n cs) : v.cells = [v]:= by cases hs <;> rfl
theorem i64_nat {a : Nat} (hs : a < 9223372036854775808) : wrapF .i64 (Int.ofNat a) = Int.ofNat a := by
 have := i64_add (a := a) (b := 0) (by omega)
 rwa [Nat.add_zero, show Int.ofNat a + Int.ofNat 0 = Int.ofNat a from Int.add_zero _] at this
theorem u64_nat {a : Nat} (hs : a < 18446744073709551616) : wrapF .u64 (Int.ofNat a) = Int.ofNat a := by
 show ((a : Nat) : Int) % 18446744073709551616 = ((a : Nat) : Int)
 omega
theorem u64_mod (a b : Nat) : wrapF .u64 (Int.ofNat a + Int.ofNat b) = Int.ofNat ((a + b) % M64) := by
 show (((a : Nat) : Int) + ((b : Nat) : Int)) % 18446744073709551616 = (((a + b) % 18446744073709551616 : Nat) : Int)
 omega
def Sz (N : Nat) (L : List Gn) : Prop := L.length ≤ N ∧ ∀ g, g ∈ L → g.puts.length ≤ N
theorem Sz.le {N M : Nat} {L : List Gn} (h : Sz N L) (hm : N ≤ M) : Sz M L := ⟨Nat.le_trans h.1 hm, fun g hg => Nat.le_trans (h.2 g hg) hm⟩
theorem Has.only {h h' : H} {S : List Nat} {s : AV} {X : List (Gn × AV)} (hh : Has h s X) (ho : Only h h' S) (hs : ∀ b, blkOf s = some b → b ∉ S) (hp : ∀ x, x ∈ X → ∀ b, blkOf x.2 = some b → b ∉ S) : Has h' s X :=
 ⟨hh.1.only ho hs, fun x hx => (hh.2 x hx).only ho (hp x hx)⟩
theorem Has.keep {h h' : H} {s : AV} {X : List (Gn × AV)} (hh : Has h s X) (ho : Only h h' []) : Has h' s X := hh.only ho (fun _ _ => by simp) (fun _ _ _ _ => by simp)
theorem GensAt.keep {h h' : H} {v : AV} {L : List Gn} (hg : GensAt h v L) (ho : Only h h' []) : GensAt h' v L := by
 obtain ⟨s, X, rfl, rfl, hh, hn⟩ := hg; exact ⟨s, X, rfl, rfl, hh.keep ho, hn⟩
def above (a b : Rv) : Bool := decide (b.1 < a.1) || (decide (a.1 = b.1) && decide (b.2 < a.2))
def Says (h : H) (x : AV) (v : AV) (h' : H) : Prop := v = x ∧ Only h h' []
theorem aboveC (h : H) (a b : Rv) : PushC P (.enter 73 [rvA a, rvA b] h) (Says h (.bool (above a b))) := by
 obtain ⟨a1, a2⟩ := a
 obtain ⟨b1, b2⟩ := b
 unfold rvA rvC
 refine pushC_of_codeW (fn := Tryz.f73) (c := bodyC Tryz.f73) Tryz.func73 rfl ?_
 show codeW P 73 24 none _ _ _ _ _
 refine codeW_root ?_
 repeat' (first | ((with_reducible refine st1 ?_); (conv => whnf); (with_reducible refine ⟨?_⟩)) | ((with_reducible refine retW_intro rfl ?_); (conv => arg 2; whnf)) | ((with_reducible first | refine iB ?_ ?_ | refine gWt ?_ ?_ | refine gWf ?_ ?_) <;> intro hb <;> (try simp only [hb])) | (simp only [B, F, reduceLT, reduceLeDiff, reduceEqDiff, reduceAdd, reduceMul, reduceSub, ↓reduceIte, eq_self]))
 all_goals refine ⟨?_, ((Only.refl _ _).new _ _).new _ _⟩
 all_goals simp [above, *]
def opn (L : List Gn) : Bool :=
 match L.getLast? with
 | some g => !g.ended
 | none => false
theorem openC (h : H) (v : AV) (L : List Gn) (hg : GensAt h v L) (hz : Sz 1000 L) : PushC P (.enter 55 [v] h) (Says h (.bool (opn L))) := by
 obtain ⟨s, X, rfl, rfl, hh, -⟩ := hg
 have hlen := hh.1.len (P := P) u53
 have hone : s.one = true := SliceAt.one hh.1
 have hz := hz.1
 rw [List.length_map] at hz
 refine pushC_of_codeW (fn := Tryz.f55) (c := bodyC Tryz.f55) Tryz.func55 rfl ?_
 show codeW P 55 19 none _ _ _ _ _
 refine codeW_root ?_
 by_cases hX : 0 < X.length
 ·have d1 : decide (0 < X.length) = true := decide_eq_true hX
  obtain ⟨b, o, cap, rfl, hb, _⟩ := hh.1.place hX
  obtain ⟨x, hx⟩ : ∃ x, X[X.length - 1]? = some x := ⟨_, List.getElem?_eq_getElem (by omega)⟩
  have h5 := (gC_at hh.1 hx).2.2.2.2.2
  have e1 : wrapF .i64 (Int.ofNat X.length - Int.ofNat 1) = Int.ofNat (X.length - 1) := i64_sub (by omega) (by omega)
  have lt1 : (X.length - 1 < X.length) = True:= by simp; omega
  have hbn : (b = h.nx) = False:= by simp; omega
  refine rN ?_ (V hlen<|V hone<|V d1<|V e1<|V lt1<|V hbn<|h5)
  refine ⟨?_, ((Only.refl _ _).new _ _)⟩
  unfold opn
  rw [List.getLast?_map, List.getLast?_eq_getElem?, hx]
  rfl
 ·have hX0 : X = [] := List.length_eq_zero_iff.1 (by omega)
  subst hX0
  have d1 : decide (0 < ([] : List (Gn × AV)).length) = false := rfl
  refine rN ?_ (V hlen<|V hone<|d1)
  exact ⟨rfl, ((Only.refl _ _).new _ _)⟩
def allV (b : Nat) : AV := .func 82 [] [.ptr b 0]
def PostAll (h : H) (s : AV) (v : AV) (h' : H) : Prop := ∃ b, v = allV b ∧ h' = h.newCells 55 [s] ∧ b = h.nx
theorem allC (h : H) (s : AV) (hs : s.one = true) : PushC P (.enter 69 [.agg [s]] h) (PostAll h s) := by
 refine pushC_of_codeW (fn := Tryz.f69) (c := bodyC Tryz.f69) Tryz.func69 rfl ?_
 show codeW P 69 4 none _ _ _ _ _
 refine codeW_root ?_
 refine rN ?_ (hs)
 exact ⟨_, rfl, rfl, rfl⟩
def isAll : AV := .func 72 [] []
theorem isAllC (h : H) (c : Ch) : PushC P (.enter 72 [chA c] h) (Says h (.bool true)) := by
 unfold chA chC
 refine pushC_of_codeW (fn := Tryz.f72) (c := bodyC Tryz.f72) Tryz.func72 rfl ?_
 show codeW P 72 3 none _ _ _ _ _
 refine codeW_root ?_
 refine rN0 ?_
 exact ⟨rfl, (Only.refl _ _).new _ _⟩
theorem isAtC (h : H) (c : Ch) (b m : Nat) (hb : b < h.nx) (hm : cellAt h b 0 = some (.int .u64 (.ofNat m))) : PushC P (.enter 81 [chA c, .ptr b 0] h) (Says h (.bool (decide (c.rev.1 ≤ m)))) := by
 unfold chA chC
 have hbn : (b = h.nx) = False:= by simp; omega
 refine pushC_of_codeW (fn := Tryz.f81) (c := bodyC Tryz.f81) Tryz.func81 rfl ?_
 show codeW P 81 9 none _ _ _ _ _
 refine codeW_root ?_
 refine rN ?_ (V hm<|hbn)
 exact ⟨rfl, (Only.refl _ _).new _ _⟩
end
end Go.Proofs.YtlkngpckibidlaaGreat.W

namespace Go.Proofs.YtlkngpckibidlaaGreat.W
open Go Go.AX
noncomputable section
set_option maxRecDepth 100000
def gs (X : List (Gn × AV)) : List Gn := X.map (·.1)
theorem all_part {X : List (Gn × AV)} {i : Nat} {x : Gn × AV} (hx : X[i]? = some x) : ∃ R, all (gs X) = all (gs (X.take i)) ++ (gChs x.1 ++ R) := by
 have hi : i < X.length := (List.getElem?_eq_some_iff.1 hx).1
 have hxe : X[i] = x := (List.getElem?_eq_some_iff.1 hx).2
 refine ⟨all (gs (X.drop (i + 1))), ?_⟩
 have e : X = X.take i ++ x :: X.drop (i + 1) := by
  rw [← hxe, ← List.drop_eq_getElem_cons hi, List.take_append_drop]
 conv => lhs; rw [e]
 simp [gs, all]
theorem all_put {X : List (Gn × AV)} {i j : Nat} {x : Gn × AV} {r : Rv} (hx : X[i]? = some x) (hr : x.1.puts[j]? = some r) : (all (gs X))[(all (gs (X.take i))).length + j]? = some ⟨r, x.1.made, (x.1.first + j) % M64, false⟩ := by
 obtain ⟨R, e⟩ := all_part hx
 have hj : j < x.1.puts.length := (List.getElem?_eq_some_iff.1 hr).1
 rw [e, List.getElem?_append_right (by omega), show (all (gs (X.take i))).length + j - (all (gs (X.take i))).length = j by omega]
 unfold gChs
 rw [List.append_assoc, List.getElem?_append_left (by rw [putChs_len]; exact hj), putChs_get, hr]
 rfl
theorem all_end {X : List (Gn × AV)} {i : Nat} {x : Gn × AV} (hx : X[i]? = some x) (he : x.1.ended = true) : (all (gs X))[(all (gs (X.take i))).length + x.1.puts.length]? = some ⟨x.1.en, 0, 0, true⟩ := by
 obtain ⟨R, e⟩ := all_part hx
 rw [e, List.getElem?_append_right (by omega), show (all (gs (X.take i))).length + x.1.puts.length - (all (gs (X.take i))).length = x.1.puts.length by omega]
 unfold gChs endChs
 rw [he, if_pos rfl, List.append_assoc, List.getElem?_append_right (by rw [putChs_len]; exact Nat.le_refl _), putChs_len, Nat.sub_self]
 rfl
theorem all_take {X : List (Gn × AV)} {i : Nat} {x : Gn × AV} (hx : X[i]? = some x) : (all (gs (X.take (i + 1)))).length = (all (gs (X.take i))).length + x.1.puts.length + (if x.1.ended then 1 else 0) := by
 rw [List.take_add_one, hx]
 simp only [gs, List.map_append, Option.toList_some, List.map_cons, List.map_nil, all, List.flatMap_append, List.flatMap_cons, List.flatMap_nil, List.append_nil, List.length_append, gChs, putChs_len, endChs]
 split <;> simp <;> omega
def OnlyM (h h' : H) (S : List Nat) (mv : Option Nat) : Prop := h.nx ≤ h'.nx ∧ ∀ b, b < h.nx → b ∉ S → mv ≠ some b → h'.t.get b = h.t.get b
theorem Only.m {h h' : H} {S : List Nat} (ho : Only h h' S) (mv : Option Nat) : OnlyM h h' S mv := ⟨ho.1, fun b hb hs _ => ho.2 b hb hs⟩
theorem OnlyM.from {h0 h h' : H} {S : List Nat} {mv : Option Nat} (ho : Only h0 h S) (hm : OnlyM h h' S mv) (hmv : ∀ b, mv = some b → h0.nx ≤ b) : Only h0 h' S :=
 ⟨Nat.le_trans ho.1 hm.1, fun b hb hs => by rw [hm.2 b (Nat.lt_of_lt_of_le hb ho.1) hs (fun q => by have := hmv b q; omega)]; exact ho.2 b hb hs⟩
structure AI (h0 : H) (l : Nat) (s : AV) (X : List (Gn × AV)) (S : List Nat) (J : Nat → Option Nat → H → Prop) (n : Nat) (ds : List Nat) (tm : T AV) (h : H) (mv : Option Nat) (i : Nat) : Prop where
 ds : ds = []
 nn : n = X.length - i
 ii : i ≤ X.length
 t0 : tm.get 0 = some (.yield l)
 t8 : tm.get 8 = some s
 t9 : tm.get 9 = some (.int .i64 (.ofNat X.length))
 t10 : tm.get 10 = some (.int .i64 (.ofNat i))
 jj : J (all (gs (X.take i))).length mv h
 mm : ∀ b, mv = some b → h0.nx ≤ b
 oo : Only h0 h S
structure BI (h0 : H) (l : Nat) (s : AV) (X : List (Gn × AV)) (S : List Nat) (J : Nat → Option Nat → H → Prop) (i : Nat) (x : Gn × AV) (b4 : Nat) (n : Nat) (ds : List Nat) (tm : T AV) (h : H) (mv : Option Nat) (j : Nat) : Prop where
 ds : ds = []
 nn : n = x.1.puts.length - j
 jl : j ≤ x.1.puts.length
 t0 : tm.get 0 = some (.yield l)
 t8 : tm.get 8 = some s
 t9 : tm.get 9 = some (.int .i64 (.ofNat X.length))
 t10 : tm.get 10 = some (.int .i64 (.ofNat i))
 t4 : tm.get 4 = some (.ptr b4 0)
 t15 : tm.get 15 = some x.2
 t16 : tm.get 16 = some (.int .i64 (.ofNat x.1.puts.length))
 t17 : tm.get 17 = some (.int .i64 (.ofNat j))
 jj : J ((all (gs (X.take i))).length + j) mv h
 mm : ∀ b, mv = some b → h0.nx ≤ b
 nb : mv ≠ some b4
 oo : Only h0 h S
 bb : h0.nx ≤ b4 ∧ b4 < h.nx
 c0 : cellAt h b4 0 = some (.int .u64 (.ofNat x.1.made))
 c1 : cellAt h b4 1 = some (.int .u64 (.ofNat x.1.first))
 c3 : cellAt h b4 3 = some (.int .u64 (.ofNat x.1.en.1))
 c4 : cellAt h b4 4 = some (.int .u64 (.ofNat x.1.en.2))
 c5 : cellAt h b4 5 = some (.bool x.1.ended)
theorem allRun (h0 : H) (l b : Nat) (s : AV) (X : List (Gn × AV)) (S : List Nat) (J : Nat → Option Nat → H → Prop) (hz : Sz 1000 (gs X)) (hS : ∀ c, c ∈ S → c < h0.nx)
  (hJs : ∀ k mv h h', J k mv h → Only h h' [] → J k mv h') (hJm : ∀ k mv h, J k mv h → ∀ b, mv = some b → b < h.nx) (hJX : ∀ k mv h, J k mv h → cellAt h b 0 = some s ∧ Has h s X)
  (hJr : ∀ k mv h c, J k mv h → Only h0 h S → (all (gs X))[k]? = some c → PushC P (.round l [chA c] h) fun v h' => v = .bool true ∧ ∃ mv', J (k + 1) mv' h' ∧ OnlyM h h' S mv ∧ (mv' = mv ∨ ∃ b, mv' = some b ∧ h.nx ≤ b)) (h0J : J 0 none h0) :
  PushC P (.enter 82 [.yield l, .ptr b 0] h0) fun _ h' => ∃ mv, J (all (gs X)).length mv h' ∧ Only h0 h' S ∧ ∀ b, mv = some b → h0.nx ≤ b := by
 have hx0 := hJX 0 _ h0 h0J
 have hlen := hx0.2.1.len (P := P) u53
 have hc := hx0.1
 have hz1 : X.length ≤ 1000:= by have := hz.1; simpa [gs] using this
 refine pushC_of_codeW (fn := Tryz.f82) (c := bodyC Tryz.f82) Tryz.func82 rfl ?_
 show codeW P 82 46 none _ _ _ _ _
 refine codeW_root ?_
 refine rN ?_ (V hc<|hlen)
 refine st_loop (fun n ds tm h => ∃ mv i, AI h0 l s X S J n ds tm h mv i) X.length rfl ⟨none, 0, rfl, rfl, Nat.zero_le _, by exact sT, by exact sT, by exact sT, by exact sT, h0J, (fun _ q => by cases q), Only.refl _ _⟩ (fun n ds tm h hI => ?_)
 obtain ⟨mv, i, rfl, rfl, ii, t0, t8, t9, t10, jj, mm, oo⟩ := hI
 by_cases hi : i < X.length
 ·have d1 : decide (i < X.length) = true := decide_eq_true hi
  have lt1 : (i < X.length) = True:= by simp [hi]
  obtain ⟨x, hx⟩ : ∃ x, X[i]? = some x := ⟨_, List.getElem?_eq_getElem hi⟩
  have hxm : x ∈ X := List.mem_of_getElem? hx
  have hh := (hJX _ _ _ jj).2
  obtain ⟨bs, os, cap, rfl, hbs, _⟩ := hh.1.place (by omega)
  obtain ⟨g0, g1, g2, g3, g4, g5⟩ := gC_at hh.1 hx
  have hxl := (hh.2 x hxm).len (P := P) u42
  have hone := SliceAt.one (hh.2 x hxm)
  refine rN ?_ (V t0<|V t8<|V t9<|V t10<|V d1<|V lt1<|V g0<|V g1<|V g2<|V g3<|V g4<|V g5<|V hone<|hxl)
  have hxz : x.1.puts.length ≤ 1000 := hz.2 x.1 (List.mem_map.2 ⟨x, hxm, rfl⟩)
  have oo1 : Only h ((h.newCells 107 [.int .u64 (.ofNat 0), .int .u64 (.ofNat 0), .nilslice, .int .u64 (.ofNat 0), .int .u64 (.ofNat 0), .bool false]).sts h.nx 0 (gC x)) [] := ((Only.refl _ _).new _ _).sts (.inr (Nat.le_refl _))
  refine st_loop (fun n ds tm h' => ∃ mv j, BI h0 l (.slice bs os X.length cap) X S J i x h.nx n ds tm h' mv j) x.1.puts.length rfl ⟨mv, 0, rfl, rfl, Nat.zero_le _, by exact sT, by exact sT, by exact sT, by exact sT, by exact sT, by exact sT, by exact sT, by exact sT, hJs _ _ _ _ jj oo1, mm, (fun q => by have := hJm _ _ _ jj _ q; omega), oo.trans oo1 (fun _ h => h) (fun _ h => by cases h),
   ⟨oo.1, by rw [nx_sts, nx_new]; exact Nat.lt_succ_self _⟩, by exact sT, by exact sT, by exact sT, by exact sT, by exact sT⟩ (fun n ds tm h1 hI => ?_)
  clear t0 t8 t9 t10
  clear mm
  obtain ⟨mv1, j, rfl, rfl, jl, t0, t8, t9, t10, t4, t15, t16, t17, jj1, mm, nb, oo2, bb, c0, c1, c3, c4, c5⟩ := hI
  by_cases hj : j < x.1.puts.length
  ·have d2 : decide (j < x.1.puts.length) = true := decide_eq_true hj
   have lt2 : (j < x.1.puts.length) = True:= by simp [hj]
   obtain ⟨r, hr⟩ : ∃ r, x.1.puts[j]? = some r := ⟨_, List.getElem?_eq_getElem hj⟩
   have hh1 := (hJX _ _ _ jj1).2
   obtain ⟨bp, op, cap2, hx2, hbp, _⟩ := (hh1.2 x hxm).place (by omega)
   have hsl := hh1.2 x hxm
   rw [hx2] at hsl t15
   obtain ⟨r0, r1⟩ := rvC_at hsl hr
   have bn : (h.nx = h1.nx) = False:= by simp; omega
   have w1 : wrapF .u64 (Int.ofNat j) = Int.ofNat j := u64_nat (by omega)
   have w2 : wrapF .i64 (Int.ofNat j + Int.ofNat 1) = Int.ofNat (j + 1) := i64_add (by omega)
   refine rN ?_ (V t0<|V t4<|V t15<|V t16<|V t17<|V d2<|V lt2<|V r0<|V r1<|V bn<|V c0<|V c1<|V w1<|@u64_mod)
   have oo3 : Only h1 ((h1.newCells 31 [.int .u64 (.ofNat 0), .int .u64 (.ofNat 0)]).sts h1.nx 0 [.int .u64 (.ofNat r.1), .int .u64 (.ofNat r.2)]) [] := ((Only.refl _ _).new _ _).sts (.inr (Nat.le_refl _))
   refine ((hJr _ _ _ ⟨r, x.1.made, (x.1.first + j) % M64, false⟩ (hJs _ _ _ _ jj1 oo3) (oo2.trans oo3 (fun _ h => h) (fun _ h => by cases h)) (all_put hx hr)).call P).mono P ?_
   rintro v h2 ⟨rfl, mv2, jj2, oo4, hm2⟩
   have x3 := oo3.1
   have ho : OnlyM h1 h2 S mv1 := ⟨Nat.le_trans oo3.1 oo4.1, fun b hb hs hm => by rw [oo4.2 b (by omega) hs hm, oo3.2 b hb (by simp)]⟩
   have mm2 : ∀ b, mv2 = some b → h0.nx ≤ b := by
    rcases hm2 with rfl | ⟨c, rfl, hc⟩
    ·exact mm
    ·intro b q; cases q; omega
   have nb2 : mv2 ≠ some h.nx := by
    rcases hm2 with rfl | ⟨c, rfl, hc⟩
    ·exact nb
    ·intro q; cases q; omega
   have hb4 : h.nx ∉ S := fun q => by have := hS _ q; omega
   have hc := cellAt_of_get (ho.2 _ bb.2 hb4 nb)
   refine rN ?_ (V t17<|w2)
   refine ⟨x.1.puts.length - (j + 1), by omega, mv2, j + 1, rfl, rfl, by omega, by exact sT, by exact sT, by exact sT, by exact sT, by exact sT, by simp only [B, F, reduceLT, reduceLeDiff, reduceEqDiff, reduceAdd, reduceMul, reduceSub, ↓reduceIte, eq_self, t15, hx2], by exact sT, by exact sT, by rw [← Nat.add_assoc]; exact jj2, mm2, nb2, OnlyM.from oo2 ho mm, ⟨bb.1, Nat.lt_of_lt_of_le bb.2 ho.1⟩,
    by rw [hc]; exact c0, by rw [hc]; exact c1, by rw [hc]; exact c3, by rw [hc]; exact c4, by rw [hc]; exact c5⟩
  ·have d2 : decide (j < x.1.puts.length) = false := decide_eq_false hj
   have hje : j = x.1.puts.length:= by omega
   subst hje
   have w2 : wrapF .i64 (Int.ofNat i + Int.ofNat 1) = Int.ofNat (i + 1) := i64_add (by omega)
   have hat := all_take hx
   cases hend : x.1.ended with
   | true =>
    rw [hend] at c5 hat
    rw [if_pos rfl] at hat
    refine rN ?_ (V t0<|V t4<|V t16<|V t17<|V t10<|V d2<|V c3<|V c4<|V c5<|w2)
    refine ((hJr _ _ _ ⟨x.1.en, 0, 0, true⟩ jj1 oo2 (all_end hx hend)).call P).mono P ?_
    rintro v h2 ⟨rfl, mv2, jj2, oo4, hm2⟩
    have mm2 : ∀ b, mv2 = some b → h0.nx ≤ b := by
     have x2 := oo2.1
     rcases hm2 with rfl | ⟨c, rfl, hc⟩
     ·exact mm
     ·intro b q; cases q; omega
    refine rN ?_ (V t10<|w2)
    refine ⟨X.length - (i + 1), by omega, mv2, i + 1, rfl, rfl, by omega, by exact sT, by exact sT, by exact sT, by exact sT, by rw [hat]; exact jj2, mm2, OnlyM.from oo2 oo4 mm⟩
   | false =>
    rw [hend] at c5 hat
    rw [if_neg (by simp)] at hat
    refine rN ?_ (V t0<|V t4<|V t16<|V t17<|V t10<|V d2<|V c3<|V c4<|V c5<|w2)
    refine ⟨X.length - (i + 1), by omega, mv1, i + 1, rfl, rfl, by omega, by exact sT, by exact sT, by exact sT, by exact sT, by rw [hat, Nat.add_zero]; exact jj1, mm, oo2⟩
 ·have d1 : decide (i < X.length) = false := decide_eq_false hi
  have hie : i = X.length:= by omega
  subst hie
  refine rN ?_ (V t9<|V t10<|d1)
  rw [List.take_length] at jj
  rw [retK_norm]
  exact ⟨_, rfl, _, rfl, mv, jj, oo, mm⟩
end
end Go.Proofs.YtlkngpckibidlaaGreat.W

namespace Go.Proofs.YtlkngpckibidlaaGreat.W
open Go Go.AX
noncomputable section
set_option maxRecDepth 100000
def ch0 : Ch := ⟨(0, 0), 0, 0, false⟩
def lst (p : Ch → Bool) (l : List Ch) : Option Ch := (l.filter p).getLast?
def lstC (p : Ch → Bool) (l : List Ch) : Ch := (lst p l).getD ch0
def lstB (p : Ch → Bool) (l : List Ch) : Bool := (lst p l).isSome
theorem lst_take {p : Ch → Bool} {l : List Ch} {k : Nat} {c : Ch} (hc : l[k]? = some c) : lst p (l.take (k + 1)) = if p c then some c else lst p (l.take k) := by
 unfold lst
 rw [List.take_add_one, hc, List.filter_append]
 by_cases q : p c = true
 ·simp [q]
 ·simp [q]
def IsFn (h0 : H) (v : AV) (p : Ch → Bool) : Prop := ∀ (h : H) (c : Ch), Only h0 h [] → ∃ f args, (∀ h', callV P v [chA c] h' = .enter f args h') ∧ PushC P (.enter f args h) (Says h (.bool (p c)))
structure LJ (h0 : H) (s : AV) (X : List (Gn × AV)) (isV : AV) (p : Ch → Bool) (r : ALoop) (k : Nat) (h : H) : Prop where
 nx : h0.nx + 7 ≤ h.nx
 old : ∀ b, b < h0.nx → h.t.get b = h0.t.get b
 hl : h.t.get (h0.nx + 6) = some (.loop r)
 hd : h.t.get (h0.nx + 5) = some (.deferred (some []))
 c1 : cellAt h (h0.nx + 1) 0 = some isV
 c4 : cellAt h (h0.nx + 4) 0 = some s
 w2 : wrAt h (h0.nx + 2) = true
 w3 : wrAt h (h0.nx + 3) = true
 a0 : cellAt h (h0.nx + 2) 0 = some (.int .u64 (.ofNat (lstC p ((all (gs X)).take k)).rev.1))
 a1 : cellAt h (h0.nx + 2) 1 = some (.int .u64 (.ofNat (lstC p ((all (gs X)).take k)).rev.2))
 a2 : cellAt h (h0.nx + 2) 2 = some (.int .u64 (.ofNat (lstC p ((all (gs X)).take k)).made))
 a3 : cellAt h (h0.nx + 2) 3 = some (.int .u64 (.ofNat (lstC p ((all (gs X)).take k)).nth))
 a4 : cellAt h (h0.nx + 2) 4 = some (.bool (lstC p ((all (gs X)).take k)).tomb)
 b0 : cellAt h (h0.nx + 3) 0 = some (.bool (lstB p ((all (gs X)).take k)))
 tm : r.tm.get 2 = some (.ptr h0.nx 0) ∧ r.tm.get 3 = some (.ptr (h0.nx + 1) 0) ∧ r.tm.get 4 = some (.ptr (h0.nx + 2) 0) ∧ r.tm.get 5 = some (.ptr (h0.nx + 3) 0)
theorem LJ.keep {h0 : H} {s : AV} {X : List (Gn × AV)} {isV : AV} {p : Ch → Bool} {r : ALoop} {k : Nat} {h h' : H} (hj : LJ h0 s X isV p r k h) (ho : Only h h' []) : LJ h0 s X isV p r k h' := by
 obtain ⟨nx, old, hl, hd, c1, c4, w2, w3, a0, a1, a2, a3, a4, b0, tm⟩ := hj
 have e := fun b (hb : b < h.nx) => ho.2 b hb (by simp)
 have ec := fun b (hb : b < h.nx) => cellAt_of_get (e b hb)
 have ew := fun b (hb : b < h.nx) => wrAt_of_get (e b hb)
 refine ⟨Nat.le_trans nx ho.1, fun b hb => by rw [e b (by omega), old b hb], by rw [e _ (by omega)]; exact hl, by rw [e _ (by omega)]; exact hd, by rw [ec _ (by omega)]; exact c1, by rw [ec _ (by omega)]; exact c4, by rw [ew _ (by omega)]; exact w2, by rw [ew _ (by omega)]; exact w3,
  by rw [ec _ (by omega)]; exact a0, by rw [ec _ (by omega)]; exact a1, by rw [ec _ (by omega)]; exact a2, by rw [ec _ (by omega)]; exact a3, by rw [ec _ (by omega)]; exact a4, by rw [ec _ (by omega)]; exact b0, tm⟩
theorem LJ.o {h0 : H} {s : AV} {X : List (Gn × AV)} {isV : AV} {p : Ch → Bool} {r : ALoop} {k : Nat} {h : H} (hj : LJ h0 s X isV p r k h) : Only h0 h [] := ⟨by have := hj.nx; omega, fun b hb _ => hj.old b hb⟩
def bodyP : List Nat := [0, 1, 0, 1]
noncomputable abbrev lastR (h0 : H) (tm : T AV) : ALoop := loopR 71 16 tm [9] (codeI (bodyC Tryz.f71) (0 :: bodyP)) (codeI (bodyC Tryz.f71) (1 :: bodyP)) (h0.nx + 5) .ready
theorem lastRound (h0 : H) (s : AV) (X : List (Gn × AV)) (isV : AV) (p : Ch → Bool) (tm : T AV) (his : IsFn h0 isV p) (hcl : isV.cells = [isV]) (k : Nat) (h : H) (c : Ch) (hj : LJ h0 s X isV p (lastR h0 tm) k h) (hc : (all (gs X))[k]? = some c) :
  PushC P (.round (h0.nx + 6) [chA c] h) fun v h' => v = .bool true ∧ ∃ mv' : Option Nat, (mv' = none ∧ LJ h0 s X isV p (lastR h0 tm) (k + 1) h') ∧ OnlyM h h' [h0.nx + 2, h0.nx + 3, h0.nx + 6] none ∧ (mv' = none ∨ ∃ b, mv' = some b ∧ h.nx ≤ b) := by
 have hj0 := hj
 obtain ⟨nx, old, hl, hd, c1, c4, w2, w3, a0, a1, a2, a3, a4, b0, q2, q3, q4, q5⟩ := hj
 have hl6 : (h.nx = h0.nx + 6) = False:= by simp; omega
 refine round_walk (tm := tm.set 9 (some (chA c))) hl rfl ?_
 show codeW P 71 16 (some (h0.nx + 6)) (codeI (bodyC Tryz.f71) (0 :: bodyP)) _ _ _ _
 unfold chA chC
 unfold bodyP
 have q2 : tm.get 2 = some (.ptr h0.nx 0) := q2
 have q3 : tm.get 3 = some (.ptr (h0.nx + 1) 0) := q3
 have q4 : tm.get 4 = some (.ptr (h0.nx + 2) 0) := q4
 have q5 : tm.get 5 = some (.ptr (h0.nx + 3) 0) := q5
 refine rT0 ?_
 refine asg_norm (by rw [get_sts _ _ _ _ (by omega), get_new _ _ _ (by omega)]; exact hl) rfl ?_
 show codeW P 71 16 (some (h0.nx + 6)) (codeI (bodyC Tryz.f71) [1, 0, 1, 0, 1]) _ _ _ _
 obtain ⟨h1, e1⟩ : ∃ h1, h1 = ((h.newCells 124 [.int .u64 (.ofNat 0), .int .u64 (.ofNat 0), .int .u64 (.ofNat 0), .int .u64 (.ofNat 0), .bool false]).sts h.nx 0 (chC c)).obj (h0.nx + 6) (.loop { lastR h0 tm with state := .busy }) := ⟨_, rfl⟩
 have ho1 : Only h h1 [h0.nx + 2, h0.nx + 3, h0.nx + 6]:= by rw [e1]; exact (((Only.refl _ _).new _ _).sts (.inr (Nat.le_refl _))).obj (.inl (by simp)) _
 have hl1 : h1.t.get (h0.nx + 6) = some (.loop { lastR h0 tm with state := .busy }):= by rw [e1]; exact get_obj_self _ _
 have d : ∀ i, cellAt h1 h.nx i = (chC c)[i]? := fun i => by
  rw [e1, cellAt_obj (by omega), cellAt_sts (by rw [wrAt_new, if_pos rfl])]
  rcases Nat.lt_or_ge i 5 with hi | hi
  ·rw [if_pos ⟨rfl, by omega, by simp [chC]; omega⟩, Nat.sub_zero]
  ·rw [if_neg (by simp [chC]; omega), cellAt_new, if_pos rfl, List.getElem?_eq_none (by simp; omega), List.getElem?_eq_none (by simp [chC]; omega)]
 have hx1 : h1.nx = h.nx + 1:= by rw [e1, nx_obj, nx_sts, nx_new]
 have hw6 : h.nx ∉ [h0.nx + 2, h0.nx + 3, h0.nx + 6]:= by simp; omega
 have hget1 : ∀ b, b < h.nx → b ≠ h0.nx + 6 → h1.t.get b = h.t.get b := fun b hb hne => by rw [e1, get_obj_ne hne, get_sts _ _ _ _ (by omega), get_new _ _ _ (by omega)]
 have hc1 : cellAt h1 (h0.nx + 1) 0 = some isV:= by rw [cellAt_of_get (hget1 _ (by omega) (by omega))]; exact c1
 have d0 := d 0
 have d1 := d 1
 have d2 := d 2
 have d3 := d 3
 have d4 := d 4
 have hb1 : ∀ l, (some ((h.newCells 124 [.int .u64 (.ofNat 0), .int .u64 (.ofNat 0), .int .u64 (.ofNat 0), .int .u64 (.ofNat 0), .bool false]).sts h.nx 0 l) : Option H) = some ((h.newCells 124 [.int .u64 (.ofNat 0), .int .u64 (.ofNat 0), .int .u64 (.ofNat 0), .int .u64 (.ofNat 0), .bool false]).sts h.nx 0 l) := fun _ => rfl
 unfold chC at d0 d1 d2 d3 d4 e1
 rw [← e1]
 obtain ⟨f, args, hcv, hp⟩ := his h1 c ⟨by omega, fun b hb _ => by rw [hget1 b (by omega) (by omega)]; exact old b hb⟩
 unfold chA chC at hcv
 simp only [List.getElem?_cons_zero, List.getElem?_cons_succ] at d0 d1 d2 d3 d4
 refine rT ?_ (V q3<|V hc1<|V hcl<|V hcv<|V d0<|V d1<|V d2<|V d3<|d4)
 refine (hp.call P).mono P ?_
 rintro v h2 ⟨rfl, ho2⟩
 have q := fun b (hb : b < h.nx) (hne : b ≠ h0.nx + 6) => (ho2.2 b (by omega) (by simp)).trans (hget1 b hb hne)
 have qc := fun b (hb : b < h.nx) (hne : b ≠ h0.nx + 6) => cellAt_of_get (q b hb hne)
 have qw := fun b (hb : b < h.nx) (hne : b ≠ h0.nx + 6) => wrAt_of_get (q b hb hne)
 have d' : ∀ i, cellAt h2 h.nx i = cellAt h1 h.nx i := cellAt_of_get (ho2.2 _ (by omega) (by simp))
 have hl2 : h2.t.get (h0.nx + 6) = some (.loop { lastR h0 tm with state := .busy }):= by rw [ho2.2 _ (by omega) (by simp)]; exact hl1
 have hx2 := ho2.1
 have lt := lst_take (p := p) hc
 have only12 : Only h h2 [h0.nx + 2, h0.nx + 3, h0.nx + 6] := ho1.trans ho2 (fun _ h => h) (fun _ h => by cases h)
 cases hpc : p c with
 | true =>
  rw [hpc, if_pos rfl] at lt
  have e1 : lstC p ((all (gs X)).take (k + 1)) = c:= by unfold lstC; rw [lt]; rfl
  have e2 : lstB p ((all (gs X)).take (k + 1)) = true:= by unfold lstB; rw [lt]; rfl
  have w2' : wrAt h2 (h0.nx + 2) = true:= by rw [qw _ (by omega) (by omega)]; exact w2
  have w3' : wrAt h2 (h0.nx + 3) = true:= by rw [qw _ (by omega) (by omega)]; exact w3
  have k0 : cellAt h2 (h0.nx + 2) 0 = some (.int .u64 (.ofNat (lstC p ((all (gs X)).take k)).rev.1)):= by rw [qc _ (by omega) (by omega)]; exact a0
  have k1 : cellAt h2 (h0.nx + 2) 1 = some (.int .u64 (.ofNat (lstC p ((all (gs X)).take k)).rev.2)):= by rw [qc _ (by omega) (by omega)]; exact a1
  have k2 : cellAt h2 (h0.nx + 2) 2 = some (.int .u64 (.ofNat (lstC p ((all (gs X)).take k)).made)):= by rw [qc _ (by omega) (by omega)]; exact a2
  have k3 : cellAt h2 (h0.nx + 2) 3 = some (.int .u64 (.ofNat (lstC p ((all (gs X)).take k)).nth)):= by rw [qc _ (by omega) (by omega)]; exact a3
  have k4 : cellAt h2 (h0.nx + 2) 4 = some (.bool (lstC p ((all (gs X)).take k)).tomb):= by rw [qc _ (by omega) (by omega)]; exact a4
  have k5 : cellAt h2 (h0.nx + 3) 0 = some (.bool (lstB p ((all (gs X)).take k))):= by rw [qc _ (by omega) (by omega)]; exact b0
  repeat' (first | ((with_reducible refine st1 ?_); (conv => whnf); (with_reducible refine ⟨?_⟩)) | ((with_reducible refine st_dw ?_ rfl rfl ?_ ?_); exact rfl; kernel_rfl; (conv => arg 5; whnf); (conv => arg 3; whnf)) | ((with_reducible refine retW_intro rfl ?_); (conv => arg 2; whnf)) | ((with_reducible first | refine iB ?_ ?_ | refine gWt ?_ ?_ | refine gWf ?_ ?_ | refine gXt ?_ ?_ | refine gXf ?_ ?_) <;> intro hb <;> (try simp only [hb])) | ((with_reducible show drawI _ _ _ _ _ _ _ _ _); first | ((with_reducible refine kI_rd ?_ ?_); exact rfl) | ((with_reducible apply kI_rg); exact rfl; exact rfl) | ((with_reducible refine kI_cv ?_ ?_ ?_); exact rfl; kernel_rfl) | ((with_reducible apply kI_al); exact rfl; exact rfl) | ((with_reducible refine kI_ex ?_ ?_ ?_ ?_ ?_); exact rfl; kernel_rfl; exact rfl) | ((with_reducible apply kI_eg); exact rfl; kernel_rfl; exact rfl) | ((with_reducible refine kI_nl ?_ ?_))) | ((with_reducible show eOk _ _ _ _ _ _); first | (exact eok_nil) | (refine ke_rd ?_ ?_ ?_; exact rfl) | (apply ke_rg; exact rfl; exact rfl) | (refine ke_cv ?_ ?_ ?_ ?_; exact rfl; kernel_rfl) | (apply ke_fl; exact rfl) | (apply ke_al; exact rfl; exact rfl)) | ((with_reducible refine freshIs_new ?_); kernel_rfl) | (simp only [B, xB, F, reduceLT, reduceLeDiff, reduceEqDiff, reduceAdd, reduceMul, reduceSub, ↓reduceIte, eq_self, q4, q5, d', d0, d1, d2, d3, d4, put_sts, w2', w3', k0, k1, k2, k3, k4, k5, cellAt_sts w2']))
  have w3'' : wrAt (h2.sts (h0.nx + 2) 0 (chC c)) (h0.nx + 3) = true:= by rw [wrAt_sts]; exact w3'
  unfold chC at w3''
  refine roundEnd_norm (by rw [get_sts _ _ _ _ (by omega), get_sts _ _ _ _ (by omega)]; exact hl2) rfl rfl ⟨rfl, none, ⟨rfl, ?_⟩, Only.m (((only12.sts (.inl (by simp))).sts (.inl (by simp))).obj (.inl (by simp)) _) _, .inl rfl⟩
  refine ⟨by rw [nx_obj, nx_sts, nx_sts]; omega, fun b hb => by rw [get_obj_ne (by omega), get_sts _ _ _ _ (by omega), get_sts _ _ _ _ (by omega), q b (by omega) (by omega)]; exact old b hb, get_obj_self _ _,
   by rw [get_obj_ne (by omega), get_sts _ _ _ _ (by omega), get_sts _ _ _ _ (by omega), q _ (by omega) (by omega)]; exact hd,
   by rw [cellAt_obj (by omega), cellAt_of_get (get_sts _ _ _ _ (by omega)), cellAt_of_get (get_sts _ _ _ _ (by omega)), qc _ (by omega) (by omega)]; exact c1,
   by rw [cellAt_obj (by omega), cellAt_of_get (get_sts _ _ _ _ (by omega)), cellAt_of_get (get_sts _ _ _ _ (by omega)), qc _ (by omega) (by omega)]; exact c4,
   by rw [wrAt_obj (by omega), wrAt_sts, wrAt_sts]; exact w2', by rw [wrAt_obj (by omega), wrAt_sts, wrAt_sts]; exact w3', ?_, ?_, ?_, ?_, ?_, ?_, q2, q3, q4, q5⟩
  all_goals rw [cellAt_obj (by omega)]
  all_goals first | rw [e1] | rw [e2]
  all_goals simp only [B, xB, F, reduceLT, reduceLeDiff, reduceEqDiff, reduceAdd, reduceMul, reduceSub, ↓reduceIte, eq_self, cellAt_sts w3'', cellAt_sts w2']
 | false =>
  rw [hpc, if_neg (by simp)] at lt
  have e1 : lstC p ((all (gs X)).take (k + 1)) = lstC p ((all (gs X)).take k):= by unfold lstC; rw [lt]
  have e2 : lstB p ((all (gs X)).take (k + 1)) = lstB p ((all (gs X)).take k):= by unfold lstB; rw [lt]
  refine rT0 ?_
  refine roundEnd_norm hl2 rfl rfl ⟨rfl, none, ⟨rfl, ?_⟩, Only.m (only12.obj (.inl (by simp)) _) _, .inl rfl⟩
  refine ⟨by rw [nx_obj]; omega, fun b hb => by rw [get_obj_ne (by omega), q b (by omega) (by omega)]; exact old b hb, get_obj_self _ _,
   by rw [get_obj_ne (by omega), q _ (by omega) (by omega)]; exact hd,
   by rw [cellAt_obj (by omega), qc _ (by omega) (by omega)]; exact c1,
   by rw [cellAt_obj (by omega), qc _ (by omega) (by omega)]; exact c4,
   by rw [wrAt_obj (by omega), qw _ (by omega) (by omega)]; exact w2, by rw [wrAt_obj (by omega), qw _ (by omega) (by omega)]; exact w3, ?_, ?_, ?_, ?_, ?_, ?_, q2, q3, q4, q5⟩
  all_goals rw [cellAt_obj (by omega), qc _ (by omega) (by omega)]
  all_goals first | (rw [e1]; assumption) | (rw [e2]; assumption)
theorem lastC (h0 : H) (s : AV) (X : List (Gn × AV)) (isV : AV) (p : Ch → Bool) (hh : Has h0 s X) (hz : Sz 1000 (gs X)) (hone : isV.one = true) (hcl : isV.cells = [isV]) (his : IsFn h0 isV p) :
  PushC P (.enter 71 [.agg [s], isV] h0) fun v h' => v = .tuple [chA (lstC p (all (gs X))), .bool (lstB p (all (gs X)))] ∧ Only h0 h' [] := by
 have hso := SliceAt.one hh.1
 refine pushC_of_codeW (fn := Tryz.f71) (c := bodyC Tryz.f71) Tryz.func71 rfl ?_
 show codeW P 71 16 none _ _ _ _ _
 refine codeW_root ?_
 refine rT ?_ (V hso<|V hone<|hcl)
 refine ((allC _ s hso).call P).mono P ?_
 rintro v h' ⟨b, rfl, rfl, rfl⟩
 refine rT ?_ (hso)
 obtain ⟨tm, hT⟩ : ∃ tm, tm = (((((((T.e.fill 0 [AV.agg [s], isV]).set 2 (some (.ptr h0.nx 0))).set 3 (some (.ptr (h0.nx + 1) 0))).set 4 (some (.ptr (h0.nx + 2) 0))).set 5 (some (.ptr (h0.nx + 3) 0))).set 7 (some (.agg [s]))).set 8 (some (allV (h0.nx + 4)))) := ⟨_, rfl⟩
 obtain ⟨h1, hH⟩ : ∃ h1, h1 = (((((h0.newCells 55 [s]).newCells 128 [isV]).newCells 124 [.int .u64 (.ofNat 0), .int .u64 (.ofNat 0), .int .u64 (.ofNat 0), .int .u64 (.ofNat 0), .bool false]).newCells 4 [.bool false]).newCells 55 [s]) := ⟨_, rfl⟩
 have q2 : tm.get 2 = some (.ptr h0.nx 0):= by rw [hT]; exact sT
 have q3 : tm.get 3 = some (.ptr (h0.nx + 1) 0):= by rw [hT]; exact sT
 have q4 : tm.get 4 = some (.ptr (h0.nx + 2) 0):= by rw [hT]; exact sT
 have q5 : tm.get 5 = some (.ptr (h0.nx + 3) 0):= by rw [hT]; exact sT
 have q8 : tm.get 8 = some (allV (h0.nx + 4)):= by rw [hT]; exact sT
 have x1 : h1.nx = h0.nx + 5:= by rw [hH]; rfl
 have o1 : Only h0 h1 []:= by rw [hH]; exact (((((Only.refl _ _).new _ _).new _ _).new _ _).new _ _).new _ _
 have c1 : cellAt h1 (h0.nx + 1) 0 = some isV:= by rw [hH]; exact sT
 have c4 : cellAt h1 (h0.nx + 4) 0 = some s:= by rw [hH]; exact sT
 have w2 : wrAt h1 (h0.nx + 2) = true:= by rw [hH]; exact sT
 have w3 : wrAt h1 (h0.nx + 3) = true:= by rw [hH]; exact sT
 have a0 : cellAt h1 (h0.nx + 2) 0 = some (.int .u64 (.ofNat 0)):= by rw [hH]; exact sT
 have a1 : cellAt h1 (h0.nx + 2) 1 = some (.int .u64 (.ofNat 0)):= by rw [hH]; exact sT
 have a2 : cellAt h1 (h0.nx + 2) 2 = some (.int .u64 (.ofNat 0)):= by rw [hH]; exact sT
 have a3 : cellAt h1 (h0.nx + 2) 3 = some (.int .u64 (.ofNat 0)):= by rw [hH]; exact sT
 have a4 : cellAt h1 (h0.nx + 2) 4 = some (.bool false):= by rw [hH]; exact sT
 have b0 : cellAt h1 (h0.nx + 3) 0 = some (.bool false):= by rw [hH]; exact sT
 rw [← hT, ← hH]
 refine st_rf rfl (f := .tmp 8) (ps := #[9]) rfl rfl ?_
 refine rf_walk (g := 82) (cap := [.ptr (h0.nx + 4) 0]) (by rw [evalA_tmp, q8]; rfl) (fun args h => callV_func 82 (by kernel_rfl) [] _ args) ?_
 have hbase : ∀ b, b < h1.nx → (loopH h1 71 16 tm [9] (codeI (bodyC Tryz.f71) (0 :: bodyP)) (codeI (bodyC Tryz.f71) (1 :: bodyP))).t.get b = h1.t.get b := fun b hb => by rw [loopH_get, if_neg (by omega), if_neg (by omega)]
 have hJ0 : LJ h0 s X isV p (lastR h0 tm) 0 (loopH h1 71 16 tm [9] (codeI (bodyC Tryz.f71) (0 :: bodyP)) (codeI (bodyC Tryz.f71) (1 :: bodyP))) := by
  refine ⟨by rw [loopH_nx]; omega, fun b hb => by rw [hbase b (by omega)]; exact o1.2 b hb (by simp), by rw [loopH_get, if_pos (by omega), x1], by rw [loopH_get, if_neg (by omega), if_pos (by omega)],
   by rw [cellAt_of_get (hbase _ (by omega))]; exact c1, by rw [cellAt_of_get (hbase _ (by omega))]; exact c4, by rw [wrAt_of_get (hbase _ (by omega))]; exact w2, by rw [wrAt_of_get (hbase _ (by omega))]; exact w3, ?_, ?_, ?_, ?_, ?_, ?_, q2, q3, q4, q5⟩
  all_goals rw [cellAt_of_get (hbase _ (by omega))]
  all_goals assumption
 rw [x1]
 refine (allRun _ (h0.nx + 6) (h0.nx + 4) s X [h0.nx + 2, h0.nx + 3, h0.nx + 6] (fun k mv h => mv = none ∧ LJ h0 s X isV p (lastR h0 tm) k h) hz ?_ (fun _ _ _ _ hj ho => ⟨hj.1, hj.2.keep ho⟩) (fun k mv h hj b q => by rw [hj.1] at q; cases q) (fun k mv h hj => ⟨hj.2.c4, hh.keep hj.2.o⟩)
  (fun k mv h c hj _ hc => by obtain ⟨rfl, hj⟩ := hj; exact lastRound h0 s X isV p tm his hcl k h c hj hc) ⟨rfl, hJ0⟩).mono P ?_
 ·intro c hc
  rw [loopH_nx, x1]
  simp only [List.mem_cons, List.mem_nil_iff, or_false] at hc
  omega
 rintro _ h2 ⟨_, ⟨-, hj⟩, ho2, -⟩
 obtain ⟨nx, old, hl, hd, -, -, w2, w3, a0, a1, a2, a3, a4, b0, -⟩ := hj
 rw [List.take_length] at a0 a1 a2 a3 a4 b0
 refine ⟨hl, ?_⟩
 obtain ⟨h3, e3⟩ : ∃ h3, h3 = h2.obj (h0.nx + 6) (.loop (loopR 71 16 tm [9] (codeI (bodyC Tryz.f71) (0 :: bodyP)) (codeI (bodyC Tryz.f71) (1 :: bodyP)) (h0.nx + 5) .exhausted)) := ⟨_, rfl⟩
 show blkK 0 _ .norm [h0.nx + 5] tm (h2.obj (h0.nx + 6) (.loop (loopR 71 16 tm [9] (codeI (bodyC Tryz.f71) (0 :: bodyP)) (codeI (bodyC Tryz.f71) (1 :: bodyP)) (h0.nx + 5) .exhausted)))
 rw [← e3]
 have hd3 : h3.t.get (h0.nx + 5) = some (.deferred (some [])):= by rw [e3, get_obj_ne (by omega)]; exact hd
 have qc := fun b (hb : b ≠ h0.nx + 6) => cellAt_obj (h := h2) hb (.loop (loopR 71 16 tm [9] (codeI (bodyC Tryz.f71) (0 :: bodyP)) (codeI (bodyC Tryz.f71) (1 :: bodyP)) (h0.nx + 5) .exhausted))
 rw [← e3] at qc
 rw [← qc _ (by omega)] at a0 a1 a2 a3 a4 b0
 have w2 : wrAt h3 (h0.nx + 2) = true:= by rw [e3, wrAt_obj (by omega)]; exact w2
 have w3 : wrAt h3 (h0.nx + 3) = true:= by rw [e3, wrAt_obj (by omega)]; exact w3
 have o3 : Only h0 h3 [] := ⟨by rw [e3, nx_obj]; omega, fun b hb _ => by rw [e3, get_obj_ne (by omega)]; exact old b hb⟩
 repeat' (first | ((with_reducible refine st1 ?_); (conv => whnf); (with_reducible refine ⟨?_⟩)) | ((with_reducible refine st_dw ?_ rfl rfl ?_ ?_); exact rfl; kernel_rfl; (conv => arg 5; whnf); (conv => arg 3; whnf)) | ((with_reducible refine retW_intro rfl ?_); (conv => arg 2; whnf)) | ((with_reducible first | refine iB ?_ ?_ | refine gWt ?_ ?_ | refine gWf ?_ ?_ | refine gXt ?_ ?_ | refine gXf ?_ ?_) <;> intro hb <;> (try simp only [hb])) | ((with_reducible show drawI _ _ _ _ _ _ _ _ _); first | ((with_reducible refine kI_rd ?_ ?_); exact rfl) | ((with_reducible apply kI_rg); exact rfl; exact rfl) | ((with_reducible refine kI_cv ?_ ?_ ?_); exact rfl; kernel_rfl) | ((with_reducible apply kI_al); exact rfl; exact rfl) | ((with_reducible refine kI_ex ?_ ?_ ?_ ?_ ?_); exact rfl; kernel_rfl; exact rfl) | ((with_reducible apply kI_eg); exact rfl; kernel_rfl; exact rfl) | ((with_reducible refine kI_nl ?_ ?_))) | ((with_reducible show eOk _ _ _ _ _ _); first | (exact eok_nil) | (refine ke_rd ?_ ?_ ?_; exact rfl) | (apply ke_rg; exact rfl; exact rfl) | (refine ke_cv ?_ ?_ ?_ ?_; exact rfl; kernel_rfl) | (apply ke_fl; exact rfl) | (apply ke_al; exact rfl; exact rfl)) | ((with_reducible refine freshIs_new ?_); kernel_rfl) | (simp only [B, xB, F, reduceLT, reduceLeDiff, reduceEqDiff, reduceAdd, reduceMul, reduceSub, ↓reduceIte, eq_self, q4, q5, a0, a1, a2, a3, a4, b0, put_sts, w2, w3, cellAt_sts w2, wrAt_sts]))
 refine retW_undef (by rw [get_sts _ _ _ _ (by omega), get_sts _ _ _ _ (by omega)]; exact hd3) rfl ?_
 (conv => arg 2; whnf)
 have hw3 : wrAt (h3.sts (h0.nx + 2) 0 (chC (lstC p (all (gs X))))) (h0.nx + 3) = true:= by rw [wrAt_sts]; exact w3
 unfold chC at hw3
 have ca := fun b (hb : b ≠ h0.nx + 5) i (hh : H) => cellAt_obj (h := hh) hb (.deferred none) i
 have e2 : (h0.nx + 2 = h0.nx + 5) = False:= by simp
 have e3 : (h0.nx + 3 = h0.nx + 5) = False:= by simp
 simp only [B, xB, F, reduceLT, reduceLeDiff, reduceEqDiff, reduceAdd, reduceMul, reduceSub, ↓reduceIte, eq_self, q4, q5, ca _ (show h0.nx + 2 ≠ h0.nx + 5 by omega), ca _ (show h0.nx + 3 ≠ h0.nx + 5 by omega), cellAt_sts hw3, cellAt_sts w2]
 exact ⟨rfl, ((o3.sts (.inr (by omega))).sts (.inr (by omega))).obj (.inr (by omega)) _⟩
theorem isFn_all (h0 : H) : IsFn h0 isAll fun _ => true := fun h c _ => ⟨72, [chA c], fun h' => callV_func 72 (by kernel_rfl) [] [] _, isAllC h c⟩
theorem isFn_at (h0 : H) (b m : Nat) (hb : b < h0.nx) (hm : cellAt h0 b 0 = some (.int .u64 (.ofNat m))) : IsFn h0 (.func 81 [] [.ptr b 0]) fun c => decide (c.rev.1 ≤ m) := fun h c ho =>
 ⟨81, [chA c, .ptr b 0], fun h' => callV_func 81 (by kernel_rfl) [] _ _, isAtC h c b m (Nat.lt_of_lt_of_le hb ho.1) (by rw [ho.cell hb (by simp)]; exact hm)⟩
end
end Go.Proofs.YtlkngpckibidlaaGreat.W

namespace Go.Proofs.YtlkngpckibidlaaGreat.W
open Go Go.AX
noncomputable section
set_option maxRecDepth 100000
def tt : Ch → Bool := fun _ => true
def fitsB (L : List Gn) (r : Rv) : Bool := decide (0 < r.1) && (!(lstB tt (all L)) || above r (lstC tt (all L)).rev)
theorem fitsC (h : H) (v : AV) (L : List Gn) (r : Rv) (hg : GensAt h v L) (hz : Sz 1000 L) : PushC P (.enter 49 [v, rvA r] h) (Says h (.bool (fitsB L r))) := by
 obtain ⟨s, X, rfl, rfl, hh, -⟩ := hg
 have hso := SliceAt.one hh.1
 have e0 : rvA r = .agg [.int .u64 (.ofNat r.1), .int .u64 (.ofNat r.2)] := rfl
 rw [e0]
 refine pushC_of_codeW (fn := Tryz.f49) (c := bodyC Tryz.f49) Tryz.func49 rfl ?_
 show codeW P 49 25 none _ _ _ _ _
 refine codeW_root ?_
 refine rN ?_ (hso)
 have o1 : Only h ((h.newCells 55 [s]).newCells 31 [.int .u64 (.ofNat r.1), .int .u64 (.ofNat r.2)]) [] := ((Only.refl _ _).new _ _).new _ _
 have x1 : ((h.newCells 55 [s]).newCells 31 [.int .u64 (.ofNat r.1), .int .u64 (.ofNat r.2)]).nx = h.nx + 2 := rfl
 have b0 : cellAt ((h.newCells 55 [s]).newCells 31 [.int .u64 (.ofNat r.1), .int .u64 (.ofNat r.2)]) (h.nx + 1) 0 = some (.int .u64 (.ofNat r.1)):= by exact sT
 have b1 : cellAt ((h.newCells 55 [s]).newCells 31 [.int .u64 (.ofNat r.1), .int .u64 (.ofNat r.2)]) (h.nx + 1) 1 = some (.int .u64 (.ofNat r.2)):= by exact sT
 generalize (h.newCells 55 [s]).newCells 31 [.int .u64 (.ofNat r.1), .int .u64 (.ofNat r.2)] = h1 at *
 refine ((lastC h1 s X isAll tt (hh.keep o1) hz rfl rfl (isFn_all _)).call P).mono P ?_
 rintro v h2 ⟨rfl, o2⟩
 obtain ⟨c, hc⟩ : ∃ c, c = lstC tt (all (gs X)) := ⟨_, rfl⟩
 have e1 : chA c = .agg [.int .u64 (.ofNat c.rev.1), .int .u64 (.ofNat c.rev.2), .int .u64 (.ofNat c.made), .int .u64 (.ofNat c.nth), .bool c.tomb] := rfl
 have c0 : cellAt h2 (h.nx + 1) 0 = some (.int .u64 (.ofNat r.1)):= by rw [o2.cell (by omega) (by simp)]; exact b0
 have c1 : cellAt h2 (h.nx + 1) 1 = some (.int .u64 (.ofNat r.2)):= by rw [o2.cell (by omega) (by simp)]; exact b1
 have hn : (h.nx + 1 = h2.nx) = False:= by have := o2.1; simp; omega
 have hfit : fitsB (X.map (·.1)) r = (decide (0 < r.1) && (!(lstB tt (all (gs X))) || above r c.rev)):= by rw [hc]; rfl
 rw [hfit, ← hc, e1]
 have oo : Only h h2 [] := o1.trans o2 (fun _ h => h) (fun _ h => by cases h)
 cases hr : decide (0 < r.1) with
 | false =>
  refine rN ?_ (V c0<|V c1<|V hn<|hr)
  exact ⟨rfl, (oo.new _ _).sts (.inr (by have := o2.1; omega))⟩
 | true =>
  cases hb : lstB tt (all (gs X)) with
  | false =>
   refine rN ?_ (V c0<|V c1<|V hn<|hr)
   exact ⟨rfl, (oo.new _ _).sts (.inr (by have := o2.1; omega))⟩
  | true =>
   refine rN ?_ (V c0<|V c1<|V hn<|hr)
   refine ((aboveC _ r c.rev).call P).mono P ?_
   rintro v h3 ⟨rfl, o3⟩
   refine rN0 ?_
   exact ⟨rfl, (((oo.new _ _).sts (.inr (by have := o2.1; omega))).trans o3 (fun _ h => h) (fun _ h => by cases h))⟩
def atP (m : Nat) : Ch → Bool := fun c => decide (c.rev.1 ≤ m)
def atB (L : List Gn) (m : Nat) : Bool := lstB (atP m) (all L) && !(lstC (atP m) (all L)).tomb
def atK (L : List Gn) (m : Nat) : Ch := if atB L m then lstC (atP m) (all L) else ch0
def PostAt (h : H) (L : List Gn) (m : Nat) (v : AV) (h' : H) : Prop := v = .tuple [rvA (atK L m).rev, n64 (atK L m).made, n64 (atK L m).nth, .bool (atB L m)] ∧ Only h h' []
theorem atC (h : H) (v : AV) (L : List Gn) (m : Nat) (hg : GensAt h v L) (hz : Sz 1000 L) : PushC P (.enter 63 [v, n64 m] h) (PostAt h L m) := by
 obtain ⟨s, X, rfl, rfl, hh, -⟩ := hg
 have hso := SliceAt.one hh.1
 unfold n64
 refine pushC_of_codeW (fn := Tryz.f63) (c := bodyC Tryz.f63) Tryz.func63 rfl ?_
 show codeW P 63 29 none _ _ _ _ _
 refine codeW_root ?_
 refine rT ?_ (hso)
 have o1 : Only h (((h.newCells 55 [s]).newCells 29 [.int .u64 (.ofNat m)]).newCells 31 [.int .u64 (.ofNat 0), .int .u64 (.ofNat 0)]) [] := (((Only.refl _ _).new _ _).new _ _).new _ _
 have x1 : (((h.newCells 55 [s]).newCells 29 [.int .u64 (.ofNat m)]).newCells 31 [.int .u64 (.ofNat 0), .int .u64 (.ofNat 0)]).nx = h.nx + 3 := rfl
 have b0 : cellAt (((h.newCells 55 [s]).newCells 29 [.int .u64 (.ofNat m)]).newCells 31 [.int .u64 (.ofNat 0), .int .u64 (.ofNat 0)]) (h.nx + 1) 0 = some (.int .u64 (.ofNat m)):= by exact sT
 have r0 : cellAt (((h.newCells 55 [s]).newCells 29 [.int .u64 (.ofNat m)]).newCells 31 [.int .u64 (.ofNat 0), .int .u64 (.ofNat 0)]) (h.nx + 2) 0 = some (.int .u64 (.ofNat 0)):= by exact sT
 have r1 : cellAt (((h.newCells 55 [s]).newCells 29 [.int .u64 (.ofNat m)]).newCells 31 [.int .u64 (.ofNat 0), .int .u64 (.ofNat 0)]) (h.nx + 2) 1 = some (.int .u64 (.ofNat 0)):= by exact sT
 have rw1 : wrAt (((h.newCells 55 [s]).newCells 29 [.int .u64 (.ofNat m)]).newCells 31 [.int .u64 (.ofNat 0), .int .u64 (.ofNat 0)]) (h.nx + 2) = true:= by exact sT
 generalize ((h.newCells 55 [s]).newCells 29 [.int .u64 (.ofNat m)]).newCells 31 [.int .u64 (.ofNat 0), .int .u64 (.ofNat 0)] = h1 at *
 refine ((lastC h1 s X _ (atP m) (hh.keep o1) hz rfl rfl (isFn_at h1 (h.nx + 1) m (by omega) b0)).call P).mono P ?_
 rintro v h2 ⟨rfl, o2⟩
 obtain ⟨c, hc⟩ : ∃ c, c = lstC (atP m) (all (gs X)) := ⟨_, rfl⟩
 have e1 : chA c = .agg [.int .u64 (.ofNat c.rev.1), .int .u64 (.ofNat c.rev.2), .int .u64 (.ofNat c.made), .int .u64 (.ofNat c.nth), .bool c.tomb] := rfl
 have hb : atB (X.map (·.1)) m = (lstB (atP m) (all (gs X)) && !c.tomb):= by rw [hc]; rfl
 have hk : atK (X.map (·.1)) m = if atB (X.map (·.1)) m then c else ch0:= by rw [hc]; rfl
 unfold PostAt
 rw [hk, hb]
 rw [← hc, e1]
 have r0 : cellAt h2 (h.nx + 2) 0 = some (.int .u64 (.ofNat 0)):= by rw [o2.cell (by omega) (by simp)]; exact r0
 have r1 : cellAt h2 (h.nx + 2) 1 = some (.int .u64 (.ofNat 0)):= by rw [o2.cell (by omega) (by simp)]; exact r1
 have rw1 : wrAt h2 (h.nx + 2) = true:= by rw [o2.wr (by omega) (by simp)]; exact rw1
 have hn : (h.nx + 2 = h2.nx) = False:= by have := o2.1; simp; omega
 have oo : Only h h2 [] := o1.trans o2 (fun _ h => h) (fun _ h => by cases h)
 have hx := o2.1
 have ro : ∀ l, wrAt (h2.newCells 124 l) (h.nx + 2) = true := fun l => by rw [wrAt_new, if_neg (by omega)]; exact rw1
 have rs : ∀ l l', wrAt ((h2.newCells 124 l).sts h2.nx 0 l') (h.nx + 2) = true := fun l l' => by rw [wrAt_sts]; exact ro l
 cases hbb : lstB (atP m) (all (gs X)) with
 | false =>
  repeat' (first | ((with_reducible refine st1 ?_); (conv => whnf); (with_reducible refine ⟨?_⟩)) | ((with_reducible refine st_dw ?_ rfl rfl ?_ ?_); exact rfl; kernel_rfl; (conv => arg 5; whnf); (conv => arg 3; whnf)) | ((with_reducible refine retW_intro rfl ?_); (conv => arg 2; whnf)) | ((with_reducible first | refine iB ?_ ?_ | refine gWt ?_ ?_ | refine gWf ?_ ?_ | refine gXt ?_ ?_ | refine gXf ?_ ?_) <;> intro hb <;> (try simp only [hb])) | ((with_reducible show drawI _ _ _ _ _ _ _ _ _); first | ((with_reducible refine kI_rd ?_ ?_); exact rfl) | ((with_reducible apply kI_rg); exact rfl; exact rfl) | ((with_reducible refine kI_cv ?_ ?_ ?_); exact rfl; kernel_rfl) | ((with_reducible apply kI_al); exact rfl; exact rfl) | ((with_reducible refine kI_ex ?_ ?_ ?_ ?_ ?_); exact rfl; kernel_rfl; exact rfl) | ((with_reducible apply kI_eg); exact rfl; kernel_rfl; exact rfl) | ((with_reducible refine kI_nl ?_ ?_))) | ((with_reducible show eOk _ _ _ _ _ _); first | (exact eok_nil) | (refine ke_rd ?_ ?_ ?_; exact rfl) | (apply ke_rg; exact rfl; exact rfl) | (refine ke_cv ?_ ?_ ?_ ?_; exact rfl; kernel_rfl) | (apply ke_fl; exact rfl) | (apply ke_al; exact rfl; exact rfl)) | ((with_reducible refine freshIs_new ?_); kernel_rfl) | (simp only [B, xB, F, reduceLT, reduceLeDiff, reduceEqDiff, reduceAdd, reduceMul, reduceSub, ↓reduceIte, eq_self, hn, r0, r1, rw1, put_sts, cellAt_sts (rs _ _)]))
  exact ⟨rfl, ((oo.new _ _).sts (.inr (by omega))).sts (.inr (by omega))⟩
 | true =>
  cases ht : c.tomb with
  | true =>
   repeat' (first | ((with_reducible refine st1 ?_); (conv => whnf); (with_reducible refine ⟨?_⟩)) | ((with_reducible refine st_dw ?_ rfl rfl ?_ ?_); exact rfl; kernel_rfl; (conv => arg 5; whnf); (conv => arg 3; whnf)) | ((with_reducible refine retW_intro rfl ?_); (conv => arg 2; whnf)) | ((with_reducible first | refine iB ?_ ?_ | refine gWt ?_ ?_ | refine gWf ?_ ?_ | refine gXt ?_ ?_ | refine gXf ?_ ?_) <;> intro hb <;> (try simp only [hb])) | ((with_reducible show drawI _ _ _ _ _ _ _ _ _); first | ((with_reducible refine kI_rd ?_ ?_); exact rfl) | ((with_reducible apply kI_rg); exact rfl; exact rfl) | ((with_reducible refine kI_cv ?_ ?_ ?_); exact rfl; kernel_rfl) | ((with_reducible apply kI_al); exact rfl; exact rfl) | ((with_reducible refine kI_ex ?_ ?_ ?_ ?_ ?_); exact rfl; kernel_rfl; exact rfl) | ((with_reducible apply kI_eg); exact rfl; kernel_rfl; exact rfl) | ((with_reducible refine kI_nl ?_ ?_))) | ((with_reducible show eOk _ _ _ _ _ _); first | (exact eok_nil) | (refine ke_rd ?_ ?_ ?_; exact rfl) | (apply ke_rg; exact rfl; exact rfl) | (refine ke_cv ?_ ?_ ?_ ?_; exact rfl; kernel_rfl) | (apply ke_fl; exact rfl) | (apply ke_al; exact rfl; exact rfl)) | ((with_reducible refine freshIs_new ?_); kernel_rfl) | (simp only [B, xB, F, reduceLT, reduceLeDiff, reduceEqDiff, reduceAdd, reduceMul, reduceSub, ↓reduceIte, eq_self, hn, r0, r1, rw1, put_sts, cellAt_sts (rs _ _)]))
   exact ⟨rfl, ((oo.new _ _).sts (.inr (by omega))).sts (.inr (by omega))⟩
  | false =>
   repeat' (first | ((with_reducible refine st1 ?_); (conv => whnf); (with_reducible refine ⟨?_⟩)) | ((with_reducible refine st_dw ?_ rfl rfl ?_ ?_); exact rfl; kernel_rfl; (conv => arg 5; whnf); (conv => arg 3; whnf)) | ((with_reducible refine retW_intro rfl ?_); (conv => arg 2; whnf)) | ((with_reducible first | refine iB ?_ ?_ | refine gWt ?_ ?_ | refine gWf ?_ ?_ | refine gXt ?_ ?_ | refine gXf ?_ ?_) <;> intro hb <;> (try simp only [hb])) | ((with_reducible show drawI _ _ _ _ _ _ _ _ _); first | ((with_reducible refine kI_rd ?_ ?_); exact rfl) | ((with_reducible apply kI_rg); exact rfl; exact rfl) | ((with_reducible refine kI_cv ?_ ?_ ?_); exact rfl; kernel_rfl) | ((with_reducible apply kI_al); exact rfl; exact rfl) | ((with_reducible refine kI_ex ?_ ?_ ?_ ?_ ?_); exact rfl; kernel_rfl; exact rfl) | ((with_reducible apply kI_eg); exact rfl; kernel_rfl; exact rfl) | ((with_reducible refine kI_nl ?_ ?_))) | ((with_reducible show eOk _ _ _ _ _ _); first | (exact eok_nil) | (refine ke_rd ?_ ?_ ?_; exact rfl) | (apply ke_rg; exact rfl; exact rfl) | (refine ke_cv ?_ ?_ ?_ ?_; exact rfl; kernel_rfl) | (apply ke_fl; exact rfl) | (apply ke_al; exact rfl; exact rfl)) | ((with_reducible refine freshIs_new ?_); kernel_rfl) | (simp only [B, xB, F, reduceLT, reduceLeDiff, reduceEqDiff, reduceAdd, reduceMul, reduceSub, ↓reduceIte, eq_self, hn, r0, r1, rw1, put_sts, cellAt_sts (rs _ _)]))
   exact ⟨rfl, ((oo.new _ _).sts (.inr (by omega))).sts (.inr (by omega))⟩
end
end Go.Proofs.YtlkngpckibidlaaGreat.W

namespace Go.Proofs.YtlkngpckibidlaaGreat.W
open Go Go.AX
noncomputable section
set_option maxRecDepth 100000
def sinceL (m : Nat) (l : List Ch) : List Rv := (l.filter fun c => decide (m ≤ c.rev.1)).map (·.rev)
theorem since_take {m : Nat} {l : List Ch} {k : Nat} {c : Ch} (hc : l[k]? = some c) : sinceL m (l.take (k + 1)) = if m ≤ c.rev.1 then sinceL m (l.take k) ++ [c.rev] else sinceL m (l.take k) := by
 unfold sinceL
 rw [List.take_add_one, hc, List.filter_append, List.map_append]
 by_cases q : m ≤ c.rev.1
 ·simp [q]
 ·simp [q]
theorem rvsC_snoc (l : List Rv) (r : Rv) : rvsC l ++ [.int .u64 (.ofNat r.1), .int .u64 (.ofNat r.2)] = rvsC (l ++ [r]):= by simp [rvsC, rvC]
theorem gChs_len (g : Gn) : (gChs g).length ≤ g.puts.length + 1 := by
 unfold gChs endChs
 rw [List.length_append, putChs_len]
 split <;> simp
theorem all_len {N : Nat} : ∀ {L : List Gn}, (∀ g, g ∈ L → g.puts.length ≤ N) → (all L).length ≤ L.length * (N + 1)
 | [], _ => by simp [all]
 | g :: L, h => by
  have h1 := all_len (L := L) (fun x hx => h x (List.mem_cons_of_mem _ hx))
  have h2 := gChs_len g
  have h3 := h g List.mem_cons_self
  have h4 : all (g :: L) = gChs g ++ all L := rfl
  rw [h4, List.length_append, List.length_cons, Nat.add_mul]
  omega
theorem since_len (m : Nat) (l : List Ch) : (sinceL m l).length ≤ l.length := by
 unfold sinceL; rw [List.length_map]; exact List.length_filter_le _ _
theorem _root_.Go.AX.Grows.weak {size a b : Nat} {h : H} {v : AV} {n : Nat} {cs : List AV} (hg : Grows size b h v n cs) (hab : a ≤ b) : Grows size a h v n cs := by
 cases hg with
 | none => exact .none
 | cell c n cs t ty h1 h2 h3 h4 h5 => exact .cell c n cs t ty (Nat.le_trans hab h1) h2 h3 h4 h5
structure SJ (h0 : H) (s : AV) (X : List (Gn × AV)) (m : Nat) (r : ALoop) (k : Nat) (mv : Option Nat) (h : H) : Prop where
 nx : h0.nx + 6 ≤ h.nx
 old : ∀ b, b < h0.nx → h.t.get b = h0.t.get b
 hl : h.t.get (h0.nx + 5) = some (.loop r)
 hd : h.t.get (h0.nx + 4) = some (.deferred (some []))
 c1 : cellAt h (h0.nx + 1) 0 = some (.int .u64 (.ofNat m))
 c3 : cellAt h (h0.nx + 3) 0 = some s
 w2 : wrAt h (h0.nx + 2) = true
 sv : ∃ sv, cellAt h (h0.nx + 2) 0 = some sv ∧ Grows 2 (h0.nx + 6) h sv (sinceL m ((all (gs X)).take k)).length (rvsC (sinceL m ((all (gs X)).take k))) ∧ blkOf sv = mv
 tm : r.tm.get 2 = some (.ptr h0.nx 0) ∧ r.tm.get 3 = some (.ptr (h0.nx + 1) 0) ∧ r.tm.get 5 = some (.ptr (h0.nx + 2) 0)
theorem SJ.keep {h0 : H} {s : AV} {X : List (Gn × AV)} {m : Nat} {r : ALoop} {k : Nat} {mv : Option Nat} {h h' : H} (hj : SJ h0 s X m r k mv h) (ho : Only h h' []) : SJ h0 s X m r k mv h' := by
 obtain ⟨nx, old, hl, hd, c1, c3, w2, ⟨sv, sc, sg, sb⟩, tm⟩ := hj
 have e := fun b (hb : b < h.nx) => ho.2 b hb (by simp)
 have ec := fun b (hb : b < h.nx) => cellAt_of_get (e b hb)
 have ew := fun b (hb : b < h.nx) => wrAt_of_get (e b hb)
 exact ⟨Nat.le_trans nx ho.1, fun b hb => by rw [e b (by omega), old b hb], by rw [e _ (by omega)]; exact hl, by rw [e _ (by omega)]; exact hd, by rw [ec _ (by omega)]; exact c1, by rw [ec _ (by omega)]; exact c3, by rw [ew _ (by omega)]; exact w2,
  ⟨sv, by rw [ec _ (by omega)]; exact sc, sg.of_get ho.1 (fun b hb => e b (sg.base hb).2), sb⟩, tm⟩
theorem SJ.o {h0 : H} {s : AV} {X : List (Gn × AV)} {m : Nat} {r : ALoop} {k : Nat} {mv : Option Nat} {h : H} (hj : SJ h0 s X m r k mv h) : Only h0 h [] := ⟨by have := hj.nx; omega, fun b hb _ => hj.old b hb⟩
def bodyS : List Nat := [0, 1, 0, 1, 1]
noncomputable abbrev sinceR (h0 : H) (tm : T AV) : ALoop := loopR 43 21 tm [9] (codeI (bodyC Tryz.f43) (0 :: bodyS)) (codeI (bodyC Tryz.f43) (1 :: bodyS)) (h0.nx + 4) .ready
theorem sinceRound (h0 : H) (s : AV) (X : List (Gn × AV)) (m : Nat) (tm : T AV) (hz : Sz 1000 (gs X)) (k : Nat) (mv : Option Nat) (h : H) (c : Ch) (hj : SJ h0 s X m (sinceR h0 tm) k mv h) (hc : (all (gs X))[k]? = some c) :
  PushC P (.round (h0.nx + 5) [chA c] h) fun v h' => v = .bool true ∧ ∃ mv', SJ h0 s X m (sinceR h0 tm) (k + 1) mv' h' ∧ OnlyM h h' [h0.nx + 2, h0.nx + 5] mv ∧ (mv' = mv ∨ ∃ b, mv' = some b ∧ h.nx ≤ b) := by
 obtain ⟨nx, old, hl, hd, c1, c3, w2, ⟨sv, sc, sg, sb⟩, q2, q3, q5⟩ := hj
 refine round_walk (tm := tm.set 9 (some (chA c))) hl rfl ?_
 show codeW P 43 21 (some (h0.nx + 5)) (codeI (bodyC Tryz.f43) (0 :: bodyS)) _ _ _ _
 unfold chA chC
 unfold bodyS
 have q2 : tm.get 2 = some (.ptr h0.nx 0) := q2
 have q3 : tm.get 3 = some (.ptr (h0.nx + 1) 0) := q3
 have q5 : tm.get 5 = some (.ptr (h0.nx + 2) 0) := q5
 refine rN0 ?_
 refine asg_norm (by rw [get_sts _ _ _ _ (by omega), get_new _ _ _ (by omega)]; exact hl) rfl ?_
 show codeW P 43 21 (some (h0.nx + 5)) (codeI (bodyC Tryz.f43) [1, 0, 1, 0, 1, 1]) _ _ _ _
 obtain ⟨h1, e1⟩ : ∃ h1, h1 = ((h.newCells 124 [.int .u64 (.ofNat 0), .int .u64 (.ofNat 0), .int .u64 (.ofNat 0), .int .u64 (.ofNat 0), .bool false]).sts h.nx 0 (chC c)).obj (h0.nx + 5) (.loop { sinceR h0 tm with state := .busy }) := ⟨_, rfl⟩
 have ho1 : Only h h1 [h0.nx + 2, h0.nx + 5]:= by rw [e1]; exact (((Only.refl _ _).new _ _).sts (.inr (Nat.le_refl _))).obj (.inl (by simp)) _
 have hl1 : h1.t.get (h0.nx + 5) = some (.loop { sinceR h0 tm with state := .busy }):= by rw [e1]; exact get_obj_self _ _
 have d : ∀ i, cellAt h1 h.nx i = (chC c)[i]? := fun i => by
  rw [e1, cellAt_obj (by omega), cellAt_sts (by rw [wrAt_new, if_pos rfl])]
  rcases Nat.lt_or_ge i 5 with hi | hi
  ·rw [if_pos ⟨rfl, by omega, by simp [chC]; omega⟩, Nat.sub_zero]
  ·rw [if_neg (by simp [chC]; omega), cellAt_new, if_pos rfl, List.getElem?_eq_none (by simp; omega), List.getElem?_eq_none (by simp [chC]; omega)]
 have hx1 : h1.nx = h.nx + 1:= by rw [e1, nx_obj, nx_sts, nx_new]
 have hget1 : ∀ b, b < h.nx → b ≠ h0.nx + 5 → h1.t.get b = h.t.get b := fun b hb hne => by rw [e1, get_obj_ne hne, get_sts _ _ _ _ (by omega), get_new _ _ _ (by omega)]
 have hc1 : cellAt h1 (h0.nx + 1) 0 = some (.int .u64 (.ofNat m)):= by rw [cellAt_of_get (hget1 _ (by omega) (by omega))]; exact c1
 have hc2 : cellAt h1 (h0.nx + 2) 0 = some sv:= by rw [cellAt_of_get (hget1 _ (by omega) (by omega))]; exact sc
 have d0 := d 0
 have d1 := d 1
 unfold chC at d0 d1 e1
 rw [← e1]
 simp only [List.getElem?_cons_zero, List.getElem?_cons_succ] at d0 d1
 have lt := since_take (m := m) hc
 by_cases hm : m ≤ c.rev.1
 ·rw [if_pos hm] at lt
  have dm : decide (m ≤ c.rev.1) = true := decide_eq_true hm
  have hn2 : (h0.nx + 2 = h1.nx) = False:= by simp; omega
  have hn3 : (h.nx = h1.nx) = False:= by simp; omega
  refine rN ?_ (V q3<|V q5<|V hc1<|V hc2<|V d0<|V d1<|V dm<|V hn2<|hn3)
  have hlk : (sinceL m ((all (gs X)).take k)).length ≤ 1001000 := by
   have h1 := since_len m ((all (gs X)).take k)
   have h2 : ((all (gs X)).take k).length ≤ (all (gs X)).length:= by rw [List.length_take]; exact Nat.min_le_right _ _
   have h3 := all_len hz.2
   have h4 : (gs X).length * (1000 + 1) ≤ 1000 * (1000 + 1) := Nat.mul_le_mul_right _ hz.1
   omega
  refine exW_grows (base := h0.nx + 6) (h := h1.newCells 31 [.int .u64 (.ofNat c.rev.1), .int .u64 (.ofNat c.rev.2)]) (sg.of_get (by rw [nx_new]; omega) (fun b hb => by have := sg.base hb; rw [get_new _ _ _ (by omega), hget1 b (by omega) (by omega)])) (by rw [nx_new]; omega) (by omega) (by omega) rfl (by omega) ?_
  intro v' h2 hg' hnx hold hblk
  rw [rvsC_snoc] at hg'
  rw [nx_new] at hnx hblk
  have q : ∀ b, b < h.nx → b ≠ h0.nx + 5 → mv ≠ some b → h2.t.get b = h.t.get b := fun b hb hne hm => by
   rw [hold b (by rw [nx_new]; omega) (by rw [sb]; exact hm), get_new _ _ _ (by omega), hget1 b hb hne]
  have hmv : ∀ b, b < h0.nx + 6 → mv ≠ some b := fun b hb qq => by have := (sg.base (sb.trans qq)).1; omega
  have hw2 : wrAt h2 (h0.nx + 2) = true:= by rw [wrAt_of_get (q _ (by omega) (by omega) (hmv _ (by omega)))]; exact w2
  have hcc2 : cellAt h2 (h0.nx + 2) 0 = some sv:= by rw [cellAt_of_get (q _ (by omega) (by omega) (hmv _ (by omega)))]; exact sc
  have hl2 : h2.t.get (h0.nx + 5) = some (.loop { sinceR h0 tm with state := .busy }):= by rw [hold _ (by rw [nx_new]; omega) (by rw [sb]; exact hmv _ (by omega)), get_new _ _ _ (by omega)]; exact hl1
  have hcv := hg'.cells
  have hov := hg'.one
  refine rN ?_ (V q5<|V @put_sts<|V hw2<|V hcc2<|V hcv<|hov)
  have g5 : ∀ b, b ≠ h0.nx + 2 → b ≠ h0.nx + 5 → ((h2.sts (h0.nx + 2) 0 [v']).obj (h0.nx + 5) (.loop (sinceR h0 tm))).t.get b = h2.t.get b := fun b n1 n2 => by rw [get_obj_ne n2, get_sts _ _ _ _ n1]
  refine roundEnd_norm (by rw [get_sts _ _ _ _ (by omega)]; exact hl2) rfl rfl ⟨rfl, blkOf v', ?_, ⟨by rw [nx_obj, nx_sts]; omega, fun b hb hs hm => ?_⟩, .inr ⟨_, hblk, by omega⟩⟩
  ·refine ⟨by rw [nx_obj, nx_sts]; omega, fun b hb => by rw [g5 b (by omega) (by omega), q b (by omega) (by omega) (hmv _ (by omega))]; exact old b hb, get_obj_self _ _,
    by rw [g5 _ (by omega) (by omega), q _ (by omega) (by omega) (hmv _ (by omega))]; exact hd,
    by rw [cellAt_of_get (g5 _ (by omega) (by omega)), cellAt_of_get (q _ (by omega) (by omega) (hmv _ (by omega)))]; exact c1,
    by rw [cellAt_of_get (g5 _ (by omega) (by omega)), cellAt_of_get (q _ (by omega) (by omega) (hmv _ (by omega)))]; exact c3,
    by rw [wrAt_obj (by omega), wrAt_sts]; exact hw2, ⟨v', ?_, ?_, rfl⟩, q2, q3, q5⟩
   ·rw [cellAt_obj (by omega), cellAt_sts hw2, if_pos ⟨rfl, Nat.le_refl _, by simp⟩]; rfl
   ·rw [lt]
    rw [show (sinceL m ((all (gs X)).take k) ++ [c.rev]).length = (sinceL m ((all (gs X)).take k)).length + 1 by simp]
    refine hg'.of_get (by rw [nx_obj, nx_sts]; exact Nat.le_refl _) (fun b hb => g5 b ?_ ?_)
    ·rw [hblk] at hb; cases hb; omega
    ·rw [hblk] at hb; cases hb; omega
  ·simp only [List.mem_cons, List.mem_nil_iff, or_false, not_or] at hs
   rw [g5 b hs.1 hs.2, q b hb hs.2 hm]
 ·rw [if_neg hm] at lt
  have dm : decide (m ≤ c.rev.1) = false := decide_eq_false hm
  refine rN ?_ (V q3<|V hc1<|V d0<|V d1<|dm)
  have g5 : ∀ b, b ≠ h0.nx + 5 → (h1.obj (h0.nx + 5) (.loop (sinceR h0 tm))).t.get b = h1.t.get b := fun b n2 => get_obj_ne n2 _
  have q : ∀ b, b < h.nx → b ≠ h0.nx + 5 → (h1.obj (h0.nx + 5) (.loop (sinceR h0 tm))).t.get b = h.t.get b := fun b hb hne => by rw [g5 b hne, hget1 b hb hne]
  refine roundEnd_norm hl1 rfl rfl ⟨rfl, mv, ?_, Only.m (ho1.obj (.inl (by simp)) _) _, .inl rfl⟩
  refine ⟨by rw [nx_obj]; omega, fun b hb => by rw [q b (by omega) (by omega)]; exact old b hb, get_obj_self _ _, by rw [q _ (by omega) (by omega)]; exact hd,
   by rw [cellAt_of_get (q _ (by omega) (by omega))]; exact c1, by rw [cellAt_of_get (q _ (by omega) (by omega))]; exact c3, by rw [wrAt_of_get (q _ (by omega) (by omega))]; exact w2,
   ⟨sv, by rw [cellAt_of_get (q _ (by omega) (by omega))]; exact sc, ?_, sb⟩, q2, q3, q5⟩
  rw [lt]
  exact sg.of_get (by rw [nx_obj]; omega) (fun b hb => q b (sg.base hb).2 (by have := (sg.base hb).1; omega))
def PostSince (h : H) (L : List Gn) (m : Nat) (v : AV) (h' : H) : Prop := Only h h' [] ∧ Grows 2 h.nx h' v (sinceL m (all L)).length (rvsC (sinceL m (all L)))
theorem sinceC (h0 : H) (v : AV) (L : List Gn) (m : Nat) (hg : GensAt h0 v L) (hz : Sz 1000 L) : PushC P (.enter 43 [v, n64 m] h0) (PostSince h0 L m) := by
 obtain ⟨s, X, rfl, rfl, hh, -⟩ := hg
 have hso := SliceAt.one hh.1
 unfold n64
 refine pushC_of_codeW (fn := Tryz.f43) (c := bodyC Tryz.f43) Tryz.func43 rfl ?_
 show codeW P 43 21 none _ _ _ _ _
 refine codeW_root ?_
 refine rN ?_ (hso)
 refine ((allC _ s hso).call P).mono P ?_
 rintro v h' ⟨b, rfl, rfl, rfl⟩
 refine rN ?_ (hso)
 obtain ⟨tm, hT⟩ : ∃ tm, tm = (((((((T.e.fill 0 [AV.agg [s], .int .u64 (.ofNat m)]).set 2 (some (.ptr h0.nx 0))).set 3 (some (.ptr (h0.nx + 1) 0))).set 4 (some .nilslice)).set 5 (some (.ptr (h0.nx + 2) 0))).set 7 (some (.agg [s]))).set 8 (some (allV (h0.nx + 3)))) := ⟨_, rfl⟩
 obtain ⟨h1, hH⟩ : ∃ h1, h1 = ((((h0.newCells 55 [s]).newCells 29 [.int .u64 (.ofNat m)]).newCells 42 [.nilslice]).newCells 55 [s]) := ⟨_, rfl⟩
 have q2 : tm.get 2 = some (.ptr h0.nx 0):= by rw [hT]; exact sT
 have q3 : tm.get 3 = some (.ptr (h0.nx + 1) 0):= by rw [hT]; exact sT
 have q5 : tm.get 5 = some (.ptr (h0.nx + 2) 0):= by rw [hT]; exact sT
 have q8 : tm.get 8 = some (allV (h0.nx + 3)):= by rw [hT]; exact sT
 have x1 : h1.nx = h0.nx + 4:= by rw [hH]; rfl
 have o1 : Only h0 h1 []:= by rw [hH]; exact ((((Only.refl _ _).new _ _).new _ _).new _ _).new _ _
 have c1 : cellAt h1 (h0.nx + 1) 0 = some (.int .u64 (.ofNat m)):= by rw [hH]; exact sT
 have c3 : cellAt h1 (h0.nx + 3) 0 = some s:= by rw [hH]; exact sT
 have w2 : wrAt h1 (h0.nx + 2) = true:= by rw [hH]; exact sT
 have c2 : cellAt h1 (h0.nx + 2) 0 = some .nilslice:= by rw [hH]; exact sT
 rw [← hT, ← hH]
 refine st_rf rfl (f := .tmp 8) (ps := #[9]) rfl rfl ?_
 refine rf_walk (g := 82) (cap := [.ptr (h0.nx + 3) 0]) (by rw [evalA_tmp, q8]; rfl) (fun args h => callV_func 82 (by kernel_rfl) [] _ args) ?_
 have hbase : ∀ b, b < h1.nx → (loopH h1 43 21 tm [9] (codeI (bodyC Tryz.f43) (0 :: bodyS)) (codeI (bodyC Tryz.f43) (1 :: bodyS))).t.get b = h1.t.get b := fun b hb => by rw [loopH_get, if_neg (by omega), if_neg (by omega)]
 have hJ0 : SJ h0 s X m (sinceR h0 tm) 0 none (loopH h1 43 21 tm [9] (codeI (bodyC Tryz.f43) (0 :: bodyS)) (codeI (bodyC Tryz.f43) (1 :: bodyS))) := by
  exact ⟨by rw [loopH_nx]; omega, fun b hb => by rw [hbase b (by omega)]; exact o1.2 b hb (by simp), by rw [loopH_get, if_pos (by omega), x1], by rw [loopH_get, if_neg (by omega), if_pos (by omega)],
   by rw [cellAt_of_get (hbase _ (by omega))]; exact c1, by rw [cellAt_of_get (hbase _ (by omega))]; exact c3, by rw [wrAt_of_get (hbase _ (by omega))]; exact w2, ⟨.nilslice, by rw [cellAt_of_get (hbase _ (by omega))]; exact c2, .none, rfl⟩, q2, q3, q5⟩
 rw [x1]
 refine (allRun _ (h0.nx + 5) (h0.nx + 3) s X [h0.nx + 2, h0.nx + 5] (SJ h0 s X m (sinceR h0 tm)) hz ?_ (fun _ _ _ _ hj ho => hj.keep ho) ?_ (fun k mv h hj => ⟨hj.c3, hh.keep hj.o⟩)
  (fun k mv h c hj _ hc => sinceRound h0 s X m tm hz k mv h c hj hc) hJ0).mono P ?_
 ·intro c hc
  rw [loopH_nx, x1]
  simp only [List.mem_cons, List.mem_nil_iff, or_false] at hc
  omega
 ·intro k mv h hj b q
  obtain ⟨sv, _, sg, sb⟩ := hj.sv
  exact (sg.base (sb.trans q)).2
 rintro _ h2 ⟨mv, hj, ho2, -⟩
 obtain ⟨nx, old, hl, hd, -, -, w2, ⟨sv, sc, sg, -⟩, -⟩ := hj
 rw [List.take_length] at sg
 refine ⟨hl, ?_⟩
 obtain ⟨h3, e3⟩ : ∃ h3, h3 = h2.obj (h0.nx + 5) (.loop (loopR 43 21 tm [9] (codeI (bodyC Tryz.f43) (0 :: bodyS)) (codeI (bodyC Tryz.f43) (1 :: bodyS)) (h0.nx + 4) .exhausted)) := ⟨_, rfl⟩
 show blkK 0 _ .norm [h0.nx + 4] tm (h2.obj (h0.nx + 5) (.loop (loopR 43 21 tm [9] (codeI (bodyC Tryz.f43) (0 :: bodyS)) (codeI (bodyC Tryz.f43) (1 :: bodyS)) (h0.nx + 4) .exhausted)))
 rw [← e3]
 have g3 : ∀ b, b ≠ h0.nx + 5 → h3.t.get b = h2.t.get b := fun b hb => by rw [e3, get_obj_ne hb]
 have hd3 : h3.t.get (h0.nx + 4) = some (.deferred (some [])):= by rw [g3 _ (by omega)]; exact hd
 have hc3 : cellAt h3 (h0.nx + 2) 0 = some sv:= by rw [cellAt_of_get (g3 _ (by omega))]; exact sc
 have x3 : h3.nx = h2.nx:= by rw [e3, nx_obj]
 refine rN ?_ (V q5<|hc3)
 refine retW_undefN hd3 rfl ?_
 (conv => arg 2; whnf)
 simp only [B, F, reduceLT, reduceLeDiff, reduceEqDiff, reduceAdd, reduceMul, reduceSub, ↓reduceIte, eq_self]
 refine ⟨⟨by rw [nx_obj]; omega, fun b hb _ => by rw [get_obj_ne (by omega), g3 _ (by omega)]; exact old b hb⟩, ?_⟩
 have hfin : Grows 2 (h0.nx + 6) (h3.obj (h0.nx + 4) (.deferred none)) sv (sinceL m (all (gs X))).length (rvsC (sinceL m (all (gs X)))) :=
  sg.of_get (by rw [nx_obj]; omega) (fun b hb => by have := sg.base hb; rw [get_obj_ne (by omega), g3 _ (by omega)])
 exact hfin.weak (by omega)
end
end Go.Proofs.YtlkngpckibidlaaGreat.W

namespace Go.Proofs.YtlkngpckibidlaaGreat.W
open Go Go.AX
noncomputable section
set_option maxRecDepth 100000
theorem gC_one {x : Gn × AV} (hx : x.2.one = true) : allOne (gC x) = true := by
 have : ∀ v, v ∈ gC x → v.one = true := by
  intro v hv
  simp only [gC, List.mem_cons, List.mem_nil_iff, or_false] at hv
  rcases hv with rfl | rfl | rfl | rfl | rfl | rfl <;> first | rfl | exact hx
 exact allOne_iff.2 this
theorem gCs_one {h : H} {s : AV} {X : List (Gn × AV)} (hh : Has h s X) : allOne (X.flatMap gC) = true := by
 rw [allOne_iff]
 intro v hv
 obtain ⟨x, hx, hv⟩ := List.mem_flatMap.1 hv
 exact allOne_iff.1 (gC_one (SliceAt.one (hh.2 x hx))) v hv
theorem rvs_one (l : List Rv) : allOne (rvsC l) = true := by
 rw [allOne_iff]
 intro v hv
 obtain ⟨x, hx, hv⟩ := List.mem_flatMap.1 hv
 simp only [rvC, List.mem_cons, List.mem_nil_iff, or_false] at hv
 rcases hv with rfl | rfl <;> rfl
theorem gCs_len (X : List (Gn × AV)) : (X.flatMap gC).length = X.length * 6 := flat_len gC 6 gC_len X
theorem rvs_len (l : List Rv) : (rvsC l).length = l.length * 2 := flat_len rvC 2 rvC_len l
structure Cp (h h' : H) (X X' : List (Gn × AV)) (b : Nat) : Prop where
 bb : h.nx ≤ b ∧ b < h'.nx
 wr : wrAt h' b = true
 room : ∀ j, j < (X.length + 1) * 6 → cellAt h' b j ≠ none
 has : Has h' (.slice b 0 X.length (.exact (X.length + 1))) X'
 oo : Only h h' []
 nil : X = [] → X' = []
 last : ∀ Y x, X = Y ++ [x] → ∃ bp, X' = Y ++ [(x.1, .slice bp 0 x.1.puts.length (.exact (x.1.puts.length + 1)))] ∧ h.nx ≤ bp ∧ bp < h'.nx ∧ bp ≠ b ∧ wrAt h' bp = true ∧ ∀ j, j < (x.1.puts.length + 1) * 2 → cellAt h' bp j ≠ none
def PostCp (h : H) (X : List (Gn × AV)) (v : AV) (h' : H) : Prop := ∃ b X', v = .agg [.slice b 0 X.length (.exact (X.length + 1))] ∧ Cp h h' X X' b
theorem mk87 : makeOk P 107 (.agg [.int .u64 (.ofNat 0), .int .u64 (.ofNat 0), .nilslice, .int .u64 (.ofNat 0), .int .u64 (.ofNat 0), .bool false]) = true:= by kernel_rfl
theorem mk35 : makeOk P 31 (.agg [.int .u64 (.ofNat 0), .int .u64 (.ofNat 0)]) = true:= by kernel_rfl
def zG : List AV := [.int .u64 (.ofNat 0), .int .u64 (.ofNat 0), .nilslice, .int .u64 (.ofNat 0), .int .u64 (.ofNat 0), .bool false]
def zR : List AV := [.int .u64 (.ofNat 0), .int .u64 (.ofNat 0)]
theorem make24 {h : H} {l c : Nat} (hl : l ≤ c) (hc : c ≤ 4194304) (j k : IntKind) : makeSliceA P 53 (.int j (.ofNat l)) (.int k (.ofNat c)) h = .val (.slice h.nx 0 l (.exact c)) (h.newCells 107 (repl zG c)) := makeSlice_eq u53 z107 mk87 hl hc j k
theorem make29 {h : H} {l c : Nat} (hl : l ≤ c) (hc : c ≤ 4194304) (j k : IntKind) : makeSliceA P 42 (.int j (.ofNat l)) (.int k (.ofNat c)) h = .val (.slice h.nx 0 l (.exact c)) (h.newCells 31 (repl zR c)) := makeSlice_eq u42 z31 mk35 hl hc j k
theorem flat_last (Y : List (Gn × AV)) (g : Gn) (p p' : AV) (j : Nat) : ((Y ++ [(g, p')]).flatMap gC)[j]? = if j = Y.length * 6 + 2 then some p' else ((Y ++ [(g, p)]).flatMap gC)[j]? := by
 simp only [List.flatMap_append, List.flatMap_cons, List.flatMap_nil, List.append_nil]
 by_cases q : j < Y.length * 6
 ·rw [if_neg (by omega), List.getElem?_append_left (by rw [gCs_len]; exact q), List.getElem?_append_left (by rw [gCs_len]; exact q)]
 ·rw [List.getElem?_append_right (by rw [gCs_len]; omega), List.getElem?_append_right (by rw [gCs_len]; omega), gCs_len]
  obtain ⟨k, rfl⟩ : ∃ k, j = Y.length * 6 + k := ⟨j - Y.length * 6, by omega⟩
  rw [Nat.add_sub_cancel_left]
  match k with
  | 0 => rw [if_neg (by omega)]; rfl
  | 1 => rw [if_neg (by omega)]; rfl
  | 2 => rw [if_pos rfl]; rfl
  | 3 => rw [if_neg (by omega)]; rfl
  | 4 => rw [if_neg (by omega)]; rfl
  | 5 => rw [if_neg (by omega)]; rfl
  | k + 6 => rw [if_neg (by omega), List.getElem?_eq_none (by simp [gC]), List.getElem?_eq_none (by simp [gC])]
theorem copiedC (h : H) (s : AV) (X : List (Gn × AV)) (hh : Has h s X) (hn : Nz s X) (hz : Sz 1000 (gs X)) : PushC P (.enter 56 [.agg [s]] h) (PostCp h X) := by
 have hso := SliceAt.one hh.1
 have hlen := hh.1.len (P := P) u53
 have hX : X.length ≤ 1000:= by have := hz.1; simpa [gs] using this
 have w1 : wrapF .i64 (Int.ofNat X.length + Int.ofNat 1) = Int.ofNat (X.length + 1) := i64_add (by omega)
 refine pushC_of_codeW (fn := Tryz.f56) (c := bodyC Tryz.f56) Tryz.func56 rfl ?_
 show codeW P 56 51 none _ _ _ _ _
 refine codeW_root ?_
 repeat' (first | ((with_reducible refine st1 ?_); (conv => whnf); (with_reducible refine ⟨?_⟩)) | ((with_reducible refine st_dw ?_ rfl rfl ?_ ?_); exact rfl; kernel_rfl; (conv => arg 5; whnf); (conv => arg 3; whnf)) | ((with_reducible refine retW_intro rfl ?_); (conv => arg 2; whnf)) | ((with_reducible first | refine iB ?_ ?_ | refine gWt ?_ ?_ | refine gWf ?_ ?_ | refine gXt ?_ ?_ | refine gXf ?_ ?_) <;> intro hb <;> (try simp only [hb])) | ((with_reducible show drawI _ _ _ _ _ _ _ _ _); first | ((with_reducible refine kI_rd ?_ ?_); exact rfl) | ((with_reducible apply kI_rg); exact rfl; exact rfl) | ((with_reducible refine kI_cv ?_ ?_ ?_); exact rfl; kernel_rfl) | ((with_reducible apply kI_al); exact rfl; exact rfl) | ((with_reducible refine kI_ex ?_ ?_ ?_ ?_ ?_); exact rfl; kernel_rfl; exact rfl) | ((with_reducible apply kI_eg); exact rfl; kernel_rfl; exact rfl) | ((with_reducible refine kI_nl ?_ ?_))) | ((with_reducible show eOk _ _ _ _ _ _); first | (exact eok_nil) | (refine ke_rd ?_ ?_ ?_; exact rfl) | (apply ke_rg; exact rfl; exact rfl) | (refine ke_cv ?_ ?_ ?_ ?_; exact rfl; kernel_rfl) | (apply ke_fl; exact rfl) | (apply ke_al; exact rfl; exact rfl)) | ((with_reducible refine freshIs_new ?_); kernel_rfl) | (simp only [B, xB, F, reduceLT, reduceLeDiff, reduceEqDiff, reduceAdd, reduceMul, reduceSub, ↓reduceIte, eq_self, hso, hlen, w1, make24 (show X.length ≤ X.length + 1 by omega) (show X.length + 1 ≤ 4194304 by omega)]))
 obtain ⟨h1, hH⟩ : ∃ h1, h1 = ((h.newCells 55 [s]).newCells 55 [.nilslice]).newCells 107 (repl zG (X.length + 1)) := ⟨_, rfl⟩
 have x1 : h1.nx = h.nx + 3:= by rw [hH]; rfl
 have o1 : Only h h1 []:= by rw [hH]; exact (((Only.refl _ _).new _ _).new _ _).new _ _
 have c0 : cellAt h1 h.nx 0 = some s:= by rw [hH]; exact sT
 have c1 : cellAt h1 (h.nx + 1) 0 = some .nilslice:= by rw [hH]; exact sT
 have w0 : wrAt h1 (h.nx + 1) = true:= by rw [hH]; exact sT
 have w2 : wrAt h1 (h.nx + 2) = true:= by rw [hH]; exact sT
 have cz : ∀ j, cellAt h1 (h.nx + 2) j = (repl zG (X.length + 1))[j]? := fun j => by rw [hH, cellAt_new, if_pos (by rfl)]
 have hzl : (repl zG (X.length + 1)).length = (X.length + 1) * 6:= by rw [repl_len]; rfl
 have hh1 := hh.keep o1
 rw [← hH]
 refine exW_copy (e := 107) (size := 6) u53 ok107 (by kernel_rfl) hh1.1 (gCs_len X) (fun q => hn.1 (by have := congrArg List.length q; rw [gCs_len] at this; simp at this; exact List.length_eq_zero_iff.1 (by omega))) w2 (fun i hi => ?_) (gCs_one hh) ?_
 ·rw [gCs_len] at hi
  rw [Nat.zero_add, cz, List.getElem?_eq_getElem (by omega)]; simp
 intro h2 x2 g2 w2' cc
 rw [gCs_len] at cc
 have o2 : Only h h2 [] := ⟨by omega, fun b hb _ => by rw [g2 b (by omega)]; exact o1.2 b hb (by simp)⟩
 have c0 : cellAt h2 h.nx 0 = some s:= by rw [cellAt_of_get (g2 _ (by omega))]; exact c0
 have c1 : cellAt h2 (h.nx + 1) 0 = some .nilslice:= by rw [cellAt_of_get (g2 _ (by omega))]; exact c1
 have w0 : wrAt h2 (h.nx + 1) = true:= by rw [wrAt_of_get (g2 _ (by omega))]; exact w0
 have hlo : ∀ j, j < X.length * 6 → cellAt h2 (h.nx + 2) j = (X.flatMap gC)[j]? := fun j hj => by rw [cc, if_pos ⟨Nat.zero_le _, by omega⟩, Nat.sub_zero]
 have room : ∀ j, j < (X.length + 1) * 6 → cellAt h2 (h.nx + 2) j ≠ none := fun j hj => by
  by_cases q : j < X.length * 6
  ·rw [hlo j q, List.getElem?_eq_getElem (by rw [gCs_len]; exact q)]; simp
  ·rw [cc, if_neg (by omega), cz, List.getElem?_eq_getElem (by omega)]; simp
 have hh2 : Has h2 (.slice (h.nx + 2) 0 X.length (.exact (X.length + 1))) X := ⟨.cell _ _ _ _ _ (by omega) (fun i hi => by rw [gCs_len] at hi; rw [Nat.zero_add]; exact hlo i hi), fun x hx => (hh.2 x hx).only o2 (fun _ _ => by simp)⟩
 rcases List.eq_nil_or_concat X with hX0 | ⟨Y, x, hX0⟩
 ·have d1 : decide (0 < X.length) = false:= by rw [hX0]; rfl
  repeat' (first | ((with_reducible refine st1 ?_); (conv => whnf); (with_reducible refine ⟨?_⟩)) | ((with_reducible refine st_dw ?_ rfl rfl ?_ ?_); exact rfl; kernel_rfl; (conv => arg 5; whnf); (conv => arg 3; whnf)) | ((with_reducible refine retW_intro rfl ?_); (conv => arg 2; whnf)) | ((with_reducible first | refine iB ?_ ?_ | refine gWt ?_ ?_ | refine gWf ?_ ?_ | refine gXt ?_ ?_ | refine gXf ?_ ?_) <;> intro hb <;> (try simp only [hb])) | ((with_reducible show drawI _ _ _ _ _ _ _ _ _); first | ((with_reducible refine kI_rd ?_ ?_); exact rfl) | ((with_reducible apply kI_rg); exact rfl; exact rfl) | ((with_reducible refine kI_cv ?_ ?_ ?_); exact rfl; kernel_rfl) | ((with_reducible apply kI_al); exact rfl; exact rfl) | ((with_reducible refine kI_ex ?_ ?_ ?_ ?_ ?_); exact rfl; kernel_rfl; exact rfl) | ((with_reducible apply kI_eg); exact rfl; kernel_rfl; exact rfl) | ((with_reducible refine kI_nl ?_ ?_))) | ((with_reducible show eOk _ _ _ _ _ _); first | (exact eok_nil) | (refine ke_rd ?_ ?_ ?_; exact rfl) | (apply ke_rg; exact rfl; exact rfl) | (refine ke_cv ?_ ?_ ?_ ?_; exact rfl; kernel_rfl) | (apply ke_fl; exact rfl) | (apply ke_al; exact rfl; exact rfl)) | ((with_reducible refine freshIs_new ?_); kernel_rfl) | (simp only [B, xB, F, reduceLT, reduceLeDiff, reduceEqDiff, reduceAdd, reduceMul, reduceSub, ↓reduceIte, eq_self, hlen, d1, put_sts, w0, c1, cellAt_sts w0]))
  refine ⟨h.nx + 2, X, rfl, ⟨by omega, by rw [nx_sts]; omega⟩, by rw [wrAt_sts]; exact w2', fun j hj => by rw [cellAt_of_get (get_sts _ _ _ _ (by omega))]; exact room j hj, ?_, o2.sts (.inr (by omega)), fun q => q, fun Y x q => ?_⟩
  ·exact hh2.only ((Only.refl h2 [h.nx + 1]).sts (.inl (by simp))) (fun b q => by cases q; simp) (fun x hx => by rw [hX0] at hx; cases hx)
  ·rw [hX0] at q; simp at q
 ·rw [List.concat_eq_append] at hX0
  have hXl : X.length = Y.length + 1:= by rw [hX0]; simp
  have d1 : decide (0 < X.length) = true := decide_eq_true (by omega)
  have hx : X[X.length - 1]? = some x:= by rw [hX0]; simp
  have hxm : x ∈ X := List.mem_of_getElem? hx
  have e1 : wrapF .i64 (Int.ofNat X.length - Int.ofNat 1) = Int.ofNat (X.length - 1) := i64_sub (by omega) (by omega)
  have lt1 : (X.length - 1 < X.length) = True:= by simp; omega
  obtain ⟨a0, a1, a2, a3, a4, a5⟩ := gC_at hh2.1 hx
  simp only [Nat.zero_add] at a2
  have hpl := (hh.2 x hxm).len (P := P) u42
  have hm : x.1.puts.length ≤ 1000 := hz.2 x.1 (List.mem_map.2 ⟨x, hxm, rfl⟩)
  have w3 : wrapF .i64 (Int.ofNat x.1.puts.length + Int.ofNat 1) = Int.ofNat (x.1.puts.length + 1) := i64_add (by omega)
  have bn : (h.nx + 2 = h2.nx) = False:= by simp; omega
  have hsl := hh2.2 x hxm
  repeat' (first | ((with_reducible refine st1 ?_); (conv => whnf); (with_reducible refine ⟨?_⟩)) | ((with_reducible refine st_dw ?_ rfl rfl ?_ ?_); exact rfl; kernel_rfl; (conv => arg 5; whnf); (conv => arg 3; whnf)) | ((with_reducible refine retW_intro rfl ?_); (conv => arg 2; whnf)) | ((with_reducible first | refine iB ?_ ?_ | refine gWt ?_ ?_ | refine gWf ?_ ?_ | refine gXt ?_ ?_ | refine gXf ?_ ?_) <;> intro hb <;> (try simp only [hb])) | ((with_reducible show drawI _ _ _ _ _ _ _ _ _); first | ((with_reducible refine kI_rd ?_ ?_); exact rfl) | ((with_reducible apply kI_rg); exact rfl; exact rfl) | ((with_reducible refine kI_cv ?_ ?_ ?_); exact rfl; kernel_rfl) | ((with_reducible apply kI_al); exact rfl; exact rfl) | ((with_reducible refine kI_ex ?_ ?_ ?_ ?_ ?_); exact rfl; kernel_rfl; exact rfl) | ((with_reducible apply kI_eg); exact rfl; kernel_rfl; exact rfl) | ((with_reducible refine kI_nl ?_ ?_))) | ((with_reducible show eOk _ _ _ _ _ _); first | (exact eok_nil) | (refine ke_rd ?_ ?_ ?_; exact rfl) | (apply ke_rg; exact rfl; exact rfl) | (refine ke_cv ?_ ?_ ?_ ?_; exact rfl; kernel_rfl) | (apply ke_fl; exact rfl) | (apply ke_al; exact rfl; exact rfl)) | ((with_reducible refine freshIs_new ?_); kernel_rfl) | (simp only [B, xB, F, reduceLT, reduceLeDiff, reduceEqDiff, reduceAdd, reduceMul, reduceSub, ↓reduceIte, eq_self, hlen, d1, e1, lt1, a2, hpl, w3, bn, make29 (show x.1.puts.length ≤ x.1.puts.length + 1 by omega) (show x.1.puts.length + 1 ≤ 4194304 by omega)]))
  have cz3 : ∀ j, cellAt (h2.newCells 31 (repl zR (x.1.puts.length + 1))) h2.nx j = (repl zR (x.1.puts.length + 1))[j]? := fun j => by rw [cellAt_new, if_pos rfl]
  have hzl3 : (repl zR (x.1.puts.length + 1)).length = (x.1.puts.length + 1) * 2:= by rw [repl_len]; rfl
  refine exW_copy (e := 31) (size := 2) u42 ok31 (by kernel_rfl) (hsl.only ((Only.refl h2 []).new _ _) (fun _ _ => by simp)) (rvs_len _) (fun q => hn.2 Y x hX0 (by have := congrArg List.length q; rw [rvs_len] at this; simp at this; exact List.length_eq_zero_iff.1 (by omega)))
   (by rw [wrAt_new, if_pos rfl]) (fun i hi => ?_) (rvs_one _) ?_
  ·rw [rvs_len] at hi
   rw [Nat.zero_add, cz3, List.getElem?_eq_getElem (by omega)]; simp
  intro h4 x4 g4 w4 cc4
  rw [rvs_len] at cc4
  rw [nx_new] at x4
  have g24 : ∀ b, b < h2.nx → h4.t.get b = h2.t.get b := fun b hb => by rw [g4 b (by omega), get_new _ _ _ (by omega)]
  have wb4 : wrAt h4 (h.nx + 2) = true:= by rw [wrAt_of_get (g24 _ (by omega))]; exact w2'
  have w04 : wrAt h4 (h.nx + 1) = true:= by rw [wrAt_of_get (g24 _ (by omega))]; exact w0
  have c14 : cellAt h4 (h.nx + 1) 0 = some .nilslice:= by rw [cellAt_of_get (g24 _ (by omega))]; exact c1
  have a24 : cellAt h4 (h.nx + 2) ((X.length - 1) * 6 + 2) = some x.2:= by rw [cellAt_of_get (g24 _ (by omega))]; exact a2
  have o4 : Only h h4 [] := ⟨by omega, fun b hb _ => by rw [g24 b (by omega)]; exact o2.2 b hb (by simp)⟩
  repeat' (first | ((with_reducible refine st1 ?_); (conv => whnf); (with_reducible refine ⟨?_⟩)) | ((with_reducible refine st_dw ?_ rfl rfl ?_ ?_); exact rfl; kernel_rfl; (conv => arg 5; whnf); (conv => arg 3; whnf)) | ((with_reducible refine retW_intro rfl ?_); (conv => arg 2; whnf)) | ((with_reducible first | refine iB ?_ ?_ | refine gWt ?_ ?_ | refine gWf ?_ ?_ | refine gXt ?_ ?_ | refine gXf ?_ ?_) <;> intro hb <;> (try simp only [hb])) | ((with_reducible show drawI _ _ _ _ _ _ _ _ _); first | ((with_reducible refine kI_rd ?_ ?_); exact rfl) | ((with_reducible apply kI_rg); exact rfl; exact rfl) | ((with_reducible refine kI_cv ?_ ?_ ?_); exact rfl; kernel_rfl) | ((with_reducible apply kI_al); exact rfl; exact rfl) | ((with_reducible refine kI_ex ?_ ?_ ?_ ?_ ?_); exact rfl; kernel_rfl; exact rfl) | ((with_reducible apply kI_eg); exact rfl; kernel_rfl; exact rfl) | ((with_reducible refine kI_nl ?_ ?_))) | ((with_reducible show eOk _ _ _ _ _ _); first | (exact eok_nil) | (refine ke_rd ?_ ?_ ?_; exact rfl) | (apply ke_rg; exact rfl; exact rfl) | (refine ke_cv ?_ ?_ ?_ ?_; exact rfl; kernel_rfl) | (apply ke_fl; exact rfl) | (apply ke_al; exact rfl; exact rfl)) | ((with_reducible refine freshIs_new ?_); kernel_rfl) | (simp only [B, xB, F, reduceLT, reduceLeDiff, reduceEqDiff, reduceAdd, reduceMul, reduceSub, ↓reduceIte, eq_self, put_sts, wb4, w04, c14, a24, cellAt_sts w04, wrAt_sts]))
  have hYl : (X.length - 1) * 6 + 2 = Y.length * 6 + 2:= by rw [hXl]; rfl
  rw [hYl]
  obtain ⟨p', hp'⟩ : ∃ p', p' = AV.slice h2.nx 0 x.1.puts.length (.exact (x.1.puts.length + 1)) := ⟨_, rfl⟩
  rw [← hp']
  have wb5 : wrAt (h4.sts (h.nx + 2) (Y.length * 6 + 2) [p']) (h.nx + 1) = true:= by rw [wrAt_sts]; exact w04
  have g6 : ∀ b v, b ≠ h.nx + 2 → b ≠ h.nx + 1 → ((h4.sts (h.nx + 2) (Y.length * 6 + 2) [p']).sts (h.nx + 1) 0 [v]).t.get b = h4.t.get b := fun b v n1 n2 => by rw [get_sts _ _ _ _ n2, get_sts _ _ _ _ n1]
  have cb : ∀ j v, cellAt ((h4.sts (h.nx + 2) (Y.length * 6 + 2) [p']).sts (h.nx + 1) 0 [v]) (h.nx + 2) j = if j = Y.length * 6 + 2 then some p' else cellAt h2 (h.nx + 2) j := fun j v => by
   rw [cellAt_of_get (get_sts _ _ _ _ (by omega)), cellAt_sts wb4]
   by_cases q : j = Y.length * 6 + 2
   ·subst q; rw [if_pos ⟨rfl, Nat.le_refl _, by simp⟩, if_pos rfl, Nat.sub_self]; rfl
   ·rw [if_neg (by simp only [List.length_cons, List.length_nil]; omega), if_neg q, cellAt_of_get (g24 _ (by omega))]
  have o6 : ∀ v, Only h ((h4.sts (h.nx + 2) (Y.length * 6 + 2) [p']).sts (h.nx + 1) 0 [v]) [] := fun v => (o4.sts (.inr (by omega))).sts (.inr (by omega))
  refine ⟨h.nx + 2, Y ++ [(x.1, p')], rfl, ⟨by omega, by rw [nx_sts, nx_sts]; omega⟩, by rw [wrAt_sts, wrAt_sts]; exact wb4, fun j hj => ?_, ⟨?_, fun y hy => ?_⟩, o6 _, fun q => by rw [hX0] at q; simp at q, fun Y1 x1' q => ?_⟩
  ·rw [cb]
   split
   ·simp
   ·exact room j hj
  ·have hlen2 : (Y ++ [(x.1, p')]).length = X.length:= by rw [hXl]; simp
   refine hlen2 ▸ (.cell _ _ _ _ _ (by rw [nx_sts, nx_sts]; omega) (fun j hj => ?_))
   rw [gCs_len, hlen2] at hj
   rw [Nat.zero_add, cb, flat_last Y x.1 x.2 p' j]
   split
   ·rfl
   ·rw [hlo j hj, hX0]
  ·rcases List.mem_append.1 hy with hy | hy
   ·exact (hh.2 y (by rw [hX0]; exact List.mem_append_left _ hy)).only (o6 _) (fun _ _ => by simp)
   ·rw [List.mem_singleton] at hy
    subst hy
    subst hp'
    refine .cell _ _ _ _ _ (by rw [nx_sts, nx_sts]; omega) (fun j hj => ?_)
    have hj : j < x.1.puts.length * 2:= by rw [rvs_len] at hj; exact hj
    rw [cellAt_of_get (g6 _ _ (by omega) (by omega)), Nat.zero_add, cc4, if_pos ⟨by omega, by omega⟩, Nat.sub_zero]
  ·rw [hX0] at q
   obtain ⟨rfl, q2⟩ := List.append_inj' q rfl
   simp at q2
   subst q2
   refine ⟨h2.nx, by rw [hp'], by omega, by rw [nx_sts, nx_sts]; omega, by omega, by rw [wrAt_sts, wrAt_sts]; exact w4, fun j hj => ?_⟩
   rw [cellAt_of_get (g6 _ _ (by omega) (by omega)), cc4]
   split
   ·rw [List.getElem?_eq_getElem (by rw [rvs_len]; omega)]; simp
   ·rw [cz3, List.getElem?_eq_getElem (by omega)]; simp
end
end Go.Proofs.YtlkngpckibidlaaGreat.W

namespace Go.Proofs.YtlkngpckibidlaaGreat.W
open Go Go.AX
noncomputable section
set_option maxRecDepth 100000
def putL (L : List Gn) (r : Rv) (made nth : Nat) : List Gn :=
 match L.getLast? with
 | some g => if g.ended then L ++ [⟨made, nth, [r], (0, 0), false⟩] else L.dropLast ++ [{ g with puts := g.puts ++ [r] }]
 | none => [⟨made, nth, [r], (0, 0), false⟩]
def Blk (p : Nat → Prop) (s : AV) (X : List (Gn × AV)) : Prop := (∀ b, blkOf s = some b → p b) ∧ ∀ x, x ∈ X → ∀ b, blkOf x.2 = some b → p b
def GensP (p : Nat → Prop) (h : H) (v : AV) (L : List Gn) : Prop := ∃ s X, v = .agg [s] ∧ X.map (·.1) = L ∧ Has h s X ∧ Nz s X ∧ Blk p s X
theorem GensAt.p {h : H} {v : AV} {L : List Gn} (hg : GensAt h v L) : GensP (fun b => b < h.nx) h v L := by
 obtain ⟨s, X, rfl, rfl, hh, hn⟩ := hg
 exact ⟨s, X, rfl, rfl, hh, hn, fun b q => SliceAt.blk hh.1 b q, fun x hx b q => SliceAt.blk (hh.2 x hx) b q⟩
theorem GensP.at {p : Nat → Prop} {h : H} {v : AV} {L : List Gn} (hg : GensP p h v L) : GensAt h v L := by
 obtain ⟨s, X, rfl, rfl, hh, hn, _⟩ := hg; exact ⟨s, X, rfl, rfl, hh, hn⟩
theorem GensP.mono {p q : Nat → Prop} {h : H} {v : AV} {L : List Gn} (hg : GensP p h v L) (hpq : ∀ b, b < h.nx → p b → q b) : GensP q h v L := by
 obtain ⟨s, X, rfl, rfl, hh, hn, hb⟩ := hg
 exact ⟨s, X, rfl, rfl, hh, hn, fun b q => hpq b (SliceAt.blk hh.1 b q) (hb.1 b q), fun x hx b q => hpq b (SliceAt.blk (hh.2 x hx) b q) (hb.2 x hx b q)⟩
theorem GensP.keep {p : Nat → Prop} {h h' : H} {v : AV} {L : List Gn} (hg : GensP p h v L) {S : List Nat} (ho : Only h h' S) (hS : ∀ c, c ∈ S → ¬ p c) : GensP p h' v L := by
 obtain ⟨s, X, rfl, rfl, hh, hn, hb⟩ := hg
 exact ⟨s, X, rfl, rfl, hh.only ho (fun b q hs => hS b hs (hb.1 b q)) (fun x hx b q hs => hS b hs (hb.2 x hx b q)), hn, hb⟩
theorem GensP.keep0 {p : Nat → Prop} {h h' : H} {v : AV} {L : List Gn} (hg : GensP p h v L) (ho : Only h h' []) : GensP p h' v L := hg.keep ho (fun _ q => by cases q)
def PostGens (p : Nat → Prop) (h : H) (L : List Gn) (v : AV) (h' : H) : Prop := Only h h' [] ∧ GensP p h' v L
theorem gs_last (X : List (Gn × AV)) : X = [] ∨ ∃ Y x, X = Y ++ [x] := by
 rcases List.eq_nil_or_concat X with h | ⟨Y, x, h⟩
 ·exact .inl h
 ·exact .inr ⟨Y, x, by rw [h, List.concat_eq_append]⟩
theorem putC (p : Nat → Prop) (h : H) (v : AV) (L : List Gn) (r : Rv) (made nth : Nat) (hp : ∀ b, h.nx ≤ b → p b) (hg : GensP p h v L) (hz : Sz 900 L) : PushC P (.enter 50 [v, rvA r, n64 made, n64 nth] h) (PostGens p h (putL L r made nth)) := by
 obtain ⟨s, X, rfl, rfl, hh, hn, hbk⟩ := hg
 have hob : ∀ x, x ∈ X → ∀ b, blkOf x.2 = some b → p b := hbk.2
 have hso := SliceAt.one hh.1
 have hXz : X.length ≤ 900:= by have := hz.1; simpa using this
 have e0 : rvA r = .agg [.int .u64 (.ofNat r.1), .int .u64 (.ofNat r.2)] := rfl
 rw [e0]
 unfold n64
 refine pushC_of_codeW (fn := Tryz.f50) (c := bodyC Tryz.f50) Tryz.func50 rfl ?_
 show codeW P 50 42 none _ _ _ _ _
 refine codeW_root ?_
 refine rT ?_ (hso)
 obtain ⟨h1, hH⟩ : ∃ h1, h1 = (((h.newCells 55 [s]).newCells 31 [.int .u64 (.ofNat r.1), .int .u64 (.ofNat r.2)]).newCells 55 [.nilslice]) := ⟨_, rfl⟩
 have x1 : h1.nx = h.nx + 3:= by rw [hH]; rfl
 have o1 : Only h h1 []:= by rw [hH]; exact (((Only.refl _ _).new _ _).new _ _).new _ _
 have c0 : cellAt h1 h.nx 0 = some s:= by rw [hH]; exact sT
 have r0 : cellAt h1 (h.nx + 1) 0 = some (.int .u64 (.ofNat r.1)):= by rw [hH]; exact sT
 have r1 : cellAt h1 (h.nx + 1) 1 = some (.int .u64 (.ofNat r.2)):= by rw [hH]; exact sT
 have z0 : cellAt h1 (h.nx + 2) 0 = some .nilslice:= by rw [hH]; exact sT
 have w0 : wrAt h1 (h.nx + 2) = true:= by rw [hH]; exact sT
 rw [← hH]
 refine ((copiedC h1 s X (hh.keep o1) hn (hz.le (by omega))).call P).mono P ?_
 rintro v h2 ⟨b, X', rfl, bb, wb, room, has, o2, hnil, hlast⟩
 have c0 : cellAt h2 h.nx 0 = some s:= by rw [o2.cell (by omega) (by simp)]; exact c0
 have r0 : cellAt h2 (h.nx + 1) 0 = some (.int .u64 (.ofNat r.1)):= by rw [o2.cell (by omega) (by simp)]; exact r0
 have r1 : cellAt h2 (h.nx + 1) 1 = some (.int .u64 (.ofNat r.2)):= by rw [o2.cell (by omega) (by simp)]; exact r1
 have z0 : cellAt h2 (h.nx + 2) 0 = some .nilslice:= by rw [o2.cell (by omega) (by simp)]; exact z0
 have w0 : wrAt h2 (h.nx + 2) = true:= by rw [o2.wr (by omega) (by simp)]; exact w0
 have x2 := o2.1
 have n0 : (h.nx = h2.nx) = False:= by simp; omega
 have n1 : (h.nx + 1 = h2.nx) = False:= by simp; omega
 have n2 : (h.nx + 2 = h2.nx) = False:= by simp; omega
 refine rT ?_ (V c0<|n0)
 have oh : Only h h2 [] := o1.trans o2 (fun _ h => h) (fun _ h => by cases h)
 have o3 : Only h2 ((h2.newCells 55 [.nilslice]).sts h2.nx 0 [.slice b 0 X.length (.exact (X.length + 1))]) [] := ((Only.refl _ _).new _ _).sts (.inr (Nat.le_refl _))
 have x3 : ((h2.newCells 55 [.nilslice]).sts h2.nx 0 [.slice b 0 X.length (.exact (X.length + 1))]).nx = h2.nx + 1:= by rw [nx_sts, nx_new]
 have s3 : cellAt ((h2.newCells 55 [.nilslice]).sts h2.nx 0 [.slice b 0 X.length (.exact (X.length + 1))]) h2.nx 0 = some (.slice b 0 X.length (.exact (X.length + 1))):= by exact sT
 have ws3 : wrAt ((h2.newCells 55 [.nilslice]).sts h2.nx 0 [.slice b 0 X.length (.exact (X.length + 1))]) h2.nx = true:= by exact sT
 generalize ((h2.newCells 55 [.nilslice]).sts h2.nx 0 [.slice b 0 X.length (.exact (X.length + 1))]) = h3 at *
 refine ((openC h3 _ (X.map (·.1)) ⟨s, X, rfl, rfl, hh.keep (oh.trans o3 (fun _ h => h) (fun _ h => by cases h)), hn⟩ (hz.le (by omega))).call P).mono P ?_
 rintro v h4 ⟨rfl, o4⟩
 have g4 : ∀ c, c < h2.nx → h4.t.get c = h2.t.get c := fun c hc => by rw [o4.2 c (by omega) (by simp), o3.2 c hc (by simp)]
 have x4 := o4.1
 have s4 : cellAt h4 h2.nx 0 = some (.slice b 0 X.length (.exact (X.length + 1))):= by rw [o4.cell (by omega) (by simp)]; exact s3
 have ws4 : wrAt h4 h2.nx = true:= by rw [o4.wr (by omega) (by simp)]; exact ws3
 have r0 : cellAt h4 (h.nx + 1) 0 = some (.int .u64 (.ofNat r.1)):= by rw [cellAt_of_get (g4 _ (by omega))]; exact r0
 have r1 : cellAt h4 (h.nx + 1) 1 = some (.int .u64 (.ofNat r.2)):= by rw [cellAt_of_get (g4 _ (by omega))]; exact r1
 have z0 : cellAt h4 (h.nx + 2) 0 = some .nilslice:= by rw [cellAt_of_get (g4 _ (by omega))]; exact z0
 have w0 : wrAt h4 (h.nx + 2) = true:= by rw [wrAt_of_get (g4 _ (by omega))]; exact w0
 have wb4 : wrAt h4 b = true:= by rw [wrAt_of_get (g4 _ (by omega))]; exact wb
 have oh4 : Only h h4 [] := (oh.trans o3 (fun _ h => h) (fun _ h => by cases h)).trans o4 (fun _ h => h) (fun _ h => by cases h)
 have hb4 : ∀ j, cellAt h4 b j = cellAt h2 b j := cellAt_of_get (g4 _ (by omega))
 have has4 : Has h4 (.slice b 0 X.length (.exact (X.length + 1))) X' := has.keep (o3.trans o4 (fun _ h => h) (fun _ h => by cases h))
 have nb2 : (b = h2.nx) = False:= by simp; omega
 cases hop : opn (X.map (·.1)) with
 | true =>
  rcases gs_last X with hX0 | ⟨Y, x, hX0⟩
  ·rw [hX0] at hop; cases hop
  obtain ⟨bp, hX', bp1, bp2, bp3, wbp, roomp⟩ := hlast Y x hX0
  have hXl : X.length = Y.length + 1:= by rw [hX0]; simp
  have e1 : wrapF .i64 (Int.ofNat X.length - Int.ofNat 1) = Int.ofNat (X.length - 1) := i64_sub (by omega) (by omega)
  have lt1 : (X.length - 1 < X.length) = True:= by simp; omega
  have hx' : X'[X.length - 1]? = some (x.1, .slice bp 0 x.1.puts.length (.exact (x.1.puts.length + 1))):= by rw [hX', hXl]; simp
  have hXl' : X'.length = X.length:= by rw [hX', hXl]; simp
  have hs4 := has4.1
  rw [hXl'] at hs4
  have a2 := (gC_at hs4 hx').2.2.1
  simp only [Nat.zero_add] at a2
  have hbn : (b = h4.nx) = False:= by simp; omega
  have hbn1 : (h.nx + 1 = h4.nx) = False:= by simp; omega
  have hbp4 : bp < h4.nx:= by omega
  refine rT ?_ (V s4<|V e1<|V lt1<|V a2<|V r0<|V r1<|V hbn<|hbn1)
  refine exW_place (n := 1) (Nat.le_refl _) rfl ?_ (fun i hi => ?_) rfl ?_
  ·rw [wrAt_new, if_neg (by omega), wrAt_of_get (g4 _ (by omega))]; exact wbp
  ·rw [cellAt_new, if_neg (by omega), cellAt_of_get (g4 _ (by omega))]
   exact roomp _ (by simp only [List.length_cons, List.length_nil] at hi; omega)
  intro h5 x5 g5 w5 cc5
  rw [nx_new] at x5
  have g54 : ∀ c, c < h4.nx → c ≠ bp → h5.t.get c = h4.t.get c := fun c hc hne => by rw [g5 c hne, get_new _ _ _ (by omega)]
  have wb5 : wrAt h5 b = true:= by rw [wrAt_of_get (g54 _ (by omega) (by omega))]; exact wb4
  have s5 : cellAt h5 h2.nx 0 = some (.slice b 0 X.length (.exact (X.length + 1))):= by rw [cellAt_of_get (g54 _ (by omega) (by omega))]; exact s4
  have r05 : cellAt h5 (h.nx + 1) 0 = some (.int .u64 (.ofNat r.1)):= by rw [cellAt_of_get (g54 _ (by omega) (by omega))]; exact r0
  have r15 : cellAt h5 (h.nx + 1) 1 = some (.int .u64 (.ofNat r.2)):= by rw [cellAt_of_get (g54 _ (by omega) (by omega))]; exact r1
  have z05 : cellAt h5 (h.nx + 2) 0 = some .nilslice:= by rw [cellAt_of_get (g54 _ (by omega) (by omega))]; exact z0
  have w05 : wrAt h5 (h.nx + 2) = true:= by rw [wrAt_of_get (g54 _ (by omega) (by omega))]; exact w0
  have a25 : cellAt h5 b ((X.length - 1) * 6 + 2) = some (.slice bp 0 x.1.puts.length (.exact (x.1.puts.length + 1))):= by rw [cellAt_of_get (g54 _ (by omega) (by omega))]; exact a2
  have nb0 : (b = h.nx + 1) = False:= by simp; omega
  have nb1 : (b = h.nx + 2) = False:= by simp; omega
  have nb2' : (h2.nx = b) = False:= by simp; omega
  have nb3 : (h.nx + 2 = b) = False:= by simp; omega
  have nb4 : (h.nx + 1 = b) = False:= by simp; omega
  repeat' (first | ((with_reducible refine st1 ?_); (conv => whnf); (with_reducible refine ⟨?_⟩)) | ((with_reducible refine st_dw ?_ rfl rfl ?_ ?_); exact rfl; kernel_rfl; (conv => arg 5; whnf); (conv => arg 3; whnf)) | ((with_reducible refine retW_intro rfl ?_); (conv => arg 2; whnf)) | ((with_reducible first | refine iB ?_ ?_ | refine gWt ?_ ?_ | refine gWf ?_ ?_ | refine gXt ?_ ?_ | refine gXf ?_ ?_) <;> intro hb <;> (try simp only [hb])) | ((with_reducible show drawI _ _ _ _ _ _ _ _ _); first | ((with_reducible refine kI_rd ?_ ?_); exact rfl) | ((with_reducible apply kI_rg); exact rfl; exact rfl) | ((with_reducible refine kI_cv ?_ ?_ ?_); exact rfl; kernel_rfl) | ((with_reducible apply kI_al); exact rfl; exact rfl) | ((with_reducible refine kI_ex ?_ ?_ ?_ ?_ ?_); exact rfl; kernel_rfl; exact rfl) | ((with_reducible apply kI_eg); exact rfl; kernel_rfl; exact rfl) | ((with_reducible refine kI_nl ?_ ?_))) | ((with_reducible show eOk _ _ _ _ _ _); first | (exact eok_nil) | (refine ke_rd ?_ ?_ ?_; exact rfl) | (apply ke_rg; exact rfl; exact rfl) | (refine ke_cv ?_ ?_ ?_ ?_; exact rfl; kernel_rfl) | (apply ke_fl; exact rfl) | (apply ke_al; exact rfl; exact rfl)) | ((with_reducible refine freshIs_new ?_); kernel_rfl) | (simp only [B, xB, F, reduceLT, reduceLeDiff, reduceEqDiff, reduceAdd, reduceMul, reduceSub, ↓reduceIte, eq_self, s4, s5, e1, lt1, a25, r05, r15, z05, hbn, hbn1, put_sts, wb5, w05, cellAt_sts wb5, nb0, nb1, nb2', nb3, nb4, wrAt_sts]))
  have hYl : (X.length - 1) * 6 + 2 = Y.length * 6 + 2:= by rw [hXl]; rfl
  rw [hYl]
  obtain ⟨p', hp'⟩ : ∃ p', p' = AV.slice bp 0 (x.1.puts.length + 1) (.exact (x.1.puts.length + 1)) := ⟨_, rfl⟩
  rw [← hp']
  have wb6 : wrAt (h5.sts b (Y.length * 6 + 2) [p']) (h.nx + 2) = true:= by rw [wrAt_sts]; exact w05
  have g6 : ∀ c v, c ≠ b → c ≠ h.nx + 2 → ((h5.sts b (Y.length * 6 + 2) [p']).sts (h.nx + 2) 0 [v]).t.get c = h5.t.get c := fun c v n1 n2 => by rw [get_sts _ _ _ _ n2, get_sts _ _ _ _ n1]
  have cb : ∀ j v, cellAt ((h5.sts b (Y.length * 6 + 2) [p']).sts (h.nx + 2) 0 [v]) b j = if j = Y.length * 6 + 2 then some p' else cellAt h2 b j := fun j v => by
   rw [cellAt_of_get (get_sts _ _ _ _ (by omega)), cellAt_sts wb5]
   by_cases q : j = Y.length * 6 + 2
   ·subst q; rw [if_pos ⟨rfl, Nat.le_refl _, by simp⟩, if_pos rfl, Nat.sub_self]; rfl
   ·rw [if_neg (by simp only [List.length_cons, List.length_nil]; omega), if_neg q, cellAt_of_get (g54 _ (by omega) (by omega)), hb4]
  have x6 : ∀ v, ((h5.sts b (Y.length * 6 + 2) [p']).sts (h.nx + 2) 0 [v]).nx = h4.nx + 1 := fun v => by rw [nx_sts, nx_sts, x5]
  have o6 : ∀ v, Only h ((h5.sts b (Y.length * 6 + 2) [p']).sts (h.nx + 2) 0 [v]) [] := fun v => ⟨by rw [x6]; omega, fun c hc _ => by rw [g6 c v (by omega) (by omega), g54 c (by omega) (by omega)]; exact oh4.2 c hc (by simp)⟩
  have hput : putL (X.map (·.1)) r made nth = (Y ++ [({ x.1 with puts := x.1.puts ++ [r] }, p')]).map (fun z : Gn × AV => z.1) := by
   have hend : x.1.ended = false := by
    rw [hX0] at hop; simp only [opn, List.map_append, List.map_cons, List.map_nil, List.getLast?_append, List.getLast?_singleton, Option.some_or] at hop
    simpa using hop
   unfold putL
   rw [hX0]
   simp only [List.map_append, List.map_cons, List.map_nil, List.getLast?_append, List.getLast?_singleton, Option.some_or, hend, List.dropLast_concat]
   simp
  refine ⟨o6 _, .slice b 0 X.length (.exact (X.length + 1)), Y ++ [({ x.1 with puts := x.1.puts ++ [r] }, p')], rfl, hput.symm, ⟨?_, fun y hy => ?_⟩, ⟨fun q => by simp at q, fun y z hy q => ?_⟩, fun c q => ?_, fun y hy c q => ?_⟩
  ·have hlen2 : (Y ++ [(({ x.1 with puts := x.1.puts ++ [r] } : Gn), p')]).length = X.length:= by rw [hXl]; simp
   have hfl : (Y ++ [(({ x.1 with puts := x.1.puts ++ [r] } : Gn), p')]).flatMap gC = (Y ++ [(x.1, p')]).flatMap gC := by
    simp only [List.flatMap_append, List.flatMap_cons, List.flatMap_nil]; rfl
   rw [hfl, hlen2]
   refine .cell _ _ _ _ _ (by rw [x6]; omega) (fun j hj => ?_)
   rw [gCs_len] at hj
   have hj : j < X.length * 6:= by rw [hXl]; simpa using hj
   rw [Nat.zero_add, cb, flat_last Y x.1 (.slice bp 0 x.1.puts.length (.exact (x.1.puts.length + 1))) p' j]
   split
   ·rfl
   ·rw [← hX']
    have hs2 := has.1
    rw [hXl'] at hs2
    cases hs2 with
    | cell _ _ _ _ _ _ hc => have := hc j (by rw [gCs_len, hXl']; exact hj); rwa [Nat.zero_add] at this
  ·rcases List.mem_append.1 hy with hy | hy
   ·exact (hh.2 y (by rw [hX0]; exact List.mem_append_left _ hy)).only (o6 _) (fun _ _ => by simp)
   ·rw [List.mem_singleton] at hy
    subst hy
    subst hp'
    have hsl2 := has.2 (x.1, .slice bp 0 x.1.puts.length (.exact (x.1.puts.length + 1))) (by rw [hX']; simp)
    have hln : (x.1.puts ++ [r]).length = x.1.puts.length + 1:= by simp
    show SliceAt _ _ (x.1.puts ++ [r]).length (rvsC (x.1.puts ++ [r]))
    rw [hln]
    refine .cell _ _ _ _ _ (by rw [x6]; omega) (fun j hj => ?_)
    have hj : j < (x.1.puts.length + 1) * 2:= by rw [rvs_len, hln] at hj; exact hj
    rw [cellAt_of_get (g6 _ _ (by omega) (by omega)), Nat.zero_add, cc5, ← rvsC_snoc]
    by_cases q : x.1.puts.length * 2 ≤ j
    ·rw [if_pos ⟨by omega, by simp only [List.length_cons, List.length_nil]; omega⟩, List.getElem?_append_right (by rw [rvs_len]; exact q), rvs_len, Nat.zero_add]
    ·rw [if_neg (by omega), cellAt_new, if_neg (by omega), cellAt_of_get (g4 _ (by omega)), List.getElem?_append_left (by rw [rvs_len]; omega)]
     cases hsl2 with
     | cell _ _ _ _ _ _ hc => have := hc j (by rw [rvs_len]; show j < x.1.puts.length * 2; omega); rwa [Nat.zero_add] at this
  ·obtain ⟨_, q2⟩ := List.append_inj' hy rfl
   simp only [List.cons.injEq, and_true] at q2
   rw [← q2] at q
   simp at q
  ·cases q; exact hp _ (by omega)
  ·rcases List.mem_append.1 hy with hy | hy
   ·exact (hob y (by rw [hX0]; exact List.mem_append_left _ hy) c q)
   ·rw [List.mem_singleton] at hy
    subst hy
    subst hp'
    cases q; exact hp _ (by omega)
 | false =>
  refine rT ?_ (s4)
  have hx3 : ∀ l, (h4.newCells 107 l).nx = h4.nx + 1 := fun l => nx_new _ _ _
  refine exW_place (n := 1) (Nat.le_refl _) rfl ?_ (fun i hi => ?_) rfl ?_
  ·rw [wrAt_new, if_neg (by omega)]; exact wb4
  ·rw [cellAt_new, if_neg (by omega), hb4]
   exact room _ (by simp only [List.length_cons, List.length_nil] at hi; omega)
  intro h5 x5 g5 w5 cc5
  rw [nx_new] at x5
  have g54 : ∀ c, c < h4.nx → c ≠ b → h5.t.get c = h4.t.get c := fun c hc hne => by rw [g5 c hne, get_new _ _ _ (by omega)]
  have ws5 : wrAt h5 h2.nx = true:= by rw [wrAt_of_get (g54 _ (by omega) (by omega))]; exact ws4
  have s5 : cellAt h5 h2.nx 0 = some (.slice b 0 X.length (.exact (X.length + 1))):= by rw [cellAt_of_get (g54 _ (by omega) (by omega))]; exact s4
  have e1 : wrapF .i64 (Int.ofNat (X.length + 1) - Int.ofNat 1) = Int.ofNat X.length := by
   have := i64_sub (a := X.length + 1) (b := 1) (by omega) (by omega); rwa [Nat.add_sub_cancel] at this
  have lt1 : (X.length < X.length + 1) = True:= by simp
  have a25 : cellAt h5 b (X.length * 6 + 2) = some .nilslice:= by rw [cc5, if_pos ⟨by omega, by simp only [List.length_cons, List.length_nil]; omega⟩, show X.length * 6 + 2 - (0 + X.length * 6) = 2 by omega]; rfl
  have r05 : cellAt h5 (h.nx + 1) 0 = some (.int .u64 (.ofNat r.1)):= by rw [cellAt_of_get (g54 _ (by omega) (by omega))]; exact r0
  have r15 : cellAt h5 (h.nx + 1) 1 = some (.int .u64 (.ofNat r.2)):= by rw [cellAt_of_get (g54 _ (by omega) (by omega))]; exact r1
  have z05 : cellAt h5 (h.nx + 2) 0 = some .nilslice:= by rw [cellAt_of_get (g54 _ (by omega) (by omega))]; exact z0
  have w05 : wrAt h5 (h.nx + 2) = true:= by rw [wrAt_of_get (g54 _ (by omega) (by omega))]; exact w0
  have nb5 : (h.nx + 1 = h2.nx) = False:= by simp; omega
  have x5' := x5
  have nb6 : (b = h5.nx) = False:= by simp; omega
  have nb7 : (h.nx + 1 = h5.nx) = False:= by simp; omega
  repeat' (first | ((with_reducible refine st1 ?_); (conv => whnf); (with_reducible refine ⟨?_⟩)) | ((with_reducible refine st_dw ?_ rfl rfl ?_ ?_); exact rfl; kernel_rfl; (conv => arg 5; whnf); (conv => arg 3; whnf)) | ((with_reducible refine retW_intro rfl ?_); (conv => arg 2; whnf)) | ((with_reducible first | refine iB ?_ ?_ | refine gWt ?_ ?_ | refine gWf ?_ ?_ | refine gXt ?_ ?_ | refine gXf ?_ ?_) <;> intro hb <;> (try simp only [hb])) | ((with_reducible show drawI _ _ _ _ _ _ _ _ _); first | ((with_reducible refine kI_rd ?_ ?_); exact rfl) | ((with_reducible apply kI_rg); exact rfl; exact rfl) | ((with_reducible refine kI_cv ?_ ?_ ?_); exact rfl; kernel_rfl) | ((with_reducible apply kI_al); exact rfl; exact rfl) | ((with_reducible refine kI_ex ?_ ?_ ?_ ?_ ?_); exact rfl; kernel_rfl; exact rfl) | ((with_reducible apply kI_eg); exact rfl; kernel_rfl; exact rfl) | ((with_reducible refine kI_nl ?_ ?_))) | ((with_reducible show eOk _ _ _ _ _ _); first | (exact eok_nil) | (refine ke_rd ?_ ?_ ?_; exact rfl) | (apply ke_rg; exact rfl; exact rfl) | (refine ke_cv ?_ ?_ ?_ ?_; exact rfl; kernel_rfl) | (apply ke_fl; exact rfl) | (apply ke_al; exact rfl; exact rfl)) | ((with_reducible refine freshIs_new ?_); kernel_rfl) | (simp only [B, xB, F, reduceLT, reduceLeDiff, reduceEqDiff, reduceAdd, reduceMul, reduceSub, ↓reduceIte, eq_self, s5, put_sts, ws5, e1, lt1, cellAt_sts ws5, nb2, a25, r05, r15, nb5, nb6, nb7]))
  refine exW_grows (base := h5.nx) (.none (h := (h5.sts h2.nx 0 [.slice b 0 (X.length + 1) (.exact (X.length + 1))]).newCells 31 [.int .u64 (.ofNat r.1), .int .u64 (.ofNat r.2)])) (by rw [nx_new, nx_sts]; omega) (by omega) (by omega) rfl (by omega) ?_
  intro p' h6 hg' hnx hold hblk
  rw [List.nil_append, Nat.zero_add] at hg'
  rw [nx_new, nx_sts] at hnx hblk
  have g65 : ∀ c, c < h5.nx → c ≠ h2.nx → h6.t.get c = h5.t.get c := fun c hc hne => by rw [hold c (by rw [nx_new, nx_sts]; omega) (by simp [blkOf]), get_new _ _ _ (by rw [nx_sts]; omega), get_sts _ _ _ _ hne]
  have hp1 := hg'.cells
  have hp2 := hg'.one
  have wb6 : wrAt h6 b = true:= by rw [wrAt_of_get (g65 _ (by omega) (by omega))]; exact w5
  have w06 : wrAt h6 (h.nx + 2) = true:= by rw [wrAt_of_get (g65 _ (by omega) (by omega))]; exact w05
  have a26 : cellAt h6 b (X.length * 6 + 2) = some .nilslice:= by rw [cellAt_of_get (g65 _ (by omega) (by omega))]; exact a25
  have r06 : cellAt h6 (h.nx + 1) 0 = some (.int .u64 (.ofNat r.1)):= by rw [cellAt_of_get (g65 _ (by omega) (by omega))]; exact r05
  have r16 : cellAt h6 (h.nx + 1) 1 = some (.int .u64 (.ofNat r.2)):= by rw [cellAt_of_get (g65 _ (by omega) (by omega))]; exact r15
  have z06 : cellAt h6 (h.nx + 2) 0 = some .nilslice:= by rw [cellAt_of_get (g65 _ (by omega) (by omega))]; exact z05
  have s6 : cellAt h6 h2.nx 0 = some (.slice b 0 (X.length + 1) (.exact (X.length + 1))) := by
   rw [hold _ (by rw [nx_new, nx_sts]; omega) (by simp [blkOf]) |> cellAt_of_get, cellAt_of_get (get_new _ _ _ (by rw [nx_sts]; omega)), cellAt_sts ws5, if_pos ⟨rfl, Nat.le_refl _, by simp⟩]; rfl
  have nb0 : (b = h.nx + 1) = False:= by simp; omega
  have nb1 : (b = h.nx + 2) = False:= by simp; omega
  have nb2' : (h2.nx = b) = False:= by simp; omega
  have nb3 : (h.nx + 2 = b) = False:= by simp; omega
  have nb4 : (h.nx + 1 = b) = False:= by simp; omega
  repeat' (first | ((with_reducible refine st1 ?_); (conv => whnf); (with_reducible refine ⟨?_⟩)) | ((with_reducible refine st_dw ?_ rfl rfl ?_ ?_); exact rfl; kernel_rfl; (conv => arg 5; whnf); (conv => arg 3; whnf)) | ((with_reducible refine retW_intro rfl ?_); (conv => arg 2; whnf)) | ((with_reducible first | refine iB ?_ ?_ | refine gWt ?_ ?_ | refine gWf ?_ ?_ | refine gXt ?_ ?_ | refine gXf ?_ ?_) <;> intro hb <;> (try simp only [hb])) | ((with_reducible show drawI _ _ _ _ _ _ _ _ _); first | ((with_reducible refine kI_rd ?_ ?_); exact rfl) | ((with_reducible apply kI_rg); exact rfl; exact rfl) | ((with_reducible refine kI_cv ?_ ?_ ?_); exact rfl; kernel_rfl) | ((with_reducible apply kI_al); exact rfl; exact rfl) | ((with_reducible refine kI_ex ?_ ?_ ?_ ?_ ?_); exact rfl; kernel_rfl; exact rfl) | ((with_reducible apply kI_eg); exact rfl; kernel_rfl; exact rfl) | ((with_reducible refine kI_nl ?_ ?_))) | ((with_reducible show eOk _ _ _ _ _ _); first | (exact eok_nil) | (refine ke_rd ?_ ?_ ?_; exact rfl) | (apply ke_rg; exact rfl; exact rfl) | (refine ke_cv ?_ ?_ ?_ ?_; exact rfl; kernel_rfl) | (apply ke_fl; exact rfl) | (apply ke_al; exact rfl; exact rfl)) | ((with_reducible refine freshIs_new ?_); kernel_rfl) | (simp only [B, xB, F, reduceLT, reduceLeDiff, reduceEqDiff, reduceAdd, reduceMul, reduceSub, ↓reduceIte, eq_self, s6, put_sts, wb6, w06, a26, r06, r16, z06, hp1, hp2, cellAt_sts wb6, nb0, nb1, nb2', nb3, nb4, wrAt_sts]))
  obtain ⟨g, hgd⟩ : ∃ g : Gn, g = ⟨made, nth, [r], (0, 0), false⟩ := ⟨_, rfl⟩
  have hfst : X'.map (fun z : Gn × AV => z.1) = X.map (fun z : Gn × AV => z.1) := by
   rcases gs_last X with hX0 | ⟨Y, x, hX0⟩
   ·rw [hnil hX0, hX0]
   ·obtain ⟨bp, hX', _⟩ := hlast Y x hX0
    rw [hX', hX0]; simp
  have hXl' : X'.length = X.length:= by have := congrArg List.length hfst; simpa using this
  have hput : putL (X.map (·.1)) r made nth = (X' ++ [(g, p')]).map (fun z : Gn × AV => z.1) := by
   rw [List.map_append, hfst, hgd]
   unfold putL
   rcases gs_last X with hX0 | ⟨Y, x, hX0⟩
   ·rw [hX0]; rfl
   ·have hend : x.1.ended = true := by
     rw [hX0] at hop; simp only [opn, List.map_append, List.map_cons, List.map_nil, List.getLast?_append, List.getLast?_singleton, Option.some_or] at hop
     simpa using hop
    rw [hX0]
    simp only [List.map_append, List.map_cons, List.map_nil, List.getLast?_append, List.getLast?_singleton, Option.some_or, hend, if_true]
  have cb : ∀ j v, cellAt ((h6.sts b (X.length * 6 + 2) [p']).sts (h.nx + 2) 0 [v]) b j = if j = X.length * 6 + 2 then some p' else cellAt h5 b j := fun j v => by
   rw [cellAt_of_get (get_sts _ _ _ _ (by omega)), cellAt_sts wb6]
   by_cases q : j = X.length * 6 + 2
   ·subst q; rw [if_pos ⟨rfl, Nat.le_refl _, by simp⟩, if_pos rfl, Nat.sub_self]; rfl
   ·rw [if_neg (by simp only [List.length_cons, List.length_nil]; omega), if_neg q, cellAt_of_get (g65 _ (by omega) (by omega))]
  have x7 : ∀ v, ((h6.sts b (X.length * 6 + 2) [p']).sts (h.nx + 2) 0 [v]).nx = h6.nx := fun v => by rw [nx_sts, nx_sts]
  have o7 : ∀ v, Only h ((h6.sts b (X.length * 6 + 2) [p']).sts (h.nx + 2) 0 [v]) [] := fun v => ⟨by rw [x7]; omega, fun c hc _ => by
   rw [get_sts _ _ _ _ (by omega), get_sts _ _ _ _ (by omega), g65 c (by omega) (by omega), g54 c (by omega) (by omega)]; exact oh4.2 c hc (by simp)⟩
  have hlen2 : (X' ++ [(g, p')]).length = X.length + 1:= by rw [List.length_append, hXl']; rfl
  refine ⟨o7 _, .slice b 0 (X.length + 1) (.exact (X.length + 1)), X' ++ [(g, p')], rfl, hput.symm, ⟨?_, fun y hy => ?_⟩, ⟨fun q => by simp at q, fun y z hy q => ?_⟩, fun c q => ?_, fun y hy c q => ?_⟩
  ·rw [hlen2]
   refine .cell _ _ _ _ _ (by rw [x7]; omega) (fun j hj => ?_)
   rw [gCs_len, hlen2] at hj
   rw [Nat.zero_add, cb, flat_last X' g .nilslice p' j, hXl']
   split
   ·rfl
   ·rw [cc5, Nat.zero_add]
    simp only [List.flatMap_append, List.flatMap_cons, List.flatMap_nil, List.append_nil]
    by_cases q : X.length * 6 ≤ j
    ·rw [if_pos ⟨q, by simp only [List.length_cons, List.length_nil]; omega⟩, List.getElem?_append_right (by rw [gCs_len, hXl']; exact q), gCs_len, hXl', hgd]; rfl
    ·rw [if_neg (by omega), cellAt_new, if_neg (by omega), hb4, List.getElem?_append_left (by rw [gCs_len, hXl']; omega)]
     have hs2 := has.1
     rw [hXl'] at hs2
     cases hs2 with
     | cell _ _ _ _ _ _ hc => have := hc j (by rw [gCs_len, hXl']; omega); rwa [Nat.zero_add] at this
  ·rcases List.mem_append.1 hy with hy | hy
   ·have hsl := has4.2 y hy
    have hbk := SliceAt.blk hsl
    have o47 : ∀ c, c < h4.nx → c ≠ b → c ≠ h2.nx → c ≠ h.nx + 2 → ∀ v, ((h6.sts b (X.length * 6 + 2) [p']).sts (h.nx + 2) 0 [v]).t.get c = h4.t.get c := fun c hc n1 n2 n3 v => by
     rw [get_sts _ _ _ _ n3, get_sts _ _ _ _ n1, g65 c (by omega) n2, g54 c hc n1]
    refine hsl.only (S := [b, h2.nx, h.nx + 2]) ⟨by rw [x7]; omega, fun c hc hs => ?_⟩ (fun c hc => ?_)
    ·simp only [List.mem_cons, List.mem_nil_iff, or_false, not_or] at hs
     exact o47 c hc hs.1 hs.2.1 hs.2.2 _
    ·rcases gs_last X with hX0 | ⟨Y, x, hX0⟩
     ·rw [hnil hX0] at hy; cases hy
     ·obtain ⟨bp, hX', bp1, bp2, bp3, _⟩ := hlast Y x hX0
      rw [hX'] at hy
      rcases List.mem_append.1 hy with hy | hy
      ·have := SliceAt.blk (hh.2 y (by rw [hX0]; exact List.mem_append_left _ hy)) c hc
       simp only [List.mem_cons, List.mem_nil_iff, or_false, not_or]; omega
      ·rw [List.mem_singleton] at hy
       subst hy
       cases hc
       simp only [List.mem_cons, List.mem_nil_iff, or_false, not_or]; omega
   ·rw [List.mem_singleton] at hy
    subst hy
    rw [hgd]
    refine (hg'.slice).only (S := [b, h.nx + 2]) ((Only.refl h6 _).sts (.inl (by simp)) |>.sts (.inl (by simp))) (fun c hc => ?_)
    rw [hblk] at hc; cases hc
    simp only [List.mem_cons, List.mem_nil_iff, or_false, not_or]; omega
  ·obtain ⟨_, q2⟩ := List.append_inj' hy rfl
   simp only [List.cons.injEq, and_true] at q2
   rw [← q2, hgd] at q
   simp at q
  ·cases q; exact hp _ (by omega)
  ·rcases List.mem_append.1 hy with hy | hy
   ·rcases gs_last X with hX0 | ⟨Y, x, hX0⟩
    ·rw [hnil hX0] at hy; cases hy
    ·obtain ⟨bp, hX', bp1, bp2, bp3, _⟩ := hlast Y x hX0
     rw [hX'] at hy
     rcases List.mem_append.1 hy with hy | hy
     ·exact (hob y (by rw [hX0]; exact List.mem_append_left _ hy) c q)
     ·rw [List.mem_singleton] at hy
      subst hy
      cases q; exact hp _ (by omega)
   ·rw [List.mem_singleton] at hy
    subst hy
    have := (hg'.base q).1
    exact hp _ (by omega)
end
end Go.Proofs.YtlkngpckibidlaaGreat.W

namespace Go.Proofs.YtlkngpckibidlaaGreat.W
open Go Go.AX
noncomputable section
set_option maxRecDepth 100000
def errV (n : Nat) : AV := .int .i64 (.ofNat n)
def PostE (p : Nat → Prop) (h : H) (L : List Gn) (e : Nat) (v : AV) (h' : H) : Prop := Only h h' [] ∧ ∃ g, v = .tuple [g, errV e] ∧ GensP p h' g L
def putP (L : List Gn) (r : Rv) : List Gn := if fitsB L r then putL L r r.1 1 else L
def putE (L : List Gn) (r : Rv) : Nat := if fitsB L r then 0 else 2
def offP (p : Nat → Prop) (lo hi : Nat) (b : Nat) : Prop := p b ∧ (b < lo ∨ hi ≤ b)
theorem PutC (p : Nat → Prop) (h : H) (v : AV) (L : List Gn) (r : Rv) (hp : ∀ b, h.nx ≤ b → p b) (hg : GensP p h v L) (hz : Sz 900 L) : PushC P (.enter 18 [v, rvA r] h) (PostE p h (putP L r) (putE L r)) := by
 have hg0 := hg
 obtain ⟨s, X, rfl, rfl, hh, hn, hbk⟩ := hg
 have hso := SliceAt.one hh.1
 have e0 : rvA r = .agg [.int .u64 (.ofNat r.1), .int .u64 (.ofNat r.2)] := rfl
 rw [e0]
 refine pushC_of_codeW (fn := Tryz.f18) (c := bodyC Tryz.f18) Tryz.func18 rfl ?_
 show codeW P 18 16 none _ _ _ _ _
 refine codeW_root ?_
 refine rN ?_ (hso)
 obtain ⟨h1, hH⟩ : ∃ h1, h1 = (((h.newCells 55 [s]).newCells 31 [.int .u64 (.ofNat r.1), .int .u64 (.ofNat r.2)]).newCells 55 [.nilslice]) := ⟨_, rfl⟩
 have x1 : h1.nx = h.nx + 3:= by rw [hH]; rfl
 have o1 : Only h h1 []:= by rw [hH]; exact (((Only.refl _ _).new _ _).new _ _).new _ _
 have c0 : cellAt h1 h.nx 0 = some s:= by rw [hH]; exact sT
 have r0 : cellAt h1 (h.nx + 1) 0 = some (.int .u64 (.ofNat r.1)):= by rw [hH]; exact sT
 have r1 : cellAt h1 (h.nx + 1) 1 = some (.int .u64 (.ofNat r.2)):= by rw [hH]; exact sT
 have z0 : cellAt h1 (h.nx + 2) 0 = some .nilslice:= by rw [hH]; exact sT
 have w0 : wrAt h1 (h.nx + 2) = true:= by rw [hH]; exact sT
 rw [← hH]
 refine ((fitsC h1 _ _ r (hg0.at.keep o1) (hz.le (by omega))).call P).mono P ?_
 rintro v h2 ⟨rfl, o2⟩
 have oo : Only h h2 [] := o1.trans o2 (fun _ h => h) (fun _ h => by cases h)
 have x2 := o2.1
 have c0 : cellAt h2 h.nx 0 = some s:= by rw [o2.cell (by omega) (by simp)]; exact c0
 have r0 : cellAt h2 (h.nx + 1) 0 = some (.int .u64 (.ofNat r.1)):= by rw [o2.cell (by omega) (by simp)]; exact r0
 have r1 : cellAt h2 (h.nx + 1) 1 = some (.int .u64 (.ofNat r.2)):= by rw [o2.cell (by omega) (by simp)]; exact r1
 have z0 : cellAt h2 (h.nx + 2) 0 = some .nilslice:= by rw [o2.cell (by omega) (by simp)]; exact z0
 have w0 : wrAt h2 (h.nx + 2) = true:= by rw [o2.wr (by omega) (by simp)]; exact w0
 have hg2 : GensP (offP p h.nx h2.nx) h2 (.agg [s]) (X.map (·.1)) := (hg0.mono fun b hb q => ⟨q, .inl hb⟩).keep0 oo
 have ho2 : ∀ v, Only h2 (h2.sts (h.nx + 2) 0 [v]) [h.nx + 2] := fun v => (Only.refl _ _).sts (.inl (by simp))
 have hoff : ∀ c, c ∈ [h.nx + 2] → ¬ offP p h.nx h2.nx c := fun c hc q => by rw [List.mem_singleton] at hc; subst hc; have := q.2; omega
 unfold PostE putP putE errV
 cases hf : fitsB (X.map (·.1)) r with
 | false =>
  repeat' (first | ((with_reducible refine st1 ?_); (conv => whnf); (with_reducible refine ⟨?_⟩)) | ((with_reducible refine retW_intro rfl ?_); (conv => arg 2; whnf)) | ((with_reducible first | refine iB ?_ ?_ | refine gWt ?_ ?_ | refine gWf ?_ ?_) <;> intro hb <;> (try simp only [hb])) | (simp only [B, F, reduceLT, reduceLeDiff, reduceEqDiff, reduceAdd, reduceMul, reduceSub, ↓reduceIte, eq_self, c0, z0, put_sts, w0, cellAt_sts w0, hso]))
  exact ⟨oo.sts (.inr (by omega)), _, rfl, (hg2.keep (ho2 _) hoff).mono fun b _ q => q.1⟩
 | true =>
  refine rN ?_ (V c0<|V r0<|V r1<|z0)
  refine ((putC (offP p h.nx h2.nx) h2 _ _ r r.1 1 (fun b hb => ⟨hp b (by omega), .inr hb⟩) hg2 hz).call P).mono P ?_
  rintro v h3 ⟨o3, hg3⟩
  have hg30 := hg3
  obtain ⟨s3, X3, rfl, -, hh3, -, -⟩ := hg3
  have hso3 := SliceAt.one hh3.1
  have w3 : wrAt h3 (h.nx + 2) = true:= by rw [o3.wr (by omega) (by simp)]; exact w0
  have z3 : cellAt h3 (h.nx + 2) 0 = some .nilslice:= by rw [o3.cell (by omega) (by simp)]; exact z0
  have oo3 : Only h h3 [] := oo.trans o3 (fun _ h => h) (fun _ h => by cases h)
  have x3 := o3.1
  have o34 : ∀ v, Only h3 (h3.sts (h.nx + 2) 0 [v]) [h.nx + 2] := fun v => (Only.refl _ _).sts (.inl (by simp))
  repeat' (first | ((with_reducible refine st1 ?_); (conv => whnf); (with_reducible refine ⟨?_⟩)) | ((with_reducible refine retW_intro rfl ?_); (conv => arg 2; whnf)) | ((with_reducible first | refine iB ?_ ?_ | refine gWt ?_ ?_ | refine gWf ?_ ?_) <;> intro hb <;> (try simp only [hb])) | (simp only [B, F, reduceLT, reduceLeDiff, reduceEqDiff, reduceAdd, reduceMul, reduceSub, ↓reduceIte, eq_self, z3, put_sts, w3, cellAt_sts w3, hso3]))
  exact ⟨oo3.sts (.inr (by omega)), _, rfl, (hg30.keep (o34 _) hoff).mono fun b _ q => q.1⟩
def tombL (L : List Gn) (r : Rv) : List Gn :=
 match L.getLast? with
 | some g => L.dropLast ++ [{ g with en := r, ended := true }]
 | none => []
def tombP (L : List Gn) (r : Rv) : List Gn := if fitsB L r && opn L then tombL L r else L
def tombE (L : List Gn) (r : Rv) : Nat := if fitsB L r then (if opn L then 0 else 5) else 2
def Opq (L : List Gn) : Prop := ∀ Y g, L = Y ++ [g] → g.ended = false → g.puts ≠ []
theorem flat_at (Y : List (Gn × AV)) (g : Gn × AV) (j : Nat) : ((Y ++ [g]).flatMap gC)[j]? = if j < Y.length * 6 then (Y.flatMap gC)[j]? else (gC g)[j - Y.length * 6]? := by
 simp only [List.flatMap_append, List.flatMap_cons, List.flatMap_nil, List.append_nil]
 by_cases q : j < Y.length * 6
 ·rw [if_pos q, List.getElem?_append_left (by rw [gCs_len]; exact q)]
 ·rw [if_neg q, List.getElem?_append_right (by rw [gCs_len]; omega), gCs_len]
theorem TombC (p : Nat → Prop) (h : H) (v : AV) (L : List Gn) (r : Rv) (hp : ∀ b, h.nx ≤ b → p b) (hg : GensP p h v L) (hz : Sz 900 L) (hq : Opq L) : PushC P (.enter 24 [v, rvA r] h) (PostE p h (tombP L r) (tombE L r)) := by
 have hg0 := hg
 obtain ⟨s, X, rfl, rfl, hh, hn, hbk⟩ := hg
 have hso := SliceAt.one hh.1
 have hXz : X.length ≤ 900:= by have := hz.1; simpa using this
 have e0 : rvA r = .agg [.int .u64 (.ofNat r.1), .int .u64 (.ofNat r.2)] := rfl
 rw [e0]
 refine pushC_of_codeW (fn := Tryz.f24) (c := bodyC Tryz.f24) Tryz.func24 rfl ?_
 show codeW P 24 36 none _ _ _ _ _
 refine codeW_root ?_
 refine rN ?_ (hso)
 obtain ⟨h1, hH⟩ : ∃ h1, h1 = (((h.newCells 55 [s]).newCells 31 [.int .u64 (.ofNat r.1), .int .u64 (.ofNat r.2)]).newCells 55 [.nilslice]) := ⟨_, rfl⟩
 have x1 : h1.nx = h.nx + 3:= by rw [hH]; rfl
 have o1 : Only h h1 []:= by rw [hH]; exact (((Only.refl _ _).new _ _).new _ _).new _ _
 have c0 : cellAt h1 h.nx 0 = some s:= by rw [hH]; exact sT
 have r0 : cellAt h1 (h.nx + 1) 0 = some (.int .u64 (.ofNat r.1)):= by rw [hH]; exact sT
 have r1 : cellAt h1 (h.nx + 1) 1 = some (.int .u64 (.ofNat r.2)):= by rw [hH]; exact sT
 have z0 : cellAt h1 (h.nx + 2) 0 = some .nilslice:= by rw [hH]; exact sT
 have w0 : wrAt h1 (h.nx + 2) = true:= by rw [hH]; exact sT
 rw [← hH]
 refine ((fitsC h1 _ _ r (hg0.at.keep o1) (hz.le (by omega))).call P).mono P ?_
 rintro v h2 ⟨rfl, o2⟩
 have oo : Only h h2 [] := o1.trans o2 (fun _ h => h) (fun _ h => by cases h)
 have x2 := o2.1
 have c0 : cellAt h2 h.nx 0 = some s:= by rw [o2.cell (by omega) (by simp)]; exact c0
 have r0 : cellAt h2 (h.nx + 1) 0 = some (.int .u64 (.ofNat r.1)):= by rw [o2.cell (by omega) (by simp)]; exact r0
 have r1 : cellAt h2 (h.nx + 1) 1 = some (.int .u64 (.ofNat r.2)):= by rw [o2.cell (by omega) (by simp)]; exact r1
 have z0 : cellAt h2 (h.nx + 2) 0 = some .nilslice:= by rw [o2.cell (by omega) (by simp)]; exact z0
 have w0 : wrAt h2 (h.nx + 2) = true:= by rw [o2.wr (by omega) (by simp)]; exact w0
 have hg2 : GensP (offP p h.nx h2.nx) h2 (.agg [s]) (X.map (·.1)) := (hg0.mono fun b hb q => ⟨q, .inl hb⟩).keep0 oo
 have ho2 : ∀ v, Only h2 (h2.sts (h.nx + 2) 0 [v]) [h.nx + 2] := fun v => (Only.refl _ _).sts (.inl (by simp))
 have hoff : ∀ c, c ∈ [h.nx + 2] → ¬ offP p h.nx h2.nx c := fun c hc q => by rw [List.mem_singleton] at hc; subst hc; have := q.2; omega
 unfold PostE tombP tombE errV
 cases hf : fitsB (X.map (·.1)) r with
 | false =>
  repeat' (first | ((with_reducible refine st1 ?_); (conv => whnf); (with_reducible refine ⟨?_⟩)) | ((with_reducible refine retW_intro rfl ?_); (conv => arg 2; whnf)) | ((with_reducible first | refine iB ?_ ?_ | refine gWt ?_ ?_ | refine gWf ?_ ?_) <;> intro hb <;> (try simp only [hb])) | (simp only [B, F, reduceLT, reduceLeDiff, reduceEqDiff, reduceAdd, reduceMul, reduceSub, ↓reduceIte, eq_self, c0, z0, put_sts, w0, cellAt_sts w0, hso]))
  exact ⟨oo.sts (.inr (by omega)), _, rfl, (hg2.keep (ho2 _) hoff).mono fun b _ q => q.1⟩
 | true =>
  refine rN ?_ (c0)
  refine ((openC h2 _ _ hg2.at (hz.le (by omega))).call P).mono P ?_
  rintro v h3 ⟨rfl, o3⟩
  have x3 := o3.1
  have oo3 : Only h h3 [] := oo.trans o3 (fun _ h => h) (fun _ h => by cases h)
  have c0 : cellAt h3 h.nx 0 = some s:= by rw [o3.cell (by omega) (by simp)]; exact c0
  have r0 : cellAt h3 (h.nx + 1) 0 = some (.int .u64 (.ofNat r.1)):= by rw [o3.cell (by omega) (by simp)]; exact r0
  have r1 : cellAt h3 (h.nx + 1) 1 = some (.int .u64 (.ofNat r.2)):= by rw [o3.cell (by omega) (by simp)]; exact r1
  have z0 : cellAt h3 (h.nx + 2) 0 = some .nilslice:= by rw [o3.cell (by omega) (by simp)]; exact z0
  have w0 : wrAt h3 (h.nx + 2) = true:= by rw [o3.wr (by omega) (by simp)]; exact w0
  have ho3 : ∀ v, Only h3 (h3.sts (h.nx + 2) 0 [v]) [h.nx + 2] := fun v => (Only.refl _ _).sts (.inl (by simp))
  cases hop : opn (X.map (·.1)) with
  | false =>
   repeat' (first | ((with_reducible refine st1 ?_); (conv => whnf); (with_reducible refine ⟨?_⟩)) | ((with_reducible refine retW_intro rfl ?_); (conv => arg 2; whnf)) | ((with_reducible first | refine iB ?_ ?_ | refine gWt ?_ ?_ | refine gWf ?_ ?_) <;> intro hb <;> (try simp only [hb])) | (simp only [B, F, reduceLT, reduceLeDiff, reduceEqDiff, reduceAdd, reduceMul, reduceSub, ↓reduceIte, eq_self, c0, z0, put_sts, w0, cellAt_sts w0, hso]))
   exact ⟨oo3.sts (.inr (by omega)), _, rfl, ((hg2.keep0 o3).keep (ho3 _) hoff).mono fun b _ q => q.1⟩
  | true =>
   rcases gs_last X with hX0 | ⟨Y, x, hX0⟩
   ·rw [hX0] at hop; cases hop
   refine rN ?_ (c0)
   refine ((copiedC h3 s X (hh.keep oo3) hn (hz.le (by omega))).call P).mono P ?_
   rintro v h4 ⟨b, X', rfl, bb, wb, room, has, o4, hnil, hlast⟩
   obtain ⟨bp, hX', bp1, bp2, bp3, wbp, roomp⟩ := hlast Y x hX0
   have x4 := o4.1
   have hXl : X.length = Y.length + 1:= by rw [hX0]; simp
   have hXl' : X'.length = X.length:= by rw [hX', hXl]; simp
   have e1 : wrapF .i64 (Int.ofNat X.length - Int.ofNat 1) = Int.ofNat (X.length - 1) := i64_sub (by omega) (by omega)
   have lt1 : (X.length - 1 < X.length) = True:= by simp; omega
   have hx' : X'[X.length - 1]? = some (x.1, .slice bp 0 x.1.puts.length (.exact (x.1.puts.length + 1))):= by rw [hX', hXl]; simp
   have hs4 := has.1
   rw [hXl'] at hs4
   obtain ⟨-, -, -, a3, a4, a5⟩ := gC_at hs4 hx'
   simp only [Nat.zero_add] at a3 a4 a5
   have r0 : cellAt h4 (h.nx + 1) 0 = some (.int .u64 (.ofNat r.1)):= by rw [o4.cell (by omega) (by simp)]; exact r0
   have r1 : cellAt h4 (h.nx + 1) 1 = some (.int .u64 (.ofNat r.2)):= by rw [o4.cell (by omega) (by simp)]; exact r1
   have z0 : cellAt h4 (h.nx + 2) 0 = some .nilslice:= by rw [o4.cell (by omega) (by simp)]; exact z0
   have w0 : wrAt h4 (h.nx + 2) = true:= by rw [o4.wr (by omega) (by simp)]; exact w0
   have n1 : (h.nx + 1 = h4.nx) = False:= by simp; omega
   have n2 : (h.nx + 2 = h4.nx) = False:= by simp; omega
   have n3 : (b = h4.nx) = False:= by simp; omega
   have n4 : (h4.nx = b) = False:= by simp; omega
   have n5 : (h.nx + 1 = b) = False:= by simp; omega
   have n6 : (h.nx + 2 = b) = False:= by simp; omega
   have wb5 : ∀ l, wrAt ((h4.newCells 55 [.nilslice]).sts h4.nx 0 l) b = true := fun l => by rw [wrAt_sts, wrAt_new, if_neg (by omega)]; exact wb
   have wb6 : ∀ l l' o, wrAt (((h4.newCells 55 [.nilslice]).sts h4.nx 0 l).sts b o l') b = true := fun l l' o => by rw [wrAt_sts]; exact wb5 l
   repeat' (first | ((with_reducible refine st1 ?_); (conv => whnf); (with_reducible refine ⟨?_⟩)) | ((with_reducible refine retW_intro rfl ?_); (conv => arg 2; whnf)) | ((with_reducible first | refine iB ?_ ?_ | refine gWt ?_ ?_ | refine gWf ?_ ?_) <;> intro hb <;> (try simp only [hb])) | (simp only [B, F, reduceLT, reduceLeDiff, reduceEqDiff, reduceAdd, reduceMul, reduceSub, ↓reduceIte, eq_self, Nat.lt_irrefl, e1, lt1, a3, a4, a5, r0, r1, z0, n1, n2, n3, n4, n5, n6, put_sts, wb, w0, cellAt_sts (wb5 _), cellAt_sts (wb6 _ _ _), wrAt_sts]))
   have hN : (X.length - 1) * 6 = Y.length * 6:= by rw [hXl]; rfl
   rw [hN]
   obtain ⟨pb, hpb⟩ : ∃ pb, pb = AV.slice bp 0 x.1.puts.length (.exact (x.1.puts.length + 1)) := ⟨_, rfl⟩
   obtain ⟨hf5, h5e⟩ : ∃ h5, h5 = ((((h4.newCells 55 [.nilslice]).sts h4.nx 0 [.slice b 0 X.length (.exact (X.length + 1))]).sts b (Y.length * 6 + 3) [.int .u64 (.ofNat r.1), .int .u64 (.ofNat r.2)]).sts b (Y.length * 6 + 5) [.bool true]).sts (h.nx + 2) 0 [.slice b 0 X.length (.exact (X.length + 1))] := ⟨_, rfl⟩
   rw [← h5e]
   have x5 : hf5.nx = h4.nx + 1:= by rw [h5e]; simp only [nx_sts, nx_new]
   have g5 : ∀ c, c < h4.nx → c ≠ b → c ≠ h.nx + 2 → hf5.t.get c = h4.t.get c := fun c hc k1 k2 => by
    rw [h5e, get_sts _ _ _ _ k2, get_sts _ _ _ _ k1, get_sts _ _ _ _ k1, get_sts _ _ _ _ (by omega), get_new _ _ _ (by omega)]
   have cb : ∀ j, cellAt hf5 b j = if j = Y.length * 6 + 5 then some (.bool true) else if j = Y.length * 6 + 3 then some (.int .u64 (.ofNat r.1)) else if j = Y.length * 6 + 4 then some (.int .u64 (.ofNat r.2)) else cellAt h4 b j := fun j => by
    rw [h5e, cellAt_of_get (get_sts _ _ _ _ (by omega)), cellAt_sts (wb6 _ _ _)]
    by_cases q : j = Y.length * 6 + 5
    ·subst q; rw [if_pos ⟨rfl, Nat.le_refl _, by simp⟩, if_pos rfl, Nat.sub_self]; rfl
    ·rw [if_neg (by simp only [List.length_cons, List.length_nil]; omega), if_neg q, cellAt_sts (wb5 _)]
     by_cases q3 : j = Y.length * 6 + 3
     ·subst q3; rw [if_pos ⟨rfl, Nat.le_refl _, by simp⟩, if_pos rfl, Nat.sub_self]; rfl
     ·rw [if_neg q3]
      by_cases q4 : j = Y.length * 6 + 4
      ·subst q4; rw [if_pos ⟨rfl, by omega, by simp⟩, if_pos rfl, show Y.length * 6 + 4 - (Y.length * 6 + 3) = 1 by omega]; rfl
      ·rw [if_neg (by simp only [List.length_cons, List.length_nil]; omega), if_neg q4, cellAt_of_get (get_sts _ _ _ _ (by omega)), cellAt_of_get (get_new _ _ _ (by omega))]
   have o5 : Only h hf5 [] := ⟨by omega, fun c hc _ => by rw [g5 c (by omega) (by omega) (by omega), o4.2 c (by omega) (by simp)]; exact oo3.2 c hc (by simp)⟩
   have hend : x.1.ended = false := by
    rw [hX0] at hop; simp only [opn, List.map_append, List.map_cons, List.map_nil, List.getLast?_append, List.getLast?_singleton, Option.some_or] at hop
    simpa using hop
   have hput : tombL (X.map (·.1)) r = (Y ++ [({ x.1 with en := r, ended := true }, pb)]).map (fun z : Gn × AV => z.1) := by
    unfold tombL
    rw [hX0]
    simp only [List.map_append, List.map_cons, List.map_nil, List.getLast?_append, List.getLast?_singleton, Option.some_or, List.dropLast_concat]
   have hlen2 : (Y ++ [(({ x.1 with en := r, ended := true } : Gn), pb)]).length = X.length:= by rw [hXl]; simp
   refine ⟨o5, _, rfl, .slice b 0 X.length (.exact (X.length + 1)), Y ++ [({ x.1 with en := r, ended := true }, pb)], rfl, hput.symm, ⟨?_, fun y hy => ?_⟩, ⟨fun q => by simp at q, fun y z hy q => ?_⟩, fun c q => ?_, fun y hy c q => ?_⟩
   ·rw [hlen2]
    refine .cell _ _ _ _ _ (by omega) (fun j hj => ?_)
    rw [gCs_len, hlen2] at hj
    have hcell4 : cellAt h4 b j = (X'.flatMap gC)[j]? := by
     cases hs4 with
     | cell _ _ _ _ _ _ hc => have := hc j (by rw [gCs_len, hXl']; exact hj); rwa [Nat.zero_add] at this
    rw [Nat.zero_add, cb, flat_at]
    rw [hX', flat_at] at hcell4
    by_cases q : j < Y.length * 6
    ·rw [if_neg (by omega), if_neg (by omega), if_neg (by omega), if_pos q, hcell4, if_pos q]
    ·rw [if_neg q] at hcell4 ⊢
     obtain ⟨k, rfl⟩ : ∃ k, j = Y.length * 6 + k := ⟨j - Y.length * 6, by omega⟩
     rw [Nat.add_sub_cancel_left] at hcell4 ⊢
     match k with
     | 0 => rw [if_neg (by omega), if_neg (by omega), if_neg (by omega), hcell4]; rfl
     | 1 => rw [if_neg (by omega), if_neg (by omega), if_neg (by omega), hcell4]; rfl
     | 2 => rw [if_neg (by omega), if_neg (by omega), if_neg (by omega), hcell4, hpb]; rfl
     | 3 => rw [if_neg (by omega), if_pos rfl]; rfl
     | 4 => rw [if_neg (by omega), if_neg (by omega), if_pos rfl]; rfl
     | 5 => rw [if_pos rfl]; rfl
     | k + 6 => rw [hXl] at hj; omega
   ·rcases List.mem_append.1 hy with hy | hy
    ·exact (hh.2 y (by rw [hX0]; exact List.mem_append_left _ hy)).only o5 (fun _ _ => by simp)
    ·rw [List.mem_singleton] at hy
     subst hy
     have hsl2 := has.2 (x.1, .slice bp 0 x.1.puts.length (.exact (x.1.puts.length + 1))) (by rw [hX']; simp)
     rw [hpb]
     refine SliceAt.only (S := [b, h.nx + 2]) ⟨by omega, fun c hc hs => ?_⟩ hsl2 (fun c hc => ?_)
     ·simp only [List.mem_cons, List.mem_nil_iff, or_false, not_or] at hs
      exact g5 c hc hs.1 hs.2
     ·cases hc
      simp only [List.mem_cons, List.mem_nil_iff, or_false, not_or]; omega
   ·obtain ⟨_, q2⟩ := List.append_inj' hy rfl
    simp only [List.cons.injEq, and_true] at q2
    rw [← q2] at q
    exact absurd q (hq (Y.map (·.1)) x.1 (by rw [hX0]; simp) hend)
   ·cases q; exact hp _ (by omega)
   ·rcases List.mem_append.1 hy with hy | hy
    ·exact hbk.2 y (by rw [hX0]; exact List.mem_append_left _ hy) c q
    ·rw [List.mem_singleton] at hy
     subst hy
     subst hpb
     cases q; exact hp _ (by omega)
end
end Go.Proofs.YtlkngpckibidlaaGreat.W

namespace Go.Proofs.YtlkngpckibidlaaGreat.W
open Go Go.AX
noncomputable section
set_option maxRecDepth 100000
theorem kcell {h h' : H} {S : List Nat} {b i : Nat} {v : Option AV} (x : cellAt h b i = v) (ho : Only h h' S) (hb : b < h.nx) (hs : b ∉ S) : cellAt h' b i = v := Eq.trans (ho.cell hb hs i) x
theorem kwr {h h' : H} {S : List Nat} {b : Nat} {v : Bool} (x : wrAt h b = v) (ho : Only h h' S) (hb : b < h.nx) (hs : b ∉ S) : wrAt h' b = v := (ho.wr hb hs).trans x
theorem emptyC (h : H) (v : AV) (L : List Gn) (hg : GensAt h v L) (hz : Sz 1000 L) : PushC P (.enter 32 [v] h) (Says h (.bool L.isEmpty)) := by
 obtain ⟨s, X, rfl, rfl, hh, -⟩ := hg
 have hlen := hh.1.len (P := P) u53
 have hso := SliceAt.one hh.1
 refine pushC_of_codeW (fn := Tryz.f32) (c := bodyC Tryz.f32) Tryz.func32 rfl ?_
 show codeW P 32 7 none _ _ _ _ _
 refine codeW_root ?_
 refine rN ?_ (V hlen<|hso)
 refine ⟨?_, (Only.refl _ _).new _ _⟩
 cases X <;> simp
def restB (L : List Gn) (r : Rv) (made nth : Nat) : Bool :=
  fitsB L r && !decide (made = 0) && !decide (r.1 < made) && !decide (nth = 0) &&
  (match L.getLast? with
   | none => true
   | some g => if g.ended then decide (g.en.1 < made) else decide (made = g.made) && decide (nth = (g.first + g.puts.length) % M64))
def restP (L : List Gn) (r : Rv) (made nth : Nat) : List Gn := if restB L r made nth then putL L r made nth else L
def restE (L : List Gn) (r : Rv) (made nth : Nat) : Nat := if restB L r made nth then 0 else 2
def keepR (is : Bool) (mod : Rv) (m : Nat) (r : Rv) : Bool := decide (m < r.1) || (is && decide (r = mod))
def leftPuts (is : Bool) (mod : Rv) (m : Nat) (g : Gn) (j : Nat) : List Rv := (g.puts.take j).filter (keepR is mod m)
def leftFirst (is : Bool) (mod : Rv) (m : Nat) (g : Gn) (j : Nat) : Nat := if leftPuts is mod m g j = [] then g.first else (g.first + g.puts.findIdx (keepR is mod m)) % M64
def compG (is : Bool) (mod : Rv) (m : Nat) (g : Gn) : Option Gn :=
 if g.ended && decide (g.en.1 ≤ m) then none
 else if decide (g.puts.filter (keepR is mod m) ≠ []) || g.ended then some { g with first := leftFirst is mod m g g.puts.length, puts := g.puts.filter (keepR is mod m) }
 else none
def compL (L : List Gn) (m : Nat) : List Gn := L.filterMap (compG (atB L m) (atK L m).rev m)
def compK (L : List Gn) (m : Nat) : List Rv := if atB L m then [(atK L m).rev] else []
theorem RestC (p : Nat → Prop) (h : H) (v : AV) (L : List Gn) (r : Rv) (made nth : Nat) (hp : ∀ b, h.nx ≤ b → p b) (hg : GensP p h v L) (hz : Sz 900 L) : PushC P (.enter 27 [v, rvA r, n64 made, n64 nth] h) (PostE p h (restP L r made nth) (restE L r made nth)) := by
 have hg0 := hg
 obtain ⟨s, X, rfl, rfl, hh, hn, hbk⟩ := hg
 have hso := SliceAt.one hh.1
 have hXz : X.length ≤ 900:= by have := hz.1; simpa using this
 have e0 : rvA r = .agg [.int .u64 (.ofNat r.1), .int .u64 (.ofNat r.2)] := rfl
 rw [e0]
 unfold n64
 refine pushC_of_codeW (fn := Tryz.f27) (c := bodyC Tryz.f27) Tryz.func27 rfl ?_
 show codeW P 27 79 none _ _ _ _ _
 refine codeW_root ?_
 refine rN ?_ (hso)
 obtain ⟨h1, hH⟩ : ∃ h1, h1 = (((h.newCells 55 [s]).newCells 31 [.int .u64 (.ofNat r.1), .int .u64 (.ofNat r.2)]).newCells 55 [.nilslice]) := ⟨_, rfl⟩
 have x1 : h1.nx = h.nx + 3:= by rw [hH]; rfl
 have o1 : Only h h1 []:= by rw [hH]; exact (((Only.refl _ _).new _ _).new _ _).new _ _
 have c0 : cellAt h1 h.nx 0 = some s:= by rw [hH]; exact sT
 have r0 : cellAt h1 (h.nx + 1) 0 = some (.int .u64 (.ofNat r.1)):= by rw [hH]; exact sT
 have r1 : cellAt h1 (h.nx + 1) 1 = some (.int .u64 (.ofNat r.2)):= by rw [hH]; exact sT
 have z0 : cellAt h1 (h.nx + 2) 0 = some .nilslice:= by rw [hH]; exact sT
 have w0 : wrAt h1 (h.nx + 2) = true:= by rw [hH]; exact sT
 rw [← hH]
 refine ((fitsC h1 _ _ r (hg0.at.keep o1) (hz.le (by omega))).call P).mono P ?_
 rintro v h2 ⟨rfl, o2⟩
 have oo : Only h h2 [] := o1.trans o2 (fun _ h => h) (fun _ h => by cases h)
 have x2 := o2.1
 first | replace c0 := kcell c0 o2 (by omega) (by simp) | replace c0 := kwr c0 o2 (by omega) (by simp)
 first | replace r0 := kcell r0 o2 (by omega) (by simp) | replace r0 := kwr r0 o2 (by omega) (by simp)
 first | replace r1 := kcell r1 o2 (by omega) (by simp) | replace r1 := kwr r1 o2 (by omega) (by simp)
 first | replace z0 := kcell z0 o2 (by omega) (by simp) | replace z0 := kwr z0 o2 (by omega) (by simp)
 first | replace w0 := kcell w0 o2 (by omega) (by simp) | replace w0 := kwr w0 o2 (by omega) (by simp)
 have hg2 : GensP (offP p h.nx h2.nx) h2 (.agg [s]) (X.map (·.1)) := (hg0.mono fun b hb q => ⟨q, .inl hb⟩).keep0 oo
 have ho2 : ∀ v, Only h2 (h2.sts (h.nx + 2) 0 [v]) [h.nx + 2] := fun v => (Only.refl _ _).sts (.inl (by simp))
 have hoff : ∀ c, c ∈ [h.nx + 2] → ¬ offP p h.nx h2.nx c := fun c hc q => by rw [List.mem_singleton] at hc; subst hc; have := q.2; omega
 obtain ⟨F, hF⟩ : ∃ F, F = fitsB (X.map (·.1)) r := ⟨_, rfl⟩
 rw [← hF]
 cases F with
 | false =>
  have e1 : restB (X.map (·.1)) r made nth = false:= by unfold restB; rw [← hF]; rfl
  unfold PostE restP restE errV
  rw [e1]
  repeat' (first | ((with_reducible refine st1 ?_); (conv => whnf); (with_reducible refine ⟨?_⟩)) | ((with_reducible refine retW_intro rfl ?_); (conv => arg 2; whnf)) | ((with_reducible first | refine iB ?_ ?_ | refine gWt ?_ ?_ | refine gWf ?_ ?_) <;> intro hb <;> (try simp only [hb])) | (simp only [B, F, reduceLT, reduceLeDiff, reduceEqDiff, reduceAdd, reduceMul, reduceSub, ↓reduceIte, eq_self, c0, z0, put_sts, w0, cellAt_sts w0, hso]))
  exact ⟨oo.sts (.inr (by omega)), _, rfl, (hg2.keep (ho2 _) hoff).mono fun b _ q => q.1⟩
 | true =>
  cases q1 : decide (made = 0) with
  | true =>
   have e1 : restB (X.map (·.1)) r made nth = false:= by unfold restB; rw [← hF, q1]; simp
   unfold PostE restP restE errV
   rw [e1]
   repeat' (first | ((with_reducible refine st1 ?_); (conv => whnf); (with_reducible refine ⟨?_⟩)) | ((with_reducible refine retW_intro rfl ?_); (conv => arg 2; whnf)) | ((with_reducible first | refine iB ?_ ?_ | refine gWt ?_ ?_ | refine gWf ?_ ?_) <;> intro hb <;> (try simp only [hb])) | (simp only [B, F, reduceLT, reduceLeDiff, reduceEqDiff, reduceAdd, reduceMul, reduceSub, ↓reduceIte, eq_self, q1, c0, z0, put_sts, w0, cellAt_sts w0, hso]))
   exact ⟨oo.sts (.inr (by omega)), _, rfl, (hg2.keep (ho2 _) hoff).mono fun b _ q => q.1⟩
  | false =>
  cases q2 : decide (r.1 < made) with
  | true =>
   have e1 : restB (X.map (·.1)) r made nth = false:= by unfold restB; rw [← hF, q1, q2]; simp
   unfold PostE restP restE errV
   rw [e1]
   repeat' (first | ((with_reducible refine st1 ?_); (conv => whnf); (with_reducible refine ⟨?_⟩)) | ((with_reducible refine retW_intro rfl ?_); (conv => arg 2; whnf)) | ((with_reducible first | refine iB ?_ ?_ | refine gWt ?_ ?_ | refine gWf ?_ ?_) <;> intro hb <;> (try simp only [hb])) | (simp only [B, F, reduceLT, reduceLeDiff, reduceEqDiff, reduceAdd, reduceMul, reduceSub, ↓reduceIte, eq_self, q1, q2, r0, c0, z0, put_sts, w0, cellAt_sts w0, hso]))
   exact ⟨oo.sts (.inr (by omega)), _, rfl, (hg2.keep (ho2 _) hoff).mono fun b _ q => q.1⟩
  | false =>
  cases q3 : decide (nth = 0) with
  | true =>
   have e1 : restB (X.map (·.1)) r made nth = false:= by unfold restB; rw [← hF, q1, q2, q3]; simp
   unfold PostE restP restE errV
   rw [e1]
   repeat' (first | ((with_reducible refine st1 ?_); (conv => whnf); (with_reducible refine ⟨?_⟩)) | ((with_reducible refine retW_intro rfl ?_); (conv => arg 2; whnf)) | ((with_reducible first | refine iB ?_ ?_ | refine gWt ?_ ?_ | refine gWf ?_ ?_) <;> intro hb <;> (try simp only [hb])) | (simp only [B, F, reduceLT, reduceLeDiff, reduceEqDiff, reduceAdd, reduceMul, reduceSub, ↓reduceIte, eq_self, q1, q2, q3, r0, c0, z0, put_sts, w0, cellAt_sts w0, hso]))
   exact ⟨oo.sts (.inr (by omega)), _, rfl, (hg2.keep (ho2 _) hoff).mono fun b _ q => q.1⟩
  | false =>
  have hlen := fun h (hh : Has h s X) => hh.1.len (P := P) u53
  rcases gs_last X with hX0 | ⟨Y, x, hX0⟩
  ·subst hX0
   have d1 : decide (0 < ([] : List (Gn × AV)).length) = false := rfl
   have e1 : restB (([] : List (Gn × AV)).map (·.1)) r made nth = true:= by unfold restB; rw [← hF, q1, q2, q3]; simp
   unfold PostE restP restE errV
   rw [e1]
   repeat' (first | ((with_reducible refine st1 ?_); (conv => whnf); (with_reducible refine ⟨?_⟩)) | ((with_reducible refine retW_intro rfl ?_); (conv => arg 2; whnf)) | ((with_reducible first | refine iB ?_ ?_ | refine gWt ?_ ?_ | refine gWf ?_ ?_) <;> intro hb <;> (try simp only [hb])) | (simp only [B, F, reduceLT, reduceLeDiff, reduceEqDiff, reduceAdd, reduceMul, reduceSub, ↓reduceIte, eq_self, q1, q2, q3, r0, r1, c0, z0, hlen _ (hh.keep oo), d1]))
   obtain ⟨h3, h3e⟩ : ∃ h3, h3 = h2 := ⟨_, rfl⟩
   have o23 : Only h2 h3 []:= by rw [h3e]; exact Only.refl _ _
   have x3 := o23.1
   rw [← h3e]
   refine ((putC (offP p h.nx h2.nx) h3 _ _ r made nth (fun b hb => ⟨hp b (by omega), .inr (by omega)⟩) (hg2.keep0 o23) hz).call P).mono P ?_
   rintro v h4 ⟨o4, hg4⟩
   have hg40 := hg4
   obtain ⟨s4, X4, rfl, -, hh4, -, -⟩ := hg4
   have hso4 := SliceAt.one hh4.1
   first | replace w0 := kcell w0 o23 (by omega) (by simp) | replace w0 := kwr w0 o23 (by omega) (by simp)
   first | replace z0 := kcell z0 o23 (by omega) (by simp) | replace z0 := kwr z0 o23 (by omega) (by simp)
   first | replace w0 := kcell w0 o4 (by omega) (by simp) | replace w0 := kwr w0 o4 (by omega) (by simp)
   first | replace z0 := kcell z0 o4 (by omega) (by simp) | replace z0 := kwr z0 o4 (by omega) (by simp)
   have oo4 : Only h h4 [] := (oo.trans o23 (fun _ h => h) (fun _ h => by cases h)).trans o4 (fun _ h => h) (fun _ h => by cases h)
   have x4 := o4.1
   have o45 : ∀ v, Only h4 (h4.sts (h.nx + 2) 0 [v]) [h.nx + 2] := fun v => (Only.refl _ _).sts (.inl (by simp))
   repeat' (first | ((with_reducible refine st1 ?_); (conv => whnf); (with_reducible refine ⟨?_⟩)) | ((with_reducible refine retW_intro rfl ?_); (conv => arg 2; whnf)) | ((with_reducible first | refine iB ?_ ?_ | refine gWt ?_ ?_ | refine gWf ?_ ?_) <;> intro hb <;> (try simp only [hb])) | (simp only [B, F, reduceLT, reduceLeDiff, reduceEqDiff, reduceAdd, reduceMul, reduceSub, ↓reduceIte, eq_self, z0, put_sts, w0, cellAt_sts w0, hso4]))
   exact ⟨oo4.sts (.inr (by omega)), _, rfl, (hg40.keep (o45 _) hoff).mono fun b _ q => q.1⟩
  ·have hXl : X.length = Y.length + 1:= by rw [hX0]; simp
   have d1 : decide (0 < X.length) = true := decide_eq_true (by omega)
   have e1 : wrapF .i64 (Int.ofNat X.length - Int.ofNat 1) = Int.ofNat (X.length - 1) := i64_sub (by omega) (by omega)
   have lt1 : (X.length - 1 < X.length) = True:= by simp; omega
   obtain ⟨b, o, cap, rfl, hb, _⟩ := hh.1.place (by omega)
   have hx : X[X.length - 1]? = some x:= by rw [hX0]; simp
   obtain ⟨g0, g1, g2, g3, g4, g5⟩ := gC_at (hh.keep oo).1 hx
   have hxm : x ∈ X := List.mem_of_getElem? hx
   have hsl := SliceAt.one (hh.2 x hxm)
   have hb2 : (b = h2.nx) = False:= by simp; omega
   have hl2 := (hh.2 x hxm).len (P := P) u42
   have hxz : x.1.puts.length ≤ 900 := hz.2 x.1 (List.mem_map.2 ⟨x, hxm, rfl⟩)
   have w1' : wrapF .u64 (Int.ofNat x.1.puts.length) = Int.ofNat x.1.puts.length := u64_nat (by omega)
   have n0 : (h.nx = h2.nx) = False:= by simp; omega
   have n1 : (h.nx + 1 = h2.nx) = False:= by simp; omega
   have n2 : (h.nx + 2 = h2.nx) = False:= by simp; omega
   have w5 : ∀ l l', wrAt ((h2.newCells 107 l).sts h2.nx 0 l') (h.nx + 2) = true := fun l l' => by rw [wrAt_sts, wrAt_new, if_neg (by omega)]; exact w0
   have hrb : ∀ c, (match (X.map (·.1)).getLast? with | none => true | some g => if g.ended then decide (g.en.1 < made) else decide (made = g.made) && decide (nth = (g.first + g.puts.length) % M64)) = c → restB (X.map (·.1)) r made nth = c := fun c hc => by unfold restB; rw [← hF, q1, q2, q3, hc]; rfl
   have hlast : (X.map (·.1)).getLast? = some x.1:= by rw [hX0]; simp
   rw [hlast] at hrb
   simp only at hrb
   unfold PostE restP restE errV
   cases he : x.1.ended with
   | true =>
    rw [he] at g5 hrb
    rw [if_pos rfl] at hrb
    cases q4 : decide (made ≤ x.1.en.1) with
    | true =>
     rw [hrb false (decide_eq_false (by have := of_decide_eq_true q4; omega))]
     repeat' (first | ((with_reducible refine st1 ?_); (conv => whnf); (with_reducible refine ⟨?_⟩)) | ((with_reducible refine retW_intro rfl ?_); (conv => arg 2; whnf)) | ((with_reducible first | refine iB ?_ ?_ | refine gWt ?_ ?_ | refine gWf ?_ ?_) <;> intro hb <;> (try simp only [hb])) | (simp only [B, F, reduceLT, reduceLeDiff, reduceEqDiff, reduceAdd, reduceMul, reduceSub, ↓reduceIte, eq_self, q1, q2, q3, r0, r1, c0, z0, hlen _ (hh.keep oo), d1, e1, lt1, g0, g1, g2, g3, g4, g5, hsl, hb2, n0, n1, n2, w1', u64_mod, wrAt_new, wrAt_sts, cellAt_sts (w5 _ _), put_sts, w0, hl2, q4]))
     exact ⟨((oo.new _ _).sts (.inr (by omega))).sts (.inr (by omega)), _, rfl, ((hg2.keep0 (((Only.refl _ _).new _ _).sts (.inr (by omega)))).keep (S := [h.nx + 2]) ((Only.refl _ _).sts (.inl (by simp))) hoff).mono fun b _ q => q.1⟩
    | false =>
     rw [hrb true (decide_eq_true (by have := of_decide_eq_false q4; omega))]
     repeat' (first | ((with_reducible refine st1 ?_); (conv => whnf); (with_reducible refine ⟨?_⟩)) | ((with_reducible refine retW_intro rfl ?_); (conv => arg 2; whnf)) | ((with_reducible first | refine iB ?_ ?_ | refine gWt ?_ ?_ | refine gWf ?_ ?_) <;> intro hb <;> (try simp only [hb])) | (simp only [B, F, reduceLT, reduceLeDiff, reduceEqDiff, reduceAdd, reduceMul, reduceSub, ↓reduceIte, eq_self, q1, q2, q3, r0, r1, c0, z0, hlen _ (hh.keep oo), d1, e1, lt1, g0, g1, g2, g3, g4, g5, hsl, hb2, n0, n1, n2, w1', u64_mod, wrAt_new, wrAt_sts, cellAt_sts (w5 _ _), put_sts, w0, hl2, q4]))
     obtain ⟨h3, h3e⟩ : ∃ h3, h3 = (h2.newCells 107 [.int .u64 (.ofNat 0), .int .u64 (.ofNat 0), .nilslice, .int .u64 (.ofNat 0), .int .u64 (.ofNat 0), .bool false]).sts h2.nx 0 [.int .u64 (.ofNat x.1.made), .int .u64 (.ofNat x.1.first), x.2, .int .u64 (.ofNat x.1.en.1), .int .u64 (.ofNat x.1.en.2), .bool true] := ⟨_, rfl⟩
     have o23 : Only h2 h3 []:= by rw [h3e]; exact ((Only.refl _ _).new _ _).sts (.inr (Nat.le_refl _))
     have x3 := o23.1
     rw [← h3e]
     refine ((putC (offP p h.nx h2.nx) h3 _ _ r made nth (fun b hb => ⟨hp b (by omega), .inr (by omega)⟩) (hg2.keep0 o23) hz).call P).mono P ?_
     rintro v h4 ⟨o4, hg4⟩
     have hg40 := hg4
     obtain ⟨s4, X4, rfl, -, hh4, -, -⟩ := hg4
     have hso4 := SliceAt.one hh4.1
     first | replace w0 := kcell w0 o23 (by omega) (by simp) | replace w0 := kwr w0 o23 (by omega) (by simp)
     first | replace z0 := kcell z0 o23 (by omega) (by simp) | replace z0 := kwr z0 o23 (by omega) (by simp)
     first | replace w0 := kcell w0 o4 (by omega) (by simp) | replace w0 := kwr w0 o4 (by omega) (by simp)
     first | replace z0 := kcell z0 o4 (by omega) (by simp) | replace z0 := kwr z0 o4 (by omega) (by simp)
     have oo4 : Only h h4 [] := (oo.trans o23 (fun _ h => h) (fun _ h => by cases h)).trans o4 (fun _ h => h) (fun _ h => by cases h)
     have x4 := o4.1
     have o45 : ∀ v, Only h4 (h4.sts (h.nx + 2) 0 [v]) [h.nx + 2] := fun v => (Only.refl _ _).sts (.inl (by simp))
     repeat' (first | ((with_reducible refine st1 ?_); (conv => whnf); (with_reducible refine ⟨?_⟩)) | ((with_reducible refine retW_intro rfl ?_); (conv => arg 2; whnf)) | ((with_reducible first | refine iB ?_ ?_ | refine gWt ?_ ?_ | refine gWf ?_ ?_) <;> intro hb <;> (try simp only [hb])) | (simp only [B, F, reduceLT, reduceLeDiff, reduceEqDiff, reduceAdd, reduceMul, reduceSub, ↓reduceIte, eq_self, z0, put_sts, w0, cellAt_sts w0, hso4]))
     exact ⟨oo4.sts (.inr (by omega)), _, rfl, (hg40.keep (o45 _) hoff).mono fun b _ q => q.1⟩
   | false =>
    rw [he] at g5 hrb
    rw [if_neg (by simp)] at hrb
    cases q4 : decide (made = x.1.made) with
    | false =>
     rw [q4] at hrb
     rw [hrb false rfl]
     repeat' (first | ((with_reducible refine st1 ?_); (conv => whnf); (with_reducible refine ⟨?_⟩)) | ((with_reducible refine retW_intro rfl ?_); (conv => arg 2; whnf)) | ((with_reducible first | refine iB ?_ ?_ | refine gWt ?_ ?_ | refine gWf ?_ ?_) <;> intro hb <;> (try simp only [hb])) | (simp only [B, F, reduceLT, reduceLeDiff, reduceEqDiff, reduceAdd, reduceMul, reduceSub, ↓reduceIte, eq_self, q1, q2, q3, r0, r1, c0, z0, hlen _ (hh.keep oo), d1, e1, lt1, g0, g1, g2, g3, g4, g5, hsl, hb2, n0, n1, n2, w1', u64_mod, wrAt_new, wrAt_sts, cellAt_sts (w5 _ _), put_sts, w0, hl2, q4]))
     exact ⟨((oo.new _ _).sts (.inr (by omega))).sts (.inr (by omega)), _, rfl, ((hg2.keep0 (((Only.refl _ _).new _ _).sts (.inr (by omega)))).keep (S := [h.nx + 2]) ((Only.refl _ _).sts (.inl (by simp))) hoff).mono fun b _ q => q.1⟩
    | true =>
     rw [q4] at hrb
     cases q5 : decide (nth = (x.1.first + x.1.puts.length) % M64) with
     | false =>
      rw [q5] at hrb
      rw [hrb false rfl]
      repeat' (first | ((with_reducible refine st1 ?_); (conv => whnf); (with_reducible refine ⟨?_⟩)) | ((with_reducible refine retW_intro rfl ?_); (conv => arg 2; whnf)) | ((with_reducible first | refine iB ?_ ?_ | refine gWt ?_ ?_ | refine gWf ?_ ?_) <;> intro hb <;> (try simp only [hb])) | (simp only [B, F, reduceLT, reduceLeDiff, reduceEqDiff, reduceAdd, reduceMul, reduceSub, ↓reduceIte, eq_self, q1, q2, q3, r0, r1, c0, z0, hlen _ (hh.keep oo), d1, e1, lt1, g0, g1, g2, g3, g4, g5, hsl, hb2, n0, n1, n2, w1', u64_mod, wrAt_new, wrAt_sts, cellAt_sts (w5 _ _), put_sts, w0, hl2, q4, q5]))
      exact ⟨((oo.new _ _).sts (.inr (by omega))).sts (.inr (by omega)), _, rfl, ((hg2.keep0 (((Only.refl _ _).new _ _).sts (.inr (by omega)))).keep (S := [h.nx + 2]) ((Only.refl _ _).sts (.inl (by simp))) hoff).mono fun b _ q => q.1⟩
     | true =>
      rw [q5] at hrb
      rw [hrb true rfl]
      repeat' (first | ((with_reducible refine st1 ?_); (conv => whnf); (with_reducible refine ⟨?_⟩)) | ((with_reducible refine retW_intro rfl ?_); (conv => arg 2; whnf)) | ((with_reducible first | refine iB ?_ ?_ | refine gWt ?_ ?_ | refine gWf ?_ ?_) <;> intro hb <;> (try simp only [hb])) | (simp only [B, F, reduceLT, reduceLeDiff, reduceEqDiff, reduceAdd, reduceMul, reduceSub, ↓reduceIte, eq_self, q1, q2, q3, r0, r1, c0, z0, hlen _ (hh.keep oo), d1, e1, lt1, g0, g1, g2, g3, g4, g5, hsl, hb2, n0, n1, n2, w1', u64_mod, wrAt_new, wrAt_sts, cellAt_sts (w5 _ _), put_sts, w0, hl2, q4, q5]))
      obtain ⟨h3, h3e⟩ : ∃ h3, h3 = (h2.newCells 107 [.int .u64 (.ofNat 0), .int .u64 (.ofNat 0), .nilslice, .int .u64 (.ofNat 0), .int .u64 (.ofNat 0), .bool false]).sts h2.nx 0 [.int .u64 (.ofNat x.1.made), .int .u64 (.ofNat x.1.first), x.2, .int .u64 (.ofNat x.1.en.1), .int .u64 (.ofNat x.1.en.2), .bool false] := ⟨_, rfl⟩
      have o23 : Only h2 h3 []:= by rw [h3e]; exact ((Only.refl _ _).new _ _).sts (.inr (Nat.le_refl _))
      have x3 := o23.1
      rw [← h3e]
      refine ((putC (offP p h.nx h2.nx) h3 _ _ r made nth (fun b hb => ⟨hp b (by omega), .inr (by omega)⟩) (hg2.keep0 o23) hz).call P).mono P ?_
      rintro v h4 ⟨o4, hg4⟩
      have hg40 := hg4
      obtain ⟨s4, X4, rfl, -, hh4, -, -⟩ := hg4
      have hso4 := SliceAt.one hh4.1
      first | replace w0 := kcell w0 o23 (by omega) (by simp) | replace w0 := kwr w0 o23 (by omega) (by simp)
      first | replace z0 := kcell z0 o23 (by omega) (by simp) | replace z0 := kwr z0 o23 (by omega) (by simp)
      first | replace w0 := kcell w0 o4 (by omega) (by simp) | replace w0 := kwr w0 o4 (by omega) (by simp)
      first | replace z0 := kcell z0 o4 (by omega) (by simp) | replace z0 := kwr z0 o4 (by omega) (by simp)
      have oo4 : Only h h4 [] := (oo.trans o23 (fun _ h => h) (fun _ h => by cases h)).trans o4 (fun _ h => h) (fun _ h => by cases h)
      have x4 := o4.1
      have o45 : ∀ v, Only h4 (h4.sts (h.nx + 2) 0 [v]) [h.nx + 2] := fun v => (Only.refl _ _).sts (.inl (by simp))
      repeat' (first | ((with_reducible refine st1 ?_); (conv => whnf); (with_reducible refine ⟨?_⟩)) | ((with_reducible refine retW_intro rfl ?_); (conv => arg 2; whnf)) | ((with_reducible first | refine iB ?_ ?_ | refine gWt ?_ ?_ | refine gWf ?_ ?_) <;> intro hb <;> (try simp only [hb])) | (simp only [B, F, reduceLT, reduceLeDiff, reduceEqDiff, reduceAdd, reduceMul, reduceSub, ↓reduceIte, eq_self, z0, put_sts, w0, cellAt_sts w0, hso4]))
      exact ⟨oo4.sts (.inr (by omega)), _, rfl, (hg40.keep (o45 _) hoff).mono fun b _ q => q.1⟩
end
end Go.Proofs.YtlkngpckibidlaaGreat.W

