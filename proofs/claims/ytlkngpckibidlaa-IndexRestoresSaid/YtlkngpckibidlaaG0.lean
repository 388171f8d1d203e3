/-
  gens: what lies in memory; the small functions.
  gens: all changes, one behind the other.
  gens: the last change of which something is so.
  gens: fits, At.
  gens: the changes from a Main on.
  gens: copied, put.
  gens: put.
  gens: Put, Tomb, Restore, Empty.
-/
import Derived.Test.YtlkngpckibidlaaAxI
import Derived.Test.YtlkngpckibidlaaAxH
import Derived.Test.YtlkngpckibidlaaProg
import Derived.KernelRfl
set_option linter.unusedSimpArgs false
set_option linter.unusedVariables false
set_option linter.unusedSectionVars false
open Nat (reduceLT reduceLeDiff reduceEqDiff reduceAdd reduceMul reduceSub)
namespace Go.Proofs.Ytlkngpckibidlaa.W
open Go Go.AX
noncomputable section
set_option maxRecDepth 100000
noncomputable abbrev P : Program := Try.prog
theorem cf3 (first cap args : List AV) (h : H) : callV P (.func 3 first cap) args h = .enter 3 (first ++ args ++ cap) h := callV_func 3 (by kernel_rfl) first cap args
theorem cf11 (first cap args : List AV) (h : H) : callV P (.func 11 first cap) args h = .enter 11 (first ++ args ++ cap) h := callV_func 11 (by kernel_rfl) first cap args
theorem cf12 (first cap args : List AV) (h : H) : callV P (.func 12 first cap) args h = .enter 12 (first ++ args ++ cap) h := callV_func 12 (by kernel_rfl) first cap args
theorem z26 : zeroA P 26 = some (.agg [.nilslice]) := by kernel_rfl
theorem ok26 : okT P 26 = true := by kernel_rfl
theorem st26 (h : H) (l : List AV) (hl : l.length = 1) (b o : Nat) : storeV P h 26 b o (.agg l) = h.put b o l := storeV_agg (by kernel_rfl) hl b o
theorem cv5_28 (j : IntKind) (n : Int) (h : H) : convR P 5 28 (.int j n) h = .val (.int .u64 (wrapF .u64 n)) h := conv_int (u := .int .u8) (by kernel_rfl) (by kernel_rfl) j n
theorem ld26 (h : H) (b o : Nat) : loadV P h 26 b o = aggO (seqO [cellAt h b o]) := ld_agg (k := 0) (by kernel_rfl) (by kernel_rfl) b o
theorem cf13 (first cap args : List AV) (h : H) : callV P (.func 13 first cap) args h = .enter 13 (first ++ args ++ cap) h := callV_func 13 (by kernel_rfl) first cap args
theorem u29 : P.underlying 29 = some (.slice 35) := by kernel_rfl
theorem ln29 (h : H) (b o n : Nat) (c : Cap) (ts : List TypeId) (xs : List AV) : builtinA P .len (29 :: ts) (.slice b o n c :: xs) h = .val (.int .i64 (.ofNat n)) h := bi_len_slice u29 b o n c ts xs
theorem lm29 (h : H) (ts : List TypeId) (xs : List AV) : builtinA P .len (29 :: ts) (.nilslice :: xs) h = .val (.int .i64 (.ofNat 0)) h := bi_len_nil u29 ts xs
theorem cf14 (first cap args : List AV) (h : H) : callV P (.func 14 first cap) args h = .enter 14 (first ++ args ++ cap) h := callV_func 14 (by kernel_rfl) first cap args
theorem cf15 (first cap args : List AV) (h : H) : callV P (.func 15 first cap) args h = .enter 15 (first ++ args ++ cap) h := callV_func 15 (by kernel_rfl) first cap args
theorem cf16 (first cap args : List AV) (h : H) : callV P (.func 16 first cap) args h = .enter 16 (first ++ args ++ cap) h := callV_func 16 (by kernel_rfl) first cap args
theorem z35 : zeroA P 35 = some (.agg [(.int .u64 (.ofNat 0)), (.int .u64 (.ofNat 0))]) := by kernel_rfl
theorem ok35 : okT P 35 = true := by kernel_rfl
theorem st35 (h : H) (l : List AV) (hl : l.length = 2) (b o : Nat) : storeV P h 35 b o (.agg l) = h.put b o l := storeV_agg (by kernel_rfl) hl b o
theorem ld35 (h : H) (b o : Nat) : loadV P h 35 b o = aggO (seqO [cellAt h b o, cellAt h b (o + 1)]) := ld_agg (k := 1) (by kernel_rfl) (by kernel_rfl) b o
theorem cf17 (first cap args : List AV) (h : H) : callV P (.func 17 first cap) args h = .enter 17 (first ++ args ++ cap) h := callV_func 17 (by kernel_rfl) first cap args
theorem u4 : P.underlying 4 = some (.bool) := by kernel_rfl
theorem eq4 (h : H) (x y : Operand) (a b : Bool) : binR P h .eql 4 x y (.bool a) (.bool b) = .val (.bool (a == b)) h := b_eqlB u4 a b
theorem ne4 (h : H) (x y : Operand) (a b : Bool) : binR P h .neq 4 x y (.bool a) (.bool b) = .val (.bool (!(a == b))) h := b_neqB u4 a b
theorem cf4 (first cap args : List AV) (h : H) : callV P (.func 4 first cap) args h = .enter 4 (first ++ args ++ cap) h := callV_func 4 (by kernel_rfl) first cap args
theorem cf19 (first cap args : List AV) (h : H) : callV P (.func 19 first cap) args h = .enter 19 (first ++ args ++ cap) h := callV_func 19 (by kernel_rfl) first cap args
theorem cf18 (first cap args : List AV) (h : H) : callV P (.func 18 first cap) args h = .enter 18 (first ++ args ++ cap) h := callV_func 18 (by kernel_rfl) first cap args
theorem fa41_1 (b o : Nat) : fieldAddrA P 41 (.ptr b o) 1 = some (.ptr b (o + 1)) := by kernel_rfl
theorem cf20 (first cap args : List AV) (h : H) : callV P (.func 20 first cap) args h = .enter 20 (first ++ args ++ cap) h := callV_func 20 (by kernel_rfl) first cap args
theorem fa41_2 (b o : Nat) : fieldAddrA P 41 (.ptr b o) 2 = some (.ptr b (o + 3)) := by kernel_rfl
theorem ok28 : okT P 28 = true := by kernel_rfl
theorem ld28 (h : H) (b o : Nat) : loadV P h 28 b o = cellAt h b o := loadV_one (by kernel_rfl) h b o
theorem fa41_3 (b o : Nat) : fieldAddrA P 41 (.ptr b o) 3 = some (.ptr b (o + 4)) := by kernel_rfl
theorem cf21 (first cap args : List AV) (h : H) : callV P (.func 21 first cap) args h = .enter 21 (first ++ args ++ cap) h := callV_func 21 (by kernel_rfl) first cap args
theorem fa35_0 (b o : Nat) : fieldAddrA P 35 (.ptr b o) 0 = some (.ptr b o) := by kernel_rfl
theorem ia29 (b o len : Nat) (cap : Cap) (kd : IntKind) (i : Nat) : indexAddrA P 29 (.slice b o len cap) (.int kd (.ofNat i)) = if i < len then some (.ptr b (o + i * 2)) else none := indexAddr_slice (e := 35) (by kernel_rfl) (by kernel_rfl) (by kernel_rfl) b o len cap kd i
theorem bs29_1_0 (p0_0 p0_1 : AV) : buildSC P 29 1 [(0, [p0_0, p0_1])] = some (35, [p0_0, p0_1]) := by kernel_rfl
theorem u3 : P.underlying 3 = some (.int .i64) := by kernel_rfl
theorem cf5 (first cap args : List AV) (h : H) : callV P (.func 5 first cap) args h = .enter 5 (first ++ args ++ cap) h := callV_func 5 (by kernel_rfl) first cap args
theorem z52 : zeroA P 52 = some (.agg [.nilslice]) := by kernel_rfl
theorem u48 : P.underlying 48 = some (.slice 41) := by kernel_rfl
theorem ln48 (h : H) (b o n : Nat) (c : Cap) (ts : List TypeId) (xs : List AV) : builtinA P .len (48 :: ts) (.slice b o n c :: xs) h = .val (.int .i64 (.ofNat n)) h := bi_len_slice u48 b o n c ts xs
theorem lm48 (h : H) (ts : List TypeId) (xs : List AV) : builtinA P .len (48 :: ts) (.nilslice :: xs) h = .val (.int .i64 (.ofNat 0)) h := bi_len_nil u48 ts xs
theorem ok52 : okT P 52 = true := by kernel_rfl
theorem ld52 (h : H) (b o : Nat) : loadV P h 52 b o = aggO (seqO [cellAt h b o]) := ld_agg (k := 0) (by kernel_rfl) (by kernel_rfl) b o
theorem st52 (h : H) (l : List AV) (hl : l.length = 1) (b o : Nat) : storeV P h 52 b o (.agg l) = h.put b o l := storeV_agg (by kernel_rfl) hl b o
theorem ia48 (b o len : Nat) (cap : Cap) (kd : IntKind) (i : Nat) : indexAddrA P 48 (.slice b o len cap) (.int kd (.ofNat i)) = if i < len then some (.ptr b (o + i * 5)) else none := indexAddr_slice (e := 41) (by kernel_rfl) (by kernel_rfl) (by kernel_rfl) b o len cap kd i
theorem ok41 : okT P 41 = true := by kernel_rfl
theorem ld41 (h : H) (b o : Nat) : loadV P h 41 b o = aggO (seqO [cellAt h b o, cellAt h b (o + 1), cellAt h b (o + 2), cellAt h b (o + 3), cellAt h b (o + 4)]) := ld_agg (k := 4) (by kernel_rfl) (by kernel_rfl) b o
theorem cf22 (first cap args : List AV) (h : H) : callV P (.func 22 first cap) args h = .enter 22 (first ++ args ++ cap) h := callV_func 22 (by kernel_rfl) first cap args
theorem cf23 (first cap args : List AV) (h : H) : callV P (.func 23 first cap) args h = .enter 23 (first ++ args ++ cap) h := callV_func 23 (by kernel_rfl) first cap args
theorem u49 : P.underlying 49 = some (.slice 28) := by kernel_rfl
theorem ln49 (h : H) (b o n : Nat) (c : Cap) (ts : List TypeId) (xs : List AV) : builtinA P .len (49 :: ts) (.slice b o n c :: xs) h = .val (.int .i64 (.ofNat n)) h := bi_len_slice u49 b o n c ts xs
theorem lm49 (h : H) (ts : List TypeId) (xs : List AV) : builtinA P .len (49 :: ts) (.nilslice :: xs) h = .val (.int .i64 (.ofNat 0)) h := bi_len_nil u49 ts xs
theorem ia49 (b o len : Nat) (cap : Cap) (kd : IntKind) (i : Nat) : indexAddrA P 49 (.slice b o len cap) (.int kd (.ofNat i)) = if i < len then some (.ptr b (o + i * 1)) else none := indexAddr_slice (e := 28) (by kernel_rfl) (by kernel_rfl) (by kernel_rfl) b o len cap kd i
theorem cf6 (first cap args : List AV) (h : H) : callV P (.func 6 first cap) args h = .enter 6 (first ++ args ++ cap) h := callV_func 6 (by kernel_rfl) first cap args
theorem ex35 (a0 b0 : Int) (a1 b1 : Int) : eqA P 12 35 (.agg [.int .u64 a0, .int .u64 a1]) (.agg [.int .u64 b0, .int .u64 b1]) = andO (some (a0 == b0)) (andO (some (a1 == b1)) (some true)) := by kernel_rfl
theorem ea35 (h : H) (x y : Operand) (a b : List AV) : binR P h .eql 35 x y (.agg a) (.agg b) = eqO (eqA P 12 35 (.agg a) (.agg b)) h := b_eqlA (by kernel_rfl) a b
theorem na35 (h : H) (x y : Operand) (a b : List AV) : binR P h .neq 35 x y (.agg a) (.agg b) = neO (eqA P 12 35 (.agg a) (.agg b)) h := b_neqA (by kernel_rfl) a b
theorem cf24 (first cap args : List AV) (h : H) : callV P (.func 24 first cap) args h = .enter 24 (first ++ args ++ cap) h := callV_func 24 (by kernel_rfl) first cap args
theorem u22 : P.underlying 22 = some (.slice 5) := by kernel_rfl
theorem ln22 (h : H) (b o n : Nat) (c : Cap) (ts : List TypeId) (xs : List AV) : builtinA P .len (22 :: ts) (.slice b o n c :: xs) h = .val (.int .i64 (.ofNat n)) h := bi_len_slice u22 b o n c ts xs
theorem lm22 (h : H) (ts : List TypeId) (xs : List AV) : builtinA P .len (22 :: ts) (.nilslice :: xs) h = .val (.int .i64 (.ofNat 0)) h := bi_len_nil u22 ts xs
theorem ia22 (b o len : Nat) (cap : Cap) (kd : IntKind) (i : Nat) : indexAddrA P 22 (.slice b o len cap) (.int kd (.ofNat i)) = if i < len then some (.ptr b (o + i * 1)) else none := indexAddr_slice (e := 5) (by kernel_rfl) (by kernel_rfl) (by kernel_rfl) b o len cap kd i
theorem ok5 : okT P 5 = true := by kernel_rfl
theorem ld5 (h : H) (b o : Nat) : loadV P h 5 b o = cellAt h b o := loadV_one (by kernel_rfl) h b o
theorem u5 : P.underlying 5 = some (.int .u8) := by kernel_rfl
theorem bc26_ : buildC P 26 [] = some (.agg [.nilslice]) := by kernel_rfl
theorem fa26_0 (b o : Nat) : fieldAddrA P 26 (.ptr b o) 0 = some (.ptr b o) := by kernel_rfl
theorem ok24 : okT P 24 = true := by kernel_rfl
theorem ld24 (h : H) (b o : Nat) : loadV P h 24 b o = cellAt h b o := loadV_one (by kernel_rfl) h b o
theorem u24 : P.underlying 24 = some (.slice 87) := by kernel_rfl
theorem ln24 (h : H) (b o n : Nat) (c : Cap) (ts : List TypeId) (xs : List AV) : builtinA P .len (24 :: ts) (.slice b o n c :: xs) h = .val (.int .i64 (.ofNat n)) h := bi_len_slice u24 b o n c ts xs
theorem lm24 (h : H) (ts : List TypeId) (xs : List AV) : builtinA P .len (24 :: ts) (.nilslice :: xs) h = .val (.int .i64 (.ofNat 0)) h := bi_len_nil u24 ts xs
theorem ia24 (b o len : Nat) (cap : Cap) (kd : IntKind) (i : Nat) : indexAddrA P 24 (.slice b o len cap) (.int kd (.ofNat i)) = if i < len then some (.ptr b (o + i * 6)) else none := indexAddr_slice (e := 87) (by kernel_rfl) (by kernel_rfl) (by kernel_rfl) b o len cap kd i
theorem ok87 : okT P 87 = true := by kernel_rfl
theorem ld87 (h : H) (b o : Nat) : loadV P h 87 b o = aggO (seqO [cellAt h b o, cellAt h b (o + 1), cellAt h b (o + 2), cellAt h b (o + 3), cellAt h b (o + 4), cellAt h b (o + 5)]) := ld_agg (k := 5) (by kernel_rfl) (by kernel_rfl) b o
theorem z87 : zeroA P 87 = some (.agg [(.int .u64 (.ofNat 0)), (.int .u64 (.ofNat 0)), .nilslice, (.int .u64 (.ofNat 0)), (.int .u64 (.ofNat 0)), (.bool false)]) := by kernel_rfl
theorem st87 (h : H) (l : List AV) (hl : l.length = 6) (b o : Nat) : storeV P h 87 b o (.agg l) = h.put b o l := storeV_agg (by kernel_rfl) hl b o
theorem fa87_2 (b o : Nat) : fieldAddrA P 87 (.ptr b o) 2 = some (.ptr b (o + 2)) := by kernel_rfl
theorem ok29 : okT P 29 = true := by kernel_rfl
theorem st29 (h : H) (v : AV) (hv : v.cells = [v]) (b o : Nat) : storeV P h 29 b o v = h.put b o [v] := storeV_one (by kernel_rfl) hv b o
theorem ld29 (h : H) (b o : Nat) : loadV P h 29 b o = cellAt h b o := loadV_one (by kernel_rfl) h b o
theorem fa87_1 (b o : Nat) : fieldAddrA P 87 (.ptr b o) 1 = some (.ptr b (o + 1)) := by kernel_rfl
theorem cv3_28 (j : IntKind) (n : Int) (h : H) : convR P 3 28 (.int j n) h = .val (.int .u64 (wrapF .u64 n)) h := conv_int (u := .int .i64) (by kernel_rfl) (by kernel_rfl) j n
theorem st28 (h : H) (v : AV) (hv : v.cells = [v]) (b o : Nat) : storeV P h 28 b o v = h.put b o [v] := storeV_one (by kernel_rfl) hv b o
theorem ap29_29 (h : H) (s : AV) (b o n : Nat) (c : Cap) (ts : List TypeId) (xs : List AV) : builtinA P .append (29 :: 29 :: ts) (s :: .slice b o n c :: xs) h = obs (h.row b o (n * 2)) fun new => appendN 35 2 s n new h := bi_append2 u29 u29 (fun _ q => nomatch q) (by kernel_rfl) s b o n c ts xs
theorem fa87_4 (b o : Nat) : fieldAddrA P 87 (.ptr b o) 4 = some (.ptr b (o + 5)) := by kernel_rfl
theorem ok4 : okT P 4 = true := by kernel_rfl
theorem ld4 (h : H) (b o : Nat) : loadV P h 4 b o = cellAt h b o := loadV_one (by kernel_rfl) h b o
theorem fa87_3 (b o : Nat) : fieldAddrA P 87 (.ptr b o) 3 = some (.ptr b (o + 3)) := by kernel_rfl
theorem bs24_1_0 (p0_0 p0_1 p0_2 p0_3 p0_4 p0_5 : AV) : buildSC P 24 1 [(0, [p0_0, p0_1, p0_2, p0_3, p0_4, p0_5])] = some (87, [p0_0, p0_1, p0_2, p0_3, p0_4, p0_5]) := by kernel_rfl
theorem ap24_24 (h : H) (s : AV) (b o n : Nat) (c : Cap) (ts : List TypeId) (xs : List AV) : builtinA P .append (24 :: 24 :: ts) (s :: .slice b o n c :: xs) h = obs (h.row b o (n * 6)) fun new => appendN 87 6 s n new h := bi_append2 u24 u24 (fun _ q => nomatch q) (by kernel_rfl) s b o n c ts xs
theorem st24 (h : H) (v : AV) (hv : v.cells = [v]) (b o : Nat) : storeV P h 24 b o v = h.put b o [v] := storeV_one (by kernel_rfl) hv b o
theorem z29 : zeroA P 29 = some .nilslice := by kernel_rfl
theorem cf43 (first cap args : List AV) (h : H) : callV P (.func 43 first cap) args h = .enter 43 (first ++ args ++ cap) h := callV_func 43 (by kernel_rfl) first cap args
theorem z92 : zeroA P 92 = some (.agg [(.int .u64 (.ofNat 0)), (.int .u64 (.ofNat 0)), (.int .u64 (.ofNat 0)), (.int .u64 (.ofNat 0)), (.bool false)]) := by kernel_rfl
theorem ok92 : okT P 92 = true := by kernel_rfl
theorem st92 (h : H) (l : List AV) (hl : l.length = 5) (b o : Nat) : storeV P h 92 b o (.agg l) = h.put b o l := storeV_agg (by kernel_rfl) hl b o
theorem fa92_0 (b o : Nat) : fieldAddrA P 92 (.ptr b o) 0 = some (.ptr b o) := by kernel_rfl
theorem cf45 (first cap args : List AV) (h : H) : callV P (.func 45 first cap) args h = .enter 45 (first ++ args ++ cap) h := callV_func 45 (by kernel_rfl) first cap args
theorem cf44 (first cap args : List AV) (h : H) : callV P (.func 44 first cap) args h = .enter 44 (first ++ args ++ cap) h := callV_func 44 (by kernel_rfl) first cap args
theorem fa92_3 (b o : Nat) : fieldAddrA P 92 (.ptr b o) 3 = some (.ptr b (o + 4)) := by kernel_rfl
theorem bc35_ : buildC P 35 [] = some (.agg [(.int .u64 (.ofNat 0)), (.int .u64 (.ofNat 0))]) := by kernel_rfl
theorem fa92_1 (b o : Nat) : fieldAddrA P 92 (.ptr b o) 1 = some (.ptr b (o + 2)) := by kernel_rfl
theorem fa92_2 (b o : Nat) : fieldAddrA P 92 (.ptr b o) 2 = some (.ptr b (o + 3)) := by kernel_rfl
theorem cf46 (first cap args : List AV) (h : H) : callV P (.func 46 first cap) args h = .enter 46 (first ++ args ++ cap) h := callV_func 46 (by kernel_rfl) first cap args
theorem cf47 (first cap args : List AV) (h : H) : callV P (.func 47 first cap) args h = .enter 47 (first ++ args ++ cap) h := callV_func 47 (by kernel_rfl) first cap args
theorem bc35_0_1 (p0_0 p1_0 : AV) : buildC P 35 [(0, [p0_0]), (1, [p1_0])] = some (.agg [p0_0, p1_0]) := by kernel_rfl
theorem cf48 (first cap args : List AV) (h : H) : callV P (.func 48 first cap) args h = .enter 48 (first ++ args ++ cap) h := callV_func 48 (by kernel_rfl) first cap args
theorem cf49 (first cap args : List AV) (h : H) : callV P (.func 49 first cap) args h = .enter 49 (first ++ args ++ cap) h := callV_func 49 (by kernel_rfl) first cap args
theorem st4 (h : H) (v : AV) (hv : v.cells = [v]) (b o : Nat) : storeV P h 4 b o v = h.put b o [v] := storeV_one (by kernel_rfl) hv b o
theorem fa87_0 (b o : Nat) : fieldAddrA P 87 (.ptr b o) 0 = some (.ptr b o) := by kernel_rfl
theorem fa41_0 (b o : Nat) : fieldAddrA P 41 (.ptr b o) 0 = some (.ptr b o) := by kernel_rfl
theorem cf50 (first cap args : List AV) (h : H) : callV P (.func 50 first cap) args h = .enter 50 (first ++ args ++ cap) h := callV_func 50 (by kernel_rfl) first cap args
theorem cf51 (first cap args : List AV) (h : H) : callV P (.func 51 first cap) args h = .enter 51 (first ++ args ++ cap) h := callV_func 51 (by kernel_rfl) first cap args
theorem cf52 (first cap args : List AV) (h : H) : callV P (.func 52 first cap) args h = .enter 52 (first ++ args ++ cap) h := callV_func 52 (by kernel_rfl) first cap args
theorem cf53 (first cap args : List AV) (h : H) : callV P (.func 53 first cap) args h = .enter 53 (first ++ args ++ cap) h := callV_func 53 (by kernel_rfl) first cap args
theorem cf54 (first cap args : List AV) (h : H) : callV P (.func 54 first cap) args h = .enter 54 (first ++ args ++ cap) h := callV_func 54 (by kernel_rfl) first cap args
theorem cf55 (first cap args : List AV) (h : H) : callV P (.func 55 first cap) args h = .enter 55 (first ++ args ++ cap) h := callV_func 55 (by kernel_rfl) first cap args
theorem fa52_0 (b o : Nat) : fieldAddrA P 52 (.ptr b o) 0 = some (.ptr b o) := by kernel_rfl
theorem ok50 : okT P 50 = true := by kernel_rfl
theorem ld50 (h : H) (b o : Nat) : loadV P h 50 b o = cellAt h b o := loadV_one (by kernel_rfl) h b o
theorem u50 : P.underlying 50 = some (.slice 125) := by kernel_rfl
theorem ln50 (h : H) (b o n : Nat) (c : Cap) (ts : List TypeId) (xs : List AV) : builtinA P .len (50 :: ts) (.slice b o n c :: xs) h = .val (.int .i64 (.ofNat n)) h := bi_len_slice u50 b o n c ts xs
theorem lm50 (h : H) (ts : List TypeId) (xs : List AV) : builtinA P .len (50 :: ts) (.nilslice :: xs) h = .val (.int .i64 (.ofNat 0)) h := bi_len_nil u50 ts xs
theorem cf67 (first cap args : List AV) (h : H) : callV P (.func 67 first cap) args h = .enter 67 (first ++ args ++ cap) h := callV_func 67 (by kernel_rfl) first cap args
theorem ld92 (h : H) (b o : Nat) : loadV P h 92 b o = aggO (seqO [cellAt h b o, cellAt h b (o + 1), cellAt h b (o + 2), cellAt h b (o + 3), cellAt h b (o + 4)]) := ld_agg (k := 4) (by kernel_rfl) (by kernel_rfl) b o
theorem z4 : zeroA P 4 = some (.bool false) := by kernel_rfl
theorem ok95 : okT P 95 = true := by kernel_rfl
theorem ld95 (h : H) (b o : Nat) : loadV P h 95 b o = cellAt h b o := loadV_one (by kernel_rfl) h b o
theorem cf68 (first cap args : List AV) (h : H) : callV P (.func 68 first cap) args h = .enter 68 (first ++ args ++ cap) h := callV_func 68 (by kernel_rfl) first cap args
theorem cf69 (first cap args : List AV) (h : H) : callV P (.func 69 first cap) args h = .enter 69 (first ++ args ++ cap) h := callV_func 69 (by kernel_rfl) first cap args
theorem bc87_0_1 (p0_0 p1_0 : AV) : buildC P 87 [(0, [p0_0]), (1, [p1_0])] = some (.agg [p0_0, p1_0, .nilslice, (.int .u64 (.ofNat 0)), (.int .u64 (.ofNat 0)), (.bool false)]) := by kernel_rfl
theorem ms24 (j k : IntKind) (l c : Nat) (h : H) (hl : l ≤ c) (hc : c ≤ 4194304) : makeSliceA P 24 (.int j (.ofNat l)) (.int k (.ofNat c)) h = .val (.slice h.nx 0 l (.exact c)) (h.newCells 87 (repl [(.int .u64 (.ofNat 0)), (.int .u64 (.ofNat 0)), .nilslice, (.int .u64 (.ofNat 0)), (.int .u64 (.ofNat 0)), (.bool false)] c)) := makeSlice_eq (e := 87) (z := (.agg [(.int .u64 (.ofNat 0)), (.int .u64 (.ofNat 0)), .nilslice, (.int .u64 (.ofNat 0)), (.int .u64 (.ofNat 0)), (.bool false)])) (by kernel_rfl) (by kernel_rfl) (by kernel_rfl) hl hc j k
theorem ms29 (j k : IntKind) (l c : Nat) (h : H) (hl : l ≤ c) (hc : c ≤ 4194304) : makeSliceA P 29 (.int j (.ofNat l)) (.int k (.ofNat c)) h = .val (.slice h.nx 0 l (.exact c)) (h.newCells 35 (repl [(.int .u64 (.ofNat 0)), (.int .u64 (.ofNat 0))] c)) := makeSlice_eq (e := 35) (z := (.agg [(.int .u64 (.ofNat 0)), (.int .u64 (.ofNat 0))])) (by kernel_rfl) (by kernel_rfl) (by kernel_rfl) hl hc j k
theorem bc26_0 (p0_0 : AV) : buildC P 26 [(0, [p0_0])] = some (.agg [p0_0]) := by kernel_rfl
theorem cf70 (first cap args : List AV) (h : H) : callV P (.func 70 first cap) args h = .enter 70 (first ++ args ++ cap) h := callV_func 70 (by kernel_rfl) first cap args
theorem cf71 (first cap args : List AV) (h : H) : callV P (.func 71 first cap) args h = .enter 71 (first ++ args ++ cap) h := callV_func 71 (by kernel_rfl) first cap args
theorem bc125_0_1 (p0_0 p0_1 p1_0 : AV) : buildC P 125 [(0, [p0_0, p0_1]), (1, [p1_0])] = some (.agg [p0_0, p0_1, p1_0, (.int .u64 (.ofNat 0)), (.int .u64 (.ofNat 0))]) := by kernel_rfl
theorem cf72 (first cap args : List AV) (h : H) : callV P (.func 72 first cap) args h = .enter 72 (first ++ args ++ cap) h := callV_func 72 (by kernel_rfl) first cap args
theorem ia50 (b o len : Nat) (cap : Cap) (kd : IntKind) (i : Nat) : indexAddrA P 50 (.slice b o len cap) (.int kd (.ofNat i)) = if i < len then some (.ptr b (o + i * 5)) else none := indexAddr_slice (e := 125) (by kernel_rfl) (by kernel_rfl) (by kernel_rfl) b o len cap kd i
theorem ok125 : okT P 125 = true := by kernel_rfl
theorem ld125 (h : H) (b o : Nat) : loadV P h 125 b o = aggO (seqO [cellAt h b o, cellAt h b (o + 1), cellAt h b (o + 2), cellAt h b (o + 3), cellAt h b (o + 4)]) := ld_agg (k := 4) (by kernel_rfl) (by kernel_rfl) b o
theorem z125 : zeroA P 125 = some (.agg [(.int .u64 (.ofNat 0)), (.int .u64 (.ofNat 0)), (.bool false), (.int .u64 (.ofNat 0)), (.int .u64 (.ofNat 0))]) := by kernel_rfl
theorem st125 (h : H) (l : List AV) (hl : l.length = 5) (b o : Nat) : storeV P h 125 b o (.agg l) = h.put b o l := storeV_agg (by kernel_rfl) hl b o
theorem fa125_2 (b o : Nat) : fieldAddrA P 125 (.ptr b o) 2 = some (.ptr b (o + 3)) := by kernel_rfl
theorem fa125_3 (b o : Nat) : fieldAddrA P 125 (.ptr b o) 3 = some (.ptr b (o + 4)) := by kernel_rfl
theorem fa125_0 (b o : Nat) : fieldAddrA P 125 (.ptr b o) 0 = some (.ptr b o) := by kernel_rfl
theorem bc125_0_2_3 (p0_0 p0_1 p2_0 p3_0 : AV) : buildC P 125 [(0, [p0_0, p0_1]), (2, [p2_0]), (3, [p3_0])] = some (.agg [p0_0, p0_1, (.bool false), p2_0, p3_0]) := by kernel_rfl
theorem cf73 (first cap args : List AV) (h : H) : callV P (.func 73 first cap) args h = .enter 73 (first ++ args ++ cap) h := callV_func 73 (by kernel_rfl) first cap args
theorem bs50_1_0 (p0_0 p0_1 p0_2 p0_3 p0_4 : AV) : buildSC P 50 1 [(0, [p0_0, p0_1, p0_2, p0_3, p0_4])] = some (125, [p0_0, p0_1, p0_2, p0_3, p0_4]) := by kernel_rfl
theorem ap50_50 (h : H) (s : AV) (b o n : Nat) (c : Cap) (ts : List TypeId) (xs : List AV) : builtinA P .append (50 :: 50 :: ts) (s :: .slice b o n c :: xs) h = obs (h.row b o (n * 5)) fun new => appendN 125 5 s n new h := bi_append2 u50 u50 (fun _ q => nomatch q) (by kernel_rfl) s b o n c ts xs
theorem fa125_1 (b o : Nat) : fieldAddrA P 125 (.ptr b o) 1 = some (.ptr b (o + 2)) := by kernel_rfl
theorem bc52_0 (p0_0 : AV) : buildC P 52 [(0, [p0_0])] = some (.agg [p0_0]) := by kernel_rfl
theorem bc92_0_1_2 (p0_0 p0_1 p1_0 p2_0 : AV) : buildC P 92 [(0, [p0_0, p0_1]), (1, [p1_0]), (2, [p2_0])] = some (.agg [p0_0, p0_1, p1_0, p2_0, (.bool false)]) := by kernel_rfl
theorem bc92_0_3 (p0_0 p0_1 p3_0 : AV) : buildC P 92 [(0, [p0_0, p0_1]), (3, [p3_0])] = some (.agg [p0_0, p0_1, (.int .u64 (.ofNat 0)), (.int .u64 (.ofNat 0)), p3_0]) := by kernel_rfl
theorem fa35_1 (b o : Nat) : fieldAddrA P 35 (.ptr b o) 1 = some (.ptr b (o + 1)) := by kernel_rfl
theorem cf80 (first cap args : List AV) (h : H) : callV P (.func 80 first cap) args h = .enter 80 (first ++ args ++ cap) h := callV_func 80 (by kernel_rfl) first cap args
set_option maxRecDepth 100000 in
theorem F : ((((((((type_of% @cf3) ∧ (type_of% @cf11)) ∧ ((type_of% @cf12) ∧ (type_of% @z26))) ∧ (((type_of% @ok26) ∧ (type_of% @st26)) ∧ ((type_of% @cv5_28) ∧ ((type_of% @ld26) ∧ (type_of% @cf13))))) ∧ ((((type_of% @ln29) ∧ (type_of% @lm29)) ∧ ((type_of% @cf14) ∧ (type_of% @cf15))) ∧ (((type_of% @cf16) ∧ (type_of% @z35)) ∧ ((type_of% @ok35) ∧ ((type_of% @st35) ∧ (type_of% @ld35)))))) ∧ (((((type_of% @cf17) ∧ (type_of% @eq4)) ∧ ((type_of% @ne4) ∧ (type_of% @cf4))) ∧ (((type_of% @cf19) ∧ (type_of% @cf18)) ∧ ((type_of% @fa41_1) ∧ ((type_of% @cf20) ∧ (type_of% @fa41_2))))) ∧ ((((type_of% @ok28) ∧ (type_of% @ld28)) ∧ ((type_of% @fa41_3) ∧ ((type_of% @cf21) ∧ (type_of% @fa35_0)))) ∧ (((type_of% @ia29) ∧ (type_of% @bs29_1_0)) ∧ ((type_of% @cf5) ∧ ((type_of% @z52) ∧ (type_of% @ln48))))))) ∧ ((((((type_of% @lm48) ∧ (type_of% @ok52)) ∧ ((type_of% @ld52) ∧ (type_of% @st52))) ∧ (((type_of% @ia48) ∧ (type_of% @ok41)) ∧ ((type_of% @ld41) ∧ ((type_of% @cf22) ∧ (type_of% @cf23))))) ∧ ((((type_of% @ln49) ∧ (type_of% @lm49)) ∧ ((type_of% @ia49) ∧ (type_of% @cf6))) ∧ (((type_of% @ex35) ∧ (type_of% @ea35)) ∧ ((type_of% @na35) ∧ ((type_of% @cf24) ∧ (type_of% @ln22)))))) ∧ (((((type_of% @lm22) ∧ (type_of% @ia22)) ∧ ((type_of% @ok5) ∧ (type_of% @ld5))) ∧ (((type_of% @bc26_) ∧ (type_of% @fa26_0)) ∧ ((type_of% @ok24) ∧ ((type_of% @ld24) ∧ (type_of% @ln24))))) ∧ ((((type_of% @lm24) ∧ (type_of% @ia24)) ∧ ((type_of% @ok87) ∧ ((type_of% @ld87) ∧ (type_of% @z87)))) ∧ (((type_of% @st87) ∧ (type_of% @fa87_2)) ∧ ((type_of% @ok29) ∧ ((type_of% @st29) ∧ (type_of% @ld29)))))))) ∧ (((((((type_of% @fa87_1) ∧ (type_of% @cv3_28)) ∧ ((type_of% @st28) ∧ (type_of% @ap29_29))) ∧ (((type_of% @fa87_4) ∧ (type_of% @ok4)) ∧ ((type_of% @ld4) ∧ ((type_of% @fa87_3) ∧ (type_of% @bs24_1_0))))) ∧ ((((type_of% @ap24_24) ∧ (type_of% @st24)) ∧ ((type_of% @z29) ∧ (type_of% @cf43))) ∧ (((type_of% @z92) ∧ (type_of% @ok92)) ∧ ((type_of% @st92) ∧ ((type_of% @fa92_0) ∧ (type_of% @cf45)))))) ∧ (((((type_of% @cf44) ∧ (type_of% @fa92_3)) ∧ ((type_of% @bc35_) ∧ (type_of% @fa92_1))) ∧ (((type_of% @fa92_2) ∧ (type_of% @cf46)) ∧ ((type_of% @cf47) ∧ ((type_of% @bc35_0_1) ∧ (type_of% @cf48))))) ∧ ((((type_of% @cf49) ∧ (type_of% @st4)) ∧ ((type_of% @fa87_0) ∧ ((type_of% @fa41_0) ∧ (type_of% @cf50)))) ∧ (((type_of% @cf51) ∧ (type_of% @cf52)) ∧ ((type_of% @cf53) ∧ ((type_of% @cf54) ∧ (type_of% @cf55))))))) ∧ ((((((type_of% @fa52_0) ∧ (type_of% @ok50)) ∧ ((type_of% @ld50) ∧ (type_of% @ln50))) ∧ (((type_of% @lm50) ∧ (type_of% @cf67)) ∧ ((type_of% @ld92) ∧ ((type_of% @z4) ∧ (type_of% @ok95))))) ∧ ((((type_of% @ld95) ∧ (type_of% @cf68)) ∧ ((type_of% @cf69) ∧ ((type_of% @bc87_0_1) ∧ (type_of% @ms24)))) ∧ (((type_of% @ms29) ∧ (type_of% @bc26_0)) ∧ ((type_of% @cf70) ∧ ((type_of% @cf71) ∧ (type_of% @bc125_0_1)))))) ∧ (((((type_of% @cf72) ∧ (type_of% @ia50)) ∧ ((type_of% @ok125) ∧ (type_of% @ld125))) ∧ (((type_of% @z125) ∧ (type_of% @st125)) ∧ ((type_of% @fa125_2) ∧ ((type_of% @fa125_3) ∧ (type_of% @fa125_0))))) ∧ ((((type_of% @bc125_0_2_3) ∧ (type_of% @cf73)) ∧ ((type_of% @bs50_1_0) ∧ ((type_of% @ap50_50) ∧ (type_of% @fa125_1)))) ∧ (((type_of% @bc52_0) ∧ (type_of% @bc92_0_1_2)) ∧ ((type_of% @bc92_0_3) ∧ ((type_of% @fa35_1) ∧ (type_of% @cf80))))))))) :=
  ⟨⟨⟨⟨⟨⟨⟨@cf3, @cf11⟩, ⟨@cf12, @z26⟩⟩, ⟨⟨@ok26, @st26⟩, ⟨@cv5_28, ⟨@ld26, @cf13⟩⟩⟩⟩, ⟨⟨⟨@ln29, @lm29⟩, ⟨@cf14, @cf15⟩⟩, ⟨⟨@cf16, @z35⟩, ⟨@ok35, ⟨@st35, @ld35⟩⟩⟩⟩⟩, ⟨⟨⟨⟨@cf17, @eq4⟩, ⟨@ne4, @cf4⟩⟩, ⟨⟨@cf19, @cf18⟩, ⟨@fa41_1, ⟨@cf20, @fa41_2⟩⟩⟩⟩, ⟨⟨⟨@ok28, @ld28⟩, ⟨@fa41_3, ⟨@cf21, @fa35_0⟩⟩⟩, ⟨⟨@ia29, @bs29_1_0⟩, ⟨@cf5, ⟨@z52, @ln48⟩⟩⟩⟩⟩⟩, ⟨⟨⟨⟨⟨@lm48, @ok52⟩, ⟨@ld52, @st52⟩⟩, ⟨⟨@ia48, @ok41⟩, ⟨@ld41, ⟨@cf22, @cf23⟩⟩⟩⟩, ⟨⟨⟨@ln49, @lm49⟩, ⟨@ia49, @cf6⟩⟩, ⟨⟨@ex35, @ea35⟩, ⟨@na35, ⟨@cf24, @ln22⟩⟩⟩⟩⟩, ⟨⟨⟨⟨@lm22, @ia22⟩, ⟨@ok5, @ld5⟩⟩, ⟨⟨@bc26_, @fa26_0⟩, ⟨@ok24, ⟨@ld24, @ln24⟩⟩⟩⟩, ⟨⟨⟨@lm24, @ia24⟩, ⟨@ok87, ⟨@ld87, @z87⟩⟩⟩, ⟨⟨@st87, @fa87_2⟩, ⟨@ok29, ⟨@st29, @ld29⟩⟩⟩⟩⟩⟩⟩, ⟨⟨⟨⟨⟨⟨@fa87_1, @cv3_28⟩, ⟨@st28, @ap29_29⟩⟩, ⟨⟨@fa87_4, @ok4⟩, ⟨@ld4, ⟨@fa87_3, @bs24_1_0⟩⟩⟩⟩, ⟨⟨⟨@ap24_24, @st24⟩, ⟨@z29, @cf43⟩⟩, ⟨⟨@z92, @ok92⟩, ⟨@st92, ⟨@fa92_0, @cf45⟩⟩⟩⟩⟩, ⟨⟨⟨⟨@cf44, @fa92_3⟩, ⟨@bc35_, @fa92_1⟩⟩, ⟨⟨@fa92_2, @cf46⟩, ⟨@cf47, ⟨@bc35_0_1, @cf48⟩⟩⟩⟩, ⟨⟨⟨@cf49, @st4⟩, ⟨@fa87_0, ⟨@fa41_0, @cf50⟩⟩⟩, ⟨⟨@cf51, @cf52⟩, ⟨@cf53, ⟨@cf54, @cf55⟩⟩⟩⟩⟩⟩, ⟨⟨⟨⟨⟨@fa52_0, @ok50⟩, ⟨@ld50, @ln50⟩⟩, ⟨⟨@lm50, @cf67⟩, ⟨@ld92, ⟨@z4, @ok95⟩⟩⟩⟩, ⟨⟨⟨@ld95, @cf68⟩, ⟨@cf69, ⟨@bc87_0_1, @ms24⟩⟩⟩, ⟨⟨@ms29, @bc26_0⟩, ⟨@cf70, ⟨@cf71, @bc125_0_1⟩⟩⟩⟩⟩, ⟨⟨⟨⟨@cf72, @ia50⟩, ⟨@ok125, @ld125⟩⟩, ⟨⟨@z125, @st125⟩, ⟨@fa125_2, ⟨@fa125_3, @fa125_0⟩⟩⟩⟩, ⟨⟨⟨@bc125_0_2_3, @cf73⟩, ⟨@bs50_1_0, ⟨@ap50_50, @fa125_1⟩⟩⟩, ⟨⟨@bc52_0, @bc92_0_1_2⟩, ⟨@bc92_0_3, ⟨@fa35_1, @cf80⟩⟩⟩⟩⟩⟩⟩⟩
abbrev Rv := Nat × Nat
def n64 (n : Nat) : AV := .int .u64 (.ofNat n)
def M64 : Nat := 18446744073709551616
def rvC (r : Rv) : List AV := [.int .u64 (.ofNat r.1), .int .u64 (.ofNat r.2)]
def rvsC (l : List Rv) : List AV := l.flatMap rvC
def rvA (r : Rv) : AV := .agg (rvC r)
structure Gn where
  made : Nat
  first : Nat
  puts : List Rv
  en : Rv
  ended : Bool
def gC (x : Gn × AV) : List AV := [.int .u64 (.ofNat x.1.made), .int .u64 (.ofNat x.1.first), x.2, .int .u64 (.ofNat x.1.en.1), .int .u64 (.ofNat x.1.en.2), .bool x.1.ended]
structure Ch where
  rev : Rv
  made : Nat
  nth : Nat
  tomb : Bool
deriving DecidableEq
def chC (c : Ch) : List AV := [.int .u64 (.ofNat c.rev.1), .int .u64 (.ofNat c.rev.2), .int .u64 (.ofNat c.made), .int .u64 (.ofNat c.nth), .bool c.tomb]
def chA (c : Ch) : AV := .agg (chC c)
def putChs (made : Nat) : Nat → List Rv → List Ch
  | _, [] => []
  | n, r :: l => ⟨r, made, n % M64, false⟩ :: putChs made (n + 1) l
def endChs (g : Gn) : List Ch := if g.ended then [⟨g.en, 0, 0, true⟩] else []
def gChs (g : Gn) : List Ch := putChs g.made g.first g.puts ++ endChs g
def all (L : List Gn) : List Ch := L.flatMap gChs
def Has (h : H) (s : AV) (X : List (Gn × AV)) : Prop := SliceAt h s X.length (X.flatMap gC) ∧ ∀ x, x ∈ X → SliceAt h x.2 x.1.puts.length (rvsC x.1.puts)
def Nz (s : AV) (X : List (Gn × AV)) : Prop := (X = [] → s = .nilslice) ∧ ∀ Y x, X = Y ++ [x] → x.1.puts = [] → x.2 = .nilslice
def GensAt (h : H) (v : AV) (L : List Gn) : Prop := ∃ s X, v = .agg [s] ∧ X.map (·.1) = L ∧ Has h s X ∧ Nz s X
theorem putChs_len (made : Nat) : ∀ (n : Nat) (l : List Rv), (putChs made n l).length = l.length
  | _, [] => rfl
  | n, _ :: l => by simp [putChs, putChs_len made (n + 1) l]
theorem putChs_get (made : Nat) : ∀ (n : Nat) (l : List Rv) (i : Nat), (putChs made n l)[i]? = (l[i]?).map fun r => ⟨r, made, (n + i) % M64, false⟩
  | _, [], i => by simp [putChs]
  | n, r :: l, 0 => by simp [putChs]
  | n, r :: l, i + 1 => by simp [putChs, putChs_get made (n + 1) l i, Nat.add_assoc, Nat.add_comm 1 i]
theorem flat_get {α : Type} (f : α → List AV) (k : Nat) (hf : ∀ a, (f a).length = k) : ∀ (l : List α) (i j : Nat) (x : α), l[i]? = some x → j < k → (l.flatMap f)[i * k + j]? = (f x)[j]?
  | [], i, j, x, h, _ => by simp at h
  | a :: l, 0, j, x, h, hj => by
    simp at h; subst h
    simp only [List.flatMap_cons, Nat.zero_mul, Nat.zero_add]
    rw [List.getElem?_append_left (by rw [hf]; exact hj)]
  | a :: l, i + 1, j, x, h, hj => by
    simp only [List.flatMap_cons]
    rw [List.getElem?_append_right (by rw [hf, Nat.add_mul]; omega), hf, show (i + 1) * k + j - k = i * k + j by rw [Nat.add_mul]; omega]
    exact flat_get f k hf l i j x (by simpa using h) hj
theorem flat_len {α : Type} (f : α → List AV) (k : Nat) (hf : ∀ a, (f a).length = k) : ∀ (l : List α), (l.flatMap f).length = l.length * k
  | [] => by simp
  | a :: l => by rw [List.flatMap_cons, List.length_append, hf, flat_len f k hf l, List.length_cons, Nat.add_mul]; omega
theorem gC_len (x : Gn × AV) : (gC x).length = 6 := rfl
theorem rvC_len (x : Rv) : (rvC x).length = 2 := rfl
theorem sl_cell {h : H} {α : Type} {f : α → List AV} {k : Nat} (hf : ∀ a, (f a).length = k) {b o n : Nat} {cap : Cap} {l : List α} (hs : SliceAt h (.slice b o n cap) n (l.flatMap f)) {i j : Nat} {x : α} (hx : l[i]? = some x) (hj : j < k) :
    cellAt h b (o + i * k + j) = (f x)[j]? := by
  cases hs with
  | cell _ _ _ _ _ hb hc =>
    have hi : i < l.length := (List.getElem?_eq_some_iff.1 hx).1
    have : i * k + j < (l.flatMap f).length := by
      rw [flat_len f k hf]
      have : (i + 1) * k ≤ l.length * k := Nat.mul_le_mul_right _ hi
      rw [Nat.add_mul] at this; omega
    have := hc _ this
    rw [Nat.add_assoc, this, flat_get f k hf l i j x hx hj]
theorem gC_at {h : H} {b o n : Nat} {cap : Cap} {X : List (Gn × AV)} (hs : SliceAt h (.slice b o n cap) n (X.flatMap gC)) {i : Nat} {x : Gn × AV} (hx : X[i]? = some x) :
    cellAt h b (o + i * 6) = some (.int .u64 (.ofNat x.1.made)) ∧ cellAt h b (o + (i * 6 + 1)) = some (.int .u64 (.ofNat x.1.first)) ∧ cellAt h b (o + (i * 6 + 2)) = some x.2 ∧ cellAt h b (o + (i * 6 + 3)) = some (.int .u64 (.ofNat x.1.en.1)) ∧
    cellAt h b (o + (i * 6 + 4)) = some (.int .u64 (.ofNat x.1.en.2)) ∧ cellAt h b (o + (i * 6 + 5)) = some (.bool x.1.ended) := by
  have hc := fun j (hj : j < 6) => sl_cell gC_len hs hx hj
  simp only [Nat.add_assoc] at hc
  exact ⟨hc 0 (by omega), hc 1 (by omega), hc 2 (by omega), hc 3 (by omega), hc 4 (by omega), hc 5 (by omega)⟩
theorem rvC_at {h : H} {b o n : Nat} {cap : Cap} {l : List Rv} (hs : SliceAt h (.slice b o n cap) n (rvsC l)) {i : Nat} {x : Rv} (hx : l[i]? = some x) :
    cellAt h b (o + i * 2) = some (.int .u64 (.ofNat x.1)) ∧ cellAt h b (o + (i * 2 + 1)) = some (.int .u64 (.ofNat x.2)) := by
  have hc := fun j (hj : j < 2) => sl_cell rvC_len hs hx hj
  simp only [Nat.add_assoc] at hc
  exact ⟨hc 0 (by omega), hc 1 (by omega)⟩
theorem SliceAt.one {h : H} {v : AV} {n : Nat} {cs : List AV} (hs : SliceAt h v n cs) : v.one = true := by cases hs <;> rfl
theorem SliceAt.cells {h : H} {v : AV} {n : Nat} {cs : List AV} (hs : SliceAt h v n cs) : v.cells = [v] := by cases hs <;> rfl
theorem i64_nat {a : Nat} (hs : a < 9223372036854775808) : wrapF .i64 (Int.ofNat a) = Int.ofNat a := by
  have := i64_add (a := a) (b := 0) (by omega)
  rwa [Nat.add_zero, show Int.ofNat a + Int.ofNat 0 = Int.ofNat a from Int.add_zero _] at this
theorem u64_nat {a : Nat} (hs : a < 18446744073709551616) : wrapF .u64 (Int.ofNat a) = Int.ofNat a := by
  show ((a : Nat) : Int) % 18446744073709551616 = ((a : Nat) : Int)
  omega
theorem u64_mod (a b : Nat) : wrapF .u64 (Int.ofNat a + Int.ofNat b) = Int.ofNat ((a + b) % M64) := by
  show (((a : Nat) : Int) + ((b : Nat) : Int)) % 18446744073709551616 = (((a + b) % 18446744073709551616 : Nat) : Int)
  omega
def Sz (N : Nat) (L : List Gn) : Prop := L.length ≤ N ∧ ∀ g, g ∈ L → g.puts.length ≤ N
theorem Sz.le {N M : Nat} {L : List Gn} (h : Sz N L) (hm : N ≤ M) : Sz M L := ⟨Nat.le_trans h.1 hm, fun g hg => Nat.le_trans (h.2 g hg) hm⟩
theorem Has.only {h h' : H} {S : List Nat} {s : AV} {X : List (Gn × AV)} (hh : Has h s X) (ho : Only h h' S) (hs : ∀ b, blkOf s = some b → b ∉ S) (hp : ∀ x, x ∈ X → ∀ b, blkOf x.2 = some b → b ∉ S) : Has h' s X :=
  ⟨hh.1.only ho hs, fun x hx => (hh.2 x hx).only ho (hp x hx)⟩
theorem Has.keep {h h' : H} {s : AV} {X : List (Gn × AV)} (hh : Has h s X) (ho : Only h h' []) : Has h' s X := hh.only ho (fun _ _ => by simp) (fun _ _ _ _ => by simp)
theorem GensAt.keep {h h' : H} {v : AV} {L : List Gn} (hg : GensAt h v L) (ho : Only h h' []) : GensAt h' v L := by
  obtain ⟨s, X, rfl, rfl, hh, hn⟩ := hg; exact ⟨s, X, rfl, rfl, hh.keep ho, hn⟩
def above (a b : Rv) : Bool := decide (b.1 < a.1) || (decide (a.1 = b.1) && decide (b.2 < a.2))
def Says (h : H) (x : AV) (v : AV) (h' : H) : Prop := v = x ∧ Only h h' []
theorem aboveC (h : H) (a b : Rv) : PushC P (.enter 69 [rvA a, rvA b] h) (Says h (.bool (above a b))) := by
  obtain ⟨a1, a2⟩ := a
  obtain ⟨b1, b2⟩ := b
  unfold rvA rvC
  refine pushC_of_codeW (fn := Try.f69) (c := bodyC Try.f69) Try.func69 rfl ?_
  show codeW P 69 24 none _ _ _ _ _
  refine codeW_root ?_
  repeat' (first | ((with_reducible refine st1 ?_); (conv => whnf); (with_reducible refine ⟨?_⟩)) | ((with_reducible refine retW_intro rfl ?_); (conv => arg 2; whnf)) | ((with_reducible first | apply iB | apply gWt | apply gWf) <;> intro hb <;> (try simp only [hb])) | (simp only [B, F, reduceLT, reduceLeDiff, reduceEqDiff, reduceAdd, reduceMul, reduceSub, ↓reduceIte, eq_self]))
  all_goals refine ⟨?_, ((Only.refl _ _).new _ _).new _ _⟩
  all_goals simp [above, *]
def opn (L : List Gn) : Bool :=
  match L.getLast? with
  | some g => !g.ended
  | none => false
theorem openC (h : H) (v : AV) (L : List Gn) (hg : GensAt h v L) (hz : Sz 1000 L) : PushC P (.enter 48 [v] h) (Says h (.bool (opn L))) := by
  obtain ⟨s, X, rfl, rfl, hh, -⟩ := hg
  have hlen := hh.1.len (P := P) u24
  have hone : s.one = true := SliceAt.one hh.1
  have hz := hz.1
  rw [List.length_map] at hz
  refine pushC_of_codeW (fn := Try.f48) (c := bodyC Try.f48) Try.func48 rfl ?_
  show codeW P 48 19 none _ _ _ _ _
  refine codeW_root ?_
  by_cases hX : 0 < X.length
  · have d1 : decide (0 < X.length) = true := decide_eq_true hX
    obtain ⟨b, o, cap, rfl, hb, _⟩ := hh.1.place hX
    obtain ⟨x, hx⟩ : ∃ x, X[X.length - 1]? = some x := ⟨_, List.getElem?_eq_getElem (by omega)⟩
    have h5 := (gC_at hh.1 hx).2.2.2.2.2
    have e1 : wrapF .i64 (Int.ofNat X.length - Int.ofNat 1) = Int.ofNat (X.length - 1) := i64_sub (by omega) (by omega)
    have lt1 : (X.length - 1 < X.length) = True := by simp; omega
    have hbn : (b = h.nx) = False := by simp; omega
    repeat' (first | ((with_reducible refine st1 ?_); (conv => whnf); (with_reducible refine ⟨?_⟩)) | ((with_reducible refine retW_intro rfl ?_); (conv => arg 2; whnf)) | ((with_reducible first | apply iB | apply gWt | apply gWf) <;> intro hb <;> (try simp only [hb])) | (simp only [B, F, reduceLT, reduceLeDiff, reduceEqDiff, reduceAdd, reduceMul, reduceSub, ↓reduceIte, eq_self, hlen, hone, d1, e1, lt1, hbn, h5]))
    refine ⟨?_, ((Only.refl _ _).new _ _)⟩
    unfold opn
    rw [List.getLast?_map, List.getLast?_eq_getElem?, hx]
    rfl
  · have hX0 : X = [] := List.length_eq_zero_iff.1 (by omega)
    subst hX0
    have d1 : decide (0 < ([] : List (Gn × AV)).length) = false := rfl
    repeat' (first | ((with_reducible refine st1 ?_); (conv => whnf); (with_reducible refine ⟨?_⟩)) | ((with_reducible refine retW_intro rfl ?_); (conv => arg 2; whnf)) | ((with_reducible first | apply iB | apply gWt | apply gWf) <;> intro hb <;> (try simp only [hb])) | (simp only [B, F, reduceLT, reduceLeDiff, reduceEqDiff, reduceAdd, reduceMul, reduceSub, ↓reduceIte, eq_self, hlen, hone, d1]))
    exact ⟨rfl, ((Only.refl _ _).new _ _)⟩
def allV (b : Nat) : AV := .func 67 [] [.ptr b 0]
def PostAll (h : H) (s : AV) (v : AV) (h' : H) : Prop := ∃ b, v = allV b ∧ h' = h.newCells 26 [s] ∧ b = h.nx
theorem allC (h : H) (s : AV) (hs : s.one = true) : PushC P (.enter 43 [.agg [s]] h) (PostAll h s) := by
  refine pushC_of_codeW (fn := Try.f43) (c := bodyC Try.f43) Try.func43 rfl ?_
  show codeW P 43 4 none _ _ _ _ _
  refine codeW_root ?_
  repeat' (first | ((with_reducible refine st1 ?_); (conv => whnf); (with_reducible refine ⟨?_⟩)) | ((with_reducible refine retW_intro rfl ?_); (conv => arg 2; whnf)) | ((with_reducible first | apply iB | apply gWt | apply gWf) <;> intro hb <;> (try simp only [hb])) | (simp only [B, F, reduceLT, reduceLeDiff, reduceEqDiff, reduceAdd, reduceMul, reduceSub, ↓reduceIte, eq_self, hs]))
  exact ⟨_, rfl, rfl, rfl⟩
def isAll : AV := .func 68 [] []
theorem isAllC (h : H) (c : Ch) : PushC P (.enter 68 [chA c] h) (Says h (.bool true)) := by
  unfold chA chC
  refine pushC_of_codeW (fn := Try.f68) (c := bodyC Try.f68) Try.func68 rfl ?_
  show codeW P 68 3 none _ _ _ _ _
  refine codeW_root ?_
  repeat' (first | ((with_reducible refine st1 ?_); (conv => whnf); (with_reducible refine ⟨?_⟩)) | ((with_reducible refine retW_intro rfl ?_); (conv => arg 2; whnf)) | ((with_reducible first | apply iB | apply gWt | apply gWf) <;> intro hb <;> (try simp only [hb])) | (simp only [B, F, reduceLT, reduceLeDiff, reduceEqDiff, reduceAdd, reduceMul, reduceSub, ↓reduceIte, eq_self]))
  exact ⟨rfl, (Only.refl _ _).new _ _⟩
theorem isAtC (h : H) (c : Ch) (b m : Nat) (hb : b < h.nx) (hm : cellAt h b 0 = some (.int .u64 (.ofNat m))) : PushC P (.enter 45 [chA c, .ptr b 0] h) (Says h (.bool (decide (c.rev.1 ≤ m)))) := by
  unfold chA chC
  have hbn : (b = h.nx) = False := by simp; omega
  refine pushC_of_codeW (fn := Try.f45) (c := bodyC Try.f45) Try.func45 rfl ?_
  show codeW P 45 9 none _ _ _ _ _
  refine codeW_root ?_
  repeat' (first | ((with_reducible refine st1 ?_); (conv => whnf); (with_reducible refine ⟨?_⟩)) | ((with_reducible refine retW_intro rfl ?_); (conv => arg 2; whnf)) | ((with_reducible first | apply iB | apply gWt | apply gWf) <;> intro hb <;> (try simp only [hb])) | (simp only [B, F, reduceLT, reduceLeDiff, reduceEqDiff, reduceAdd, reduceMul, reduceSub, ↓reduceIte, eq_self, hm, hbn]))
  exact ⟨rfl, (Only.refl _ _).new _ _⟩
end
end Go.Proofs.Ytlkngpckibidlaa.W

namespace Go.Proofs.Ytlkngpckibidlaa.W
open Go Go.AX
noncomputable section
set_option maxRecDepth 100000
def gs (X : List (Gn × AV)) : List Gn := X.map (·.1)
theorem all_part {X : List (Gn × AV)} {i : Nat} {x : Gn × AV} (hx : X[i]? = some x) : ∃ R, all (gs X) = all (gs (X.take i)) ++ (gChs x.1 ++ R) := by
  have hi : i < X.length := (List.getElem?_eq_some_iff.1 hx).1
  have hxe : X[i] = x := (List.getElem?_eq_some_iff.1 hx).2
  refine ⟨all (gs (X.drop (i + 1))), ?_⟩
  have e : X = X.take i ++ x :: X.drop (i + 1) := by
    rw [← hxe, ← List.drop_eq_getElem_cons hi, List.take_append_drop]
  conv => lhs; rw [e]
  simp [gs, all]
theorem all_put {X : List (Gn × AV)} {i j : Nat} {x : Gn × AV} {r : Rv} (hx : X[i]? = some x) (hr : x.1.puts[j]? = some r) : (all (gs X))[(all (gs (X.take i))).length + j]? = some ⟨r, x.1.made, (x.1.first + j) % M64, false⟩ := by
  obtain ⟨R, e⟩ := all_part hx
  have hj : j < x.1.puts.length := (List.getElem?_eq_some_iff.1 hr).1
  rw [e, List.getElem?_append_right (by omega), show (all (gs (X.take i))).length + j - (all (gs (X.take i))).length = j by omega]
  unfold gChs
  rw [List.append_assoc, List.getElem?_append_left (by rw [putChs_len]; exact hj), putChs_get, hr]
  rfl
theorem all_end {X : List (Gn × AV)} {i : Nat} {x : Gn × AV} (hx : X[i]? = some x) (he : x.1.ended = true) : (all (gs X))[(all (gs (X.take i))).length + x.1.puts.length]? = some ⟨x.1.en, 0, 0, true⟩ := by
  obtain ⟨R, e⟩ := all_part hx
  rw [e, List.getElem?_append_right (by omega), show (all (gs (X.take i))).length + x.1.puts.length - (all (gs (X.take i))).length = x.1.puts.length by omega]
  unfold gChs endChs
  rw [he, if_pos rfl, List.append_assoc, List.getElem?_append_right (by rw [putChs_len]; exact Nat.le_refl _), putChs_len, Nat.sub_self]
  rfl
theorem all_take {X : List (Gn × AV)} {i : Nat} {x : Gn × AV} (hx : X[i]? = some x) : (all (gs (X.take (i + 1)))).length = (all (gs (X.take i))).length + x.1.puts.length + (if x.1.ended then 1 else 0) := by
  rw [List.take_add_one, hx]
  simp only [gs, List.map_append, Option.toList_some, List.map_cons, List.map_nil, all, List.flatMap_append, List.flatMap_cons, List.flatMap_nil, List.append_nil, List.length_append, gChs, putChs_len, endChs]
  split <;> simp <;> omega
def OnlyM (h h' : H) (S : List Nat) (mv : Option Nat) : Prop := h.nx ≤ h'.nx ∧ ∀ b, b < h.nx → b ∉ S → mv ≠ some b → h'.t.get b = h.t.get b
theorem Only.m {h h' : H} {S : List Nat} (ho : Only h h' S) (mv : Option Nat) : OnlyM h h' S mv := ⟨ho.1, fun b hb hs _ => ho.2 b hb hs⟩
theorem OnlyM.from {h0 h h' : H} {S : List Nat} {mv : Option Nat} (ho : Only h0 h S) (hm : OnlyM h h' S mv) (hmv : ∀ b, mv = some b → h0.nx ≤ b) : Only h0 h' S :=
  ⟨Nat.le_trans ho.1 hm.1, fun b hb hs => by rw [hm.2 b (Nat.lt_of_lt_of_le hb ho.1) hs (fun q => by have := hmv b q; omega)]; exact ho.2 b hb hs⟩
structure AI (h0 : H) (l : Nat) (s : AV) (X : List (Gn × AV)) (S : List Nat) (J : Nat → Option Nat → H → Prop) (n : Nat) (ds : List Nat) (tm : T AV) (h : H) (mv : Option Nat) (i : Nat) : Prop where
  ds : ds = []
  nn : n = X.length - i
  ii : i ≤ X.length
  t0 : tm.get 0 = some (.yield l)
  t8 : tm.get 8 = some s
  t9 : tm.get 9 = some (.int .i64 (.ofNat X.length))
  t10 : tm.get 10 = some (.int .i64 (.ofNat i))
  jj : J (all (gs (X.take i))).length mv h
  mm : ∀ b, mv = some b → h0.nx ≤ b
  oo : Only h0 h S
structure BI (h0 : H) (l : Nat) (s : AV) (X : List (Gn × AV)) (S : List Nat) (J : Nat → Option Nat → H → Prop) (i : Nat) (x : Gn × AV) (b4 : Nat) (n : Nat) (ds : List Nat) (tm : T AV) (h : H) (mv : Option Nat) (j : Nat) : Prop where
  ds : ds = []
  nn : n = x.1.puts.length - j
  jl : j ≤ x.1.puts.length
  t0 : tm.get 0 = some (.yield l)
  t8 : tm.get 8 = some s
  t9 : tm.get 9 = some (.int .i64 (.ofNat X.length))
  t10 : tm.get 10 = some (.int .i64 (.ofNat i))
  t4 : tm.get 4 = some (.ptr b4 0)
  t15 : tm.get 15 = some x.2
  t16 : tm.get 16 = some (.int .i64 (.ofNat x.1.puts.length))
  t17 : tm.get 17 = some (.int .i64 (.ofNat j))
  jj : J ((all (gs (X.take i))).length + j) mv h
  mm : ∀ b, mv = some b → h0.nx ≤ b
  nb : mv ≠ some b4
  oo : Only h0 h S
  bb : h0.nx ≤ b4 ∧ b4 < h.nx
  c0 : cellAt h b4 0 = some (.int .u64 (.ofNat x.1.made))
  c1 : cellAt h b4 1 = some (.int .u64 (.ofNat x.1.first))
  c3 : cellAt h b4 3 = some (.int .u64 (.ofNat x.1.en.1))
  c4 : cellAt h b4 4 = some (.int .u64 (.ofNat x.1.en.2))
  c5 : cellAt h b4 5 = some (.bool x.1.ended)
theorem allRun (h0 : H) (l b : Nat) (s : AV) (X : List (Gn × AV)) (S : List Nat) (J : Nat → Option Nat → H → Prop) (hz : Sz 1000 (gs X)) (hS : ∀ c, c ∈ S → c < h0.nx)
    (hJs : ∀ k mv h h', J k mv h → Only h h' [] → J k mv h') (hJm : ∀ k mv h, J k mv h → ∀ b, mv = some b → b < h.nx) (hJX : ∀ k mv h, J k mv h → cellAt h b 0 = some s ∧ Has h s X)
    (hJr : ∀ k mv h c, J k mv h → Only h0 h S → (all (gs X))[k]? = some c → PushC P (.round l [chA c] h) fun v h' => v = .bool true ∧ ∃ mv', J (k + 1) mv' h' ∧ OnlyM h h' S mv ∧ (mv' = mv ∨ ∃ b, mv' = some b ∧ h.nx ≤ b)) (h0J : J 0 none h0) :
    PushC P (.enter 67 [.yield l, .ptr b 0] h0) fun _ h' => ∃ mv, J (all (gs X)).length mv h' ∧ Only h0 h' S ∧ ∀ b, mv = some b → h0.nx ≤ b := by
  have hx0 := hJX 0 _ h0 h0J
  have hlen := hx0.2.1.len (P := P) u24
  have hc := hx0.1
  have hz1 : X.length ≤ 1000 := by have := hz.1; simpa [gs] using this
  refine pushC_of_codeW (fn := Try.f67) (c := bodyC Try.f67) Try.func67 rfl ?_
  show codeW P 67 46 none _ _ _ _ _
  refine codeW_root ?_
  repeat' (first | ((with_reducible refine st1 ?_); (conv => whnf); (with_reducible refine ⟨?_⟩)) | ((with_reducible refine retW_intro rfl ?_); (conv => arg 2; whnf)) | ((with_reducible first | apply iB | apply gWt | apply gWf) <;> intro hb <;> (try simp only [hb])) | (simp only [B, F, reduceLT, reduceLeDiff, reduceEqDiff, reduceAdd, reduceMul, reduceSub, ↓reduceIte, eq_self, hc, hlen]))
  refine st_loop (fun n ds tm h => ∃ mv i, AI h0 l s X S J n ds tm h mv i) X.length rfl ⟨none, 0, rfl, rfl, Nat.zero_le _, by simp only [B, F, reduceLT, reduceLeDiff, reduceEqDiff, reduceAdd, reduceMul, reduceSub, ↓reduceIte, eq_self], by simp only [B, F, reduceLT, reduceLeDiff, reduceEqDiff, reduceAdd, reduceMul, reduceSub, ↓reduceIte, eq_self], by simp only [B, F, reduceLT, reduceLeDiff, reduceEqDiff, reduceAdd, reduceMul, reduceSub, ↓reduceIte, eq_self], by simp only [B, F, reduceLT, reduceLeDiff, reduceEqDiff, reduceAdd, reduceMul, reduceSub, ↓reduceIte, eq_self], h0J, (fun _ q => by cases q), Only.refl _ _⟩ (fun n ds tm h hI => ?_)
  obtain ⟨mv, i, rfl, rfl, ii, t0, t8, t9, t10, jj, mm, oo⟩ := hI
  by_cases hi : i < X.length
  · have d1 : decide (i < X.length) = true := decide_eq_true hi
    have lt1 : (i < X.length) = True := by simp [hi]
    obtain ⟨x, hx⟩ : ∃ x, X[i]? = some x := ⟨_, List.getElem?_eq_getElem hi⟩
    have hxm : x ∈ X := List.mem_of_getElem? hx
    have hh := (hJX _ _ _ jj).2
    obtain ⟨bs, os, cap, rfl, hbs, _⟩ := hh.1.place (by omega)
    obtain ⟨g0, g1, g2, g3, g4, g5⟩ := gC_at hh.1 hx
    have hxl := (hh.2 x hxm).len (P := P) u29
    have hone := SliceAt.one (hh.2 x hxm)
    repeat' (first | ((with_reducible refine st1 ?_); (conv => whnf); (with_reducible refine ⟨?_⟩)) | ((with_reducible refine retW_intro rfl ?_); (conv => arg 2; whnf)) | ((with_reducible first | apply iB | apply gWt | apply gWf) <;> intro hb <;> (try simp only [hb])) | (simp only [B, F, reduceLT, reduceLeDiff, reduceEqDiff, reduceAdd, reduceMul, reduceSub, ↓reduceIte, eq_self, t0, t8, t9, t10, d1, lt1, g0, g1, g2, g3, g4, g5, hone, hxl]))
    have hxz : x.1.puts.length ≤ 1000 := hz.2 x.1 (List.mem_map.2 ⟨x, hxm, rfl⟩)
    have oo1 : Only h ((h.newCells 87 [.int .u64 (.ofNat 0), .int .u64 (.ofNat 0), .nilslice, .int .u64 (.ofNat 0), .int .u64 (.ofNat 0), .bool false]).sts h.nx 0 (gC x)) [] := ((Only.refl _ _).new _ _).sts (.inr (Nat.le_refl _))
    refine st_loop (fun n ds tm h' => ∃ mv j, BI h0 l (.slice bs os X.length cap) X S J i x h.nx n ds tm h' mv j) x.1.puts.length rfl ⟨mv, 0, rfl, rfl, Nat.zero_le _, by simp only [B, F, reduceLT, reduceLeDiff, reduceEqDiff, reduceAdd, reduceMul, reduceSub, ↓reduceIte, eq_self, t0], by simp only [B, F, reduceLT, reduceLeDiff, reduceEqDiff, reduceAdd, reduceMul, reduceSub, ↓reduceIte, eq_self, t8], by simp only [B, F, reduceLT, reduceLeDiff, reduceEqDiff, reduceAdd, reduceMul, reduceSub, ↓reduceIte, eq_self, t9], by simp only [B, F, reduceLT, reduceLeDiff, reduceEqDiff, reduceAdd, reduceMul, reduceSub, ↓reduceIte, eq_self, t10], by simp only [B, F, reduceLT, reduceLeDiff, reduceEqDiff, reduceAdd, reduceMul, reduceSub, ↓reduceIte, eq_self], by simp only [B, F, reduceLT, reduceLeDiff, reduceEqDiff, reduceAdd, reduceMul, reduceSub, ↓reduceIte, eq_self], by simp only [B, F, reduceLT, reduceLeDiff, reduceEqDiff, reduceAdd, reduceMul, reduceSub, ↓reduceIte, eq_self], by simp only [B, F, reduceLT, reduceLeDiff, reduceEqDiff, reduceAdd, reduceMul, reduceSub, ↓reduceIte, eq_self], hJs _ _ _ _ jj oo1, mm, (fun q => by have := hJm _ _ _ jj _ q; omega), oo.trans oo1 (fun _ h => h) (fun _ h => by cases h),
      ⟨oo.1, by rw [nx_sts, nx_new]; exact Nat.lt_succ_self _⟩, by simp only [B, F, reduceLT, reduceLeDiff, reduceEqDiff, reduceAdd, reduceMul, reduceSub, ↓reduceIte, eq_self], by simp only [B, F, reduceLT, reduceLeDiff, reduceEqDiff, reduceAdd, reduceMul, reduceSub, ↓reduceIte, eq_self], by simp only [B, F, reduceLT, reduceLeDiff, reduceEqDiff, reduceAdd, reduceMul, reduceSub, ↓reduceIte, eq_self], by simp only [B, F, reduceLT, reduceLeDiff, reduceEqDiff, reduceAdd, reduceMul, reduceSub, ↓reduceIte, eq_self], by simp only [B, F, reduceLT, reduceLeDiff, reduceEqDiff, reduceAdd, reduceMul, reduceSub, ↓reduceIte, eq_self]⟩ (fun n ds tm h1 hI => ?_)
    clear t0 t8 t9 t10
    clear mm
    obtain ⟨mv1, j, rfl, rfl, jl, t0, t8, t9, t10, t4, t15, t16, t17, jj1, mm, nb, oo2, bb, c0, c1, c3, c4, c5⟩ := hI
    by_cases hj : j < x.1.puts.length
    · have d2 : decide (j < x.1.puts.length) = true := decide_eq_true hj
      have lt2 : (j < x.1.puts.length) = True := by simp [hj]
      obtain ⟨r, hr⟩ : ∃ r, x.1.puts[j]? = some r := ⟨_, List.getElem?_eq_getElem hj⟩
      have hh1 := (hJX _ _ _ jj1).2
      obtain ⟨bp, op, cap2, hx2, hbp, _⟩ := (hh1.2 x hxm).place (by omega)
      have hsl := hh1.2 x hxm
      rw [hx2] at hsl t15
      obtain ⟨r0, r1⟩ := rvC_at hsl hr
      have bn : (h.nx = h1.nx) = False := by simp; omega
      have w1 : wrapF .u64 (Int.ofNat j) = Int.ofNat j := u64_nat (by omega)
      have w2 : wrapF .i64 (Int.ofNat j + Int.ofNat 1) = Int.ofNat (j + 1) := i64_add (by omega)
      repeat' (first | ((with_reducible refine st1 ?_); (conv => whnf); (with_reducible refine ⟨?_⟩)) | ((with_reducible refine retW_intro rfl ?_); (conv => arg 2; whnf)) | ((with_reducible first | apply iB | apply gWt | apply gWf) <;> intro hb <;> (try simp only [hb])) | (simp only [B, F, reduceLT, reduceLeDiff, reduceEqDiff, reduceAdd, reduceMul, reduceSub, ↓reduceIte, eq_self, t0, t4, t15, t16, t17, d2, lt2, r0, r1, bn, c0, c1, w1, u64_mod]))
      have oo3 : Only h1 ((h1.newCells 35 [.int .u64 (.ofNat 0), .int .u64 (.ofNat 0)]).sts h1.nx 0 [.int .u64 (.ofNat r.1), .int .u64 (.ofNat r.2)]) [] := ((Only.refl _ _).new _ _).sts (.inr (Nat.le_refl _))
      refine ((hJr _ _ _ ⟨r, x.1.made, (x.1.first + j) % M64, false⟩ (hJs _ _ _ _ jj1 oo3) (oo2.trans oo3 (fun _ h => h) (fun _ h => by cases h)) (all_put hx hr)).call P).mono P ?_
      rintro v h2 ⟨rfl, mv2, jj2, oo4, hm2⟩
      have x3 := oo3.1
      have ho : OnlyM h1 h2 S mv1 := ⟨Nat.le_trans oo3.1 oo4.1, fun b hb hs hm => by rw [oo4.2 b (by omega) hs hm, oo3.2 b hb (by simp)]⟩
      have mm2 : ∀ b, mv2 = some b → h0.nx ≤ b := by
        rcases hm2 with rfl | ⟨c, rfl, hc⟩
        · exact mm
        · intro b q; cases q; omega
      have nb2 : mv2 ≠ some h.nx := by
        rcases hm2 with rfl | ⟨c, rfl, hc⟩
        · exact nb
        · intro q; cases q; omega
      have hb4 : h.nx ∉ S := fun q => by have := hS _ q; omega
      have hc := cellAt_of_get (ho.2 _ bb.2 hb4 nb)
      repeat' (first | ((with_reducible refine st1 ?_); (conv => whnf); (with_reducible refine ⟨?_⟩)) | ((with_reducible refine retW_intro rfl ?_); (conv => arg 2; whnf)) | ((with_reducible first | apply iB | apply gWt | apply gWf) <;> intro hb <;> (try simp only [hb])) | (simp only [B, F, reduceLT, reduceLeDiff, reduceEqDiff, reduceAdd, reduceMul, reduceSub, ↓reduceIte, eq_self, t17, w2]))
      refine ⟨x.1.puts.length - (j + 1), by omega, mv2, j + 1, rfl, rfl, by omega, by simp only [B, F, reduceLT, reduceLeDiff, reduceEqDiff, reduceAdd, reduceMul, reduceSub, ↓reduceIte, eq_self, t0], by simp only [B, F, reduceLT, reduceLeDiff, reduceEqDiff, reduceAdd, reduceMul, reduceSub, ↓reduceIte, eq_self, t8], by simp only [B, F, reduceLT, reduceLeDiff, reduceEqDiff, reduceAdd, reduceMul, reduceSub, ↓reduceIte, eq_self, t9], by simp only [B, F, reduceLT, reduceLeDiff, reduceEqDiff, reduceAdd, reduceMul, reduceSub, ↓reduceIte, eq_self, t10], by simp only [B, F, reduceLT, reduceLeDiff, reduceEqDiff, reduceAdd, reduceMul, reduceSub, ↓reduceIte, eq_self, t4], by simp only [B, F, reduceLT, reduceLeDiff, reduceEqDiff, reduceAdd, reduceMul, reduceSub, ↓reduceIte, eq_self, t15, hx2], by simp only [B, F, reduceLT, reduceLeDiff, reduceEqDiff, reduceAdd, reduceMul, reduceSub, ↓reduceIte, eq_self, t16], by simp only [B, F, reduceLT, reduceLeDiff, reduceEqDiff, reduceAdd, reduceMul, reduceSub, ↓reduceIte, eq_self], by rw [← Nat.add_assoc]; exact jj2, mm2, nb2, OnlyM.from oo2 ho mm, ⟨bb.1, Nat.lt_of_lt_of_le bb.2 ho.1⟩,
        by rw [hc]; exact c0, by rw [hc]; exact c1, by rw [hc]; exact c3, by rw [hc]; exact c4, by rw [hc]; exact c5⟩
    · have d2 : decide (j < x.1.puts.length) = false := decide_eq_false hj
      have hje : j = x.1.puts.length := by omega
      subst hje
      have w2 : wrapF .i64 (Int.ofNat i + Int.ofNat 1) = Int.ofNat (i + 1) := i64_add (by omega)
      have hat := all_take hx
      cases hend : x.1.ended with
      | true =>
        rw [hend] at c5 hat
        rw [if_pos rfl] at hat
        repeat' (first | ((with_reducible refine st1 ?_); (conv => whnf); (with_reducible refine ⟨?_⟩)) | ((with_reducible refine retW_intro rfl ?_); (conv => arg 2; whnf)) | ((with_reducible first | apply iB | apply gWt | apply gWf) <;> intro hb <;> (try simp only [hb])) | (simp only [B, F, reduceLT, reduceLeDiff, reduceEqDiff, reduceAdd, reduceMul, reduceSub, ↓reduceIte, eq_self, t0, t4, t16, t17, t10, d2, c3, c4, c5, w2]))
        refine ((hJr _ _ _ ⟨x.1.en, 0, 0, true⟩ jj1 oo2 (all_end hx hend)).call P).mono P ?_
        rintro v h2 ⟨rfl, mv2, jj2, oo4, hm2⟩
        have mm2 : ∀ b, mv2 = some b → h0.nx ≤ b := by
          have x2 := oo2.1
          rcases hm2 with rfl | ⟨c, rfl, hc⟩
          · exact mm
          · intro b q; cases q; omega
        repeat' (first | ((with_reducible refine st1 ?_); (conv => whnf); (with_reducible refine ⟨?_⟩)) | ((with_reducible refine retW_intro rfl ?_); (conv => arg 2; whnf)) | ((with_reducible first | apply iB | apply gWt | apply gWf) <;> intro hb <;> (try simp only [hb])) | (simp only [B, F, reduceLT, reduceLeDiff, reduceEqDiff, reduceAdd, reduceMul, reduceSub, ↓reduceIte, eq_self, t10, w2]))
        refine ⟨X.length - (i + 1), by omega, mv2, i + 1, rfl, rfl, by omega, by simp only [B, F, reduceLT, reduceLeDiff, reduceEqDiff, reduceAdd, reduceMul, reduceSub, ↓reduceIte, eq_self, t0], by simp only [B, F, reduceLT, reduceLeDiff, reduceEqDiff, reduceAdd, reduceMul, reduceSub, ↓reduceIte, eq_self, t8], by simp only [B, F, reduceLT, reduceLeDiff, reduceEqDiff, reduceAdd, reduceMul, reduceSub, ↓reduceIte, eq_self, t9], by simp only [B, F, reduceLT, reduceLeDiff, reduceEqDiff, reduceAdd, reduceMul, reduceSub, ↓reduceIte, eq_self], by rw [hat]; exact jj2, mm2, OnlyM.from oo2 oo4 mm⟩
      | false =>
        rw [hend] at c5 hat
        rw [if_neg (by simp)] at hat
        repeat' (first | ((with_reducible refine st1 ?_); (conv => whnf); (with_reducible refine ⟨?_⟩)) | ((with_reducible refine retW_intro rfl ?_); (conv => arg 2; whnf)) | ((with_reducible first | apply iB | apply gWt | apply gWf) <;> intro hb <;> (try simp only [hb])) | (simp only [B, F, reduceLT, reduceLeDiff, reduceEqDiff, reduceAdd, reduceMul, reduceSub, ↓reduceIte, eq_self, t0, t4, t16, t17, t10, d2, c3, c4, c5, w2]))
        refine ⟨X.length - (i + 1), by omega, mv1, i + 1, rfl, rfl, by omega, by simp only [B, F, reduceLT, reduceLeDiff, reduceEqDiff, reduceAdd, reduceMul, reduceSub, ↓reduceIte, eq_self, t0], by simp only [B, F, reduceLT, reduceLeDiff, reduceEqDiff, reduceAdd, reduceMul, reduceSub, ↓reduceIte, eq_self, t8], by simp only [B, F, reduceLT, reduceLeDiff, reduceEqDiff, reduceAdd, reduceMul, reduceSub, ↓reduceIte, eq_self, t9], by simp only [B, F, reduceLT, reduceLeDiff, reduceEqDiff, reduceAdd, reduceMul, reduceSub, ↓reduceIte, eq_self], by rw [hat, Nat.add_zero]; exact jj1, mm, oo2⟩
  · have d1 : decide (i < X.length) = false := decide_eq_false hi
    have hie : i = X.length := by omega
    subst hie
    repeat' (first | ((with_reducible refine st1 ?_); (conv => whnf); (with_reducible refine ⟨?_⟩)) | ((with_reducible refine retW_intro rfl ?_); (conv => arg 2; whnf)) | ((with_reducible first | apply iB | apply gWt | apply gWf) <;> intro hb <;> (try simp only [hb])) | (simp only [B, F, reduceLT, reduceLeDiff, reduceEqDiff, reduceAdd, reduceMul, reduceSub, ↓reduceIte, eq_self, t9, t10, d1]))
    rw [List.take_length] at jj
    rw [retK_norm]
    exact ⟨_, rfl, _, rfl, mv, jj, oo, mm⟩
end
end Go.Proofs.Ytlkngpckibidlaa.W

namespace Go.Proofs.Ytlkngpckibidlaa.W
open Go Go.AX
noncomputable section
set_option maxRecDepth 100000
def ch0 : Ch := ⟨(0, 0), 0, 0, false⟩
def lst (p : Ch → Bool) (l : List Ch) : Option Ch := (l.filter p).getLast?
def lstC (p : Ch → Bool) (l : List Ch) : Ch := (lst p l).getD ch0
def lstB (p : Ch → Bool) (l : List Ch) : Bool := (lst p l).isSome
theorem lst_take {p : Ch → Bool} {l : List Ch} {k : Nat} {c : Ch} (hc : l[k]? = some c) : lst p (l.take (k + 1)) = if p c then some c else lst p (l.take k) := by
  unfold lst
  rw [List.take_add_one, hc, List.filter_append]
  by_cases q : p c = true
  · simp [q]
  · simp [q]
def IsFn (h0 : H) (v : AV) (p : Ch → Bool) : Prop := ∀ (h : H) (c : Ch), Only h0 h [] → ∃ f args, (∀ h', callV P v [chA c] h' = .enter f args h') ∧ PushC P (.enter f args h) (Says h (.bool (p c)))
structure LJ (h0 : H) (s : AV) (X : List (Gn × AV)) (isV : AV) (p : Ch → Bool) (r : ALoop) (k : Nat) (h : H) : Prop where
  nx : h0.nx + 7 ≤ h.nx
  old : ∀ b, b < h0.nx → h.t.get b = h0.t.get b
  hl : h.t.get (h0.nx + 6) = some (.loop r)
  hd : h.t.get (h0.nx + 5) = some (.deferred (some []))
  c1 : cellAt h (h0.nx + 1) 0 = some isV
  c4 : cellAt h (h0.nx + 4) 0 = some s
  w2 : wrAt h (h0.nx + 2) = true
  w3 : wrAt h (h0.nx + 3) = true
  a0 : cellAt h (h0.nx + 2) 0 = some (.int .u64 (.ofNat (lstC p ((all (gs X)).take k)).rev.1))
  a1 : cellAt h (h0.nx + 2) 1 = some (.int .u64 (.ofNat (lstC p ((all (gs X)).take k)).rev.2))
  a2 : cellAt h (h0.nx + 2) 2 = some (.int .u64 (.ofNat (lstC p ((all (gs X)).take k)).made))
  a3 : cellAt h (h0.nx + 2) 3 = some (.int .u64 (.ofNat (lstC p ((all (gs X)).take k)).nth))
  a4 : cellAt h (h0.nx + 2) 4 = some (.bool (lstC p ((all (gs X)).take k)).tomb)
  b0 : cellAt h (h0.nx + 3) 0 = some (.bool (lstB p ((all (gs X)).take k)))
  tm : r.tm.get 2 = some (.ptr h0.nx 0) ∧ r.tm.get 3 = some (.ptr (h0.nx + 1) 0) ∧ r.tm.get 4 = some (.ptr (h0.nx + 2) 0) ∧ r.tm.get 5 = some (.ptr (h0.nx + 3) 0)
theorem LJ.keep {h0 : H} {s : AV} {X : List (Gn × AV)} {isV : AV} {p : Ch → Bool} {r : ALoop} {k : Nat} {h h' : H} (hj : LJ h0 s X isV p r k h) (ho : Only h h' []) : LJ h0 s X isV p r k h' := by
  obtain ⟨nx, old, hl, hd, c1, c4, w2, w3, a0, a1, a2, a3, a4, b0, tm⟩ := hj
  have e := fun b (hb : b < h.nx) => ho.2 b hb (by simp)
  have ec := fun b (hb : b < h.nx) => cellAt_of_get (e b hb)
  have ew := fun b (hb : b < h.nx) => wrAt_of_get (e b hb)
  refine ⟨Nat.le_trans nx ho.1, fun b hb => by rw [e b (by omega), old b hb], by rw [e _ (by omega)]; exact hl, by rw [e _ (by omega)]; exact hd, by rw [ec _ (by omega)]; exact c1, by rw [ec _ (by omega)]; exact c4, by rw [ew _ (by omega)]; exact w2, by rw [ew _ (by omega)]; exact w3,
    by rw [ec _ (by omega)]; exact a0, by rw [ec _ (by omega)]; exact a1, by rw [ec _ (by omega)]; exact a2, by rw [ec _ (by omega)]; exact a3, by rw [ec _ (by omega)]; exact a4, by rw [ec _ (by omega)]; exact b0, tm⟩
theorem LJ.o {h0 : H} {s : AV} {X : List (Gn × AV)} {isV : AV} {p : Ch → Bool} {r : ALoop} {k : Nat} {h : H} (hj : LJ h0 s X isV p r k h) : Only h0 h [] := ⟨by have := hj.nx; omega, fun b hb _ => hj.old b hb⟩
def bodyP : List Nat := [0, 1, 0, 1]
noncomputable abbrev lastR (h0 : H) (tm : T AV) : ALoop := loopR 44 16 tm [9] (codeI (bodyC Try.f44) (0 :: bodyP)) (codeI (bodyC Try.f44) (1 :: bodyP)) (h0.nx + 5) .ready
theorem lastRound (h0 : H) (s : AV) (X : List (Gn × AV)) (isV : AV) (p : Ch → Bool) (tm : T AV) (his : IsFn h0 isV p) (hcl : isV.cells = [isV]) (k : Nat) (h : H) (c : Ch) (hj : LJ h0 s X isV p (lastR h0 tm) k h) (hc : (all (gs X))[k]? = some c) :
    PushC P (.round (h0.nx + 6) [chA c] h) fun v h' => v = .bool true ∧ ∃ mv' : Option Nat, (mv' = none ∧ LJ h0 s X isV p (lastR h0 tm) (k + 1) h') ∧ OnlyM h h' [h0.nx + 2, h0.nx + 3, h0.nx + 6] none ∧ (mv' = none ∨ ∃ b, mv' = some b ∧ h.nx ≤ b) := by
  have hj0 := hj
  obtain ⟨nx, old, hl, hd, c1, c4, w2, w3, a0, a1, a2, a3, a4, b0, q2, q3, q4, q5⟩ := hj
  have hl6 : (h.nx = h0.nx + 6) = False := by simp; omega
  refine round_walk (tm := tm.set 9 (some (chA c))) hl rfl ?_
  show codeW P 44 16 (some (h0.nx + 6)) (codeI (bodyC Try.f44) (0 :: bodyP)) _ _ _ _
  unfold chA chC
  unfold bodyP
  have q2 : tm.get 2 = some (.ptr h0.nx 0) := q2
  have q3 : tm.get 3 = some (.ptr (h0.nx + 1) 0) := q3
  have q4 : tm.get 4 = some (.ptr (h0.nx + 2) 0) := q4
  have q5 : tm.get 5 = some (.ptr (h0.nx + 3) 0) := q5
  repeat' (first | ((with_reducible refine st1 ?_); (conv => whnf); (with_reducible refine ⟨?_⟩)) | ((with_reducible refine st_dw ?_ rfl rfl ?_ ?_); exact rfl; kernel_rfl; (conv => arg 5; whnf); (conv => arg 3; whnf)) | ((with_reducible refine retW_intro rfl ?_); (conv => arg 2; whnf)) | ((with_reducible first | apply iB | apply gWt | apply gWf | apply gXt | apply gXf) <;> intro hb <;> (try simp only [hb])) | ((with_reducible show drawI _ _ _ _ _ _ _ _ _); first | ((with_reducible refine kI_rd ?_ ?_); exact rfl) | ((with_reducible apply kI_rg); exact rfl; exact rfl) | ((with_reducible refine kI_cv ?_ ?_ ?_); exact rfl; kernel_rfl) | ((with_reducible apply kI_al); exact rfl; exact rfl) | ((with_reducible refine kI_ex ?_ ?_ ?_ ?_ ?_); exact rfl; kernel_rfl; exact rfl) | ((with_reducible apply kI_eg); exact rfl; kernel_rfl; exact rfl) | ((with_reducible refine kI_nl ?_ ?_))) | ((with_reducible show eOk _ _ _ _ _ _); first | (exact eok_nil) | (refine ke_rd ?_ ?_ ?_; exact rfl) | (apply ke_rg; exact rfl; exact rfl) | (refine ke_cv ?_ ?_ ?_ ?_; exact rfl; kernel_rfl) | (apply ke_al; exact rfl; exact rfl)) | ((with_reducible refine freshIs_new ?_); kernel_rfl) | (simp only [B, xB, F, reduceLT, reduceLeDiff, reduceEqDiff, reduceAdd, reduceMul, reduceSub, ↓reduceIte, eq_self]))
  refine asg_norm (by rw [get_sts _ _ _ _ (by omega), get_new _ _ _ (by omega)]; exact hl) rfl ?_
  show codeW P 44 16 (some (h0.nx + 6)) (codeI (bodyC Try.f44) [1, 0, 1, 0, 1]) _ _ _ _
  obtain ⟨h1, e1⟩ : ∃ h1, h1 = ((h.newCells 92 [.int .u64 (.ofNat 0), .int .u64 (.ofNat 0), .int .u64 (.ofNat 0), .int .u64 (.ofNat 0), .bool false]).sts h.nx 0 (chC c)).obj (h0.nx + 6) (.loop { lastR h0 tm with state := .busy }) := ⟨_, rfl⟩
  have ho1 : Only h h1 [h0.nx + 2, h0.nx + 3, h0.nx + 6] := by rw [e1]; exact (((Only.refl _ _).new _ _).sts (.inr (Nat.le_refl _))).obj (.inl (by simp)) _
  have hl1 : h1.t.get (h0.nx + 6) = some (.loop { lastR h0 tm with state := .busy }) := by rw [e1]; exact get_obj_self _ _
  have d : ∀ i, cellAt h1 h.nx i = (chC c)[i]? := fun i => by
    rw [e1, cellAt_obj (by omega), cellAt_sts (by rw [wrAt_new, if_pos rfl])]
    rcases Nat.lt_or_ge i 5 with hi | hi
    · rw [if_pos ⟨rfl, by omega, by simp [chC]; omega⟩, Nat.sub_zero]
    · rw [if_neg (by simp [chC]; omega), cellAt_new, if_pos rfl, List.getElem?_eq_none (by simp; omega), List.getElem?_eq_none (by simp [chC]; omega)]
  have hx1 : h1.nx = h.nx + 1 := by rw [e1, nx_obj, nx_sts, nx_new]
  have hw6 : h.nx ∉ [h0.nx + 2, h0.nx + 3, h0.nx + 6] := by simp; omega
  have hget1 : ∀ b, b < h.nx → b ≠ h0.nx + 6 → h1.t.get b = h.t.get b := fun b hb hne => by rw [e1, get_obj_ne hne, get_sts _ _ _ _ (by omega), get_new _ _ _ (by omega)]
  have hc1 : cellAt h1 (h0.nx + 1) 0 = some isV := by rw [cellAt_of_get (hget1 _ (by omega) (by omega))]; exact c1
  have d0 := d 0
  have d1 := d 1
  have d2 := d 2
  have d3 := d 3
  have d4 := d 4
  have hb1 : ∀ l, (some ((h.newCells 92 [.int .u64 (.ofNat 0), .int .u64 (.ofNat 0), .int .u64 (.ofNat 0), .int .u64 (.ofNat 0), .bool false]).sts h.nx 0 l) : Option H) = some ((h.newCells 92 [.int .u64 (.ofNat 0), .int .u64 (.ofNat 0), .int .u64 (.ofNat 0), .int .u64 (.ofNat 0), .bool false]).sts h.nx 0 l) := fun _ => rfl
  unfold chC at d0 d1 d2 d3 d4 e1
  rw [← e1]
  obtain ⟨f, args, hcv, hp⟩ := his h1 c ⟨by omega, fun b hb _ => by rw [hget1 b (by omega) (by omega)]; exact old b hb⟩
  unfold chA chC at hcv
  simp only [List.getElem?_cons_zero, List.getElem?_cons_succ] at d0 d1 d2 d3 d4
  repeat' (first | ((with_reducible refine st1 ?_); (conv => whnf); (with_reducible refine ⟨?_⟩)) | ((with_reducible refine st_dw ?_ rfl rfl ?_ ?_); exact rfl; kernel_rfl; (conv => arg 5; whnf); (conv => arg 3; whnf)) | ((with_reducible refine retW_intro rfl ?_); (conv => arg 2; whnf)) | ((with_reducible first | apply iB | apply gWt | apply gWf | apply gXt | apply gXf) <;> intro hb <;> (try simp only [hb])) | ((with_reducible show drawI _ _ _ _ _ _ _ _ _); first | ((with_reducible refine kI_rd ?_ ?_); exact rfl) | ((with_reducible apply kI_rg); exact rfl; exact rfl) | ((with_reducible refine kI_cv ?_ ?_ ?_); exact rfl; kernel_rfl) | ((with_reducible apply kI_al); exact rfl; exact rfl) | ((with_reducible refine kI_ex ?_ ?_ ?_ ?_ ?_); exact rfl; kernel_rfl; exact rfl) | ((with_reducible apply kI_eg); exact rfl; kernel_rfl; exact rfl) | ((with_reducible refine kI_nl ?_ ?_))) | ((with_reducible show eOk _ _ _ _ _ _); first | (exact eok_nil) | (refine ke_rd ?_ ?_ ?_; exact rfl) | (apply ke_rg; exact rfl; exact rfl) | (refine ke_cv ?_ ?_ ?_ ?_; exact rfl; kernel_rfl) | (apply ke_al; exact rfl; exact rfl)) | ((with_reducible refine freshIs_new ?_); kernel_rfl) | (simp only [B, xB, F, reduceLT, reduceLeDiff, reduceEqDiff, reduceAdd, reduceMul, reduceSub, ↓reduceIte, eq_self, q3, hc1, hcl, hcv, d0, d1, d2, d3, d4]))
  refine (hp.call P).mono P ?_
  rintro v h2 ⟨rfl, ho2⟩
  have q := fun b (hb : b < h.nx) (hne : b ≠ h0.nx + 6) => (ho2.2 b (by omega) (by simp)).trans (hget1 b hb hne)
  have qc := fun b (hb : b < h.nx) (hne : b ≠ h0.nx + 6) => cellAt_of_get (q b hb hne)
  have qw := fun b (hb : b < h.nx) (hne : b ≠ h0.nx + 6) => wrAt_of_get (q b hb hne)
  have d' : ∀ i, cellAt h2 h.nx i = cellAt h1 h.nx i := cellAt_of_get (ho2.2 _ (by omega) (by simp))
  have hl2 : h2.t.get (h0.nx + 6) = some (.loop { lastR h0 tm with state := .busy }) := by rw [ho2.2 _ (by omega) (by simp)]; exact hl1
  have hx2 := ho2.1
  have lt := lst_take (p := p) hc
  have only12 : Only h h2 [h0.nx + 2, h0.nx + 3, h0.nx + 6] := ho1.trans ho2 (fun _ h => h) (fun _ h => by cases h)
  cases hpc : p c with
  | true =>
    rw [hpc, if_pos rfl] at lt
    have e1 : lstC p ((all (gs X)).take (k + 1)) = c := by unfold lstC; rw [lt]; rfl
    have e2 : lstB p ((all (gs X)).take (k + 1)) = true := by unfold lstB; rw [lt]; rfl
    have w2' : wrAt h2 (h0.nx + 2) = true := by rw [qw _ (by omega) (by omega)]; exact w2
    have w3' : wrAt h2 (h0.nx + 3) = true := by rw [qw _ (by omega) (by omega)]; exact w3
    have k0 : cellAt h2 (h0.nx + 2) 0 = some (.int .u64 (.ofNat (lstC p ((all (gs X)).take k)).rev.1)) := by rw [qc _ (by omega) (by omega)]; exact a0
    have k1 : cellAt h2 (h0.nx + 2) 1 = some (.int .u64 (.ofNat (lstC p ((all (gs X)).take k)).rev.2)) := by rw [qc _ (by omega) (by omega)]; exact a1
    have k2 : cellAt h2 (h0.nx + 2) 2 = some (.int .u64 (.ofNat (lstC p ((all (gs X)).take k)).made)) := by rw [qc _ (by omega) (by omega)]; exact a2
    have k3 : cellAt h2 (h0.nx + 2) 3 = some (.int .u64 (.ofNat (lstC p ((all (gs X)).take k)).nth)) := by rw [qc _ (by omega) (by omega)]; exact a3
    have k4 : cellAt h2 (h0.nx + 2) 4 = some (.bool (lstC p ((all (gs X)).take k)).tomb) := by rw [qc _ (by omega) (by omega)]; exact a4
    have k5 : cellAt h2 (h0.nx + 3) 0 = some (.bool (lstB p ((all (gs X)).take k))) := by rw [qc _ (by omega) (by omega)]; exact b0
    repeat' (first | ((with_reducible refine st1 ?_); (conv => whnf); (with_reducible refine ⟨?_⟩)) | ((with_reducible refine st_dw ?_ rfl rfl ?_ ?_); exact rfl; kernel_rfl; (conv => arg 5; whnf); (conv => arg 3; whnf)) | ((with_reducible refine retW_intro rfl ?_); (conv => arg 2; whnf)) | ((with_reducible first | apply iB | apply gWt | apply gWf | apply gXt | apply gXf) <;> intro hb <;> (try simp only [hb])) | ((with_reducible show drawI _ _ _ _ _ _ _ _ _); first | ((with_reducible refine kI_rd ?_ ?_); exact rfl) | ((with_reducible apply kI_rg); exact rfl; exact rfl) | ((with_reducible refine kI_cv ?_ ?_ ?_); exact rfl; kernel_rfl) | ((with_reducible apply kI_al); exact rfl; exact rfl) | ((with_reducible refine kI_ex ?_ ?_ ?_ ?_ ?_); exact rfl; kernel_rfl; exact rfl) | ((with_reducible apply kI_eg); exact rfl; kernel_rfl; exact rfl) | ((with_reducible refine kI_nl ?_ ?_))) | ((with_reducible show eOk _ _ _ _ _ _); first | (exact eok_nil) | (refine ke_rd ?_ ?_ ?_; exact rfl) | (apply ke_rg; exact rfl; exact rfl) | (refine ke_cv ?_ ?_ ?_ ?_; exact rfl; kernel_rfl) | (apply ke_al; exact rfl; exact rfl)) | ((with_reducible refine freshIs_new ?_); kernel_rfl) | (simp only [B, xB, F, reduceLT, reduceLeDiff, reduceEqDiff, reduceAdd, reduceMul, reduceSub, ↓reduceIte, eq_self, q4, q5, d', d0, d1, d2, d3, d4, put_sts, w2', w3', k0, k1, k2, k3, k4, k5, cellAt_sts w2']))
    have w3'' : wrAt (h2.sts (h0.nx + 2) 0 (chC c)) (h0.nx + 3) = true := by rw [wrAt_sts]; exact w3'
    unfold chC at w3''
    refine roundEnd_norm (by rw [get_sts _ _ _ _ (by omega), get_sts _ _ _ _ (by omega)]; exact hl2) rfl rfl ⟨rfl, none, ⟨rfl, ?_⟩, Only.m (((only12.sts (.inl (by simp))).sts (.inl (by simp))).obj (.inl (by simp)) _) _, .inl rfl⟩
    refine ⟨by rw [nx_obj, nx_sts, nx_sts]; omega, fun b hb => by rw [get_obj_ne (by omega), get_sts _ _ _ _ (by omega), get_sts _ _ _ _ (by omega), q b (by omega) (by omega)]; exact old b hb, get_obj_self _ _,
      by rw [get_obj_ne (by omega), get_sts _ _ _ _ (by omega), get_sts _ _ _ _ (by omega), q _ (by omega) (by omega)]; exact hd,
      by rw [cellAt_obj (by omega), cellAt_of_get (get_sts _ _ _ _ (by omega)), cellAt_of_get (get_sts _ _ _ _ (by omega)), qc _ (by omega) (by omega)]; exact c1,
      by rw [cellAt_obj (by omega), cellAt_of_get (get_sts _ _ _ _ (by omega)), cellAt_of_get (get_sts _ _ _ _ (by omega)), qc _ (by omega) (by omega)]; exact c4,
      by rw [wrAt_obj (by omega), wrAt_sts, wrAt_sts]; exact w2', by rw [wrAt_obj (by omega), wrAt_sts, wrAt_sts]; exact w3', ?_, ?_, ?_, ?_, ?_, ?_, q2, q3, q4, q5⟩
    all_goals rw [cellAt_obj (by omega)]
    all_goals first | rw [e1] | rw [e2]
    all_goals simp only [B, xB, F, reduceLT, reduceLeDiff, reduceEqDiff, reduceAdd, reduceMul, reduceSub, ↓reduceIte, eq_self, cellAt_sts w3'', cellAt_sts w2']
  | false =>
    rw [hpc, if_neg (by simp)] at lt
    have e1 : lstC p ((all (gs X)).take (k + 1)) = lstC p ((all (gs X)).take k) := by unfold lstC; rw [lt]
    have e2 : lstB p ((all (gs X)).take (k + 1)) = lstB p ((all (gs X)).take k) := by unfold lstB; rw [lt]
    repeat' (first | ((with_reducible refine st1 ?_); (conv => whnf); (with_reducible refine ⟨?_⟩)) | ((with_reducible refine st_dw ?_ rfl rfl ?_ ?_); exact rfl; kernel_rfl; (conv => arg 5; whnf); (conv => arg 3; whnf)) | ((with_reducible refine retW_intro rfl ?_); (conv => arg 2; whnf)) | ((with_reducible first | apply iB | apply gWt | apply gWf | apply gXt | apply gXf) <;> intro hb <;> (try simp only [hb])) | ((with_reducible show drawI _ _ _ _ _ _ _ _ _); first | ((with_reducible refine kI_rd ?_ ?_); exact rfl) | ((with_reducible apply kI_rg); exact rfl; exact rfl) | ((with_reducible refine kI_cv ?_ ?_ ?_); exact rfl; kernel_rfl) | ((with_reducible apply kI_al); exact rfl; exact rfl) | ((with_reducible refine kI_ex ?_ ?_ ?_ ?_ ?_); exact rfl; kernel_rfl; exact rfl) | ((with_reducible apply kI_eg); exact rfl; kernel_rfl; exact rfl) | ((with_reducible refine kI_nl ?_ ?_))) | ((with_reducible show eOk _ _ _ _ _ _); first | (exact eok_nil) | (refine ke_rd ?_ ?_ ?_; exact rfl) | (apply ke_rg; exact rfl; exact rfl) | (refine ke_cv ?_ ?_ ?_ ?_; exact rfl; kernel_rfl) | (apply ke_al; exact rfl; exact rfl)) | ((with_reducible refine freshIs_new ?_); kernel_rfl) | (simp only [B, xB, F, reduceLT, reduceLeDiff, reduceEqDiff, reduceAdd, reduceMul, reduceSub, ↓reduceIte, eq_self]))
    refine roundEnd_norm hl2 rfl rfl ⟨rfl, none, ⟨rfl, ?_⟩, Only.m (only12.obj (.inl (by simp)) _) _, .inl rfl⟩
    refine ⟨by rw [nx_obj]; omega, fun b hb => by rw [get_obj_ne (by omega), q b (by omega) (by omega)]; exact old b hb, get_obj_self _ _,
      by rw [get_obj_ne (by omega), q _ (by omega) (by omega)]; exact hd,
      by rw [cellAt_obj (by omega), qc _ (by omega) (by omega)]; exact c1,
      by rw [cellAt_obj (by omega), qc _ (by omega) (by omega)]; exact c4,
      by rw [wrAt_obj (by omega), qw _ (by omega) (by omega)]; exact w2, by rw [wrAt_obj (by omega), qw _ (by omega) (by omega)]; exact w3, ?_, ?_, ?_, ?_, ?_, ?_, q2, q3, q4, q5⟩
    all_goals rw [cellAt_obj (by omega), qc _ (by omega) (by omega)]
    all_goals first | (rw [e1]; assumption) | (rw [e2]; assumption)
theorem lastC (h0 : H) (s : AV) (X : List (Gn × AV)) (isV : AV) (p : Ch → Bool) (hh : Has h0 s X) (hz : Sz 1000 (gs X)) (hone : isV.one = true) (hcl : isV.cells = [isV]) (his : IsFn h0 isV p) :
    PushC P (.enter 44 [.agg [s], isV] h0) fun v h' => v = .tuple [chA (lstC p (all (gs X))), .bool (lstB p (all (gs X)))] ∧ Only h0 h' [] := by
  have hso := SliceAt.one hh.1
  refine pushC_of_codeW (fn := Try.f44) (c := bodyC Try.f44) Try.func44 rfl ?_
  show codeW P 44 16 none _ _ _ _ _
  refine codeW_root ?_
  repeat' (first | ((with_reducible refine st1 ?_); (conv => whnf); (with_reducible refine ⟨?_⟩)) | ((with_reducible refine st_dw ?_ rfl rfl ?_ ?_); exact rfl; kernel_rfl; (conv => arg 5; whnf); (conv => arg 3; whnf)) | ((with_reducible refine retW_intro rfl ?_); (conv => arg 2; whnf)) | ((with_reducible first | apply iB | apply gWt | apply gWf | apply gXt | apply gXf) <;> intro hb <;> (try simp only [hb])) | ((with_reducible show drawI _ _ _ _ _ _ _ _ _); first | ((with_reducible refine kI_rd ?_ ?_); exact rfl) | ((with_reducible apply kI_rg); exact rfl; exact rfl) | ((with_reducible refine kI_cv ?_ ?_ ?_); exact rfl; kernel_rfl) | ((with_reducible apply kI_al); exact rfl; exact rfl) | ((with_reducible refine kI_ex ?_ ?_ ?_ ?_ ?_); exact rfl; kernel_rfl; exact rfl) | ((with_reducible apply kI_eg); exact rfl; kernel_rfl; exact rfl) | ((with_reducible refine kI_nl ?_ ?_))) | ((with_reducible show eOk _ _ _ _ _ _); first | (exact eok_nil) | (refine ke_rd ?_ ?_ ?_; exact rfl) | (apply ke_rg; exact rfl; exact rfl) | (refine ke_cv ?_ ?_ ?_ ?_; exact rfl; kernel_rfl) | (apply ke_al; exact rfl; exact rfl)) | ((with_reducible refine freshIs_new ?_); kernel_rfl) | (simp only [B, xB, F, reduceLT, reduceLeDiff, reduceEqDiff, reduceAdd, reduceMul, reduceSub, ↓reduceIte, eq_self, hso, hone, hcl]))
  refine ((allC _ s hso).call P).mono P ?_
  rintro v h' ⟨b, rfl, rfl, rfl⟩
  repeat' (first | ((with_reducible refine st1 ?_); (conv => whnf); (with_reducible refine ⟨?_⟩)) | ((with_reducible refine st_dw ?_ rfl rfl ?_ ?_); exact rfl; kernel_rfl; (conv => arg 5; whnf); (conv => arg 3; whnf)) | ((with_reducible refine retW_intro rfl ?_); (conv => arg 2; whnf)) | ((with_reducible first | apply iB | apply gWt | apply gWf | apply gXt | apply gXf) <;> intro hb <;> (try simp only [hb])) | ((with_reducible show drawI _ _ _ _ _ _ _ _ _); first | ((with_reducible refine kI_rd ?_ ?_); exact rfl) | ((with_reducible apply kI_rg); exact rfl; exact rfl) | ((with_reducible refine kI_cv ?_ ?_ ?_); exact rfl; kernel_rfl) | ((with_reducible apply kI_al); exact rfl; exact rfl) | ((with_reducible refine kI_ex ?_ ?_ ?_ ?_ ?_); exact rfl; kernel_rfl; exact rfl) | ((with_reducible apply kI_eg); exact rfl; kernel_rfl; exact rfl) | ((with_reducible refine kI_nl ?_ ?_))) | ((with_reducible show eOk _ _ _ _ _ _); first | (exact eok_nil) | (refine ke_rd ?_ ?_ ?_; exact rfl) | (apply ke_rg; exact rfl; exact rfl) | (refine ke_cv ?_ ?_ ?_ ?_; exact rfl; kernel_rfl) | (apply ke_al; exact rfl; exact rfl)) | ((with_reducible refine freshIs_new ?_); kernel_rfl) | (simp only [B, xB, F, reduceLT, reduceLeDiff, reduceEqDiff, reduceAdd, reduceMul, reduceSub, ↓reduceIte, eq_self, hso]))
  obtain ⟨tm, hT⟩ : ∃ tm, tm = (((((((T.e.fill 0 [AV.agg [s], isV]).set 2 (some (.ptr h0.nx 0))).set 3 (some (.ptr (h0.nx + 1) 0))).set 4 (some (.ptr (h0.nx + 2) 0))).set 5 (some (.ptr (h0.nx + 3) 0))).set 7 (some (.agg [s]))).set 8 (some (allV (h0.nx + 4)))) := ⟨_, rfl⟩
  obtain ⟨h1, hH⟩ : ∃ h1, h1 = (((((h0.newCells 26 [s]).newCells 95 [isV]).newCells 92 [.int .u64 (.ofNat 0), .int .u64 (.ofNat 0), .int .u64 (.ofNat 0), .int .u64 (.ofNat 0), .bool false]).newCells 4 [.bool false]).newCells 26 [s]) := ⟨_, rfl⟩
  have q2 : tm.get 2 = some (.ptr h0.nx 0) := by rw [hT]; simp only [B, xB, F, reduceLT, reduceLeDiff, reduceEqDiff, reduceAdd, reduceMul, reduceSub, ↓reduceIte, eq_self]
  have q3 : tm.get 3 = some (.ptr (h0.nx + 1) 0) := by rw [hT]; simp only [B, xB, F, reduceLT, reduceLeDiff, reduceEqDiff, reduceAdd, reduceMul, reduceSub, ↓reduceIte, eq_self]
  have q4 : tm.get 4 = some (.ptr (h0.nx + 2) 0) := by rw [hT]; simp only [B, xB, F, reduceLT, reduceLeDiff, reduceEqDiff, reduceAdd, reduceMul, reduceSub, ↓reduceIte, eq_self]
  have q5 : tm.get 5 = some (.ptr (h0.nx + 3) 0) := by rw [hT]; simp only [B, xB, F, reduceLT, reduceLeDiff, reduceEqDiff, reduceAdd, reduceMul, reduceSub, ↓reduceIte, eq_self]
  have q8 : tm.get 8 = some (allV (h0.nx + 4)) := by rw [hT]; simp only [B, xB, F, reduceLT, reduceLeDiff, reduceEqDiff, reduceAdd, reduceMul, reduceSub, ↓reduceIte, eq_self]
  have x1 : h1.nx = h0.nx + 5 := by rw [hH]; rfl
  have o1 : Only h0 h1 [] := by rw [hH]; exact (((((Only.refl _ _).new _ _).new _ _).new _ _).new _ _).new _ _
  have c1 : cellAt h1 (h0.nx + 1) 0 = some isV := by rw [hH]; simp only [B, xB, F, reduceLT, reduceLeDiff, reduceEqDiff, reduceAdd, reduceMul, reduceSub, ↓reduceIte, eq_self]
  have c4 : cellAt h1 (h0.nx + 4) 0 = some s := by rw [hH]; simp only [B, xB, F, reduceLT, reduceLeDiff, reduceEqDiff, reduceAdd, reduceMul, reduceSub, ↓reduceIte, eq_self]
  have w2 : wrAt h1 (h0.nx + 2) = true := by rw [hH]; simp only [B, xB, F, reduceLT, reduceLeDiff, reduceEqDiff, reduceAdd, reduceMul, reduceSub, ↓reduceIte, eq_self]
  have w3 : wrAt h1 (h0.nx + 3) = true := by rw [hH]; simp only [B, xB, F, reduceLT, reduceLeDiff, reduceEqDiff, reduceAdd, reduceMul, reduceSub, ↓reduceIte, eq_self]
  have a0 : cellAt h1 (h0.nx + 2) 0 = some (.int .u64 (.ofNat 0)) := by rw [hH]; simp only [B, xB, F, reduceLT, reduceLeDiff, reduceEqDiff, reduceAdd, reduceMul, reduceSub, ↓reduceIte, eq_self]
  have a1 : cellAt h1 (h0.nx + 2) 1 = some (.int .u64 (.ofNat 0)) := by rw [hH]; simp only [B, xB, F, reduceLT, reduceLeDiff, reduceEqDiff, reduceAdd, reduceMul, reduceSub, ↓reduceIte, eq_self]
  have a2 : cellAt h1 (h0.nx + 2) 2 = some (.int .u64 (.ofNat 0)) := by rw [hH]; simp only [B, xB, F, reduceLT, reduceLeDiff, reduceEqDiff, reduceAdd, reduceMul, reduceSub, ↓reduceIte, eq_self]
  have a3 : cellAt h1 (h0.nx + 2) 3 = some (.int .u64 (.ofNat 0)) := by rw [hH]; simp only [B, xB, F, reduceLT, reduceLeDiff, reduceEqDiff, reduceAdd, reduceMul, reduceSub, ↓reduceIte, eq_self]
  have a4 : cellAt h1 (h0.nx + 2) 4 = some (.bool false) := by rw [hH]; simp only [B, xB, F, reduceLT, reduceLeDiff, reduceEqDiff, reduceAdd, reduceMul, reduceSub, ↓reduceIte, eq_self]
  have b0 : cellAt h1 (h0.nx + 3) 0 = some (.bool false) := by rw [hH]; simp only [B, xB, F, reduceLT, reduceLeDiff, reduceEqDiff, reduceAdd, reduceMul, reduceSub, ↓reduceIte, eq_self]
  rw [← hT, ← hH]
  refine st_rf rfl (f := .tmp 8) (ps := #[9]) rfl rfl ?_
  refine rf_walk (g := 67) (cap := [.ptr (h0.nx + 4) 0]) (by rw [evalA_tmp, q8]; rfl) (fun args h => callV_func 67 (by kernel_rfl) [] _ args) ?_
  have hbase : ∀ b, b < h1.nx → (loopH h1 44 16 tm [9] (codeI (bodyC Try.f44) (0 :: bodyP)) (codeI (bodyC Try.f44) (1 :: bodyP))).t.get b = h1.t.get b := fun b hb => by rw [loopH_get, if_neg (by omega), if_neg (by omega)]
  have hJ0 : LJ h0 s X isV p (lastR h0 tm) 0 (loopH h1 44 16 tm [9] (codeI (bodyC Try.f44) (0 :: bodyP)) (codeI (bodyC Try.f44) (1 :: bodyP))) := by
    refine ⟨by rw [loopH_nx]; omega, fun b hb => by rw [hbase b (by omega)]; exact o1.2 b hb (by simp), by rw [loopH_get, if_pos (by omega), x1], by rw [loopH_get, if_neg (by omega), if_pos (by omega)],
      by rw [cellAt_of_get (hbase _ (by omega))]; exact c1, by rw [cellAt_of_get (hbase _ (by omega))]; exact c4, by rw [wrAt_of_get (hbase _ (by omega))]; exact w2, by rw [wrAt_of_get (hbase _ (by omega))]; exact w3, ?_, ?_, ?_, ?_, ?_, ?_, q2, q3, q4, q5⟩
    all_goals rw [cellAt_of_get (hbase _ (by omega))]
    all_goals assumption
  rw [x1]
  refine (allRun _ (h0.nx + 6) (h0.nx + 4) s X [h0.nx + 2, h0.nx + 3, h0.nx + 6] (fun k mv h => mv = none ∧ LJ h0 s X isV p (lastR h0 tm) k h) hz ?_ (fun _ _ _ _ hj ho => ⟨hj.1, hj.2.keep ho⟩) (fun k mv h hj b q => by rw [hj.1] at q; cases q) (fun k mv h hj => ⟨hj.2.c4, hh.keep hj.2.o⟩)
    (fun k mv h c hj _ hc => by obtain ⟨rfl, hj⟩ := hj; exact lastRound h0 s X isV p tm his hcl k h c hj hc) ⟨rfl, hJ0⟩).mono P ?_
  · intro c hc
    rw [loopH_nx, x1]
    simp only [List.mem_cons, List.mem_nil_iff, or_false] at hc
    omega
  rintro _ h2 ⟨_, ⟨-, hj⟩, ho2, -⟩
  obtain ⟨nx, old, hl, hd, -, -, w2, w3, a0, a1, a2, a3, a4, b0, -⟩ := hj
  rw [List.take_length] at a0 a1 a2 a3 a4 b0
  refine ⟨hl, ?_⟩
  obtain ⟨h3, e3⟩ : ∃ h3, h3 = h2.obj (h0.nx + 6) (.loop (loopR 44 16 tm [9] (codeI (bodyC Try.f44) (0 :: bodyP)) (codeI (bodyC Try.f44) (1 :: bodyP)) (h0.nx + 5) .exhausted)) := ⟨_, rfl⟩
  show blkK 0 _ .norm [h0.nx + 5] tm (h2.obj (h0.nx + 6) (.loop (loopR 44 16 tm [9] (codeI (bodyC Try.f44) (0 :: bodyP)) (codeI (bodyC Try.f44) (1 :: bodyP)) (h0.nx + 5) .exhausted)))
  rw [← e3]
  have hd3 : h3.t.get (h0.nx + 5) = some (.deferred (some [])) := by rw [e3, get_obj_ne (by omega)]; exact hd
  have qc := fun b (hb : b ≠ h0.nx + 6) => cellAt_obj (h := h2) hb (.loop (loopR 44 16 tm [9] (codeI (bodyC Try.f44) (0 :: bodyP)) (codeI (bodyC Try.f44) (1 :: bodyP)) (h0.nx + 5) .exhausted))
  rw [← e3] at qc
  rw [← qc _ (by omega)] at a0 a1 a2 a3 a4 b0
  have w2 : wrAt h3 (h0.nx + 2) = true := by rw [e3, wrAt_obj (by omega)]; exact w2
  have w3 : wrAt h3 (h0.nx + 3) = true := by rw [e3, wrAt_obj (by omega)]; exact w3
  have o3 : Only h0 h3 [] := ⟨by rw [e3, nx_obj]; omega, fun b hb _ => by rw [e3, get_obj_ne (by omega)]; exact old b hb⟩
  repeat' (first | ((with_reducible refine st1 ?_); (conv => whnf); (with_reducible refine ⟨?_⟩)) | ((with_reducible refine st_dw ?_ rfl rfl ?_ ?_); exact rfl; kernel_rfl; (conv => arg 5; whnf); (conv => arg 3; whnf)) | ((with_reducible refine retW_intro rfl ?_); (conv => arg 2; whnf)) | ((with_reducible first | apply iB | apply gWt | apply gWf | apply gXt | apply gXf) <;> intro hb <;> (try simp only [hb])) | ((with_reducible show drawI _ _ _ _ _ _ _ _ _); first | ((with_reducible refine kI_rd ?_ ?_); exact rfl) | ((with_reducible apply kI_rg); exact rfl; exact rfl) | ((with_reducible refine kI_cv ?_ ?_ ?_); exact rfl; kernel_rfl) | ((with_reducible apply kI_al); exact rfl; exact rfl) | ((with_reducible refine kI_ex ?_ ?_ ?_ ?_ ?_); exact rfl; kernel_rfl; exact rfl) | ((with_reducible apply kI_eg); exact rfl; kernel_rfl; exact rfl) | ((with_reducible refine kI_nl ?_ ?_))) | ((with_reducible show eOk _ _ _ _ _ _); first | (exact eok_nil) | (refine ke_rd ?_ ?_ ?_; exact rfl) | (apply ke_rg; exact rfl; exact rfl) | (refine ke_cv ?_ ?_ ?_ ?_; exact rfl; kernel_rfl) | (apply ke_al; exact rfl; exact rfl)) | ((with_reducible refine freshIs_new ?_); kernel_rfl) | (simp only [B, xB, F, reduceLT, reduceLeDiff, reduceEqDiff, reduceAdd, reduceMul, reduceSub, ↓reduceIte, eq_self, q4, q5, a0, a1, a2, a3, a4, b0, put_sts, w2, w3, cellAt_sts w2, wrAt_sts]))
  refine retW_undef (by rw [get_sts _ _ _ _ (by omega), get_sts _ _ _ _ (by omega)]; exact hd3) rfl ?_
  (conv => arg 2; whnf)
  have hw3 : wrAt (h3.sts (h0.nx + 2) 0 (chC (lstC p (all (gs X))))) (h0.nx + 3) = true := by rw [wrAt_sts]; exact w3
  unfold chC at hw3
  have ca := fun b (hb : b ≠ h0.nx + 5) i (hh : H) => cellAt_obj (h := hh) hb (.deferred none) i
  have e2 : (h0.nx + 2 = h0.nx + 5) = False := by simp
  have e3 : (h0.nx + 3 = h0.nx + 5) = False := by simp
  simp only [B, xB, F, reduceLT, reduceLeDiff, reduceEqDiff, reduceAdd, reduceMul, reduceSub, ↓reduceIte, eq_self, q4, q5, ca _ (show h0.nx + 2 ≠ h0.nx + 5 by omega), ca _ (show h0.nx + 3 ≠ h0.nx + 5 by omega), cellAt_sts hw3, cellAt_sts w2]
  exact ⟨rfl, ((o3.sts (.inr (by omega))).sts (.inr (by omega))).obj (.inr (by omega)) _⟩
theorem isFn_all (h0 : H) : IsFn h0 isAll fun _ => true := fun h c _ => ⟨68, [chA c], fun h' => callV_func 68 (by kernel_rfl) [] [] _, isAllC h c⟩
theorem isFn_at (h0 : H) (b m : Nat) (hb : b < h0.nx) (hm : cellAt h0 b 0 = some (.int .u64 (.ofNat m))) : IsFn h0 (.func 45 [] [.ptr b 0]) fun c => decide (c.rev.1 ≤ m) := fun h c ho =>
  ⟨45, [chA c, .ptr b 0], fun h' => callV_func 45 (by kernel_rfl) [] _ _, isAtC h c b m (Nat.lt_of_lt_of_le hb ho.1) (by rw [ho.cell hb (by simp)]; exact hm)⟩
end
end Go.Proofs.Ytlkngpckibidlaa.W

namespace Go.Proofs.Ytlkngpckibidlaa.W
open Go Go.AX
noncomputable section
set_option maxRecDepth 100000
def tt : Ch → Bool := fun _ => true
def fitsB (L : List Gn) (r : Rv) : Bool := decide (0 < r.1) && (!(lstB tt (all L)) || above r (lstC tt (all L)).rev)
theorem fitsC (h : H) (v : AV) (L : List Gn) (r : Rv) (hg : GensAt h v L) (hz : Sz 1000 L) : PushC P (.enter 46 [v, rvA r] h) (Says h (.bool (fitsB L r))) := by
  obtain ⟨s, X, rfl, rfl, hh, -⟩ := hg
  have hso := SliceAt.one hh.1
  have e0 : rvA r = .agg [.int .u64 (.ofNat r.1), .int .u64 (.ofNat r.2)] := rfl
  rw [e0]
  refine pushC_of_codeW (fn := Try.f46) (c := bodyC Try.f46) Try.func46 rfl ?_
  show codeW P 46 25 none _ _ _ _ _
  refine codeW_root ?_
  repeat' (first | ((with_reducible refine st1 ?_); (conv => whnf); (with_reducible refine ⟨?_⟩)) | ((with_reducible refine retW_intro rfl ?_); (conv => arg 2; whnf)) | ((with_reducible first | apply iB | apply gWt | apply gWf) <;> intro hb <;> (try simp only [hb])) | (simp only [B, F, reduceLT, reduceLeDiff, reduceEqDiff, reduceAdd, reduceMul, reduceSub, ↓reduceIte, eq_self, hso]))
  have o1 : Only h ((h.newCells 26 [s]).newCells 35 [.int .u64 (.ofNat r.1), .int .u64 (.ofNat r.2)]) [] := ((Only.refl _ _).new _ _).new _ _
  have x1 : ((h.newCells 26 [s]).newCells 35 [.int .u64 (.ofNat r.1), .int .u64 (.ofNat r.2)]).nx = h.nx + 2 := rfl
  have b0 : cellAt ((h.newCells 26 [s]).newCells 35 [.int .u64 (.ofNat r.1), .int .u64 (.ofNat r.2)]) (h.nx + 1) 0 = some (.int .u64 (.ofNat r.1)) := by simp only [B, F, reduceLT, reduceLeDiff, reduceEqDiff, reduceAdd, reduceMul, reduceSub, ↓reduceIte, eq_self]
  have b1 : cellAt ((h.newCells 26 [s]).newCells 35 [.int .u64 (.ofNat r.1), .int .u64 (.ofNat r.2)]) (h.nx + 1) 1 = some (.int .u64 (.ofNat r.2)) := by simp only [B, F, reduceLT, reduceLeDiff, reduceEqDiff, reduceAdd, reduceMul, reduceSub, ↓reduceIte, eq_self]
  generalize (h.newCells 26 [s]).newCells 35 [.int .u64 (.ofNat r.1), .int .u64 (.ofNat r.2)] = h1 at *
  refine ((lastC h1 s X isAll tt (hh.keep o1) hz rfl rfl (isFn_all _)).call P).mono P ?_
  rintro v h2 ⟨rfl, o2⟩
  obtain ⟨c, hc⟩ : ∃ c, c = lstC tt (all (gs X)) := ⟨_, rfl⟩
  have e1 : chA c = .agg [.int .u64 (.ofNat c.rev.1), .int .u64 (.ofNat c.rev.2), .int .u64 (.ofNat c.made), .int .u64 (.ofNat c.nth), .bool c.tomb] := rfl
  have c0 : cellAt h2 (h.nx + 1) 0 = some (.int .u64 (.ofNat r.1)) := by rw [o2.cell (by omega) (by simp)]; exact b0
  have c1 : cellAt h2 (h.nx + 1) 1 = some (.int .u64 (.ofNat r.2)) := by rw [o2.cell (by omega) (by simp)]; exact b1
  have hn : (h.nx + 1 = h2.nx) = False := by have := o2.1; simp; omega
  have hfit : fitsB (X.map (·.1)) r = (decide (0 < r.1) && (!(lstB tt (all (gs X))) || above r c.rev)) := by rw [hc]; rfl
  rw [hfit, ← hc, e1]
  have oo : Only h h2 [] := o1.trans o2 (fun _ h => h) (fun _ h => by cases h)
  cases hr : decide (0 < r.1) with
  | false =>
    repeat' (first | ((with_reducible refine st1 ?_); (conv => whnf); (with_reducible refine ⟨?_⟩)) | ((with_reducible refine retW_intro rfl ?_); (conv => arg 2; whnf)) | ((with_reducible first | apply iB | apply gWt | apply gWf) <;> intro hb <;> (try simp only [hb])) | (simp only [B, F, reduceLT, reduceLeDiff, reduceEqDiff, reduceAdd, reduceMul, reduceSub, ↓reduceIte, eq_self, c0, c1, hn, hr]))
    exact ⟨rfl, (oo.new _ _).sts (.inr (by have := o2.1; omega))⟩
  | true =>
    cases hb : lstB tt (all (gs X)) with
    | false =>
      repeat' (first | ((with_reducible refine st1 ?_); (conv => whnf); (with_reducible refine ⟨?_⟩)) | ((with_reducible refine retW_intro rfl ?_); (conv => arg 2; whnf)) | ((with_reducible first | apply iB | apply gWt | apply gWf) <;> intro hb <;> (try simp only [hb])) | (simp only [B, F, reduceLT, reduceLeDiff, reduceEqDiff, reduceAdd, reduceMul, reduceSub, ↓reduceIte, eq_self, c0, c1, hn, hr]))
      exact ⟨rfl, (oo.new _ _).sts (.inr (by have := o2.1; omega))⟩
    | true =>
      repeat' (first | ((with_reducible refine st1 ?_); (conv => whnf); (with_reducible refine ⟨?_⟩)) | ((with_reducible refine retW_intro rfl ?_); (conv => arg 2; whnf)) | ((with_reducible first | apply iB | apply gWt | apply gWf) <;> intro hb <;> (try simp only [hb])) | (simp only [B, F, reduceLT, reduceLeDiff, reduceEqDiff, reduceAdd, reduceMul, reduceSub, ↓reduceIte, eq_self, c0, c1, hn, hr]))
      refine ((aboveC _ r c.rev).call P).mono P ?_
      rintro v h3 ⟨rfl, o3⟩
      repeat' (first | ((with_reducible refine st1 ?_); (conv => whnf); (with_reducible refine ⟨?_⟩)) | ((with_reducible refine retW_intro rfl ?_); (conv => arg 2; whnf)) | ((with_reducible first | apply iB | apply gWt | apply gWf) <;> intro hb <;> (try simp only [hb])) | (simp only [B, F, reduceLT, reduceLeDiff, reduceEqDiff, reduceAdd, reduceMul, reduceSub, ↓reduceIte, eq_self]))
      exact ⟨rfl, (((oo.new _ _).sts (.inr (by have := o2.1; omega))).trans o3 (fun _ h => h) (fun _ h => by cases h))⟩
def atP (m : Nat) : Ch → Bool := fun c => decide (c.rev.1 ≤ m)
def atB (L : List Gn) (m : Nat) : Bool := lstB (atP m) (all L) && !(lstC (atP m) (all L)).tomb
def atK (L : List Gn) (m : Nat) : Ch := if atB L m then lstC (atP m) (all L) else ch0
def PostAt (h : H) (L : List Gn) (m : Nat) (v : AV) (h' : H) : Prop := v = .tuple [rvA (atK L m).rev, n64 (atK L m).made, n64 (atK L m).nth, .bool (atB L m)] ∧ Only h h' []
theorem atC (h : H) (v : AV) (L : List Gn) (m : Nat) (hg : GensAt h v L) (hz : Sz 1000 L) : PushC P (.enter 16 [v, n64 m] h) (PostAt h L m) := by
  obtain ⟨s, X, rfl, rfl, hh, -⟩ := hg
  have hso := SliceAt.one hh.1
  unfold n64
  refine pushC_of_codeW (fn := Try.f16) (c := bodyC Try.f16) Try.func16 rfl ?_
  show codeW P 16 29 none _ _ _ _ _
  refine codeW_root ?_
  repeat' (first | ((with_reducible refine st1 ?_); (conv => whnf); (with_reducible refine ⟨?_⟩)) | ((with_reducible refine st_dw ?_ rfl rfl ?_ ?_); exact rfl; kernel_rfl; (conv => arg 5; whnf); (conv => arg 3; whnf)) | ((with_reducible refine retW_intro rfl ?_); (conv => arg 2; whnf)) | ((with_reducible first | apply iB | apply gWt | apply gWf | apply gXt | apply gXf) <;> intro hb <;> (try simp only [hb])) | ((with_reducible show drawI _ _ _ _ _ _ _ _ _); first | ((with_reducible refine kI_rd ?_ ?_); exact rfl) | ((with_reducible apply kI_rg); exact rfl; exact rfl) | ((with_reducible refine kI_cv ?_ ?_ ?_); exact rfl; kernel_rfl) | ((with_reducible apply kI_al); exact rfl; exact rfl) | ((with_reducible refine kI_ex ?_ ?_ ?_ ?_ ?_); exact rfl; kernel_rfl; exact rfl) | ((with_reducible apply kI_eg); exact rfl; kernel_rfl; exact rfl) | ((with_reducible refine kI_nl ?_ ?_))) | ((with_reducible show eOk _ _ _ _ _ _); first | (exact eok_nil) | (refine ke_rd ?_ ?_ ?_; exact rfl) | (apply ke_rg; exact rfl; exact rfl) | (refine ke_cv ?_ ?_ ?_ ?_; exact rfl; kernel_rfl) | (apply ke_al; exact rfl; exact rfl)) | ((with_reducible refine freshIs_new ?_); kernel_rfl) | (simp only [B, xB, F, reduceLT, reduceLeDiff, reduceEqDiff, reduceAdd, reduceMul, reduceSub, ↓reduceIte, eq_self, hso]))
  have o1 : Only h (((h.newCells 26 [s]).newCells 28 [.int .u64 (.ofNat m)]).newCells 35 [.int .u64 (.ofNat 0), .int .u64 (.ofNat 0)]) [] := (((Only.refl _ _).new _ _).new _ _).new _ _
  have x1 : (((h.newCells 26 [s]).newCells 28 [.int .u64 (.ofNat m)]).newCells 35 [.int .u64 (.ofNat 0), .int .u64 (.ofNat 0)]).nx = h.nx + 3 := rfl
  have b0 : cellAt (((h.newCells 26 [s]).newCells 28 [.int .u64 (.ofNat m)]).newCells 35 [.int .u64 (.ofNat 0), .int .u64 (.ofNat 0)]) (h.nx + 1) 0 = some (.int .u64 (.ofNat m)) := by simp only [B, xB, F, reduceLT, reduceLeDiff, reduceEqDiff, reduceAdd, reduceMul, reduceSub, ↓reduceIte, eq_self]
  have r0 : cellAt (((h.newCells 26 [s]).newCells 28 [.int .u64 (.ofNat m)]).newCells 35 [.int .u64 (.ofNat 0), .int .u64 (.ofNat 0)]) (h.nx + 2) 0 = some (.int .u64 (.ofNat 0)) := by simp only [B, xB, F, reduceLT, reduceLeDiff, reduceEqDiff, reduceAdd, reduceMul, reduceSub, ↓reduceIte, eq_self]
  have r1 : cellAt (((h.newCells 26 [s]).newCells 28 [.int .u64 (.ofNat m)]).newCells 35 [.int .u64 (.ofNat 0), .int .u64 (.ofNat 0)]) (h.nx + 2) 1 = some (.int .u64 (.ofNat 0)) := by simp only [B, xB, F, reduceLT, reduceLeDiff, reduceEqDiff, reduceAdd, reduceMul, reduceSub, ↓reduceIte, eq_self]
  have rw1 : wrAt (((h.newCells 26 [s]).newCells 28 [.int .u64 (.ofNat m)]).newCells 35 [.int .u64 (.ofNat 0), .int .u64 (.ofNat 0)]) (h.nx + 2) = true := by simp only [B, xB, F, reduceLT, reduceLeDiff, reduceEqDiff, reduceAdd, reduceMul, reduceSub, ↓reduceIte, eq_self]
  generalize ((h.newCells 26 [s]).newCells 28 [.int .u64 (.ofNat m)]).newCells 35 [.int .u64 (.ofNat 0), .int .u64 (.ofNat 0)] = h1 at *
  refine ((lastC h1 s X _ (atP m) (hh.keep o1) hz rfl rfl (isFn_at h1 (h.nx + 1) m (by omega) b0)).call P).mono P ?_
  rintro v h2 ⟨rfl, o2⟩
  obtain ⟨c, hc⟩ : ∃ c, c = lstC (atP m) (all (gs X)) := ⟨_, rfl⟩
  have e1 : chA c = .agg [.int .u64 (.ofNat c.rev.1), .int .u64 (.ofNat c.rev.2), .int .u64 (.ofNat c.made), .int .u64 (.ofNat c.nth), .bool c.tomb] := rfl
  have hb : atB (X.map (·.1)) m = (lstB (atP m) (all (gs X)) && !c.tomb) := by rw [hc]; rfl
  have hk : atK (X.map (·.1)) m = if atB (X.map (·.1)) m then c else ch0 := by rw [hc]; rfl
  unfold PostAt
  rw [hk, hb]
  rw [← hc, e1]
  have r0 : cellAt h2 (h.nx + 2) 0 = some (.int .u64 (.ofNat 0)) := by rw [o2.cell (by omega) (by simp)]; exact r0
  have r1 : cellAt h2 (h.nx + 2) 1 = some (.int .u64 (.ofNat 0)) := by rw [o2.cell (by omega) (by simp)]; exact r1
  have rw1 : wrAt h2 (h.nx + 2) = true := by rw [o2.wr (by omega) (by simp)]; exact rw1
  have hn : (h.nx + 2 = h2.nx) = False := by have := o2.1; simp; omega
  have oo : Only h h2 [] := o1.trans o2 (fun _ h => h) (fun _ h => by cases h)
  have hx := o2.1
  have ro : ∀ l, wrAt (h2.newCells 92 l) (h.nx + 2) = true := fun l => by rw [wrAt_new, if_neg (by omega)]; exact rw1
  have rs : ∀ l l', wrAt ((h2.newCells 92 l).sts h2.nx 0 l') (h.nx + 2) = true := fun l l' => by rw [wrAt_sts]; exact ro l
  cases hbb : lstB (atP m) (all (gs X)) with
  | false =>
    repeat' (first | ((with_reducible refine st1 ?_); (conv => whnf); (with_reducible refine ⟨?_⟩)) | ((with_reducible refine st_dw ?_ rfl rfl ?_ ?_); exact rfl; kernel_rfl; (conv => arg 5; whnf); (conv => arg 3; whnf)) | ((with_reducible refine retW_intro rfl ?_); (conv => arg 2; whnf)) | ((with_reducible first | apply iB | apply gWt | apply gWf | apply gXt | apply gXf) <;> intro hb <;> (try simp only [hb])) | ((with_reducible show drawI _ _ _ _ _ _ _ _ _); first | ((with_reducible refine kI_rd ?_ ?_); exact rfl) | ((with_reducible apply kI_rg); exact rfl; exact rfl) | ((with_reducible refine kI_cv ?_ ?_ ?_); exact rfl; kernel_rfl) | ((with_reducible apply kI_al); exact rfl; exact rfl) | ((with_reducible refine kI_ex ?_ ?_ ?_ ?_ ?_); exact rfl; kernel_rfl; exact rfl) | ((with_reducible apply kI_eg); exact rfl; kernel_rfl; exact rfl) | ((with_reducible refine kI_nl ?_ ?_))) | ((with_reducible show eOk _ _ _ _ _ _); first | (exact eok_nil) | (refine ke_rd ?_ ?_ ?_; exact rfl) | (apply ke_rg; exact rfl; exact rfl) | (refine ke_cv ?_ ?_ ?_ ?_; exact rfl; kernel_rfl) | (apply ke_al; exact rfl; exact rfl)) | ((with_reducible refine freshIs_new ?_); kernel_rfl) | (simp only [B, xB, F, reduceLT, reduceLeDiff, reduceEqDiff, reduceAdd, reduceMul, reduceSub, ↓reduceIte, eq_self, hn, r0, r1, rw1, put_sts, cellAt_sts (rs _ _)]))
    exact ⟨rfl, ((oo.new _ _).sts (.inr (by omega))).sts (.inr (by omega))⟩
  | true =>
    cases ht : c.tomb with
    | true =>
      repeat' (first | ((with_reducible refine st1 ?_); (conv => whnf); (with_reducible refine ⟨?_⟩)) | ((with_reducible refine st_dw ?_ rfl rfl ?_ ?_); exact rfl; kernel_rfl; (conv => arg 5; whnf); (conv => arg 3; whnf)) | ((with_reducible refine retW_intro rfl ?_); (conv => arg 2; whnf)) | ((with_reducible first | apply iB | apply gWt | apply gWf | apply gXt | apply gXf) <;> intro hb <;> (try simp only [hb])) | ((with_reducible show drawI _ _ _ _ _ _ _ _ _); first | ((with_reducible refine kI_rd ?_ ?_); exact rfl) | ((with_reducible apply kI_rg); exact rfl; exact rfl) | ((with_reducible refine kI_cv ?_ ?_ ?_); exact rfl; kernel_rfl) | ((with_reducible apply kI_al); exact rfl; exact rfl) | ((with_reducible refine kI_ex ?_ ?_ ?_ ?_ ?_); exact rfl; kernel_rfl; exact rfl) | ((with_reducible apply kI_eg); exact rfl; kernel_rfl; exact rfl) | ((with_reducible refine kI_nl ?_ ?_))) | ((with_reducible show eOk _ _ _ _ _ _); first | (exact eok_nil) | (refine ke_rd ?_ ?_ ?_; exact rfl) | (apply ke_rg; exact rfl; exact rfl) | (refine ke_cv ?_ ?_ ?_ ?_; exact rfl; kernel_rfl) | (apply ke_al; exact rfl; exact rfl)) | ((with_reducible refine freshIs_new ?_); kernel_rfl) | (simp only [B, xB, F, reduceLT, reduceLeDiff, reduceEqDiff, reduceAdd, reduceMul, reduceSub, ↓reduceIte, eq_self, hn, r0, r1, rw1, put_sts, cellAt_sts (rs _ _)]))
      exact ⟨rfl, ((oo.new _ _).sts (.inr (by omega))).sts (.inr (by omega))⟩
    | false =>
      repeat' (first | ((with_reducible refine st1 ?_); (conv => whnf); (with_reducible refine ⟨?_⟩)) | ((with_reducible refine st_dw ?_ rfl rfl ?_ ?_); exact rfl; kernel_rfl; (conv => arg 5; whnf); (conv => arg 3; whnf)) | ((with_reducible refine retW_intro rfl ?_); (conv => arg 2; whnf)) | ((with_reducible first | apply iB | apply gWt | apply gWf | apply gXt | apply gXf) <;> intro hb <;> (try simp only [hb])) | ((with_reducible show drawI _ _ _ _ _ _ _ _ _); first | ((with_reducible refine kI_rd ?_ ?_); exact rfl) | ((with_reducible apply kI_rg); exact rfl; exact rfl) | ((with_reducible refine kI_cv ?_ ?_ ?_); exact rfl; kernel_rfl) | ((with_reducible apply kI_al); exact rfl; exact rfl) | ((with_reducible refine kI_ex ?_ ?_ ?_ ?_ ?_); exact rfl; kernel_rfl; exact rfl) | ((with_reducible apply kI_eg); exact rfl; kernel_rfl; exact rfl) | ((with_reducible refine kI_nl ?_ ?_))) | ((with_reducible show eOk _ _ _ _ _ _); first | (exact eok_nil) | (refine ke_rd ?_ ?_ ?_; exact rfl) | (apply ke_rg; exact rfl; exact rfl) | (refine ke_cv ?_ ?_ ?_ ?_; exact rfl; kernel_rfl) | (apply ke_al; exact rfl; exact rfl)) | ((with_reducible refine freshIs_new ?_); kernel_rfl) | (simp only [B, xB, F, reduceLT, reduceLeDiff, reduceEqDiff, reduceAdd, reduceMul, reduceSub, ↓reduceIte, eq_self, hn, r0, r1, rw1, put_sts, cellAt_sts (rs _ _)]))
      exact ⟨rfl, ((oo.new _ _).sts (.inr (by omega))).sts (.inr (by omega))⟩
end
end Go.Proofs.Ytlkngpckibidlaa.W

namespace Go.Proofs.Ytlkngpckibidlaa.W
open Go Go.AX
noncomputable section
set_option maxRecDepth 100000
def sinceL (m : Nat) (l : List Ch) : List Rv := (l.filter fun c => decide (m ≤ c.rev.1)).map (·.rev)
theorem since_take {m : Nat} {l : List Ch} {k : Nat} {c : Ch} (hc : l[k]? = some c) : sinceL m (l.take (k + 1)) = if m ≤ c.rev.1 then sinceL m (l.take k) ++ [c.rev] else sinceL m (l.take k) := by
  unfold sinceL
  rw [List.take_add_one, hc, List.filter_append, List.map_append]
  by_cases q : m ≤ c.rev.1
  · simp [q]
  · simp [q]
theorem rvsC_snoc (l : List Rv) (r : Rv) : rvsC l ++ [.int .u64 (.ofNat r.1), .int .u64 (.ofNat r.2)] = rvsC (l ++ [r]) := by simp [rvsC, rvC]
theorem gChs_len (g : Gn) : (gChs g).length ≤ g.puts.length + 1 := by
  unfold gChs endChs
  rw [List.length_append, putChs_len]
  split <;> simp
theorem all_len {N : Nat} : ∀ {L : List Gn}, (∀ g, g ∈ L → g.puts.length ≤ N) → (all L).length ≤ L.length * (N + 1)
  | [], _ => by simp [all]
  | g :: L, h => by
    have h1 := all_len (L := L) (fun x hx => h x (List.mem_cons_of_mem _ hx))
    have h2 := gChs_len g
    have h3 := h g List.mem_cons_self
    have h4 : all (g :: L) = gChs g ++ all L := rfl
    rw [h4, List.length_append, List.length_cons, Nat.add_mul]
    omega
theorem since_len (m : Nat) (l : List Ch) : (sinceL m l).length ≤ l.length := by
  unfold sinceL; rw [List.length_map]; exact List.length_filter_le _ _
theorem _root_.Go.AX.Grows.weak {size a b : Nat} {h : H} {v : AV} {n : Nat} {cs : List AV} (hg : Grows size b h v n cs) (hab : a ≤ b) : Grows size a h v n cs := by
  cases hg with
  | none => exact .none
  | cell c n cs t ty h1 h2 h3 h4 h5 => exact .cell c n cs t ty (Nat.le_trans hab h1) h2 h3 h4 h5
structure SJ (h0 : H) (s : AV) (X : List (Gn × AV)) (m : Nat) (r : ALoop) (k : Nat) (mv : Option Nat) (h : H) : Prop where
  nx : h0.nx + 6 ≤ h.nx
  old : ∀ b, b < h0.nx → h.t.get b = h0.t.get b
  hl : h.t.get (h0.nx + 5) = some (.loop r)
  hd : h.t.get (h0.nx + 4) = some (.deferred (some []))
  c1 : cellAt h (h0.nx + 1) 0 = some (.int .u64 (.ofNat m))
  c3 : cellAt h (h0.nx + 3) 0 = some s
  w2 : wrAt h (h0.nx + 2) = true
  sv : ∃ sv, cellAt h (h0.nx + 2) 0 = some sv ∧ Grows 2 (h0.nx + 6) h sv (sinceL m ((all (gs X)).take k)).length (rvsC (sinceL m ((all (gs X)).take k))) ∧ blkOf sv = mv
  tm : r.tm.get 2 = some (.ptr h0.nx 0) ∧ r.tm.get 3 = some (.ptr (h0.nx + 1) 0) ∧ r.tm.get 5 = some (.ptr (h0.nx + 2) 0)
theorem SJ.keep {h0 : H} {s : AV} {X : List (Gn × AV)} {m : Nat} {r : ALoop} {k : Nat} {mv : Option Nat} {h h' : H} (hj : SJ h0 s X m r k mv h) (ho : Only h h' []) : SJ h0 s X m r k mv h' := by
  obtain ⟨nx, old, hl, hd, c1, c3, w2, ⟨sv, sc, sg, sb⟩, tm⟩ := hj
  have e := fun b (hb : b < h.nx) => ho.2 b hb (by simp)
  have ec := fun b (hb : b < h.nx) => cellAt_of_get (e b hb)
  have ew := fun b (hb : b < h.nx) => wrAt_of_get (e b hb)
  exact ⟨Nat.le_trans nx ho.1, fun b hb => by rw [e b (by omega), old b hb], by rw [e _ (by omega)]; exact hl, by rw [e _ (by omega)]; exact hd, by rw [ec _ (by omega)]; exact c1, by rw [ec _ (by omega)]; exact c3, by rw [ew _ (by omega)]; exact w2,
    ⟨sv, by rw [ec _ (by omega)]; exact sc, sg.of_get ho.1 (fun b hb => e b (sg.base hb).2), sb⟩, tm⟩
theorem SJ.o {h0 : H} {s : AV} {X : List (Gn × AV)} {m : Nat} {r : ALoop} {k : Nat} {mv : Option Nat} {h : H} (hj : SJ h0 s X m r k mv h) : Only h0 h [] := ⟨by have := hj.nx; omega, fun b hb _ => hj.old b hb⟩
def bodyS : List Nat := [0, 1, 0, 1, 1]
noncomputable abbrev sinceR (h0 : H) (tm : T AV) : ALoop := loopR 15 21 tm [9] (codeI (bodyC Try.f15) (0 :: bodyS)) (codeI (bodyC Try.f15) (1 :: bodyS)) (h0.nx + 4) .ready
theorem sinceRound (h0 : H) (s : AV) (X : List (Gn × AV)) (m : Nat) (tm : T AV) (hz : Sz 1000 (gs X)) (k : Nat) (mv : Option Nat) (h : H) (c : Ch) (hj : SJ h0 s X m (sinceR h0 tm) k mv h) (hc : (all (gs X))[k]? = some c) :
    PushC P (.round (h0.nx + 5) [chA c] h) fun v h' => v = .bool true ∧ ∃ mv', SJ h0 s X m (sinceR h0 tm) (k + 1) mv' h' ∧ OnlyM h h' [h0.nx + 2, h0.nx + 5] mv ∧ (mv' = mv ∨ ∃ b, mv' = some b ∧ h.nx ≤ b) := by
  obtain ⟨nx, old, hl, hd, c1, c3, w2, ⟨sv, sc, sg, sb⟩, q2, q3, q5⟩ := hj
  refine round_walk (tm := tm.set 9 (some (chA c))) hl rfl ?_
  show codeW P 15 21 (some (h0.nx + 5)) (codeI (bodyC Try.f15) (0 :: bodyS)) _ _ _ _
  unfold chA chC
  unfold bodyS
  have q2 : tm.get 2 = some (.ptr h0.nx 0) := q2
  have q3 : tm.get 3 = some (.ptr (h0.nx + 1) 0) := q3
  have q5 : tm.get 5 = some (.ptr (h0.nx + 2) 0) := q5
  repeat' (first | ((with_reducible refine st1 ?_); (conv => whnf); (with_reducible refine ⟨?_⟩)) | ((with_reducible refine retW_intro rfl ?_); (conv => arg 2; whnf)) | ((with_reducible first | apply iB | apply gWt | apply gWf) <;> intro hb <;> (try simp only [hb])) | (simp only [B, F, reduceLT, reduceLeDiff, reduceEqDiff, reduceAdd, reduceMul, reduceSub, ↓reduceIte, eq_self]))
  refine asg_norm (by rw [get_sts _ _ _ _ (by omega), get_new _ _ _ (by omega)]; exact hl) rfl ?_
  show codeW P 15 21 (some (h0.nx + 5)) (codeI (bodyC Try.f15) [1, 0, 1, 0, 1, 1]) _ _ _ _
  obtain ⟨h1, e1⟩ : ∃ h1, h1 = ((h.newCells 92 [.int .u64 (.ofNat 0), .int .u64 (.ofNat 0), .int .u64 (.ofNat 0), .int .u64 (.ofNat 0), .bool false]).sts h.nx 0 (chC c)).obj (h0.nx + 5) (.loop { sinceR h0 tm with state := .busy }) := ⟨_, rfl⟩
  have ho1 : Only h h1 [h0.nx + 2, h0.nx + 5] := by rw [e1]; exact (((Only.refl _ _).new _ _).sts (.inr (Nat.le_refl _))).obj (.inl (by simp)) _
  have hl1 : h1.t.get (h0.nx + 5) = some (.loop { sinceR h0 tm with state := .busy }) := by rw [e1]; exact get_obj_self _ _
  have d : ∀ i, cellAt h1 h.nx i = (chC c)[i]? := fun i => by
    rw [e1, cellAt_obj (by omega), cellAt_sts (by rw [wrAt_new, if_pos rfl])]
    rcases Nat.lt_or_ge i 5 with hi | hi
    · rw [if_pos ⟨rfl, by omega, by simp [chC]; omega⟩, Nat.sub_zero]
    · rw [if_neg (by simp [chC]; omega), cellAt_new, if_pos rfl, List.getElem?_eq_none (by simp; omega), List.getElem?_eq_none (by simp [chC]; omega)]
  have hx1 : h1.nx = h.nx + 1 := by rw [e1, nx_obj, nx_sts, nx_new]
  have hget1 : ∀ b, b < h.nx → b ≠ h0.nx + 5 → h1.t.get b = h.t.get b := fun b hb hne => by rw [e1, get_obj_ne hne, get_sts _ _ _ _ (by omega), get_new _ _ _ (by omega)]
  have hc1 : cellAt h1 (h0.nx + 1) 0 = some (.int .u64 (.ofNat m)) := by rw [cellAt_of_get (hget1 _ (by omega) (by omega))]; exact c1
  have hc2 : cellAt h1 (h0.nx + 2) 0 = some sv := by rw [cellAt_of_get (hget1 _ (by omega) (by omega))]; exact sc
  have d0 := d 0
  have d1 := d 1
  unfold chC at d0 d1 e1
  rw [← e1]
  simp only [List.getElem?_cons_zero, List.getElem?_cons_succ] at d0 d1
  have lt := since_take (m := m) hc
  by_cases hm : m ≤ c.rev.1
  · rw [if_pos hm] at lt
    have dm : decide (m ≤ c.rev.1) = true := decide_eq_true hm
    have hn2 : (h0.nx + 2 = h1.nx) = False := by simp; omega
    have hn3 : (h.nx = h1.nx) = False := by simp; omega
    repeat' (first | ((with_reducible refine st1 ?_); (conv => whnf); (with_reducible refine ⟨?_⟩)) | ((with_reducible refine retW_intro rfl ?_); (conv => arg 2; whnf)) | ((with_reducible first | apply iB | apply gWt | apply gWf) <;> intro hb <;> (try simp only [hb])) | (simp only [B, F, reduceLT, reduceLeDiff, reduceEqDiff, reduceAdd, reduceMul, reduceSub, ↓reduceIte, eq_self, q3, q5, hc1, hc2, d0, d1, dm, hn2, hn3]))
    have hlk : (sinceL m ((all (gs X)).take k)).length ≤ 1001000 := by
      have h1 := since_len m ((all (gs X)).take k)
      have h2 : ((all (gs X)).take k).length ≤ (all (gs X)).length := by rw [List.length_take]; exact Nat.min_le_right _ _
      have h3 := all_len hz.2
      have h4 : (gs X).length * (1000 + 1) ≤ 1000 * (1000 + 1) := Nat.mul_le_mul_right _ hz.1
      omega
    refine exW_grows (base := h0.nx + 6) (h := h1.newCells 35 [.int .u64 (.ofNat c.rev.1), .int .u64 (.ofNat c.rev.2)]) (sg.of_get (by rw [nx_new]; omega) (fun b hb => by have := sg.base hb; rw [get_new _ _ _ (by omega), hget1 b (by omega) (by omega)])) (by rw [nx_new]; omega) (by omega) (by omega) rfl (by omega) ?_
    intro v' h2 hg' hnx hold hblk
    rw [rvsC_snoc] at hg'
    rw [nx_new] at hnx hblk
    have q : ∀ b, b < h.nx → b ≠ h0.nx + 5 → mv ≠ some b → h2.t.get b = h.t.get b := fun b hb hne hm => by
      rw [hold b (by rw [nx_new]; omega) (by rw [sb]; exact hm), get_new _ _ _ (by omega), hget1 b hb hne]
    have hmv : ∀ b, b < h0.nx + 6 → mv ≠ some b := fun b hb qq => by have := (sg.base (sb.trans qq)).1; omega
    have hw2 : wrAt h2 (h0.nx + 2) = true := by rw [wrAt_of_get (q _ (by omega) (by omega) (hmv _ (by omega)))]; exact w2
    have hcc2 : cellAt h2 (h0.nx + 2) 0 = some sv := by rw [cellAt_of_get (q _ (by omega) (by omega) (hmv _ (by omega)))]; exact sc
    have hl2 : h2.t.get (h0.nx + 5) = some (.loop { sinceR h0 tm with state := .busy }) := by rw [hold _ (by rw [nx_new]; omega) (by rw [sb]; exact hmv _ (by omega)), get_new _ _ _ (by omega)]; exact hl1
    have hcv := hg'.cells
    have hov := hg'.one
    repeat' (first | ((with_reducible refine st1 ?_); (conv => whnf); (with_reducible refine ⟨?_⟩)) | ((with_reducible refine retW_intro rfl ?_); (conv => arg 2; whnf)) | ((with_reducible first | apply iB | apply gWt | apply gWf) <;> intro hb <;> (try simp only [hb])) | (simp only [B, F, reduceLT, reduceLeDiff, reduceEqDiff, reduceAdd, reduceMul, reduceSub, ↓reduceIte, eq_self, q5, put_sts, hw2, hcc2, hcv, hov]))
    have g5 : ∀ b, b ≠ h0.nx + 2 → b ≠ h0.nx + 5 → ((h2.sts (h0.nx + 2) 0 [v']).obj (h0.nx + 5) (.loop (sinceR h0 tm))).t.get b = h2.t.get b := fun b n1 n2 => by rw [get_obj_ne n2, get_sts _ _ _ _ n1]
    refine roundEnd_norm (by rw [get_sts _ _ _ _ (by omega)]; exact hl2) rfl rfl ⟨rfl, blkOf v', ?_, ⟨by rw [nx_obj, nx_sts]; omega, fun b hb hs hm => ?_⟩, .inr ⟨_, hblk, by omega⟩⟩
    · refine ⟨by rw [nx_obj, nx_sts]; omega, fun b hb => by rw [g5 b (by omega) (by omega), q b (by omega) (by omega) (hmv _ (by omega))]; exact old b hb, get_obj_self _ _,
        by rw [g5 _ (by omega) (by omega), q _ (by omega) (by omega) (hmv _ (by omega))]; exact hd,
        by rw [cellAt_of_get (g5 _ (by omega) (by omega)), cellAt_of_get (q _ (by omega) (by omega) (hmv _ (by omega)))]; exact c1,
        by rw [cellAt_of_get (g5 _ (by omega) (by omega)), cellAt_of_get (q _ (by omega) (by omega) (hmv _ (by omega)))]; exact c3,
        by rw [wrAt_obj (by omega), wrAt_sts]; exact hw2, ⟨v', ?_, ?_, rfl⟩, q2, q3, q5⟩
      · rw [cellAt_obj (by omega), cellAt_sts hw2, if_pos ⟨rfl, Nat.le_refl _, by simp⟩]; rfl
      · rw [lt]
        rw [show (sinceL m ((all (gs X)).take k) ++ [c.rev]).length = (sinceL m ((all (gs X)).take k)).length + 1 by simp]
        refine hg'.of_get (by rw [nx_obj, nx_sts]; exact Nat.le_refl _) (fun b hb => g5 b ?_ ?_)
        · rw [hblk] at hb; cases hb; omega
        · rw [hblk] at hb; cases hb; omega
    · simp only [List.mem_cons, List.mem_nil_iff, or_false, not_or] at hs
      rw [g5 b hs.1 hs.2, q b hb hs.2 hm]
  · rw [if_neg hm] at lt
    have dm : decide (m ≤ c.rev.1) = false := decide_eq_false hm
    repeat' (first | ((with_reducible refine st1 ?_); (conv => whnf); (with_reducible refine ⟨?_⟩)) | ((with_reducible refine retW_intro rfl ?_); (conv => arg 2; whnf)) | ((with_reducible first | apply iB | apply gWt | apply gWf) <;> intro hb <;> (try simp only [hb])) | (simp only [B, F, reduceLT, reduceLeDiff, reduceEqDiff, reduceAdd, reduceMul, reduceSub, ↓reduceIte, eq_self, q3, hc1, d0, d1, dm]))
    have g5 : ∀ b, b ≠ h0.nx + 5 → (h1.obj (h0.nx + 5) (.loop (sinceR h0 tm))).t.get b = h1.t.get b := fun b n2 => get_obj_ne n2 _
    have q : ∀ b, b < h.nx → b ≠ h0.nx + 5 → (h1.obj (h0.nx + 5) (.loop (sinceR h0 tm))).t.get b = h.t.get b := fun b hb hne => by rw [g5 b hne, hget1 b hb hne]
    refine roundEnd_norm hl1 rfl rfl ⟨rfl, mv, ?_, Only.m (ho1.obj (.inl (by simp)) _) _, .inl rfl⟩
    refine ⟨by rw [nx_obj]; omega, fun b hb => by rw [q b (by omega) (by omega)]; exact old b hb, get_obj_self _ _, by rw [q _ (by omega) (by omega)]; exact hd,
      by rw [cellAt_of_get (q _ (by omega) (by omega))]; exact c1, by rw [cellAt_of_get (q _ (by omega) (by omega))]; exact c3, by rw [wrAt_of_get (q _ (by omega) (by omega))]; exact w2,
      ⟨sv, by rw [cellAt_of_get (q _ (by omega) (by omega))]; exact sc, ?_, sb⟩, q2, q3, q5⟩
    rw [lt]
    exact sg.of_get (by rw [nx_obj]; omega) (fun b hb => q b (sg.base hb).2 (by have := (sg.base hb).1; omega))
def PostSince (h : H) (L : List Gn) (m : Nat) (v : AV) (h' : H) : Prop := Only h h' [] ∧ Grows 2 h.nx h' v (sinceL m (all L)).length (rvsC (sinceL m (all L)))
theorem sinceC (h0 : H) (v : AV) (L : List Gn) (m : Nat) (hg : GensAt h0 v L) (hz : Sz 1000 L) : PushC P (.enter 15 [v, n64 m] h0) (PostSince h0 L m) := by
  obtain ⟨s, X, rfl, rfl, hh, -⟩ := hg
  have hso := SliceAt.one hh.1
  unfold n64
  refine pushC_of_codeW (fn := Try.f15) (c := bodyC Try.f15) Try.func15 rfl ?_
  show codeW P 15 21 none _ _ _ _ _
  refine codeW_root ?_
  repeat' (first | ((with_reducible refine st1 ?_); (conv => whnf); (with_reducible refine ⟨?_⟩)) | ((with_reducible refine retW_intro rfl ?_); (conv => arg 2; whnf)) | ((with_reducible first | apply iB | apply gWt | apply gWf) <;> intro hb <;> (try simp only [hb])) | (simp only [B, F, reduceLT, reduceLeDiff, reduceEqDiff, reduceAdd, reduceMul, reduceSub, ↓reduceIte, eq_self, hso]))
  refine ((allC _ s hso).call P).mono P ?_
  rintro v h' ⟨b, rfl, rfl, rfl⟩
  repeat' (first | ((with_reducible refine st1 ?_); (conv => whnf); (with_reducible refine ⟨?_⟩)) | ((with_reducible refine retW_intro rfl ?_); (conv => arg 2; whnf)) | ((with_reducible first | apply iB | apply gWt | apply gWf) <;> intro hb <;> (try simp only [hb])) | (simp only [B, F, reduceLT, reduceLeDiff, reduceEqDiff, reduceAdd, reduceMul, reduceSub, ↓reduceIte, eq_self, hso]))
  obtain ⟨tm, hT⟩ : ∃ tm, tm = (((((((T.e.fill 0 [AV.agg [s], .int .u64 (.ofNat m)]).set 2 (some (.ptr h0.nx 0))).set 3 (some (.ptr (h0.nx + 1) 0))).set 4 (some .nilslice)).set 5 (some (.ptr (h0.nx + 2) 0))).set 7 (some (.agg [s]))).set 8 (some (allV (h0.nx + 3)))) := ⟨_, rfl⟩
  obtain ⟨h1, hH⟩ : ∃ h1, h1 = ((((h0.newCells 26 [s]).newCells 28 [.int .u64 (.ofNat m)]).newCells 29 [.nilslice]).newCells 26 [s]) := ⟨_, rfl⟩
  have q2 : tm.get 2 = some (.ptr h0.nx 0) := by rw [hT]; simp only [B, F, reduceLT, reduceLeDiff, reduceEqDiff, reduceAdd, reduceMul, reduceSub, ↓reduceIte, eq_self]
  have q3 : tm.get 3 = some (.ptr (h0.nx + 1) 0) := by rw [hT]; simp only [B, F, reduceLT, reduceLeDiff, reduceEqDiff, reduceAdd, reduceMul, reduceSub, ↓reduceIte, eq_self]
  have q5 : tm.get 5 = some (.ptr (h0.nx + 2) 0) := by rw [hT]; simp only [B, F, reduceLT, reduceLeDiff, reduceEqDiff, reduceAdd, reduceMul, reduceSub, ↓reduceIte, eq_self]
  have q8 : tm.get 8 = some (allV (h0.nx + 3)) := by rw [hT]; simp only [B, F, reduceLT, reduceLeDiff, reduceEqDiff, reduceAdd, reduceMul, reduceSub, ↓reduceIte, eq_self]
  have x1 : h1.nx = h0.nx + 4 := by rw [hH]; rfl
  have o1 : Only h0 h1 [] := by rw [hH]; exact ((((Only.refl _ _).new _ _).new _ _).new _ _).new _ _
  have c1 : cellAt h1 (h0.nx + 1) 0 = some (.int .u64 (.ofNat m)) := by rw [hH]; simp only [B, F, reduceLT, reduceLeDiff, reduceEqDiff, reduceAdd, reduceMul, reduceSub, ↓reduceIte, eq_self]
  have c3 : cellAt h1 (h0.nx + 3) 0 = some s := by rw [hH]; simp only [B, F, reduceLT, reduceLeDiff, reduceEqDiff, reduceAdd, reduceMul, reduceSub, ↓reduceIte, eq_self]
  have w2 : wrAt h1 (h0.nx + 2) = true := by rw [hH]; simp only [B, F, reduceLT, reduceLeDiff, reduceEqDiff, reduceAdd, reduceMul, reduceSub, ↓reduceIte, eq_self]
  have c2 : cellAt h1 (h0.nx + 2) 0 = some .nilslice := by rw [hH]; simp only [B, F, reduceLT, reduceLeDiff, reduceEqDiff, reduceAdd, reduceMul, reduceSub, ↓reduceIte, eq_self]
  rw [← hT, ← hH]
  refine st_rf rfl (f := .tmp 8) (ps := #[9]) rfl rfl ?_
  refine rf_walk (g := 67) (cap := [.ptr (h0.nx + 3) 0]) (by rw [evalA_tmp, q8]; rfl) (fun args h => callV_func 67 (by kernel_rfl) [] _ args) ?_
  have hbase : ∀ b, b < h1.nx → (loopH h1 15 21 tm [9] (codeI (bodyC Try.f15) (0 :: bodyS)) (codeI (bodyC Try.f15) (1 :: bodyS))).t.get b = h1.t.get b := fun b hb => by rw [loopH_get, if_neg (by omega), if_neg (by omega)]
  have hJ0 : SJ h0 s X m (sinceR h0 tm) 0 none (loopH h1 15 21 tm [9] (codeI (bodyC Try.f15) (0 :: bodyS)) (codeI (bodyC Try.f15) (1 :: bodyS))) := by
    exact ⟨by rw [loopH_nx]; omega, fun b hb => by rw [hbase b (by omega)]; exact o1.2 b hb (by simp), by rw [loopH_get, if_pos (by omega), x1], by rw [loopH_get, if_neg (by omega), if_pos (by omega)],
      by rw [cellAt_of_get (hbase _ (by omega))]; exact c1, by rw [cellAt_of_get (hbase _ (by omega))]; exact c3, by rw [wrAt_of_get (hbase _ (by omega))]; exact w2, ⟨.nilslice, by rw [cellAt_of_get (hbase _ (by omega))]; exact c2, .none, rfl⟩, q2, q3, q5⟩
  rw [x1]
  refine (allRun _ (h0.nx + 5) (h0.nx + 3) s X [h0.nx + 2, h0.nx + 5] (SJ h0 s X m (sinceR h0 tm)) hz ?_ (fun _ _ _ _ hj ho => hj.keep ho) ?_ (fun k mv h hj => ⟨hj.c3, hh.keep hj.o⟩)
    (fun k mv h c hj _ hc => sinceRound h0 s X m tm hz k mv h c hj hc) hJ0).mono P ?_
  · intro c hc
    rw [loopH_nx, x1]
    simp only [List.mem_cons, List.mem_nil_iff, or_false] at hc
    omega
  · intro k mv h hj b q
    obtain ⟨sv, _, sg, sb⟩ := hj.sv
    exact (sg.base (sb.trans q)).2
  rintro _ h2 ⟨mv, hj, ho2, -⟩
  obtain ⟨nx, old, hl, hd, -, -, w2, ⟨sv, sc, sg, -⟩, -⟩ := hj
  rw [List.take_length] at sg
  refine ⟨hl, ?_⟩
  obtain ⟨h3, e3⟩ : ∃ h3, h3 = h2.obj (h0.nx + 5) (.loop (loopR 15 21 tm [9] (codeI (bodyC Try.f15) (0 :: bodyS)) (codeI (bodyC Try.f15) (1 :: bodyS)) (h0.nx + 4) .exhausted)) := ⟨_, rfl⟩
  show blkK 0 _ .norm [h0.nx + 4] tm (h2.obj (h0.nx + 5) (.loop (loopR 15 21 tm [9] (codeI (bodyC Try.f15) (0 :: bodyS)) (codeI (bodyC Try.f15) (1 :: bodyS)) (h0.nx + 4) .exhausted)))
  rw [← e3]
  have g3 : ∀ b, b ≠ h0.nx + 5 → h3.t.get b = h2.t.get b := fun b hb => by rw [e3, get_obj_ne hb]
  have hd3 : h3.t.get (h0.nx + 4) = some (.deferred (some [])) := by rw [g3 _ (by omega)]; exact hd
  have hc3 : cellAt h3 (h0.nx + 2) 0 = some sv := by rw [cellAt_of_get (g3 _ (by omega))]; exact sc
  have x3 : h3.nx = h2.nx := by rw [e3, nx_obj]
  repeat' (first | ((with_reducible refine st1 ?_); (conv => whnf); (with_reducible refine ⟨?_⟩)) | ((with_reducible refine retW_intro rfl ?_); (conv => arg 2; whnf)) | ((with_reducible first | apply iB | apply gWt | apply gWf) <;> intro hb <;> (try simp only [hb])) | (simp only [B, F, reduceLT, reduceLeDiff, reduceEqDiff, reduceAdd, reduceMul, reduceSub, ↓reduceIte, eq_self, q5, hc3]))
  refine retW_undefN hd3 rfl ?_
  (conv => arg 2; whnf)
  simp only [B, F, reduceLT, reduceLeDiff, reduceEqDiff, reduceAdd, reduceMul, reduceSub, ↓reduceIte, eq_self]
  refine ⟨⟨by rw [nx_obj]; omega, fun b hb _ => by rw [get_obj_ne (by omega), g3 _ (by omega)]; exact old b hb⟩, ?_⟩
  have hfin : Grows 2 (h0.nx + 6) (h3.obj (h0.nx + 4) (.deferred none)) sv (sinceL m (all (gs X))).length (rvsC (sinceL m (all (gs X)))) :=
    sg.of_get (by rw [nx_obj]; omega) (fun b hb => by have := sg.base hb; rw [get_obj_ne (by omega), g3 _ (by omega)])
  exact hfin.weak (by omega)
end
end Go.Proofs.Ytlkngpckibidlaa.W

namespace Go.Proofs.Ytlkngpckibidlaa.W
open Go Go.AX
noncomputable section
set_option maxRecDepth 100000
theorem gC_one {x : Gn × AV} (hx : x.2.one = true) : allOne (gC x) = true := by
  have : ∀ v, v ∈ gC x → v.one = true := by
    intro v hv
    simp only [gC, List.mem_cons, List.mem_nil_iff, or_false] at hv
    rcases hv with rfl | rfl | rfl | rfl | rfl | rfl <;> first | rfl | exact hx
  exact allOne_iff.2 this
theorem gCs_one {h : H} {s : AV} {X : List (Gn × AV)} (hh : Has h s X) : allOne (X.flatMap gC) = true := by
  rw [allOne_iff]
  intro v hv
  obtain ⟨x, hx, hv⟩ := List.mem_flatMap.1 hv
  exact allOne_iff.1 (gC_one (SliceAt.one (hh.2 x hx))) v hv
theorem rvs_one (l : List Rv) : allOne (rvsC l) = true := by
  rw [allOne_iff]
  intro v hv
  obtain ⟨x, hx, hv⟩ := List.mem_flatMap.1 hv
  simp only [rvC, List.mem_cons, List.mem_nil_iff, or_false] at hv
  rcases hv with rfl | rfl <;> rfl
theorem gCs_len (X : List (Gn × AV)) : (X.flatMap gC).length = X.length * 6 := flat_len gC 6 gC_len X
theorem rvs_len (l : List Rv) : (rvsC l).length = l.length * 2 := flat_len rvC 2 rvC_len l
structure Cp (h h' : H) (X X' : List (Gn × AV)) (b : Nat) : Prop where
  bb : h.nx ≤ b ∧ b < h'.nx
  wr : wrAt h' b = true
  room : ∀ j, j < (X.length + 1) * 6 → cellAt h' b j ≠ none
  has : Has h' (.slice b 0 X.length (.exact (X.length + 1))) X'
  oo : Only h h' []
  nil : X = [] → X' = []
  last : ∀ Y x, X = Y ++ [x] → ∃ bp, X' = Y ++ [(x.1, .slice bp 0 x.1.puts.length (.exact (x.1.puts.length + 1)))] ∧ h.nx ≤ bp ∧ bp < h'.nx ∧ bp ≠ b ∧ wrAt h' bp = true ∧ ∀ j, j < (x.1.puts.length + 1) * 2 → cellAt h' bp j ≠ none
def PostCp (h : H) (X : List (Gn × AV)) (v : AV) (h' : H) : Prop := ∃ b X', v = .agg [.slice b 0 X.length (.exact (X.length + 1))] ∧ Cp h h' X X' b
theorem mk87 : makeOk P 87 (.agg [.int .u64 (.ofNat 0), .int .u64 (.ofNat 0), .nilslice, .int .u64 (.ofNat 0), .int .u64 (.ofNat 0), .bool false]) = true := by kernel_rfl
theorem mk35 : makeOk P 35 (.agg [.int .u64 (.ofNat 0), .int .u64 (.ofNat 0)]) = true := by kernel_rfl
def zG : List AV := [.int .u64 (.ofNat 0), .int .u64 (.ofNat 0), .nilslice, .int .u64 (.ofNat 0), .int .u64 (.ofNat 0), .bool false]
def zR : List AV := [.int .u64 (.ofNat 0), .int .u64 (.ofNat 0)]
theorem make24 {h : H} {l c : Nat} (hl : l ≤ c) (hc : c ≤ 4194304) (j k : IntKind) : makeSliceA P 24 (.int j (.ofNat l)) (.int k (.ofNat c)) h = .val (.slice h.nx 0 l (.exact c)) (h.newCells 87 (repl zG c)) := makeSlice_eq u24 z87 mk87 hl hc j k
theorem make29 {h : H} {l c : Nat} (hl : l ≤ c) (hc : c ≤ 4194304) (j k : IntKind) : makeSliceA P 29 (.int j (.ofNat l)) (.int k (.ofNat c)) h = .val (.slice h.nx 0 l (.exact c)) (h.newCells 35 (repl zR c)) := makeSlice_eq u29 z35 mk35 hl hc j k
theorem flat_last (Y : List (Gn × AV)) (g : Gn) (p p' : AV) (j : Nat) : ((Y ++ [(g, p')]).flatMap gC)[j]? = if j = Y.length * 6 + 2 then some p' else ((Y ++ [(g, p)]).flatMap gC)[j]? := by
  simp only [List.flatMap_append, List.flatMap_cons, List.flatMap_nil, List.append_nil]
  by_cases q : j < Y.length * 6
  · rw [if_neg (by omega), List.getElem?_append_left (by rw [gCs_len]; exact q), List.getElem?_append_left (by rw [gCs_len]; exact q)]
  · rw [List.getElem?_append_right (by rw [gCs_len]; omega), List.getElem?_append_right (by rw [gCs_len]; omega), gCs_len]
    obtain ⟨k, rfl⟩ : ∃ k, j = Y.length * 6 + k := ⟨j - Y.length * 6, by omega⟩
    rw [Nat.add_sub_cancel_left]
    match k with
    | 0 => rw [if_neg (by omega)]; rfl
    | 1 => rw [if_neg (by omega)]; rfl
    | 2 => rw [if_pos rfl]; rfl
    | 3 => rw [if_neg (by omega)]; rfl
    | 4 => rw [if_neg (by omega)]; rfl
    | 5 => rw [if_neg (by omega)]; rfl
    | k + 6 => rw [if_neg (by omega), List.getElem?_eq_none (by simp [gC]), List.getElem?_eq_none (by simp [gC])]
theorem copiedC (h : H) (s : AV) (X : List (Gn × AV)) (hh : Has h s X) (hn : Nz s X) (hz : Sz 1000 (gs X)) : PushC P (.enter 49 [.agg [s]] h) (PostCp h X) := by
  have hso := SliceAt.one hh.1
  have hlen := hh.1.len (P := P) u24
  have hX : X.length ≤ 1000 := by have := hz.1; simpa [gs] using this
  have w1 : wrapF .i64 (Int.ofNat X.length + Int.ofNat 1) = Int.ofNat (X.length + 1) := i64_add (by omega)
  refine pushC_of_codeW (fn := Try.f49) (c := bodyC Try.f49) Try.func49 rfl ?_
  show codeW P 49 51 none _ _ _ _ _
  refine codeW_root ?_
  repeat' (first | ((with_reducible refine st1 ?_); (conv => whnf); (with_reducible refine ⟨?_⟩)) | ((with_reducible refine st_dw ?_ rfl rfl ?_ ?_); exact rfl; kernel_rfl; (conv => arg 5; whnf); (conv => arg 3; whnf)) | ((with_reducible refine retW_intro rfl ?_); (conv => arg 2; whnf)) | ((with_reducible first | apply iB | apply gWt | apply gWf | apply gXt | apply gXf) <;> intro hb <;> (try simp only [hb])) | ((with_reducible show drawI _ _ _ _ _ _ _ _ _); first | ((with_reducible refine kI_rd ?_ ?_); exact rfl) | ((with_reducible apply kI_rg); exact rfl; exact rfl) | ((with_reducible refine kI_cv ?_ ?_ ?_); exact rfl; kernel_rfl) | ((with_reducible apply kI_al); exact rfl; exact rfl) | ((with_reducible refine kI_ex ?_ ?_ ?_ ?_ ?_); exact rfl; kernel_rfl; exact rfl) | ((with_reducible apply kI_eg); exact rfl; kernel_rfl; exact rfl) | ((with_reducible refine kI_nl ?_ ?_))) | ((with_reducible show eOk _ _ _ _ _ _); first | (exact eok_nil) | (refine ke_rd ?_ ?_ ?_; exact rfl) | (apply ke_rg; exact rfl; exact rfl) | (refine ke_cv ?_ ?_ ?_ ?_; exact rfl; kernel_rfl) | (apply ke_al; exact rfl; exact rfl)) | ((with_reducible refine freshIs_new ?_); kernel_rfl) | (simp only [B, xB, F, reduceLT, reduceLeDiff, reduceEqDiff, reduceAdd, reduceMul, reduceSub, ↓reduceIte, eq_self, hso, hlen, w1, make24 (show X.length ≤ X.length + 1 by omega) (show X.length + 1 ≤ 4194304 by omega)]))
  obtain ⟨h1, hH⟩ : ∃ h1, h1 = ((h.newCells 26 [s]).newCells 26 [.nilslice]).newCells 87 (repl zG (X.length + 1)) := ⟨_, rfl⟩
  have x1 : h1.nx = h.nx + 3 := by rw [hH]; rfl
  have o1 : Only h h1 [] := by rw [hH]; exact (((Only.refl _ _).new _ _).new _ _).new _ _
  have c0 : cellAt h1 h.nx 0 = some s := by rw [hH]; simp only [B, xB, F, reduceLT, reduceLeDiff, reduceEqDiff, reduceAdd, reduceMul, reduceSub, ↓reduceIte, eq_self]
  have c1 : cellAt h1 (h.nx + 1) 0 = some .nilslice := by rw [hH]; simp only [B, xB, F, reduceLT, reduceLeDiff, reduceEqDiff, reduceAdd, reduceMul, reduceSub, ↓reduceIte, eq_self]
  have w0 : wrAt h1 (h.nx + 1) = true := by rw [hH]; simp only [B, xB, F, reduceLT, reduceLeDiff, reduceEqDiff, reduceAdd, reduceMul, reduceSub, ↓reduceIte, eq_self]
  have w2 : wrAt h1 (h.nx + 2) = true := by rw [hH]; simp only [B, xB, F, reduceLT, reduceLeDiff, reduceEqDiff, reduceAdd, reduceMul, reduceSub, ↓reduceIte, eq_self]
  have cz : ∀ j, cellAt h1 (h.nx + 2) j = (repl zG (X.length + 1))[j]? := fun j => by rw [hH, cellAt_new, if_pos (by rfl)]
  have hzl : (repl zG (X.length + 1)).length = (X.length + 1) * 6 := by rw [repl_len]; rfl
  have hh1 := hh.keep o1
  rw [← hH]
  refine exW_copy (e := 87) (size := 6) u24 ok87 (by kernel_rfl) hh1.1 (gCs_len X) (fun q => hn.1 (by have := congrArg List.length q; rw [gCs_len] at this; simp at this; exact List.length_eq_zero_iff.1 (by omega))) w2 (fun i hi => ?_) (gCs_one hh) ?_
  · rw [gCs_len] at hi
    rw [Nat.zero_add, cz, List.getElem?_eq_getElem (by omega)]; simp
  intro h2 x2 g2 w2' cc
  rw [gCs_len] at cc
  have o2 : Only h h2 [] := ⟨by omega, fun b hb _ => by rw [g2 b (by omega)]; exact o1.2 b hb (by simp)⟩
  have c0 : cellAt h2 h.nx 0 = some s := by rw [cellAt_of_get (g2 _ (by omega))]; exact c0
  have c1 : cellAt h2 (h.nx + 1) 0 = some .nilslice := by rw [cellAt_of_get (g2 _ (by omega))]; exact c1
  have w0 : wrAt h2 (h.nx + 1) = true := by rw [wrAt_of_get (g2 _ (by omega))]; exact w0
  have hlo : ∀ j, j < X.length * 6 → cellAt h2 (h.nx + 2) j = (X.flatMap gC)[j]? := fun j hj => by rw [cc, if_pos ⟨Nat.zero_le _, by omega⟩, Nat.sub_zero]
  have room : ∀ j, j < (X.length + 1) * 6 → cellAt h2 (h.nx + 2) j ≠ none := fun j hj => by
    by_cases q : j < X.length * 6
    · rw [hlo j q, List.getElem?_eq_getElem (by rw [gCs_len]; exact q)]; simp
    · rw [cc, if_neg (by omega), cz, List.getElem?_eq_getElem (by omega)]; simp
  have hh2 : Has h2 (.slice (h.nx + 2) 0 X.length (.exact (X.length + 1))) X := ⟨.cell _ _ _ _ _ (by omega) (fun i hi => by rw [gCs_len] at hi; rw [Nat.zero_add]; exact hlo i hi), fun x hx => (hh.2 x hx).only o2 (fun _ _ => by simp)⟩
  rcases List.eq_nil_or_concat X with hX0 | ⟨Y, x, hX0⟩
  · have d1 : decide (0 < X.length) = false := by rw [hX0]; rfl
    repeat' (first | ((with_reducible refine st1 ?_); (conv => whnf); (with_reducible refine ⟨?_⟩)) | ((with_reducible refine st_dw ?_ rfl rfl ?_ ?_); exact rfl; kernel_rfl; (conv => arg 5; whnf); (conv => arg 3; whnf)) | ((with_reducible refine retW_intro rfl ?_); (conv => arg 2; whnf)) | ((with_reducible first | apply iB | apply gWt | apply gWf | apply gXt | apply gXf) <;> intro hb <;> (try simp only [hb])) | ((with_reducible show drawI _ _ _ _ _ _ _ _ _); first | ((with_reducible refine kI_rd ?_ ?_); exact rfl) | ((with_reducible apply kI_rg); exact rfl; exact rfl) | ((with_reducible refine kI_cv ?_ ?_ ?_); exact rfl; kernel_rfl) | ((with_reducible apply kI_al); exact rfl; exact rfl) | ((with_reducible refine kI_ex ?_ ?_ ?_ ?_ ?_); exact rfl; kernel_rfl; exact rfl) | ((with_reducible apply kI_eg); exact rfl; kernel_rfl; exact rfl) | ((with_reducible refine kI_nl ?_ ?_))) | ((with_reducible show eOk _ _ _ _ _ _); first | (exact eok_nil) | (refine ke_rd ?_ ?_ ?_; exact rfl) | (apply ke_rg; exact rfl; exact rfl) | (refine ke_cv ?_ ?_ ?_ ?_; exact rfl; kernel_rfl) | (apply ke_al; exact rfl; exact rfl)) | ((with_reducible refine freshIs_new ?_); kernel_rfl) | (simp only [B, xB, F, reduceLT, reduceLeDiff, reduceEqDiff, reduceAdd, reduceMul, reduceSub, ↓reduceIte, eq_self, hlen, d1, put_sts, w0, c1, cellAt_sts w0]))
    refine ⟨h.nx + 2, X, rfl, ⟨by omega, by rw [nx_sts]; omega⟩, by rw [wrAt_sts]; exact w2', fun j hj => by rw [cellAt_of_get (get_sts _ _ _ _ (by omega))]; exact room j hj, ?_, o2.sts (.inr (by omega)), fun q => q, fun Y x q => ?_⟩
    · exact hh2.only ((Only.refl h2 [h.nx + 1]).sts (.inl (by simp))) (fun b q => by cases q; simp) (fun x hx => by rw [hX0] at hx; cases hx)
    · rw [hX0] at q; simp at q
  · rw [List.concat_eq_append] at hX0
    have hXl : X.length = Y.length + 1 := by rw [hX0]; simp
    have d1 : decide (0 < X.length) = true := decide_eq_true (by omega)
    have hx : X[X.length - 1]? = some x := by rw [hX0]; simp
    have hxm : x ∈ X := List.mem_of_getElem? hx
    have e1 : wrapF .i64 (Int.ofNat X.length - Int.ofNat 1) = Int.ofNat (X.length - 1) := i64_sub (by omega) (by omega)
    have lt1 : (X.length - 1 < X.length) = True := by simp; omega
    obtain ⟨a0, a1, a2, a3, a4, a5⟩ := gC_at hh2.1 hx
    simp only [Nat.zero_add] at a2
    have hpl := (hh.2 x hxm).len (P := P) u29
    have hm : x.1.puts.length ≤ 1000 := hz.2 x.1 (List.mem_map.2 ⟨x, hxm, rfl⟩)
    have w3 : wrapF .i64 (Int.ofNat x.1.puts.length + Int.ofNat 1) = Int.ofNat (x.1.puts.length + 1) := i64_add (by omega)
    have bn : (h.nx + 2 = h2.nx) = False := by simp; omega
    have hsl := hh2.2 x hxm
    repeat' (first | ((with_reducible refine st1 ?_); (conv => whnf); (with_reducible refine ⟨?_⟩)) | ((with_reducible refine st_dw ?_ rfl rfl ?_ ?_); exact rfl; kernel_rfl; (conv => arg 5; whnf); (conv => arg 3; whnf)) | ((with_reducible refine retW_intro rfl ?_); (conv => arg 2; whnf)) | ((with_reducible first | apply iB | apply gWt | apply gWf | apply gXt | apply gXf) <;> intro hb <;> (try simp only [hb])) | ((with_reducible show drawI _ _ _ _ _ _ _ _ _); first | ((with_reducible refine kI_rd ?_ ?_); exact rfl) | ((with_reducible apply kI_rg); exact rfl; exact rfl) | ((with_reducible refine kI_cv ?_ ?_ ?_); exact rfl; kernel_rfl) | ((with_reducible apply kI_al); exact rfl; exact rfl) | ((with_reducible refine kI_ex ?_ ?_ ?_ ?_ ?_); exact rfl; kernel_rfl; exact rfl) | ((with_reducible apply kI_eg); exact rfl; kernel_rfl; exact rfl) | ((with_reducible refine kI_nl ?_ ?_))) | ((with_reducible show eOk _ _ _ _ _ _); first | (exact eok_nil) | (refine ke_rd ?_ ?_ ?_; exact rfl) | (apply ke_rg; exact rfl; exact rfl) | (refine ke_cv ?_ ?_ ?_ ?_; exact rfl; kernel_rfl) | (apply ke_al; exact rfl; exact rfl)) | ((with_reducible refine freshIs_new ?_); kernel_rfl) | (simp only [B, xB, F, reduceLT, reduceLeDiff, reduceEqDiff, reduceAdd, reduceMul, reduceSub, ↓reduceIte, eq_self, hlen, d1, e1, lt1, a2, hpl, w3, bn, make29 (show x.1.puts.length ≤ x.1.puts.length + 1 by omega) (show x.1.puts.length + 1 ≤ 4194304 by omega)]))
    have cz3 : ∀ j, cellAt (h2.newCells 35 (repl zR (x.1.puts.length + 1))) h2.nx j = (repl zR (x.1.puts.length + 1))[j]? := fun j => by rw [cellAt_new, if_pos rfl]
    have hzl3 : (repl zR (x.1.puts.length + 1)).length = (x.1.puts.length + 1) * 2 := by rw [repl_len]; rfl
    refine exW_copy (e := 35) (size := 2) u29 ok35 (by kernel_rfl) (hsl.only ((Only.refl h2 []).new _ _) (fun _ _ => by simp)) (rvs_len _) (fun q => hn.2 Y x hX0 (by have := congrArg List.length q; rw [rvs_len] at this; simp at this; exact List.length_eq_zero_iff.1 (by omega)))
      (by rw [wrAt_new, if_pos rfl]) (fun i hi => ?_) (rvs_one _) ?_
    · rw [rvs_len] at hi
      rw [Nat.zero_add, cz3, List.getElem?_eq_getElem (by omega)]; simp
    intro h4 x4 g4 w4 cc4
    rw [rvs_len] at cc4
    rw [nx_new] at x4
    have g24 : ∀ b, b < h2.nx → h4.t.get b = h2.t.get b := fun b hb => by rw [g4 b (by omega), get_new _ _ _ (by omega)]
    have wb4 : wrAt h4 (h.nx + 2) = true := by rw [wrAt_of_get (g24 _ (by omega))]; exact w2'
    have w04 : wrAt h4 (h.nx + 1) = true := by rw [wrAt_of_get (g24 _ (by omega))]; exact w0
    have c14 : cellAt h4 (h.nx + 1) 0 = some .nilslice := by rw [cellAt_of_get (g24 _ (by omega))]; exact c1
    have a24 : cellAt h4 (h.nx + 2) ((X.length - 1) * 6 + 2) = some x.2 := by rw [cellAt_of_get (g24 _ (by omega))]; exact a2
    have o4 : Only h h4 [] := ⟨by omega, fun b hb _ => by rw [g24 b (by omega)]; exact o2.2 b hb (by simp)⟩
    repeat' (first | ((with_reducible refine st1 ?_); (conv => whnf); (with_reducible refine ⟨?_⟩)) | ((with_reducible refine st_dw ?_ rfl rfl ?_ ?_); exact rfl; kernel_rfl; (conv => arg 5; whnf); (conv => arg 3; whnf)) | ((with_reducible refine retW_intro rfl ?_); (conv => arg 2; whnf)) | ((with_reducible first | apply iB | apply gWt | apply gWf | apply gXt | apply gXf) <;> intro hb <;> (try simp only [hb])) | ((with_reducible show drawI _ _ _ _ _ _ _ _ _); first | ((with_reducible refine kI_rd ?_ ?_); exact rfl) | ((with_reducible apply kI_rg); exact rfl; exact rfl) | ((with_reducible refine kI_cv ?_ ?_ ?_); exact rfl; kernel_rfl) | ((with_reducible apply kI_al); exact rfl; exact rfl) | ((with_reducible refine kI_ex ?_ ?_ ?_ ?_ ?_); exact rfl; kernel_rfl; exact rfl) | ((with_reducible apply kI_eg); exact rfl; kernel_rfl; exact rfl) | ((with_reducible refine kI_nl ?_ ?_))) | ((with_reducible show eOk _ _ _ _ _ _); first | (exact eok_nil) | (refine ke_rd ?_ ?_ ?_; exact rfl) | (apply ke_rg; exact rfl; exact rfl) | (refine ke_cv ?_ ?_ ?_ ?_; exact rfl; kernel_rfl) | (apply ke_al; exact rfl; exact rfl)) | ((with_reducible refine freshIs_new ?_); kernel_rfl) | (simp only [B, xB, F, reduceLT, reduceLeDiff, reduceEqDiff, reduceAdd, reduceMul, reduceSub, ↓reduceIte, eq_self, put_sts, wb4, w04, c14, a24, cellAt_sts w04, wrAt_sts]))
    have hYl : (X.length - 1) * 6 + 2 = Y.length * 6 + 2 := by rw [hXl]; rfl
    rw [hYl]
    obtain ⟨p', hp'⟩ : ∃ p', p' = AV.slice h2.nx 0 x.1.puts.length (.exact (x.1.puts.length + 1)) := ⟨_, rfl⟩
    rw [← hp']
    have wb5 : wrAt (h4.sts (h.nx + 2) (Y.length * 6 + 2) [p']) (h.nx + 1) = true := by rw [wrAt_sts]; exact w04
    have g6 : ∀ b v, b ≠ h.nx + 2 → b ≠ h.nx + 1 → ((h4.sts (h.nx + 2) (Y.length * 6 + 2) [p']).sts (h.nx + 1) 0 [v]).t.get b = h4.t.get b := fun b v n1 n2 => by rw [get_sts _ _ _ _ n2, get_sts _ _ _ _ n1]
    have cb : ∀ j v, cellAt ((h4.sts (h.nx + 2) (Y.length * 6 + 2) [p']).sts (h.nx + 1) 0 [v]) (h.nx + 2) j = if j = Y.length * 6 + 2 then some p' else cellAt h2 (h.nx + 2) j := fun j v => by
      rw [cellAt_of_get (get_sts _ _ _ _ (by omega)), cellAt_sts wb4]
      by_cases q : j = Y.length * 6 + 2
      · subst q; rw [if_pos ⟨rfl, Nat.le_refl _, by simp⟩, if_pos rfl, Nat.sub_self]; rfl
      · rw [if_neg (by simp only [List.length_cons, List.length_nil]; omega), if_neg q, cellAt_of_get (g24 _ (by omega))]
    have o6 : ∀ v, Only h ((h4.sts (h.nx + 2) (Y.length * 6 + 2) [p']).sts (h.nx + 1) 0 [v]) [] := fun v => (o4.sts (.inr (by omega))).sts (.inr (by omega))
    refine ⟨h.nx + 2, Y ++ [(x.1, p')], rfl, ⟨by omega, by rw [nx_sts, nx_sts]; omega⟩, by rw [wrAt_sts, wrAt_sts]; exact wb4, fun j hj => ?_, ⟨?_, fun y hy => ?_⟩, o6 _, fun q => by rw [hX0] at q; simp at q, fun Y1 x1' q => ?_⟩
    · rw [cb]
      split
      · simp
      · exact room j hj
    · have hlen2 : (Y ++ [(x.1, p')]).length = X.length := by rw [hXl]; simp
      refine hlen2 ▸ (.cell _ _ _ _ _ (by rw [nx_sts, nx_sts]; omega) (fun j hj => ?_))
      rw [gCs_len, hlen2] at hj
      rw [Nat.zero_add, cb, flat_last Y x.1 x.2 p' j]
      split
      · rfl
      · rw [hlo j hj, hX0]
    · rcases List.mem_append.1 hy with hy | hy
      · exact (hh.2 y (by rw [hX0]; exact List.mem_append_left _ hy)).only (o6 _) (fun _ _ => by simp)
      · rw [List.mem_singleton] at hy
        subst hy
        subst hp'
        refine .cell _ _ _ _ _ (by rw [nx_sts, nx_sts]; omega) (fun j hj => ?_)
        have hj : j < x.1.puts.length * 2 := by rw [rvs_len] at hj; exact hj
        rw [cellAt_of_get (g6 _ _ (by omega) (by omega)), Nat.zero_add, cc4, if_pos ⟨by omega, by omega⟩, Nat.sub_zero]
    · rw [hX0] at q
      obtain ⟨rfl, q2⟩ := List.append_inj' q rfl
      simp at q2
      subst q2
      refine ⟨h2.nx, by rw [hp'], by omega, by rw [nx_sts, nx_sts]; omega, by omega, by rw [wrAt_sts, wrAt_sts]; exact w4, fun j hj => ?_⟩
      rw [cellAt_of_get (g6 _ _ (by omega) (by omega)), cc4]
      split
      · rw [List.getElem?_eq_getElem (by rw [rvs_len]; omega)]; simp
      · rw [cz3, List.getElem?_eq_getElem (by omega)]; simp
end
end Go.Proofs.Ytlkngpckibidlaa.W

namespace Go.Proofs.Ytlkngpckibidlaa.W
open Go Go.AX
noncomputable section
set_option maxRecDepth 100000
def putL (L : List Gn) (r : Rv) (made nth : Nat) : List Gn :=
  match L.getLast? with
  | some g => if g.ended then L ++ [⟨made, nth, [r], (0, 0), false⟩] else L.dropLast ++ [{ g with puts := g.puts ++ [r] }]
  | none => [⟨made, nth, [r], (0, 0), false⟩]
def Blk (p : Nat → Prop) (s : AV) (X : List (Gn × AV)) : Prop := (∀ b, blkOf s = some b → p b) ∧ ∀ x, x ∈ X → ∀ b, blkOf x.2 = some b → p b
def GensP (p : Nat → Prop) (h : H) (v : AV) (L : List Gn) : Prop := ∃ s X, v = .agg [s] ∧ X.map (·.1) = L ∧ Has h s X ∧ Nz s X ∧ Blk p s X
theorem GensAt.p {h : H} {v : AV} {L : List Gn} (hg : GensAt h v L) : GensP (fun b => b < h.nx) h v L := by
  obtain ⟨s, X, rfl, rfl, hh, hn⟩ := hg
  exact ⟨s, X, rfl, rfl, hh, hn, fun b q => SliceAt.blk hh.1 b q, fun x hx b q => SliceAt.blk (hh.2 x hx) b q⟩
theorem GensP.at {p : Nat → Prop} {h : H} {v : AV} {L : List Gn} (hg : GensP p h v L) : GensAt h v L := by
  obtain ⟨s, X, rfl, rfl, hh, hn, _⟩ := hg; exact ⟨s, X, rfl, rfl, hh, hn⟩
theorem GensP.mono {p q : Nat → Prop} {h : H} {v : AV} {L : List Gn} (hg : GensP p h v L) (hpq : ∀ b, b < h.nx → p b → q b) : GensP q h v L := by
  obtain ⟨s, X, rfl, rfl, hh, hn, hb⟩ := hg
  exact ⟨s, X, rfl, rfl, hh, hn, fun b q => hpq b (SliceAt.blk hh.1 b q) (hb.1 b q), fun x hx b q => hpq b (SliceAt.blk (hh.2 x hx) b q) (hb.2 x hx b q)⟩
theorem GensP.keep {p : Nat → Prop} {h h' : H} {v : AV} {L : List Gn} (hg : GensP p h v L) {S : List Nat} (ho : Only h h' S) (hS : ∀ c, c ∈ S → ¬ p c) : GensP p h' v L := by
  obtain ⟨s, X, rfl, rfl, hh, hn, hb⟩ := hg
  exact ⟨s, X, rfl, rfl, hh.only ho (fun b q hs => hS b hs (hb.1 b q)) (fun x hx b q hs => hS b hs (hb.2 x hx b q)), hn, hb⟩
theorem GensP.keep0 {p : Nat → Prop} {h h' : H} {v : AV} {L : List Gn} (hg : GensP p h v L) (ho : Only h h' []) : GensP p h' v L := hg.keep ho (fun _ q => by cases q)
def PostGens (p : Nat → Prop) (h : H) (L : List Gn) (v : AV) (h' : H) : Prop := Only h h' [] ∧ GensP p h' v L
theorem gs_last (X : List (Gn × AV)) : X = [] ∨ ∃ Y x, X = Y ++ [x] := by
  rcases List.eq_nil_or_concat X with h | ⟨Y, x, h⟩
  · exact .inl h
  · exact .inr ⟨Y, x, by rw [h, List.concat_eq_append]⟩
theorem putC (p : Nat → Prop) (h : H) (v : AV) (L : List Gn) (r : Rv) (made nth : Nat) (hp : ∀ b, h.nx ≤ b → p b) (hg : GensP p h v L) (hz : Sz 900 L) : PushC P (.enter 47 [v, rvA r, n64 made, n64 nth] h) (PostGens p h (putL L r made nth)) := by
  obtain ⟨s, X, rfl, rfl, hh, hn, hbk⟩ := hg
  have hob : ∀ x, x ∈ X → ∀ b, blkOf x.2 = some b → p b := hbk.2
  have hso := SliceAt.one hh.1
  have hXz : X.length ≤ 900 := by have := hz.1; simpa using this
  have e0 : rvA r = .agg [.int .u64 (.ofNat r.1), .int .u64 (.ofNat r.2)] := rfl
  rw [e0]
  unfold n64
  refine pushC_of_codeW (fn := Try.f47) (c := bodyC Try.f47) Try.func47 rfl ?_
  show codeW P 47 42 none _ _ _ _ _
  refine codeW_root ?_
  repeat' (first | ((with_reducible refine st1 ?_); (conv => whnf); (with_reducible refine ⟨?_⟩)) | ((with_reducible refine st_dw ?_ rfl rfl ?_ ?_); exact rfl; kernel_rfl; (conv => arg 5; whnf); (conv => arg 3; whnf)) | ((with_reducible refine retW_intro rfl ?_); (conv => arg 2; whnf)) | ((with_reducible first | apply iB | apply gWt | apply gWf | apply gXt | apply gXf) <;> intro hb <;> (try simp only [hb])) | ((with_reducible show drawI _ _ _ _ _ _ _ _ _); first | ((with_reducible refine kI_rd ?_ ?_); exact rfl) | ((with_reducible apply kI_rg); exact rfl; exact rfl) | ((with_reducible refine kI_cv ?_ ?_ ?_); exact rfl; kernel_rfl) | ((with_reducible apply kI_al); exact rfl; exact rfl) | ((with_reducible refine kI_ex ?_ ?_ ?_ ?_ ?_); exact rfl; kernel_rfl; exact rfl) | ((with_reducible apply kI_eg); exact rfl; kernel_rfl; exact rfl) | ((with_reducible refine kI_nl ?_ ?_))) | ((with_reducible show eOk _ _ _ _ _ _); first | (exact eok_nil) | (refine ke_rd ?_ ?_ ?_; exact rfl) | (apply ke_rg; exact rfl; exact rfl) | (refine ke_cv ?_ ?_ ?_ ?_; exact rfl; kernel_rfl) | (apply ke_al; exact rfl; exact rfl)) | ((with_reducible refine freshIs_new ?_); kernel_rfl) | (simp only [B, xB, F, reduceLT, reduceLeDiff, reduceEqDiff, reduceAdd, reduceMul, reduceSub, ↓reduceIte, eq_self, hso]))
  obtain ⟨h1, hH⟩ : ∃ h1, h1 = (((h.newCells 26 [s]).newCells 35 [.int .u64 (.ofNat r.1), .int .u64 (.ofNat r.2)]).newCells 26 [.nilslice]) := ⟨_, rfl⟩
  have x1 : h1.nx = h.nx + 3 := by rw [hH]; rfl
  have o1 : Only h h1 [] := by rw [hH]; exact (((Only.refl _ _).new _ _).new _ _).new _ _
  have c0 : cellAt h1 h.nx 0 = some s := by rw [hH]; simp only [B, xB, F, reduceLT, reduceLeDiff, reduceEqDiff, reduceAdd, reduceMul, reduceSub, ↓reduceIte, eq_self]
  have r0 : cellAt h1 (h.nx + 1) 0 = some (.int .u64 (.ofNat r.1)) := by rw [hH]; simp only [B, xB, F, reduceLT, reduceLeDiff, reduceEqDiff, reduceAdd, reduceMul, reduceSub, ↓reduceIte, eq_self]
  have r1 : cellAt h1 (h.nx + 1) 1 = some (.int .u64 (.ofNat r.2)) := by rw [hH]; simp only [B, xB, F, reduceLT, reduceLeDiff, reduceEqDiff, reduceAdd, reduceMul, reduceSub, ↓reduceIte, eq_self]
  have z0 : cellAt h1 (h.nx + 2) 0 = some .nilslice := by rw [hH]; simp only [B, xB, F, reduceLT, reduceLeDiff, reduceEqDiff, reduceAdd, reduceMul, reduceSub, ↓reduceIte, eq_self]
  have w0 : wrAt h1 (h.nx + 2) = true := by rw [hH]; simp only [B, xB, F, reduceLT, reduceLeDiff, reduceEqDiff, reduceAdd, reduceMul, reduceSub, ↓reduceIte, eq_self]
  rw [← hH]
  refine ((copiedC h1 s X (hh.keep o1) hn (hz.le (by omega))).call P).mono P ?_
  rintro v h2 ⟨b, X', rfl, bb, wb, room, has, o2, hnil, hlast⟩
  have c0 : cellAt h2 h.nx 0 = some s := by rw [o2.cell (by omega) (by simp)]; exact c0
  have r0 : cellAt h2 (h.nx + 1) 0 = some (.int .u64 (.ofNat r.1)) := by rw [o2.cell (by omega) (by simp)]; exact r0
  have r1 : cellAt h2 (h.nx + 1) 1 = some (.int .u64 (.ofNat r.2)) := by rw [o2.cell (by omega) (by simp)]; exact r1
  have z0 : cellAt h2 (h.nx + 2) 0 = some .nilslice := by rw [o2.cell (by omega) (by simp)]; exact z0
  have w0 : wrAt h2 (h.nx + 2) = true := by rw [o2.wr (by omega) (by simp)]; exact w0
  have x2 := o2.1
  have n0 : (h.nx = h2.nx) = False := by simp; omega
  have n1 : (h.nx + 1 = h2.nx) = False := by simp; omega
  have n2 : (h.nx + 2 = h2.nx) = False := by simp; omega
  repeat' (first | ((with_reducible refine st1 ?_); (conv => whnf); (with_reducible refine ⟨?_⟩)) | ((with_reducible refine st_dw ?_ rfl rfl ?_ ?_); exact rfl; kernel_rfl; (conv => arg 5; whnf); (conv => arg 3; whnf)) | ((with_reducible refine retW_intro rfl ?_); (conv => arg 2; whnf)) | ((with_reducible first | apply iB | apply gWt | apply gWf | apply gXt | apply gXf) <;> intro hb <;> (try simp only [hb])) | ((with_reducible show drawI _ _ _ _ _ _ _ _ _); first | ((with_reducible refine kI_rd ?_ ?_); exact rfl) | ((with_reducible apply kI_rg); exact rfl; exact rfl) | ((with_reducible refine kI_cv ?_ ?_ ?_); exact rfl; kernel_rfl) | ((with_reducible apply kI_al); exact rfl; exact rfl) | ((with_reducible refine kI_ex ?_ ?_ ?_ ?_ ?_); exact rfl; kernel_rfl; exact rfl) | ((with_reducible apply kI_eg); exact rfl; kernel_rfl; exact rfl) | ((with_reducible refine kI_nl ?_ ?_))) | ((with_reducible show eOk _ _ _ _ _ _); first | (exact eok_nil) | (refine ke_rd ?_ ?_ ?_; exact rfl) | (apply ke_rg; exact rfl; exact rfl) | (refine ke_cv ?_ ?_ ?_ ?_; exact rfl; kernel_rfl) | (apply ke_al; exact rfl; exact rfl)) | ((with_reducible refine freshIs_new ?_); kernel_rfl) | (simp only [B, xB, F, reduceLT, reduceLeDiff, reduceEqDiff, reduceAdd, reduceMul, reduceSub, ↓reduceIte, eq_self, c0, n0]))
  have oh : Only h h2 [] := o1.trans o2 (fun _ h => h) (fun _ h => by cases h)
  have o3 : Only h2 ((h2.newCells 26 [.nilslice]).sts h2.nx 0 [.slice b 0 X.length (.exact (X.length + 1))]) [] := ((Only.refl _ _).new _ _).sts (.inr (Nat.le_refl _))
  have x3 : ((h2.newCells 26 [.nilslice]).sts h2.nx 0 [.slice b 0 X.length (.exact (X.length + 1))]).nx = h2.nx + 1 := by rw [nx_sts, nx_new]
  have s3 : cellAt ((h2.newCells 26 [.nilslice]).sts h2.nx 0 [.slice b 0 X.length (.exact (X.length + 1))]) h2.nx 0 = some (.slice b 0 X.length (.exact (X.length + 1))) := by simp only [B, xB, F, reduceLT, reduceLeDiff, reduceEqDiff, reduceAdd, reduceMul, reduceSub, ↓reduceIte, eq_self]
  have ws3 : wrAt ((h2.newCells 26 [.nilslice]).sts h2.nx 0 [.slice b 0 X.length (.exact (X.length + 1))]) h2.nx = true := by simp only [B, xB, F, reduceLT, reduceLeDiff, reduceEqDiff, reduceAdd, reduceMul, reduceSub, ↓reduceIte, eq_self]
  generalize ((h2.newCells 26 [.nilslice]).sts h2.nx 0 [.slice b 0 X.length (.exact (X.length + 1))]) = h3 at *
  refine ((openC h3 _ (X.map (·.1)) ⟨s, X, rfl, rfl, hh.keep (oh.trans o3 (fun _ h => h) (fun _ h => by cases h)), hn⟩ (hz.le (by omega))).call P).mono P ?_
  rintro v h4 ⟨rfl, o4⟩
  have g4 : ∀ c, c < h2.nx → h4.t.get c = h2.t.get c := fun c hc => by rw [o4.2 c (by omega) (by simp), o3.2 c hc (by simp)]
  have x4 := o4.1
  have s4 : cellAt h4 h2.nx 0 = some (.slice b 0 X.length (.exact (X.length + 1))) := by rw [o4.cell (by omega) (by simp)]; exact s3
  have ws4 : wrAt h4 h2.nx = true := by rw [o4.wr (by omega) (by simp)]; exact ws3
  have r0 : cellAt h4 (h.nx + 1) 0 = some (.int .u64 (.ofNat r.1)) := by rw [cellAt_of_get (g4 _ (by omega))]; exact r0
  have r1 : cellAt h4 (h.nx + 1) 1 = some (.int .u64 (.ofNat r.2)) := by rw [cellAt_of_get (g4 _ (by omega))]; exact r1
  have z0 : cellAt h4 (h.nx + 2) 0 = some .nilslice := by rw [cellAt_of_get (g4 _ (by omega))]; exact z0
  have w0 : wrAt h4 (h.nx + 2) = true := by rw [wrAt_of_get (g4 _ (by omega))]; exact w0
  have wb4 : wrAt h4 b = true := by rw [wrAt_of_get (g4 _ (by omega))]; exact wb
  have oh4 : Only h h4 [] := (oh.trans o3 (fun _ h => h) (fun _ h => by cases h)).trans o4 (fun _ h => h) (fun _ h => by cases h)
  have hb4 : ∀ j, cellAt h4 b j = cellAt h2 b j := cellAt_of_get (g4 _ (by omega))
  have has4 : Has h4 (.slice b 0 X.length (.exact (X.length + 1))) X' := has.keep (o3.trans o4 (fun _ h => h) (fun _ h => by cases h))
  have nb2 : (b = h2.nx) = False := by simp; omega
  cases hop : opn (X.map (·.1)) with
  | true =>
    rcases gs_last X with hX0 | ⟨Y, x, hX0⟩
    · rw [hX0] at hop; cases hop
    obtain ⟨bp, hX', bp1, bp2, bp3, wbp, roomp⟩ := hlast Y x hX0
    have hXl : X.length = Y.length + 1 := by rw [hX0]; simp
    have e1 : wrapF .i64 (Int.ofNat X.length - Int.ofNat 1) = Int.ofNat (X.length - 1) := i64_sub (by omega) (by omega)
    have lt1 : (X.length - 1 < X.length) = True := by simp; omega
    have hx' : X'[X.length - 1]? = some (x.1, .slice bp 0 x.1.puts.length (.exact (x.1.puts.length + 1))) := by rw [hX', hXl]; simp
    have hXl' : X'.length = X.length := by rw [hX', hXl]; simp
    have hs4 := has4.1
    rw [hXl'] at hs4
    have a2 := (gC_at hs4 hx').2.2.1
    simp only [Nat.zero_add] at a2
    have hbn : (b = h4.nx) = False := by simp; omega
    have hbn1 : (h.nx + 1 = h4.nx) = False := by simp; omega
    have hbp4 : bp < h4.nx := by omega
    repeat' (first | ((with_reducible refine st1 ?_); (conv => whnf); (with_reducible refine ⟨?_⟩)) | ((with_reducible refine st_dw ?_ rfl rfl ?_ ?_); exact rfl; kernel_rfl; (conv => arg 5; whnf); (conv => arg 3; whnf)) | ((with_reducible refine retW_intro rfl ?_); (conv => arg 2; whnf)) | ((with_reducible first | apply iB | apply gWt | apply gWf | apply gXt | apply gXf) <;> intro hb <;> (try simp only [hb])) | ((with_reducible show drawI _ _ _ _ _ _ _ _ _); first | ((with_reducible refine kI_rd ?_ ?_); exact rfl) | ((with_reducible apply kI_rg); exact rfl; exact rfl) | ((with_reducible refine kI_cv ?_ ?_ ?_); exact rfl; kernel_rfl) | ((with_reducible apply kI_al); exact rfl; exact rfl) | ((with_reducible refine kI_ex ?_ ?_ ?_ ?_ ?_); exact rfl; kernel_rfl; exact rfl) | ((with_reducible apply kI_eg); exact rfl; kernel_rfl; exact rfl) | ((with_reducible refine kI_nl ?_ ?_))) | ((with_reducible show eOk _ _ _ _ _ _); first | (exact eok_nil) | (refine ke_rd ?_ ?_ ?_; exact rfl) | (apply ke_rg; exact rfl; exact rfl) | (refine ke_cv ?_ ?_ ?_ ?_; exact rfl; kernel_rfl) | (apply ke_al; exact rfl; exact rfl)) | ((with_reducible refine freshIs_new ?_); kernel_rfl) | (simp only [B, xB, F, reduceLT, reduceLeDiff, reduceEqDiff, reduceAdd, reduceMul, reduceSub, ↓reduceIte, eq_self, s4, e1, lt1, a2, r0, r1, hbn, hbn1]))
    refine exW_place (n := 1) (Nat.le_refl _) rfl ?_ (fun i hi => ?_) rfl ?_
    · rw [wrAt_new, if_neg (by omega), wrAt_of_get (g4 _ (by omega))]; exact wbp
    · rw [cellAt_new, if_neg (by omega), cellAt_of_get (g4 _ (by omega))]
      exact roomp _ (by simp only [List.length_cons, List.length_nil] at hi; omega)
    intro h5 x5 g5 w5 cc5
    rw [nx_new] at x5
    have g54 : ∀ c, c < h4.nx → c ≠ bp → h5.t.get c = h4.t.get c := fun c hc hne => by rw [g5 c hne, get_new _ _ _ (by omega)]
    have wb5 : wrAt h5 b = true := by rw [wrAt_of_get (g54 _ (by omega) (by omega))]; exact wb4
    have s5 : cellAt h5 h2.nx 0 = some (.slice b 0 X.length (.exact (X.length + 1))) := by rw [cellAt_of_get (g54 _ (by omega) (by omega))]; exact s4
    have r05 : cellAt h5 (h.nx + 1) 0 = some (.int .u64 (.ofNat r.1)) := by rw [cellAt_of_get (g54 _ (by omega) (by omega))]; exact r0
    have r15 : cellAt h5 (h.nx + 1) 1 = some (.int .u64 (.ofNat r.2)) := by rw [cellAt_of_get (g54 _ (by omega) (by omega))]; exact r1
    have z05 : cellAt h5 (h.nx + 2) 0 = some .nilslice := by rw [cellAt_of_get (g54 _ (by omega) (by omega))]; exact z0
    have w05 : wrAt h5 (h.nx + 2) = true := by rw [wrAt_of_get (g54 _ (by omega) (by omega))]; exact w0
    have a25 : cellAt h5 b ((X.length - 1) * 6 + 2) = some (.slice bp 0 x.1.puts.length (.exact (x.1.puts.length + 1))) := by rw [cellAt_of_get (g54 _ (by omega) (by omega))]; exact a2
    have nb0 : (b = h.nx + 1) = False := by simp; omega
    have nb1 : (b = h.nx + 2) = False := by simp; omega
    have nb2' : (h2.nx = b) = False := by simp; omega
    have nb3 : (h.nx + 2 = b) = False := by simp; omega
    have nb4 : (h.nx + 1 = b) = False := by simp; omega
    repeat' (first | ((with_reducible refine st1 ?_); (conv => whnf); (with_reducible refine ⟨?_⟩)) | ((with_reducible refine st_dw ?_ rfl rfl ?_ ?_); exact rfl; kernel_rfl; (conv => arg 5; whnf); (conv => arg 3; whnf)) | ((with_reducible refine retW_intro rfl ?_); (conv => arg 2; whnf)) | ((with_reducible first | apply iB | apply gWt | apply gWf | apply gXt | apply gXf) <;> intro hb <;> (try simp only [hb])) | ((with_reducible show drawI _ _ _ _ _ _ _ _ _); first | ((with_reducible refine kI_rd ?_ ?_); exact rfl) | ((with_reducible apply kI_rg); exact rfl; exact rfl) | ((with_reducible refine kI_cv ?_ ?_ ?_); exact rfl; kernel_rfl) | ((with_reducible apply kI_al); exact rfl; exact rfl) | ((with_reducible refine kI_ex ?_ ?_ ?_ ?_ ?_); exact rfl; kernel_rfl; exact rfl) | ((with_reducible apply kI_eg); exact rfl; kernel_rfl; exact rfl) | ((with_reducible refine kI_nl ?_ ?_))) | ((with_reducible show eOk _ _ _ _ _ _); first | (exact eok_nil) | (refine ke_rd ?_ ?_ ?_; exact rfl) | (apply ke_rg; exact rfl; exact rfl) | (refine ke_cv ?_ ?_ ?_ ?_; exact rfl; kernel_rfl) | (apply ke_al; exact rfl; exact rfl)) | ((with_reducible refine freshIs_new ?_); kernel_rfl) | (simp only [B, xB, F, reduceLT, reduceLeDiff, reduceEqDiff, reduceAdd, reduceMul, reduceSub, ↓reduceIte, eq_self, s4, s5, e1, lt1, a25, r05, r15, z05, hbn, hbn1, put_sts, wb5, w05, cellAt_sts wb5, nb0, nb1, nb2', nb3, nb4, wrAt_sts]))
    have hYl : (X.length - 1) * 6 + 2 = Y.length * 6 + 2 := by rw [hXl]; rfl
    rw [hYl]
    obtain ⟨p', hp'⟩ : ∃ p', p' = AV.slice bp 0 (x.1.puts.length + 1) (.exact (x.1.puts.length + 1)) := ⟨_, rfl⟩
    rw [← hp']
    have wb6 : wrAt (h5.sts b (Y.length * 6 + 2) [p']) (h.nx + 2) = true := by rw [wrAt_sts]; exact w05
    have g6 : ∀ c v, c ≠ b → c ≠ h.nx + 2 → ((h5.sts b (Y.length * 6 + 2) [p']).sts (h.nx + 2) 0 [v]).t.get c = h5.t.get c := fun c v n1 n2 => by rw [get_sts _ _ _ _ n2, get_sts _ _ _ _ n1]
    have cb : ∀ j v, cellAt ((h5.sts b (Y.length * 6 + 2) [p']).sts (h.nx + 2) 0 [v]) b j = if j = Y.length * 6 + 2 then some p' else cellAt h2 b j := fun j v => by
      rw [cellAt_of_get (get_sts _ _ _ _ (by omega)), cellAt_sts wb5]
      by_cases q : j = Y.length * 6 + 2
      · subst q; rw [if_pos ⟨rfl, Nat.le_refl _, by simp⟩, if_pos rfl, Nat.sub_self]; rfl
      · rw [if_neg (by simp only [List.length_cons, List.length_nil]; omega), if_neg q, cellAt_of_get (g54 _ (by omega) (by omega)), hb4]
    have x6 : ∀ v, ((h5.sts b (Y.length * 6 + 2) [p']).sts (h.nx + 2) 0 [v]).nx = h4.nx + 1 := fun v => by rw [nx_sts, nx_sts, x5]
    have o6 : ∀ v, Only h ((h5.sts b (Y.length * 6 + 2) [p']).sts (h.nx + 2) 0 [v]) [] := fun v => ⟨by rw [x6]; omega, fun c hc _ => by rw [g6 c v (by omega) (by omega), g54 c (by omega) (by omega)]; exact oh4.2 c hc (by simp)⟩
    have hput : putL (X.map (·.1)) r made nth = (Y ++ [({ x.1 with puts := x.1.puts ++ [r] }, p')]).map (fun z : Gn × AV => z.1) := by
      have hend : x.1.ended = false := by
        rw [hX0] at hop; simp only [opn, List.map_append, List.map_cons, List.map_nil, List.getLast?_append, List.getLast?_singleton, Option.some_or] at hop
        simpa using hop
      unfold putL
      rw [hX0]
      simp only [List.map_append, List.map_cons, List.map_nil, List.getLast?_append, List.getLast?_singleton, Option.some_or, hend, List.dropLast_concat]
      simp
    refine ⟨o6 _, .slice b 0 X.length (.exact (X.length + 1)), Y ++ [({ x.1 with puts := x.1.puts ++ [r] }, p')], rfl, hput.symm, ⟨?_, fun y hy => ?_⟩, ⟨fun q => by simp at q, fun y z hy q => ?_⟩, fun c q => ?_, fun y hy c q => ?_⟩
    · have hlen2 : (Y ++ [(({ x.1 with puts := x.1.puts ++ [r] } : Gn), p')]).length = X.length := by rw [hXl]; simp
      have hfl : (Y ++ [(({ x.1 with puts := x.1.puts ++ [r] } : Gn), p')]).flatMap gC = (Y ++ [(x.1, p')]).flatMap gC := by
        simp only [List.flatMap_append, List.flatMap_cons, List.flatMap_nil]; rfl
      rw [hfl, hlen2]
      refine .cell _ _ _ _ _ (by rw [x6]; omega) (fun j hj => ?_)
      rw [gCs_len] at hj
      have hj : j < X.length * 6 := by rw [hXl]; simpa using hj
      rw [Nat.zero_add, cb, flat_last Y x.1 (.slice bp 0 x.1.puts.length (.exact (x.1.puts.length + 1))) p' j]
      split
      · rfl
      · rw [← hX']
        have hs2 := has.1
        rw [hXl'] at hs2
        cases hs2 with
        | cell _ _ _ _ _ _ hc => have := hc j (by rw [gCs_len, hXl']; exact hj); rwa [Nat.zero_add] at this
    · rcases List.mem_append.1 hy with hy | hy
      · exact (hh.2 y (by rw [hX0]; exact List.mem_append_left _ hy)).only (o6 _) (fun _ _ => by simp)
      · rw [List.mem_singleton] at hy
        subst hy
        subst hp'
        have hsl2 := has.2 (x.1, .slice bp 0 x.1.puts.length (.exact (x.1.puts.length + 1))) (by rw [hX']; simp)
        have hln : (x.1.puts ++ [r]).length = x.1.puts.length + 1 := by simp
        show SliceAt _ _ (x.1.puts ++ [r]).length (rvsC (x.1.puts ++ [r]))
        rw [hln]
        refine .cell _ _ _ _ _ (by rw [x6]; omega) (fun j hj => ?_)
        have hj : j < (x.1.puts.length + 1) * 2 := by rw [rvs_len, hln] at hj; exact hj
        rw [cellAt_of_get (g6 _ _ (by omega) (by omega)), Nat.zero_add, cc5, ← rvsC_snoc]
        by_cases q : x.1.puts.length * 2 ≤ j
        · rw [if_pos ⟨by omega, by simp only [List.length_cons, List.length_nil]; omega⟩, List.getElem?_append_right (by rw [rvs_len]; exact q), rvs_len, Nat.zero_add]
        · rw [if_neg (by omega), cellAt_new, if_neg (by omega), cellAt_of_get (g4 _ (by omega)), List.getElem?_append_left (by rw [rvs_len]; omega)]
          cases hsl2 with
          | cell _ _ _ _ _ _ hc => have := hc j (by rw [rvs_len]; show j < x.1.puts.length * 2; omega); rwa [Nat.zero_add] at this
    · obtain ⟨_, q2⟩ := List.append_inj' hy rfl
      simp only [List.cons.injEq, and_true] at q2
      rw [← q2] at q
      simp at q
    · cases q; exact hp _ (by omega)
    · rcases List.mem_append.1 hy with hy | hy
      · exact (hob y (by rw [hX0]; exact List.mem_append_left _ hy) c q)
      · rw [List.mem_singleton] at hy
        subst hy
        subst hp'
        cases q; exact hp _ (by omega)
  | false =>
    repeat' (first | ((with_reducible refine st1 ?_); (conv => whnf); (with_reducible refine ⟨?_⟩)) | ((with_reducible refine st_dw ?_ rfl rfl ?_ ?_); exact rfl; kernel_rfl; (conv => arg 5; whnf); (conv => arg 3; whnf)) | ((with_reducible refine retW_intro rfl ?_); (conv => arg 2; whnf)) | ((with_reducible first | apply iB | apply gWt | apply gWf | apply gXt | apply gXf) <;> intro hb <;> (try simp only [hb])) | ((with_reducible show drawI _ _ _ _ _ _ _ _ _); first | ((with_reducible refine kI_rd ?_ ?_); exact rfl) | ((with_reducible apply kI_rg); exact rfl; exact rfl) | ((with_reducible refine kI_cv ?_ ?_ ?_); exact rfl; kernel_rfl) | ((with_reducible apply kI_al); exact rfl; exact rfl) | ((with_reducible refine kI_ex ?_ ?_ ?_ ?_ ?_); exact rfl; kernel_rfl; exact rfl) | ((with_reducible apply kI_eg); exact rfl; kernel_rfl; exact rfl) | ((with_reducible refine kI_nl ?_ ?_))) | ((with_reducible show eOk _ _ _ _ _ _); first | (exact eok_nil) | (refine ke_rd ?_ ?_ ?_; exact rfl) | (apply ke_rg; exact rfl; exact rfl) | (refine ke_cv ?_ ?_ ?_ ?_; exact rfl; kernel_rfl) | (apply ke_al; exact rfl; exact rfl)) | ((with_reducible refine freshIs_new ?_); kernel_rfl) | (simp only [B, xB, F, reduceLT, reduceLeDiff, reduceEqDiff, reduceAdd, reduceMul, reduceSub, ↓reduceIte, eq_self, s4]))
    have hx3 : ∀ l, (h4.newCells 87 l).nx = h4.nx + 1 := fun l => nx_new _ _ _
    refine exW_place (n := 1) (Nat.le_refl _) rfl ?_ (fun i hi => ?_) rfl ?_
    · rw [wrAt_new, if_neg (by omega)]; exact wb4
    · rw [cellAt_new, if_neg (by omega), hb4]
      exact room _ (by simp only [List.length_cons, List.length_nil] at hi; omega)
    intro h5 x5 g5 w5 cc5
    rw [nx_new] at x5
    have g54 : ∀ c, c < h4.nx → c ≠ b → h5.t.get c = h4.t.get c := fun c hc hne => by rw [g5 c hne, get_new _ _ _ (by omega)]
    have ws5 : wrAt h5 h2.nx = true := by rw [wrAt_of_get (g54 _ (by omega) (by omega))]; exact ws4
    have s5 : cellAt h5 h2.nx 0 = some (.slice b 0 X.length (.exact (X.length + 1))) := by rw [cellAt_of_get (g54 _ (by omega) (by omega))]; exact s4
    have e1 : wrapF .i64 (Int.ofNat (X.length + 1) - Int.ofNat 1) = Int.ofNat X.length := by
      have := i64_sub (a := X.length + 1) (b := 1) (by omega) (by omega); rwa [Nat.add_sub_cancel] at this
    have lt1 : (X.length < X.length + 1) = True := by simp
    have a25 : cellAt h5 b (X.length * 6 + 2) = some .nilslice := by rw [cc5, if_pos ⟨by omega, by simp only [List.length_cons, List.length_nil]; omega⟩, show X.length * 6 + 2 - (0 + X.length * 6) = 2 by omega]; rfl
    have r05 : cellAt h5 (h.nx + 1) 0 = some (.int .u64 (.ofNat r.1)) := by rw [cellAt_of_get (g54 _ (by omega) (by omega))]; exact r0
    have r15 : cellAt h5 (h.nx + 1) 1 = some (.int .u64 (.ofNat r.2)) := by rw [cellAt_of_get (g54 _ (by omega) (by omega))]; exact r1
    have z05 : cellAt h5 (h.nx + 2) 0 = some .nilslice := by rw [cellAt_of_get (g54 _ (by omega) (by omega))]; exact z0
    have w05 : wrAt h5 (h.nx + 2) = true := by rw [wrAt_of_get (g54 _ (by omega) (by omega))]; exact w0
    have nb5 : (h.nx + 1 = h2.nx) = False := by simp; omega
    have x5' := x5
    have nb6 : (b = h5.nx) = False := by simp; omega
    have nb7 : (h.nx + 1 = h5.nx) = False := by simp; omega
    repeat' (first | ((with_reducible refine st1 ?_); (conv => whnf); (with_reducible refine ⟨?_⟩)) | ((with_reducible refine st_dw ?_ rfl rfl ?_ ?_); exact rfl; kernel_rfl; (conv => arg 5; whnf); (conv => arg 3; whnf)) | ((with_reducible refine retW_intro rfl ?_); (conv => arg 2; whnf)) | ((with_reducible first | apply iB | apply gWt | apply gWf | apply gXt | apply gXf) <;> intro hb <;> (try simp only [hb])) | ((with_reducible show drawI _ _ _ _ _ _ _ _ _); first | ((with_reducible refine kI_rd ?_ ?_); exact rfl) | ((with_reducible apply kI_rg); exact rfl; exact rfl) | ((with_reducible refine kI_cv ?_ ?_ ?_); exact rfl; kernel_rfl) | ((with_reducible apply kI_al); exact rfl; exact rfl) | ((with_reducible refine kI_ex ?_ ?_ ?_ ?_ ?_); exact rfl; kernel_rfl; exact rfl) | ((with_reducible apply kI_eg); exact rfl; kernel_rfl; exact rfl) | ((with_reducible refine kI_nl ?_ ?_))) | ((with_reducible show eOk _ _ _ _ _ _); first | (exact eok_nil) | (refine ke_rd ?_ ?_ ?_; exact rfl) | (apply ke_rg; exact rfl; exact rfl) | (refine ke_cv ?_ ?_ ?_ ?_; exact rfl; kernel_rfl) | (apply ke_al; exact rfl; exact rfl)) | ((with_reducible refine freshIs_new ?_); kernel_rfl) | (simp only [B, xB, F, reduceLT, reduceLeDiff, reduceEqDiff, reduceAdd, reduceMul, reduceSub, ↓reduceIte, eq_self, s5, put_sts, ws5, e1, lt1, cellAt_sts ws5, nb2, a25, r05, r15, nb5, nb6, nb7]))
    refine exW_grows (base := h5.nx) (.none (h := (h5.sts h2.nx 0 [.slice b 0 (X.length + 1) (.exact (X.length + 1))]).newCells 35 [.int .u64 (.ofNat r.1), .int .u64 (.ofNat r.2)])) (by rw [nx_new, nx_sts]; omega) (by omega) (by omega) rfl (by omega) ?_
    intro p' h6 hg' hnx hold hblk
    rw [List.nil_append, Nat.zero_add] at hg'
    rw [nx_new, nx_sts] at hnx hblk
    have g65 : ∀ c, c < h5.nx → c ≠ h2.nx → h6.t.get c = h5.t.get c := fun c hc hne => by rw [hold c (by rw [nx_new, nx_sts]; omega) (by simp [blkOf]), get_new _ _ _ (by rw [nx_sts]; omega), get_sts _ _ _ _ hne]
    have hp1 := hg'.cells
    have hp2 := hg'.one
    have wb6 : wrAt h6 b = true := by rw [wrAt_of_get (g65 _ (by omega) (by omega))]; exact w5
    have w06 : wrAt h6 (h.nx + 2) = true := by rw [wrAt_of_get (g65 _ (by omega) (by omega))]; exact w05
    have a26 : cellAt h6 b (X.length * 6 + 2) = some .nilslice := by rw [cellAt_of_get (g65 _ (by omega) (by omega))]; exact a25
    have r06 : cellAt h6 (h.nx + 1) 0 = some (.int .u64 (.ofNat r.1)) := by rw [cellAt_of_get (g65 _ (by omega) (by omega))]; exact r05
    have r16 : cellAt h6 (h.nx + 1) 1 = some (.int .u64 (.ofNat r.2)) := by rw [cellAt_of_get (g65 _ (by omega) (by omega))]; exact r15
    have z06 : cellAt h6 (h.nx + 2) 0 = some .nilslice := by rw [cellAt_of_get (g65 _ (by omega) (by omega))]; exact z05
    have s6 : cellAt h6 h2.nx 0 = some (.slice b 0 (X.length + 1) (.exact (X.length + 1))) := by
      rw [hold _ (by rw [nx_new, nx_sts]; omega) (by simp [blkOf]) |> cellAt_of_get, cellAt_of_get (get_new _ _ _ (by rw [nx_sts]; omega)), cellAt_sts ws5, if_pos ⟨rfl, Nat.le_refl _, by simp⟩]; rfl
    have nb0 : (b = h.nx + 1) = False := by simp; omega
    have nb1 : (b = h.nx + 2) = False := by simp; omega
    have nb2' : (h2.nx = b) = False := by simp; omega
    have nb3 : (h.nx + 2 = b) = False := by simp; omega
    have nb4 : (h.nx + 1 = b) = False := by simp; omega
    repeat' (first | ((with_reducible refine st1 ?_); (conv => whnf); (with_reducible refine ⟨?_⟩)) | ((with_reducible refine st_dw ?_ rfl rfl ?_ ?_); exact rfl; kernel_rfl; (conv => arg 5; whnf); (conv => arg 3; whnf)) | ((with_reducible refine retW_intro rfl ?_); (conv => arg 2; whnf)) | ((with_reducible first | apply iB | apply gWt | apply gWf | apply gXt | apply gXf) <;> intro hb <;> (try simp only [hb])) | ((with_reducible show drawI _ _ _ _ _ _ _ _ _); first | ((with_reducible refine kI_rd ?_ ?_); exact rfl) | ((with_reducible apply kI_rg); exact rfl; exact rfl) | ((with_reducible refine kI_cv ?_ ?_ ?_); exact rfl; kernel_rfl) | ((with_reducible apply kI_al); exact rfl; exact rfl) | ((with_reducible refine kI_ex ?_ ?_ ?_ ?_ ?_); exact rfl; kernel_rfl; exact rfl) | ((with_reducible apply kI_eg); exact rfl; kernel_rfl; exact rfl) | ((with_reducible refine kI_nl ?_ ?_))) | ((with_reducible show eOk _ _ _ _ _ _); first | (exact eok_nil) | (refine ke_rd ?_ ?_ ?_; exact rfl) | (apply ke_rg; exact rfl; exact rfl) | (refine ke_cv ?_ ?_ ?_ ?_; exact rfl; kernel_rfl) | (apply ke_al; exact rfl; exact rfl)) | ((with_reducible refine freshIs_new ?_); kernel_rfl) | (simp only [B, xB, F, reduceLT, reduceLeDiff, reduceEqDiff, reduceAdd, reduceMul, reduceSub, ↓reduceIte, eq_self, s6, put_sts, wb6, w06, a26, r06, r16, z06, hp1, hp2, cellAt_sts wb6, nb0, nb1, nb2', nb3, nb4, wrAt_sts]))
    obtain ⟨g, hgd⟩ : ∃ g : Gn, g = ⟨made, nth, [r], (0, 0), false⟩ := ⟨_, rfl⟩
    have hfst : X'.map (fun z : Gn × AV => z.1) = X.map (fun z : Gn × AV => z.1) := by
      rcases gs_last X with hX0 | ⟨Y, x, hX0⟩
      · rw [hnil hX0, hX0]
      · obtain ⟨bp, hX', _⟩ := hlast Y x hX0
        rw [hX', hX0]; simp
    have hXl' : X'.length = X.length := by have := congrArg List.length hfst; simpa using this
    have hput : putL (X.map (·.1)) r made nth = (X' ++ [(g, p')]).map (fun z : Gn × AV => z.1) := by
      rw [List.map_append, hfst, hgd]
      unfold putL
      rcases gs_last X with hX0 | ⟨Y, x, hX0⟩
      · rw [hX0]; rfl
      · have hend : x.1.ended = true := by
          rw [hX0] at hop; simp only [opn, List.map_append, List.map_cons, List.map_nil, List.getLast?_append, List.getLast?_singleton, Option.some_or] at hop
          simpa using hop
        rw [hX0]
        simp only [List.map_append, List.map_cons, List.map_nil, List.getLast?_append, List.getLast?_singleton, Option.some_or, hend, if_true]
    have cb : ∀ j v, cellAt ((h6.sts b (X.length * 6 + 2) [p']).sts (h.nx + 2) 0 [v]) b j = if j = X.length * 6 + 2 then some p' else cellAt h5 b j := fun j v => by
      rw [cellAt_of_get (get_sts _ _ _ _ (by omega)), cellAt_sts wb6]
      by_cases q : j = X.length * 6 + 2
      · subst q; rw [if_pos ⟨rfl, Nat.le_refl _, by simp⟩, if_pos rfl, Nat.sub_self]; rfl
      · rw [if_neg (by simp only [List.length_cons, List.length_nil]; omega), if_neg q, cellAt_of_get (g65 _ (by omega) (by omega))]
    have x7 : ∀ v, ((h6.sts b (X.length * 6 + 2) [p']).sts (h.nx + 2) 0 [v]).nx = h6.nx := fun v => by rw [nx_sts, nx_sts]
    have o7 : ∀ v, Only h ((h6.sts b (X.length * 6 + 2) [p']).sts (h.nx + 2) 0 [v]) [] := fun v => ⟨by rw [x7]; omega, fun c hc _ => by
      rw [get_sts _ _ _ _ (by omega), get_sts _ _ _ _ (by omega), g65 c (by omega) (by omega), g54 c (by omega) (by omega)]; exact oh4.2 c hc (by simp)⟩
    have hlen2 : (X' ++ [(g, p')]).length = X.length + 1 := by rw [List.length_append, hXl']; rfl
    refine ⟨o7 _, .slice b 0 (X.length + 1) (.exact (X.length + 1)), X' ++ [(g, p')], rfl, hput.symm, ⟨?_, fun y hy => ?_⟩, ⟨fun q => by simp at q, fun y z hy q => ?_⟩, fun c q => ?_, fun y hy c q => ?_⟩
    · rw [hlen2]
      refine .cell _ _ _ _ _ (by rw [x7]; omega) (fun j hj => ?_)
      rw [gCs_len, hlen2] at hj
      rw [Nat.zero_add, cb, flat_last X' g .nilslice p' j, hXl']
      split
      · rfl
      · rw [cc5, Nat.zero_add]
        simp only [List.flatMap_append, List.flatMap_cons, List.flatMap_nil, List.append_nil]
        by_cases q : X.length * 6 ≤ j
        · rw [if_pos ⟨q, by simp only [List.length_cons, List.length_nil]; omega⟩, List.getElem?_append_right (by rw [gCs_len, hXl']; exact q), gCs_len, hXl', hgd]; rfl
        · rw [if_neg (by omega), cellAt_new, if_neg (by omega), hb4, List.getElem?_append_left (by rw [gCs_len, hXl']; omega)]
          have hs2 := has.1
          rw [hXl'] at hs2
          cases hs2 with
          | cell _ _ _ _ _ _ hc => have := hc j (by rw [gCs_len, hXl']; omega); rwa [Nat.zero_add] at this
    · rcases List.mem_append.1 hy with hy | hy
      · have hsl := has4.2 y hy
        have hbk := SliceAt.blk hsl
        have o47 : ∀ c, c < h4.nx → c ≠ b → c ≠ h2.nx → c ≠ h.nx + 2 → ∀ v, ((h6.sts b (X.length * 6 + 2) [p']).sts (h.nx + 2) 0 [v]).t.get c = h4.t.get c := fun c hc n1 n2 n3 v => by
          rw [get_sts _ _ _ _ n3, get_sts _ _ _ _ n1, g65 c (by omega) n2, g54 c hc n1]
        refine hsl.only (S := [b, h2.nx, h.nx + 2]) ⟨by rw [x7]; omega, fun c hc hs => ?_⟩ (fun c hc => ?_)
        · simp only [List.mem_cons, List.mem_nil_iff, or_false, not_or] at hs
          exact o47 c hc hs.1 hs.2.1 hs.2.2 _
        · rcases gs_last X with hX0 | ⟨Y, x, hX0⟩
          · rw [hnil hX0] at hy; cases hy
          · obtain ⟨bp, hX', bp1, bp2, bp3, _⟩ := hlast Y x hX0
            rw [hX'] at hy
            rcases List.mem_append.1 hy with hy | hy
            · have := SliceAt.blk (hh.2 y (by rw [hX0]; exact List.mem_append_left _ hy)) c hc
              simp only [List.mem_cons, List.mem_nil_iff, or_false, not_or]; omega
            · rw [List.mem_singleton] at hy
              subst hy
              cases hc
              simp only [List.mem_cons, List.mem_nil_iff, or_false, not_or]; omega
      · rw [List.mem_singleton] at hy
        subst hy
        rw [hgd]
        refine (hg'.slice).only (S := [b, h.nx + 2]) ((Only.refl h6 _).sts (.inl (by simp)) |>.sts (.inl (by simp))) (fun c hc => ?_)
        rw [hblk] at hc; cases hc
        simp only [List.mem_cons, List.mem_nil_iff, or_false, not_or]; omega
    · obtain ⟨_, q2⟩ := List.append_inj' hy rfl
      simp only [List.cons.injEq, and_true] at q2
      rw [← q2, hgd] at q
      simp at q
    · cases q; exact hp _ (by omega)
    · rcases List.mem_append.1 hy with hy | hy
      · rcases gs_last X with hX0 | ⟨Y, x, hX0⟩
        · rw [hnil hX0] at hy; cases hy
        · obtain ⟨bp, hX', bp1, bp2, bp3, _⟩ := hlast Y x hX0
          rw [hX'] at hy
          rcases List.mem_append.1 hy with hy | hy
          · exact (hob y (by rw [hX0]; exact List.mem_append_left _ hy) c q)
          · rw [List.mem_singleton] at hy
            subst hy
            cases q; exact hp _ (by omega)
      · rw [List.mem_singleton] at hy
        subst hy
        have := (hg'.base q).1
        exact hp _ (by omega)
end
end Go.Proofs.Ytlkngpckibidlaa.W

namespace Go.Proofs.Ytlkngpckibidlaa.W
open Go Go.AX
noncomputable section
set_option maxRecDepth 100000
def errV (n : Nat) : AV := .int .i64 (.ofNat n)
def PostE (p : Nat → Prop) (h : H) (L : List Gn) (e : Nat) (v : AV) (h' : H) : Prop := Only h h' [] ∧ ∃ g, v = .tuple [g, errV e] ∧ GensP p h' g L
def putP (L : List Gn) (r : Rv) : List Gn := if fitsB L r then putL L r r.1 1 else L
def putE (L : List Gn) (r : Rv) : Nat := if fitsB L r then 0 else 2
def offP (p : Nat → Prop) (lo hi : Nat) (b : Nat) : Prop := p b ∧ (b < lo ∨ hi ≤ b)
theorem PutC (p : Nat → Prop) (h : H) (v : AV) (L : List Gn) (r : Rv) (hp : ∀ b, h.nx ≤ b → p b) (hg : GensP p h v L) (hz : Sz 900 L) : PushC P (.enter 18 [v, rvA r] h) (PostE p h (putP L r) (putE L r)) := by
  have hg0 := hg
  obtain ⟨s, X, rfl, rfl, hh, hn, hbk⟩ := hg
  have hso := SliceAt.one hh.1
  have e0 : rvA r = .agg [.int .u64 (.ofNat r.1), .int .u64 (.ofNat r.2)] := rfl
  rw [e0]
  refine pushC_of_codeW (fn := Try.f18) (c := bodyC Try.f18) Try.func18 rfl ?_
  show codeW P 18 16 none _ _ _ _ _
  refine codeW_root ?_
  repeat' (first | ((with_reducible refine st1 ?_); (conv => whnf); (with_reducible refine ⟨?_⟩)) | ((with_reducible refine retW_intro rfl ?_); (conv => arg 2; whnf)) | ((with_reducible first | apply iB | apply gWt | apply gWf) <;> intro hb <;> (try simp only [hb])) | (simp only [B, F, reduceLT, reduceLeDiff, reduceEqDiff, reduceAdd, reduceMul, reduceSub, ↓reduceIte, eq_self, hso]))
  obtain ⟨h1, hH⟩ : ∃ h1, h1 = (((h.newCells 26 [s]).newCells 35 [.int .u64 (.ofNat r.1), .int .u64 (.ofNat r.2)]).newCells 26 [.nilslice]) := ⟨_, rfl⟩
  have x1 : h1.nx = h.nx + 3 := by rw [hH]; rfl
  have o1 : Only h h1 [] := by rw [hH]; exact (((Only.refl _ _).new _ _).new _ _).new _ _
  have c0 : cellAt h1 h.nx 0 = some s := by rw [hH]; simp only [B, F, reduceLT, reduceLeDiff, reduceEqDiff, reduceAdd, reduceMul, reduceSub, ↓reduceIte, eq_self]
  have r0 : cellAt h1 (h.nx + 1) 0 = some (.int .u64 (.ofNat r.1)) := by rw [hH]; simp only [B, F, reduceLT, reduceLeDiff, reduceEqDiff, reduceAdd, reduceMul, reduceSub, ↓reduceIte, eq_self]
  have r1 : cellAt h1 (h.nx + 1) 1 = some (.int .u64 (.ofNat r.2)) := by rw [hH]; simp only [B, F, reduceLT, reduceLeDiff, reduceEqDiff, reduceAdd, reduceMul, reduceSub, ↓reduceIte, eq_self]
  have z0 : cellAt h1 (h.nx + 2) 0 = some .nilslice := by rw [hH]; simp only [B, F, reduceLT, reduceLeDiff, reduceEqDiff, reduceAdd, reduceMul, reduceSub, ↓reduceIte, eq_self]
  have w0 : wrAt h1 (h.nx + 2) = true := by rw [hH]; simp only [B, F, reduceLT, reduceLeDiff, reduceEqDiff, reduceAdd, reduceMul, reduceSub, ↓reduceIte, eq_self]
  rw [← hH]
  refine ((fitsC h1 _ _ r (hg0.at.keep o1) (hz.le (by omega))).call P).mono P ?_
  rintro v h2 ⟨rfl, o2⟩
  have oo : Only h h2 [] := o1.trans o2 (fun _ h => h) (fun _ h => by cases h)
  have x2 := o2.1
  have c0 : cellAt h2 h.nx 0 = some s := by rw [o2.cell (by omega) (by simp)]; exact c0
  have r0 : cellAt h2 (h.nx + 1) 0 = some (.int .u64 (.ofNat r.1)) := by rw [o2.cell (by omega) (by simp)]; exact r0
  have r1 : cellAt h2 (h.nx + 1) 1 = some (.int .u64 (.ofNat r.2)) := by rw [o2.cell (by omega) (by simp)]; exact r1
  have z0 : cellAt h2 (h.nx + 2) 0 = some .nilslice := by rw [o2.cell (by omega) (by simp)]; exact z0
  have w0 : wrAt h2 (h.nx + 2) = true := by rw [o2.wr (by omega) (by simp)]; exact w0
  have hg2 : GensP (offP p h.nx h2.nx) h2 (.agg [s]) (X.map (·.1)) := (hg0.mono fun b hb q => ⟨q, .inl hb⟩).keep0 oo
  have ho2 : ∀ v, Only h2 (h2.sts (h.nx + 2) 0 [v]) [h.nx + 2] := fun v => (Only.refl _ _).sts (.inl (by simp))
  have hoff : ∀ c, c ∈ [h.nx + 2] → ¬ offP p h.nx h2.nx c := fun c hc q => by rw [List.mem_singleton] at hc; subst hc; have := q.2; omega
  unfold PostE putP putE errV
  cases hf : fitsB (X.map (·.1)) r with
  | false =>
    repeat' (first | ((with_reducible refine st1 ?_); (conv => whnf); (with_reducible refine ⟨?_⟩)) | ((with_reducible refine retW_intro rfl ?_); (conv => arg 2; whnf)) | ((with_reducible first | apply iB | apply gWt | apply gWf) <;> intro hb <;> (try simp only [hb])) | (simp only [B, F, reduceLT, reduceLeDiff, reduceEqDiff, reduceAdd, reduceMul, reduceSub, ↓reduceIte, eq_self, c0, z0, put_sts, w0, cellAt_sts w0, hso]))
    exact ⟨oo.sts (.inr (by omega)), _, rfl, (hg2.keep (ho2 _) hoff).mono fun b _ q => q.1⟩
  | true =>
    repeat' (first | ((with_reducible refine st1 ?_); (conv => whnf); (with_reducible refine ⟨?_⟩)) | ((with_reducible refine retW_intro rfl ?_); (conv => arg 2; whnf)) | ((with_reducible first | apply iB | apply gWt | apply gWf) <;> intro hb <;> (try simp only [hb])) | (simp only [B, F, reduceLT, reduceLeDiff, reduceEqDiff, reduceAdd, reduceMul, reduceSub, ↓reduceIte, eq_self, c0, r0, r1, z0]))
    refine ((putC (offP p h.nx h2.nx) h2 _ _ r r.1 1 (fun b hb => ⟨hp b (by omega), .inr hb⟩) hg2 hz).call P).mono P ?_
    rintro v h3 ⟨o3, hg3⟩
    have hg30 := hg3
    obtain ⟨s3, X3, rfl, -, hh3, -, -⟩ := hg3
    have hso3 := SliceAt.one hh3.1
    have w3 : wrAt h3 (h.nx + 2) = true := by rw [o3.wr (by omega) (by simp)]; exact w0
    have z3 : cellAt h3 (h.nx + 2) 0 = some .nilslice := by rw [o3.cell (by omega) (by simp)]; exact z0
    have oo3 : Only h h3 [] := oo.trans o3 (fun _ h => h) (fun _ h => by cases h)
    have x3 := o3.1
    have o34 : ∀ v, Only h3 (h3.sts (h.nx + 2) 0 [v]) [h.nx + 2] := fun v => (Only.refl _ _).sts (.inl (by simp))
    repeat' (first | ((with_reducible refine st1 ?_); (conv => whnf); (with_reducible refine ⟨?_⟩)) | ((with_reducible refine retW_intro rfl ?_); (conv => arg 2; whnf)) | ((with_reducible first | apply iB | apply gWt | apply gWf) <;> intro hb <;> (try simp only [hb])) | (simp only [B, F, reduceLT, reduceLeDiff, reduceEqDiff, reduceAdd, reduceMul, reduceSub, ↓reduceIte, eq_self, z3, put_sts, w3, cellAt_sts w3, hso3]))
    exact ⟨oo3.sts (.inr (by omega)), _, rfl, (hg30.keep (o34 _) hoff).mono fun b _ q => q.1⟩
def tombL (L : List Gn) (r : Rv) : List Gn :=
  match L.getLast? with
  | some g => L.dropLast ++ [{ g with en := r, ended := true }]
  | none => []
def tombP (L : List Gn) (r : Rv) : List Gn := if fitsB L r && opn L then tombL L r else L
def tombE (L : List Gn) (r : Rv) : Nat := if fitsB L r then (if opn L then 0 else 5) else 2
def Opq (L : List Gn) : Prop := ∀ Y g, L = Y ++ [g] → g.ended = false → g.puts ≠ []
theorem flat_at (Y : List (Gn × AV)) (g : Gn × AV) (j : Nat) : ((Y ++ [g]).flatMap gC)[j]? = if j < Y.length * 6 then (Y.flatMap gC)[j]? else (gC g)[j - Y.length * 6]? := by
  simp only [List.flatMap_append, List.flatMap_cons, List.flatMap_nil, List.append_nil]
  by_cases q : j < Y.length * 6
  · rw [if_pos q, List.getElem?_append_left (by rw [gCs_len]; exact q)]
  · rw [if_neg q, List.getElem?_append_right (by rw [gCs_len]; omega), gCs_len]
theorem TombC (p : Nat → Prop) (h : H) (v : AV) (L : List Gn) (r : Rv) (hp : ∀ b, h.nx ≤ b → p b) (hg : GensP p h v L) (hz : Sz 900 L) (hq : Opq L) : PushC P (.enter 20 [v, rvA r] h) (PostE p h (tombP L r) (tombE L r)) := by
  have hg0 := hg
  obtain ⟨s, X, rfl, rfl, hh, hn, hbk⟩ := hg
  have hso := SliceAt.one hh.1
  have hXz : X.length ≤ 900 := by have := hz.1; simpa using this
  have e0 : rvA r = .agg [.int .u64 (.ofNat r.1), .int .u64 (.ofNat r.2)] := rfl
  rw [e0]
  refine pushC_of_codeW (fn := Try.f20) (c := bodyC Try.f20) Try.func20 rfl ?_
  show codeW P 20 36 none _ _ _ _ _
  refine codeW_root ?_
  repeat' (first | ((with_reducible refine st1 ?_); (conv => whnf); (with_reducible refine ⟨?_⟩)) | ((with_reducible refine retW_intro rfl ?_); (conv => arg 2; whnf)) | ((with_reducible first | apply iB | apply gWt | apply gWf) <;> intro hb <;> (try simp only [hb])) | (simp only [B, F, reduceLT, reduceLeDiff, reduceEqDiff, reduceAdd, reduceMul, reduceSub, ↓reduceIte, eq_self, hso]))
  obtain ⟨h1, hH⟩ : ∃ h1, h1 = (((h.newCells 26 [s]).newCells 35 [.int .u64 (.ofNat r.1), .int .u64 (.ofNat r.2)]).newCells 26 [.nilslice]) := ⟨_, rfl⟩
  have x1 : h1.nx = h.nx + 3 := by rw [hH]; rfl
  have o1 : Only h h1 [] := by rw [hH]; exact (((Only.refl _ _).new _ _).new _ _).new _ _
  have c0 : cellAt h1 h.nx 0 = some s := by rw [hH]; simp only [B, F, reduceLT, reduceLeDiff, reduceEqDiff, reduceAdd, reduceMul, reduceSub, ↓reduceIte, eq_self]
  have r0 : cellAt h1 (h.nx + 1) 0 = some (.int .u64 (.ofNat r.1)) := by rw [hH]; simp only [B, F, reduceLT, reduceLeDiff, reduceEqDiff, reduceAdd, reduceMul, reduceSub, ↓reduceIte, eq_self]
  have r1 : cellAt h1 (h.nx + 1) 1 = some (.int .u64 (.ofNat r.2)) := by rw [hH]; simp only [B, F, reduceLT, reduceLeDiff, reduceEqDiff, reduceAdd, reduceMul, reduceSub, ↓reduceIte, eq_self]
  have z0 : cellAt h1 (h.nx + 2) 0 = some .nilslice := by rw [hH]; simp only [B, F, reduceLT, reduceLeDiff, reduceEqDiff, reduceAdd, reduceMul, reduceSub, ↓reduceIte, eq_self]
  have w0 : wrAt h1 (h.nx + 2) = true := by rw [hH]; simp only [B, F, reduceLT, reduceLeDiff, reduceEqDiff, reduceAdd, reduceMul, reduceSub, ↓reduceIte, eq_self]
  rw [← hH]
  refine ((fitsC h1 _ _ r (hg0.at.keep o1) (hz.le (by omega))).call P).mono P ?_
  rintro v h2 ⟨rfl, o2⟩
  have oo : Only h h2 [] := o1.trans o2 (fun _ h => h) (fun _ h => by cases h)
  have x2 := o2.1
  have c0 : cellAt h2 h.nx 0 = some s := by rw [o2.cell (by omega) (by simp)]; exact c0
  have r0 : cellAt h2 (h.nx + 1) 0 = some (.int .u64 (.ofNat r.1)) := by rw [o2.cell (by omega) (by simp)]; exact r0
  have r1 : cellAt h2 (h.nx + 1) 1 = some (.int .u64 (.ofNat r.2)) := by rw [o2.cell (by omega) (by simp)]; exact r1
  have z0 : cellAt h2 (h.nx + 2) 0 = some .nilslice := by rw [o2.cell (by omega) (by simp)]; exact z0
  have w0 : wrAt h2 (h.nx + 2) = true := by rw [o2.wr (by omega) (by simp)]; exact w0
  have hg2 : GensP (offP p h.nx h2.nx) h2 (.agg [s]) (X.map (·.1)) := (hg0.mono fun b hb q => ⟨q, .inl hb⟩).keep0 oo
  have ho2 : ∀ v, Only h2 (h2.sts (h.nx + 2) 0 [v]) [h.nx + 2] := fun v => (Only.refl _ _).sts (.inl (by simp))
  have hoff : ∀ c, c ∈ [h.nx + 2] → ¬ offP p h.nx h2.nx c := fun c hc q => by rw [List.mem_singleton] at hc; subst hc; have := q.2; omega
  unfold PostE tombP tombE errV
  cases hf : fitsB (X.map (·.1)) r with
  | false =>
    repeat' (first | ((with_reducible refine st1 ?_); (conv => whnf); (with_reducible refine ⟨?_⟩)) | ((with_reducible refine retW_intro rfl ?_); (conv => arg 2; whnf)) | ((with_reducible first | apply iB | apply gWt | apply gWf) <;> intro hb <;> (try simp only [hb])) | (simp only [B, F, reduceLT, reduceLeDiff, reduceEqDiff, reduceAdd, reduceMul, reduceSub, ↓reduceIte, eq_self, c0, z0, put_sts, w0, cellAt_sts w0, hso]))
    exact ⟨oo.sts (.inr (by omega)), _, rfl, (hg2.keep (ho2 _) hoff).mono fun b _ q => q.1⟩
  | true =>
    repeat' (first | ((with_reducible refine st1 ?_); (conv => whnf); (with_reducible refine ⟨?_⟩)) | ((with_reducible refine retW_intro rfl ?_); (conv => arg 2; whnf)) | ((with_reducible first | apply iB | apply gWt | apply gWf) <;> intro hb <;> (try simp only [hb])) | (simp only [B, F, reduceLT, reduceLeDiff, reduceEqDiff, reduceAdd, reduceMul, reduceSub, ↓reduceIte, eq_self, c0]))
    refine ((openC h2 _ _ hg2.at (hz.le (by omega))).call P).mono P ?_
    rintro v h3 ⟨rfl, o3⟩
    have x3 := o3.1
    have oo3 : Only h h3 [] := oo.trans o3 (fun _ h => h) (fun _ h => by cases h)
    have c0 : cellAt h3 h.nx 0 = some s := by rw [o3.cell (by omega) (by simp)]; exact c0
    have r0 : cellAt h3 (h.nx + 1) 0 = some (.int .u64 (.ofNat r.1)) := by rw [o3.cell (by omega) (by simp)]; exact r0
    have r1 : cellAt h3 (h.nx + 1) 1 = some (.int .u64 (.ofNat r.2)) := by rw [o3.cell (by omega) (by simp)]; exact r1
    have z0 : cellAt h3 (h.nx + 2) 0 = some .nilslice := by rw [o3.cell (by omega) (by simp)]; exact z0
    have w0 : wrAt h3 (h.nx + 2) = true := by rw [o3.wr (by omega) (by simp)]; exact w0
    have ho3 : ∀ v, Only h3 (h3.sts (h.nx + 2) 0 [v]) [h.nx + 2] := fun v => (Only.refl _ _).sts (.inl (by simp))
    cases hop : opn (X.map (·.1)) with
    | false =>
      repeat' (first | ((with_reducible refine st1 ?_); (conv => whnf); (with_reducible refine ⟨?_⟩)) | ((with_reducible refine retW_intro rfl ?_); (conv => arg 2; whnf)) | ((with_reducible first | apply iB | apply gWt | apply gWf) <;> intro hb <;> (try simp only [hb])) | (simp only [B, F, reduceLT, reduceLeDiff, reduceEqDiff, reduceAdd, reduceMul, reduceSub, ↓reduceIte, eq_self, c0, z0, put_sts, w0, cellAt_sts w0, hso]))
      exact ⟨oo3.sts (.inr (by omega)), _, rfl, ((hg2.keep0 o3).keep (ho3 _) hoff).mono fun b _ q => q.1⟩
    | true =>
      rcases gs_last X with hX0 | ⟨Y, x, hX0⟩
      · rw [hX0] at hop; cases hop
      repeat' (first | ((with_reducible refine st1 ?_); (conv => whnf); (with_reducible refine ⟨?_⟩)) | ((with_reducible refine retW_intro rfl ?_); (conv => arg 2; whnf)) | ((with_reducible first | apply iB | apply gWt | apply gWf) <;> intro hb <;> (try simp only [hb])) | (simp only [B, F, reduceLT, reduceLeDiff, reduceEqDiff, reduceAdd, reduceMul, reduceSub, ↓reduceIte, eq_self, c0]))
      refine ((copiedC h3 s X (hh.keep oo3) hn (hz.le (by omega))).call P).mono P ?_
      rintro v h4 ⟨b, X', rfl, bb, wb, room, has, o4, hnil, hlast⟩
      obtain ⟨bp, hX', bp1, bp2, bp3, wbp, roomp⟩ := hlast Y x hX0
      have x4 := o4.1
      have hXl : X.length = Y.length + 1 := by rw [hX0]; simp
      have hXl' : X'.length = X.length := by rw [hX', hXl]; simp
      have e1 : wrapF .i64 (Int.ofNat X.length - Int.ofNat 1) = Int.ofNat (X.length - 1) := i64_sub (by omega) (by omega)
      have lt1 : (X.length - 1 < X.length) = True := by simp; omega
      have hx' : X'[X.length - 1]? = some (x.1, .slice bp 0 x.1.puts.length (.exact (x.1.puts.length + 1))) := by rw [hX', hXl]; simp
      have hs4 := has.1
      rw [hXl'] at hs4
      obtain ⟨-, -, -, a3, a4, a5⟩ := gC_at hs4 hx'
      simp only [Nat.zero_add] at a3 a4 a5
      have r0 : cellAt h4 (h.nx + 1) 0 = some (.int .u64 (.ofNat r.1)) := by rw [o4.cell (by omega) (by simp)]; exact r0
      have r1 : cellAt h4 (h.nx + 1) 1 = some (.int .u64 (.ofNat r.2)) := by rw [o4.cell (by omega) (by simp)]; exact r1
      have z0 : cellAt h4 (h.nx + 2) 0 = some .nilslice := by rw [o4.cell (by omega) (by simp)]; exact z0
      have w0 : wrAt h4 (h.nx + 2) = true := by rw [o4.wr (by omega) (by simp)]; exact w0
      have n1 : (h.nx + 1 = h4.nx) = False := by simp; omega
      have n2 : (h.nx + 2 = h4.nx) = False := by simp; omega
      have n3 : (b = h4.nx) = False := by simp; omega
      have n4 : (h4.nx = b) = False := by simp; omega
      have n5 : (h.nx + 1 = b) = False := by simp; omega
      have n6 : (h.nx + 2 = b) = False := by simp; omega
      have wb5 : ∀ l, wrAt ((h4.newCells 26 [.nilslice]).sts h4.nx 0 l) b = true := fun l => by rw [wrAt_sts, wrAt_new, if_neg (by omega)]; exact wb
      have wb6 : ∀ l l' o, wrAt (((h4.newCells 26 [.nilslice]).sts h4.nx 0 l).sts b o l') b = true := fun l l' o => by rw [wrAt_sts]; exact wb5 l
      repeat' (first | ((with_reducible refine st1 ?_); (conv => whnf); (with_reducible refine ⟨?_⟩)) | ((with_reducible refine retW_intro rfl ?_); (conv => arg 2; whnf)) | ((with_reducible first | apply iB | apply gWt | apply gWf) <;> intro hb <;> (try simp only [hb])) | (simp only [B, F, reduceLT, reduceLeDiff, reduceEqDiff, reduceAdd, reduceMul, reduceSub, ↓reduceIte, eq_self, Nat.lt_irrefl, e1, lt1, a3, a4, a5, r0, r1, z0, n1, n2, n3, n4, n5, n6, put_sts, wb, w0, cellAt_sts (wb5 _), cellAt_sts (wb6 _ _ _), wrAt_sts]))
      have hN : (X.length - 1) * 6 = Y.length * 6 := by rw [hXl]; rfl
      rw [hN]
      obtain ⟨pb, hpb⟩ : ∃ pb, pb = AV.slice bp 0 x.1.puts.length (.exact (x.1.puts.length + 1)) := ⟨_, rfl⟩
      obtain ⟨hf5, h5e⟩ : ∃ h5, h5 = ((((h4.newCells 26 [.nilslice]).sts h4.nx 0 [.slice b 0 X.length (.exact (X.length + 1))]).sts b (Y.length * 6 + 3) [.int .u64 (.ofNat r.1), .int .u64 (.ofNat r.2)]).sts b (Y.length * 6 + 5) [.bool true]).sts (h.nx + 2) 0 [.slice b 0 X.length (.exact (X.length + 1))] := ⟨_, rfl⟩
      rw [← h5e]
      have x5 : hf5.nx = h4.nx + 1 := by rw [h5e]; simp only [nx_sts, nx_new]
      have g5 : ∀ c, c < h4.nx → c ≠ b → c ≠ h.nx + 2 → hf5.t.get c = h4.t.get c := fun c hc k1 k2 => by
        rw [h5e, get_sts _ _ _ _ k2, get_sts _ _ _ _ k1, get_sts _ _ _ _ k1, get_sts _ _ _ _ (by omega), get_new _ _ _ (by omega)]
      have cb : ∀ j, cellAt hf5 b j = if j = Y.length * 6 + 5 then some (.bool true) else if j = Y.length * 6 + 3 then some (.int .u64 (.ofNat r.1)) else if j = Y.length * 6 + 4 then some (.int .u64 (.ofNat r.2)) else cellAt h4 b j := fun j => by
        rw [h5e, cellAt_of_get (get_sts _ _ _ _ (by omega)), cellAt_sts (wb6 _ _ _)]
        by_cases q : j = Y.length * 6 + 5
        · subst q; rw [if_pos ⟨rfl, Nat.le_refl _, by simp⟩, if_pos rfl, Nat.sub_self]; rfl
        · rw [if_neg (by simp only [List.length_cons, List.length_nil]; omega), if_neg q, cellAt_sts (wb5 _)]
          by_cases q3 : j = Y.length * 6 + 3
          · subst q3; rw [if_pos ⟨rfl, Nat.le_refl _, by simp⟩, if_pos rfl, Nat.sub_self]; rfl
          · rw [if_neg q3]
            by_cases q4 : j = Y.length * 6 + 4
            · subst q4; rw [if_pos ⟨rfl, by omega, by simp⟩, if_pos rfl, show Y.length * 6 + 4 - (Y.length * 6 + 3) = 1 by omega]; rfl
            · rw [if_neg (by simp only [List.length_cons, List.length_nil]; omega), if_neg q4, cellAt_of_get (get_sts _ _ _ _ (by omega)), cellAt_of_get (get_new _ _ _ (by omega))]
      have o5 : Only h hf5 [] := ⟨by omega, fun c hc _ => by rw [g5 c (by omega) (by omega) (by omega), o4.2 c (by omega) (by simp)]; exact oo3.2 c hc (by simp)⟩
      have hend : x.1.ended = false := by
        rw [hX0] at hop; simp only [opn, List.map_append, List.map_cons, List.map_nil, List.getLast?_append, List.getLast?_singleton, Option.some_or] at hop
        simpa using hop
      have hput : tombL (X.map (·.1)) r = (Y ++ [({ x.1 with en := r, ended := true }, pb)]).map (fun z : Gn × AV => z.1) := by
        unfold tombL
        rw [hX0]
        simp only [List.map_append, List.map_cons, List.map_nil, List.getLast?_append, List.getLast?_singleton, Option.some_or, List.dropLast_concat]
      have hlen2 : (Y ++ [(({ x.1 with en := r, ended := true } : Gn), pb)]).length = X.length := by rw [hXl]; simp
      refine ⟨o5, _, rfl, .slice b 0 X.length (.exact (X.length + 1)), Y ++ [({ x.1 with en := r, ended := true }, pb)], rfl, hput.symm, ⟨?_, fun y hy => ?_⟩, ⟨fun q => by simp at q, fun y z hy q => ?_⟩, fun c q => ?_, fun y hy c q => ?_⟩
      · rw [hlen2]
        refine .cell _ _ _ _ _ (by omega) (fun j hj => ?_)
        rw [gCs_len, hlen2] at hj
        have hcell4 : cellAt h4 b j = (X'.flatMap gC)[j]? := by
          cases hs4 with
          | cell _ _ _ _ _ _ hc => have := hc j (by rw [gCs_len, hXl']; exact hj); rwa [Nat.zero_add] at this
        rw [Nat.zero_add, cb, flat_at]
        rw [hX', flat_at] at hcell4
        by_cases q : j < Y.length * 6
        · rw [if_neg (by omega), if_neg (by omega), if_neg (by omega), if_pos q, hcell4, if_pos q]
        · rw [if_neg q] at hcell4 ⊢
          obtain ⟨k, rfl⟩ : ∃ k, j = Y.length * 6 + k := ⟨j - Y.length * 6, by omega⟩
          rw [Nat.add_sub_cancel_left] at hcell4 ⊢
          match k with
          | 0 => rw [if_neg (by omega), if_neg (by omega), if_neg (by omega), hcell4]; rfl
          | 1 => rw [if_neg (by omega), if_neg (by omega), if_neg (by omega), hcell4]; rfl
          | 2 => rw [if_neg (by omega), if_neg (by omega), if_neg (by omega), hcell4, hpb]; rfl
          | 3 => rw [if_neg (by omega), if_pos rfl]; rfl
          | 4 => rw [if_neg (by omega), if_neg (by omega), if_pos rfl]; rfl
          | 5 => rw [if_pos rfl]; rfl
          | k + 6 => rw [hXl] at hj; omega
      · rcases List.mem_append.1 hy with hy | hy
        · exact (hh.2 y (by rw [hX0]; exact List.mem_append_left _ hy)).only o5 (fun _ _ => by simp)
        · rw [List.mem_singleton] at hy
          subst hy
          have hsl2 := has.2 (x.1, .slice bp 0 x.1.puts.length (.exact (x.1.puts.length + 1))) (by rw [hX']; simp)
          rw [hpb]
          refine SliceAt.only (S := [b, h.nx + 2]) ⟨by omega, fun c hc hs => ?_⟩ hsl2 (fun c hc => ?_)
          · simp only [List.mem_cons, List.mem_nil_iff, or_false, not_or] at hs
            exact g5 c hc hs.1 hs.2
          · cases hc
            simp only [List.mem_cons, List.mem_nil_iff, or_false, not_or]; omega
      · obtain ⟨_, q2⟩ := List.append_inj' hy rfl
        simp only [List.cons.injEq, and_true] at q2
        rw [← q2] at q
        exact absurd q (hq (Y.map (·.1)) x.1 (by rw [hX0]; simp) hend)
      · cases q; exact hp _ (by omega)
      · rcases List.mem_append.1 hy with hy | hy
        · exact hbk.2 y (by rw [hX0]; exact List.mem_append_left _ hy) c q
        · rw [List.mem_singleton] at hy
          subst hy
          subst hpb
          cases q; exact hp _ (by omega)
end
end Go.Proofs.Ytlkngpckibidlaa.W

