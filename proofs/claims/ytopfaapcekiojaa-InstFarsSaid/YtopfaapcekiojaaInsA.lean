/- What the small functions of inst and cooperref04 give, by runs. (Printed by mkins.py out of gen_ins2.) -/
import Derived.Test.YtopfaapcekiojaaInsF
namespace Go.Proofs.Ytopfaapcekiojaa.Sym
open Go Go.RowKit Go.Proofs.Ytopfaapcekiojaa
noncomputable section
def tp_cooper_inst_truth : List Tpl := [
  ⟨40, [], [(.p (.c (.bool (.bvar 0))))], (.p (.c (.int .i64 (.un .b2i (.bvar 0)))))⟩
]
def sm_cooper_inst_truth : Sums := (40, tplsSum tp_cooper_inst_truth) :: fieldSums
set_option maxRecDepth 100000 in
theorem ok_cooper_inst_truth : AllOk Try.prog GoodL sm_cooper_inst_truth := stage (mrg := []) (fuel := 300) keepsL ok_fieldSums insM (by kernel_rfl) (by kernel_rfl)
def tp_cooper_cooperref04_flag : List Tpl := [
  ⟨51, [], [(.p (.c (.bool (.bvar 0))))], (.p (.c (.int .i64 (.un .b2i (.bvar 0)))))⟩
]
def sm_cooper_cooperref04_flag : Sums := (51, tplsSum tp_cooper_cooperref04_flag) :: sm_cooper_inst_truth
set_option maxRecDepth 100000 in
theorem ok_cooper_cooperref04_flag : AllOk Try.prog GoodL sm_cooper_cooperref04_flag := stage (mrg := []) (fuel := 300) keepsL ok_cooper_inst_truth insM (by kernel_rfl) (by kernel_rfl)
def tp_cooper_inst_Get : List Tpl := [
  ⟨16, [], [(instS (.var 7)), (.p (.c (.int .i64 (.lit 1))))], (.tup [.c (.int .i64 (.un .b2i (.bvar 0))), .c (.int .i64 (.lit 0))])⟩,
  ⟨16, [], [(instS (.var 7)), (.p (.c (.int .i64 (.lit 2))))], (.tup [.c (.int .i64 (.un .b2i (.bvar 1))), .c (.int .i64 (.lit 0))])⟩,
  ⟨16, [], [(instS (.var 7)), (.p (.c (.int .i64 (.lit 3))))], (.tup [.c (.int .i64 (.var 0)), .c (.int .i64 (.lit 0))])⟩,
  ⟨16, [], [(instS (.var 7)), (.p (.c (.int .i64 (.lit 4))))], (.tup [.c (.int .i64 (.var 1)), .c (.int .i64 (.lit 0))])⟩,
  ⟨16, [], [(instS (.var 7)), (.p (.c (.int .i64 (.lit 5))))], (.tup [.c (.int .i64 (.var 2)), .c (.int .i64 (.lit 0))])⟩,
  ⟨16, [], [(instS (.var 7)), (.p (.c (.int .i64 (.lit 6))))], (.tup [.c (.int .i64 (.var 3)), .c (.int .i64 (.lit 0))])⟩,
  ⟨16, [], [(instS (.var 7)), (.p (.c (.int .i64 (.lit 7))))], (.tup [.c (.int .i64 (.var 4)), .c (.int .i64 (.lit 0))])⟩,
  ⟨16, [], [(instS (.var 7)), (.p (.c (.int .i64 (.lit 8))))], (.tup [.c (.int .i64 (.var 5)), .c (.int .i64 (.lit 0))])⟩,
  ⟨16, [], [(instS (.var 7)), (.p (.c (.int .i64 (.lit 9))))], (.tup [.c (.int .i64 (.var 6)), .c (.int .i64 (.lit 0))])⟩
]
def sm_cooper_inst_Get : Sums := (16, tplsSum tp_cooper_inst_Get) :: sm_cooper_cooperref04_flag
set_option maxRecDepth 100000 in
theorem ok_cooper_inst_Get : AllOk Try.prog GoodL sm_cooper_inst_Get := stage (mrg := []) (fuel := 300) keepsL ok_cooper_cooperref04_flag insM (by kernel_rfl) (by kernel_rfl)
def tp_cooper_cooperref04_Get : List Tpl := [
  ⟨21, [], [(instS (.var 7)), (.p (.c (.int .i64 (.lit 1))))], (.tup [.c (.int .i64 (.un .b2i (.bvar 0))), .c (.int .i64 (.lit 0))])⟩,
  ⟨21, [], [(instS (.var 7)), (.p (.c (.int .i64 (.lit 2))))], (.tup [.c (.int .i64 (.un .b2i (.bvar 1))), .c (.int .i64 (.lit 0))])⟩,
  ⟨21, [], [(instS (.var 7)), (.p (.c (.int .i64 (.lit 3))))], (.tup [.c (.int .i64 (.var 0)), .c (.int .i64 (.lit 0))])⟩,
  ⟨21, [], [(instS (.var 7)), (.p (.c (.int .i64 (.lit 4))))], (.tup [.c (.int .i64 (.var 1)), .c (.int .i64 (.lit 0))])⟩,
  ⟨21, [], [(instS (.var 7)), (.p (.c (.int .i64 (.lit 5))))], (.tup [.c (.int .i64 (.var 2)), .c (.int .i64 (.lit 0))])⟩,
  ⟨21, [], [(instS (.var 7)), (.p (.c (.int .i64 (.lit 6))))], (.tup [.c (.int .i64 (.var 3)), .c (.int .i64 (.lit 0))])⟩,
  ⟨21, [], [(instS (.var 7)), (.p (.c (.int .i64 (.lit 7))))], (.tup [.c (.int .i64 (.var 4)), .c (.int .i64 (.lit 0))])⟩,
  ⟨21, [], [(instS (.var 7)), (.p (.c (.int .i64 (.lit 8))))], (.tup [.c (.int .i64 (.var 5)), .c (.int .i64 (.lit 0))])⟩,
  ⟨21, [], [(instS (.var 7)), (.p (.c (.int .i64 (.lit 9))))], (.tup [.c (.int .i64 (.var 6)), .c (.int .i64 (.lit 0))])⟩
]
def sm_cooper_cooperref04_Get : Sums := (21, tplsSum tp_cooper_cooperref04_Get) :: sm_cooper_inst_Get
set_option maxRecDepth 100000 in
theorem ok_cooper_cooperref04_Get : AllOk Try.prog GoodL sm_cooper_cooperref04_Get := stage (mrg := []) (fuel := 300) keepsL ok_cooper_inst_Get insM (by kernel_rfl) (by kernel_rfl)
def tp_cooper_inst_set : List Tpl := [
  ⟨41, [], [(instS (.var 7)), (.p (.c (.int .i64 (.lit 1)))), (.p (.c (.int .i64 (.var 8))))], (.p (.agg [.int .i64 (.var 7), .bool (.bin .eq (.var 8) (.lit 1)), .bool (.bvar 1), .int .i64 (.var 0), .int .i64 (.var 1), .int .i64 (.var 2), .int .i64 (.var 3), .int .i64 (.var 4), .int .i64 (.var 5), .int .i64 (.var 6)]))⟩,
  ⟨41, [], [(instS (.var 7)), (.p (.c (.int .i64 (.lit 2)))), (.p (.c (.int .i64 (.var 8))))], (.p (.agg [.int .i64 (.var 7), .bool (.bvar 0), .bool (.bin .eq (.var 8) (.lit 1)), .int .i64 (.var 0), .int .i64 (.var 1), .int .i64 (.var 2), .int .i64 (.var 3), .int .i64 (.var 4), .int .i64 (.var 5), .int .i64 (.var 6)]))⟩,
  ⟨41, [], [(instS (.var 7)), (.p (.c (.int .i64 (.lit 3)))), (.p (.c (.int .i64 (.var 8))))], (.p (.agg [.int .i64 (.var 7), .bool (.bvar 0), .bool (.bvar 1), .int .i64 (.var 8), .int .i64 (.var 1), .int .i64 (.var 2), .int .i64 (.var 3), .int .i64 (.var 4), .int .i64 (.var 5), .int .i64 (.var 6)]))⟩,
  ⟨41, [], [(instS (.var 7)), (.p (.c (.int .i64 (.lit 4)))), (.p (.c (.int .i64 (.var 8))))], (.p (.agg [.int .i64 (.var 7), .bool (.bvar 0), .bool (.bvar 1), .int .i64 (.var 0), .int .i64 (.var 8), .int .i64 (.var 2), .int .i64 (.var 3), .int .i64 (.var 4), .int .i64 (.var 5), .int .i64 (.var 6)]))⟩,
  ⟨41, [], [(instS (.var 7)), (.p (.c (.int .i64 (.lit 5)))), (.p (.c (.int .i64 (.var 8))))], (.p (.agg [.int .i64 (.var 7), .bool (.bvar 0), .bool (.bvar 1), .int .i64 (.var 0), .int .i64 (.var 1), .int .i64 (.var 8), .int .i64 (.var 3), .int .i64 (.var 4), .int .i64 (.var 5), .int .i64 (.var 6)]))⟩,
  ⟨41, [], [(instS (.var 7)), (.p (.c (.int .i64 (.lit 6)))), (.p (.c (.int .i64 (.var 8))))], (.p (.agg [.int .i64 (.var 7), .bool (.bvar 0), .bool (.bvar 1), .int .i64 (.var 0), .int .i64 (.var 1), .int .i64 (.var 2), .int .i64 (.var 8), .int .i64 (.var 4), .int .i64 (.var 5), .int .i64 (.var 6)]))⟩,
  ⟨41, [], [(instS (.var 7)), (.p (.c (.int .i64 (.lit 7)))), (.p (.c (.int .i64 (.var 8))))], (.p (.agg [.int .i64 (.var 7), .bool (.bvar 0), .bool (.bvar 1), .int .i64 (.var 0), .int .i64 (.var 1), .int .i64 (.var 2), .int .i64 (.var 3), .int .i64 (.var 8), .int .i64 (.var 5), .int .i64 (.var 6)]))⟩,
  ⟨41, [], [(instS (.var 7)), (.p (.c (.int .i64 (.lit 8)))), (.p (.c (.int .i64 (.var 8))))], (.p (.agg [.int .i64 (.var 7), .bool (.bvar 0), .bool (.bvar 1), .int .i64 (.var 0), .int .i64 (.var 1), .int .i64 (.var 2), .int .i64 (.var 3), .int .i64 (.var 4), .int .i64 (.var 8), .int .i64 (.var 6)]))⟩,
  ⟨41, [], [(instS (.var 7)), (.p (.c (.int .i64 (.lit 9)))), (.p (.c (.int .i64 (.var 8))))], (.p (.agg [.int .i64 (.var 7), .bool (.bvar 0), .bool (.bvar 1), .int .i64 (.var 0), .int .i64 (.var 1), .int .i64 (.var 2), .int .i64 (.var 3), .int .i64 (.var 4), .int .i64 (.var 5), .int .i64 (.var 8)]))⟩
]
def sm_cooper_inst_set : Sums := (41, tplsSum tp_cooper_inst_set) :: sm_cooper_cooperref04_Get
set_option maxRecDepth 100000 in
theorem ok_cooper_inst_set : AllOk Try.prog GoodL sm_cooper_inst_set := stage (mrg := []) (fuel := 300) keepsL ok_cooper_cooperref04_Get insM (by kernel_rfl) (by kernel_rfl)
def tp_cooper_cooperref04_set : List Tpl := [
  ⟨52, [], [(instS (.var 7)), (.p (.c (.int .i64 (.lit 1)))), (.p (.c (.int .i64 (.var 8))))], (.p (.agg [.int .i64 (.var 7), .bool (.bin .eq (.var 8) (.lit 1)), .bool (.bvar 1), .int .i64 (.var 0), .int .i64 (.var 1), .int .i64 (.var 2), .int .i64 (.var 3), .int .i64 (.var 4), .int .i64 (.var 5), .int .i64 (.var 6)]))⟩,
  ⟨52, [], [(instS (.var 7)), (.p (.c (.int .i64 (.lit 2)))), (.p (.c (.int .i64 (.var 8))))], (.p (.agg [.int .i64 (.var 7), .bool (.bvar 0), .bool (.bin .eq (.var 8) (.lit 1)), .int .i64 (.var 0), .int .i64 (.var 1), .int .i64 (.var 2), .int .i64 (.var 3), .int .i64 (.var 4), .int .i64 (.var 5), .int .i64 (.var 6)]))⟩,
  ⟨52, [], [(instS (.var 7)), (.p (.c (.int .i64 (.lit 3)))), (.p (.c (.int .i64 (.var 8))))], (.p (.agg [.int .i64 (.var 7), .bool (.bvar 0), .bool (.bvar 1), .int .i64 (.var 8), .int .i64 (.var 1), .int .i64 (.var 2), .int .i64 (.var 3), .int .i64 (.var 4), .int .i64 (.var 5), .int .i64 (.var 6)]))⟩,
  ⟨52, [], [(instS (.var 7)), (.p (.c (.int .i64 (.lit 4)))), (.p (.c (.int .i64 (.var 8))))], (.p (.agg [.int .i64 (.var 7), .bool (.bvar 0), .bool (.bvar 1), .int .i64 (.var 0), .int .i64 (.var 8), .int .i64 (.var 2), .int .i64 (.var 3), .int .i64 (.var 4), .int .i64 (.var 5), .int .i64 (.var 6)]))⟩,
  ⟨52, [], [(instS (.var 7)), (.p (.c (.int .i64 (.lit 5)))), (.p (.c (.int .i64 (.var 8))))], (.p (.agg [.int .i64 (.var 7), .bool (.bvar 0), .bool (.bvar 1), .int .i64 (.var 0), .int .i64 (.var 1), .int .i64 (.var 8), .int .i64 (.var 3), .int .i64 (.var 4), .int .i64 (.var 5), .int .i64 (.var 6)]))⟩,
  ⟨52, [], [(instS (.var 7)), (.p (.c (.int .i64 (.lit 6)))), (.p (.c (.int .i64 (.var 8))))], (.p (.agg [.int .i64 (.var 7), .bool (.bvar 0), .bool (.bvar 1), .int .i64 (.var 0), .int .i64 (.var 1), .int .i64 (.var 2), .int .i64 (.var 8), .int .i64 (.var 4), .int .i64 (.var 5), .int .i64 (.var 6)]))⟩,
  ⟨52, [], [(instS (.var 7)), (.p (.c (.int .i64 (.lit 7)))), (.p (.c (.int .i64 (.var 8))))], (.p (.agg [.int .i64 (.var 7), .bool (.bvar 0), .bool (.bvar 1), .int .i64 (.var 0), .int .i64 (.var 1), .int .i64 (.var 2), .int .i64 (.var 3), .int .i64 (.var 8), .int .i64 (.var 5), .int .i64 (.var 6)]))⟩,
  ⟨52, [], [(instS (.var 7)), (.p (.c (.int .i64 (.lit 8)))), (.p (.c (.int .i64 (.var 8))))], (.p (.agg [.int .i64 (.var 7), .bool (.bvar 0), .bool (.bvar 1), .int .i64 (.var 0), .int .i64 (.var 1), .int .i64 (.var 2), .int .i64 (.var 3), .int .i64 (.var 4), .int .i64 (.var 8), .int .i64 (.var 6)]))⟩,
  ⟨52, [], [(instS (.var 7)), (.p (.c (.int .i64 (.lit 9)))), (.p (.c (.int .i64 (.var 8))))], (.p (.agg [.int .i64 (.var 7), .bool (.bvar 0), .bool (.bvar 1), .int .i64 (.var 0), .int .i64 (.var 1), .int .i64 (.var 2), .int .i64 (.var 3), .int .i64 (.var 4), .int .i64 (.var 5), .int .i64 (.var 8)]))⟩
]
def sm_cooper_cooperref04_set : Sums := (52, tplsSum tp_cooper_cooperref04_set) :: sm_cooper_inst_set
set_option maxRecDepth 100000 in
theorem ok_cooper_cooperref04_set : AllOk Try.prog GoodL sm_cooper_cooperref04_set := stage (mrg := []) (fuel := 300) keepsL ok_cooper_inst_set insM (by kernel_rfl) (by kernel_rfl)
def tp_cooper_inst_Clean : List Tpl := [
  ⟨17, [], [(instS (.lit 0))], (.p (.agg [.int .i64 (.lit 0), .bool .ff, .bool .ff, .int .i64 (.lit 0), .int .i64 (.lit 0), .int .i64 (.lit 0), .int .i64 (.lit 0), .int .i64 (.lit 0), .int .i64 (.lit 0), .int .i64 (.lit 0)]))⟩,
  ⟨17, [], [(instS (.lit 1))], (.p (.agg [.int .i64 (.lit 1), .bool (.bvar 0), .bool .ff, .int .i64 (.var 0), .int .i64 (.lit 0), .int .i64 (.lit 0), .int .i64 (.lit 0), .int .i64 (.var 4), .int .i64 (.lit 0), .int .i64 (.lit 0)]))⟩,
  ⟨17, [], [(instS (.lit 2))], (.p (.agg [.int .i64 (.lit 2), .bool (.bvar 0), .bool (.bvar 1), .int .i64 (.var 0), .int .i64 (.var 1), .int .i64 (.lit 0), .int .i64 (.lit 0), .int .i64 (.var 4), .int .i64 (.var 5), .int .i64 (.var 6)]))⟩,
  ⟨17, [], [(instS (.lit 3))], (.p (.agg [.int .i64 (.lit 3), .bool (.bvar 0), .bool .ff, .int .i64 (.var 0), .int .i64 (.var 1), .int .i64 (.lit 0), .int .i64 (.lit 0), .int .i64 (.var 4), .int .i64 (.var 5), .int .i64 (.lit 0)]))⟩,
  ⟨17, [], [(instS (.lit 4))], (.p (.agg [.int .i64 (.lit 4), .bool (.bvar 0), .bool .ff, .int .i64 (.var 0), .int .i64 (.lit 0), .int .i64 (.lit 0), .int .i64 (.lit 0), .int .i64 (.var 4), .int .i64 (.var 5), .int .i64 (.var 6)]))⟩,
  ⟨17, [], [(instS (.lit 5))], (.p (.agg [.int .i64 (.lit 5), .bool (.bvar 0), .bool .ff, .int .i64 (.var 0), .int .i64 (.var 1), .int .i64 (.lit 0), .int .i64 (.lit 0), .int .i64 (.var 4), .int .i64 (.var 5), .int .i64 (.var 6)]))⟩,
  ⟨17, [], [(instS (.lit 6))], (.p (.agg [.int .i64 (.lit 6), .bool (.bvar 0), .bool .ff, .int .i64 (.var 0), .int .i64 (.var 1), .int .i64 (.var 2), .int .i64 (.lit 0), .int .i64 (.var 4), .int .i64 (.lit 0), .int .i64 (.lit 0)]))⟩,
  ⟨17, [], [(instS (.lit 7))], (.p (.agg [.int .i64 (.lit 7), .bool .ff, .bool .ff, .int .i64 (.lit 0), .int .i64 (.lit 0), .int .i64 (.lit 0), .int .i64 (.lit 0), .int .i64 (.var 4), .int .i64 (.var 5), .int .i64 (.lit 0)]))⟩,
  ⟨17, [], [(instS (.lit 8))], (.p (.agg [.int .i64 (.lit 8), .bool .ff, .bool (.bvar 1), .int .i64 (.lit 0), .int .i64 (.lit 0), .int .i64 (.lit 0), .int .i64 (.lit 0), .int .i64 (.var 4), .int .i64 (.lit 0), .int .i64 (.lit 0)]))⟩,
  ⟨17, [], [(instS (.lit 9))], (.p (.agg [.int .i64 (.lit 9), .bool (.bvar 0), .bool .ff, .int .i64 (.var 0), .int .i64 (.lit 0), .int .i64 (.lit 0), .int .i64 (.lit 0), .int .i64 (.var 4), .int .i64 (.var 5), .int .i64 (.lit 0)]))⟩,
  ⟨17, [], [(instS (.lit 10))], (.p (.agg [.int .i64 (.lit 10), .bool .ff, .bool .ff, .int .i64 (.var 0), .int .i64 (.lit 0), .int .i64 (.lit 0), .int .i64 (.lit 0), .int .i64 (.var 4), .int .i64 (.var 5), .int .i64 (.var 6)]))⟩,
  ⟨17, [], [(instS (.lit 11))], (.p (.agg [.int .i64 (.lit 11), .bool .ff, .bool .ff, .int .i64 (.lit 0), .int .i64 (.var 1), .int .i64 (.lit 0), .int .i64 (.lit 0), .int .i64 (.lit 0), .int .i64 (.var 5), .int .i64 (.lit 0)]))⟩,
  ⟨17, [], [(instS (.lit 12))], (.p (.agg [.int .i64 (.lit 12), .bool .ff, .bool .ff, .int .i64 (.lit 0), .int .i64 (.lit 0), .int .i64 (.lit 0), .int .i64 (.lit 0), .int .i64 (.var 4), .int .i64 (.var 5), .int .i64 (.lit 0)]))⟩,
  ⟨17, [], [(instS (.lit 13))], (.p (.agg [.int .i64 (.lit 13), .bool .ff, .bool .ff, .int .i64 (.lit 0), .int .i64 (.lit 0), .int .i64 (.lit 0), .int .i64 (.lit 0), .int .i64 (.var 4), .int .i64 (.lit 0), .int .i64 (.lit 0)]))⟩,
  ⟨17, [], [(instS (.lit 14))], (.p (.agg [.int .i64 (.lit 14), .bool .ff, .bool .ff, .int .i64 (.lit 0), .int .i64 (.lit 0), .int .i64 (.lit 0), .int .i64 (.lit 0), .int .i64 (.var 4), .int .i64 (.var 5), .int .i64 (.lit 0)]))⟩,
  ⟨17, [], [(instS (.lit 15))], (.p (.agg [.int .i64 (.lit 15), .bool .ff, .bool .ff, .int .i64 (.var 0), .int .i64 (.lit 0), .int .i64 (.lit 0), .int .i64 (.lit 0), .int .i64 (.var 4), .int .i64 (.var 5), .int .i64 (.lit 0)]))⟩,
  ⟨17, [], [(instS (.lit 16))], (.p (.agg [.int .i64 (.lit 16), .bool .ff, .bool .ff, .int .i64 (.lit 0), .int .i64 (.lit 0), .int .i64 (.lit 0), .int .i64 (.lit 0), .int .i64 (.var 4), .int .i64 (.var 5), .int .i64 (.lit 0)]))⟩,
  ⟨17, [], [(instS (.lit 17))], (.p (.agg [.int .i64 (.lit 17), .bool .ff, .bool .ff, .int .i64 (.var 0), .int .i64 (.lit 0), .int .i64 (.lit 0), .int .i64 (.lit 0), .int .i64 (.var 4), .int .i64 (.var 5), .int .i64 (.lit 0)]))⟩,
  ⟨17, [], [(instS (.lit 18))], (.p (.agg [.int .i64 (.lit 18), .bool .ff, .bool .ff, .int .i64 (.var 0), .int .i64 (.lit 0), .int .i64 (.lit 0), .int .i64 (.lit 0), .int .i64 (.var 4), .int .i64 (.var 5), .int .i64 (.lit 0)]))⟩,
  ⟨17, [], [(instS (.lit 19))], (.p (.agg [.int .i64 (.lit 19), .bool .ff, .bool (.bvar 1), .int .i64 (.var 0), .int .i64 (.var 1), .int .i64 (.lit 0), .int .i64 (.var 3), .int .i64 (.var 4), .int .i64 (.var 5), .int .i64 (.var 6)]))⟩,
  ⟨17, [], [(instS (.lit 20))], (.p (.agg [.int .i64 (.lit 20), .bool .ff, .bool .ff, .int .i64 (.var 0), .int .i64 (.var 1), .int .i64 (.lit 0), .int .i64 (.lit 0), .int .i64 (.var 4), .int .i64 (.var 5), .int .i64 (.var 6)]))⟩,
  ⟨17, [], [(instS (.lit 21))], (.p (.agg [.int .i64 (.lit 21), .bool .ff, .bool .ff, .int .i64 (.var 0), .int .i64 (.var 1), .int .i64 (.lit 0), .int .i64 (.var 3), .int .i64 (.var 4), .int .i64 (.var 5), .int .i64 (.var 6)]))⟩,
  ⟨17, [], [(instS (.lit 22))], (.p (.agg [.int .i64 (.lit 22), .bool .ff, .bool (.bvar 1), .int .i64 (.var 0), .int .i64 (.var 1), .int .i64 (.var 2), .int .i64 (.lit 0), .int .i64 (.var 4), .int .i64 (.var 5), .int .i64 (.var 6)]))⟩,
  ⟨17, [], [(instS (.lit 23))], (.p (.agg [.int .i64 (.lit 23), .bool (.bvar 0), .bool (.bvar 1), .int .i64 (.var 0), .int .i64 (.var 1), .int .i64 (.var 2), .int .i64 (.var 3), .int .i64 (.var 4), .int .i64 (.var 5), .int .i64 (.lit 0)]))⟩,
  ⟨17, [], [(instS (.lit 24))], (.p (.agg [.int .i64 (.lit 24), .bool (.bvar 0), .bool (.bvar 1), .int .i64 (.var 0), .int .i64 (.var 1), .int .i64 (.var 2), .int .i64 (.lit 0), .int .i64 (.var 4), .int .i64 (.var 5), .int .i64 (.var 6)]))⟩,
  ⟨17, [], [(instS (.lit 25))], (.p (.agg [.int .i64 (.lit 25), .bool (.bvar 0), .bool (.bvar 1), .int .i64 (.var 0), .int .i64 (.var 1), .int .i64 (.var 2), .int .i64 (.lit 0), .int .i64 (.var 4), .int .i64 (.var 5), .int .i64 (.var 6)]))⟩,
  ⟨17, [], [(instS (.lit 26))], (.p (.agg [.int .i64 (.lit 26), .bool (.bvar 0), .bool (.bvar 1), .int .i64 (.var 0), .int .i64 (.var 1), .int .i64 (.var 2), .int .i64 (.lit 0), .int .i64 (.var 4), .int .i64 (.var 5), .int .i64 (.var 6)]))⟩,
  ⟨17, [], [(instS (.lit 27))], (.p (.agg [.int .i64 (.lit 27), .bool (.bvar 0), .bool (.bvar 1), .int .i64 (.var 0), .int .i64 (.var 1), .int .i64 (.var 2), .int .i64 (.lit 0), .int .i64 (.lit 0), .int .i64 (.var 5), .int .i64 (.lit 0)]))⟩,
  ⟨17, [], [(instS (.lit 28))], (.p (.agg [.int .i64 (.lit 28), .bool (.bvar 0), .bool (.bvar 1), .int .i64 (.lit 0), .int .i64 (.var 1), .int .i64 (.var 2), .int .i64 (.lit 0), .int .i64 (.var 4), .int .i64 (.var 5), .int .i64 (.var 6)]))⟩,
  ⟨17, [], [(instS (.lit 29))], (.p (.agg [.int .i64 (.lit 29), .bool (.bvar 0), .bool .ff, .int .i64 (.var 0), .int .i64 (.var 1), .int .i64 (.var 2), .int .i64 (.lit 0), .int .i64 (.var 4), .int .i64 (.var 5), .int .i64 (.lit 0)]))⟩,
  ⟨17, [], [(instS (.lit 30))], (.p (.agg [.int .i64 (.lit 30), .bool (.bvar 0), .bool .ff, .int .i64 (.var 0), .int .i64 (.var 1), .int .i64 (.lit 0), .int .i64 (.lit 0), .int .i64 (.lit 0), .int .i64 (.var 5), .int .i64 (.lit 0)]))⟩,
  ⟨17, [], [(instS (.lit 31))], (.p (.agg [.int .i64 (.lit 31), .bool (.bvar 0), .bool .ff, .int .i64 (.var 0), .int .i64 (.var 1), .int .i64 (.var 2), .int .i64 (.lit 0), .int .i64 (.lit 0), .int .i64 (.var 5), .int .i64 (.lit 0)]))⟩,
  ⟨17, [], [(instS (.lit 32))], (.p (.agg [.int .i64 (.lit 32), .bool (.bvar 0), .bool .ff, .int .i64 (.var 0), .int .i64 (.var 1), .int .i64 (.var 2), .int .i64 (.var 3), .int .i64 (.lit 0), .int .i64 (.var 5), .int .i64 (.lit 0)]))⟩,
  ⟨17, [(7, (-9223372036854775808), (-1))], [(instS (.var 7))], (.p (.agg [.int .i64 (.var 7), .bool .ff, .bool .ff, .int .i64 (.lit 0), .int .i64 (.lit 0), .int .i64 (.lit 0), .int .i64 (.lit 0), .int .i64 (.lit 0), .int .i64 (.lit 0), .int .i64 (.lit 0)]))⟩,
  ⟨17, [(7, 33, 9223372036854775807)], [(instS (.var 7))], (.p (.agg [.int .i64 (.var 7), .bool .ff, .bool .ff, .int .i64 (.lit 0), .int .i64 (.lit 0), .int .i64 (.lit 0), .int .i64 (.lit 0), .int .i64 (.lit 0), .int .i64 (.lit 0), .int .i64 (.lit 0)]))⟩
]
def sm_cooper_inst_Clean : Sums := (17, tplsSum tp_cooper_inst_Clean) :: sm_cooper_cooperref04_set
set_option maxRecDepth 100000 in
theorem ok_cooper_inst_Clean : AllOk Try.prog GoodL sm_cooper_inst_Clean := stage (mrg := []) (fuel := 300) keepsL ok_cooper_cooperref04_set insM (by kernel_rfl) (by kernel_rfl)
def tp_cooper_cooperref04_Clean : List Tpl := [
  ⟨24, [], [(instS (.lit 0))], (.p (.agg [.int .i64 (.lit 0), .bool .ff, .bool .ff, .int .i64 (.lit 0), .int .i64 (.lit 0), .int .i64 (.lit 0), .int .i64 (.lit 0), .int .i64 (.lit 0), .int .i64 (.lit 0), .int .i64 (.lit 0)]))⟩,
  ⟨24, [], [(instS (.lit 1))], (.p (.agg [.int .i64 (.lit 1), .bool (.bvar 0), .bool .ff, .int .i64 (.var 0), .int .i64 (.lit 0), .int .i64 (.lit 0), .int .i64 (.lit 0), .int .i64 (.var 4), .int .i64 (.lit 0), .int .i64 (.lit 0)]))⟩,
  ⟨24, [], [(instS (.lit 2))], (.p (.agg [.int .i64 (.lit 2), .bool (.bvar 0), .bool (.bvar 1), .int .i64 (.var 0), .int .i64 (.var 1), .int .i64 (.lit 0), .int .i64 (.lit 0), .int .i64 (.var 4), .int .i64 (.var 5), .int .i64 (.var 6)]))⟩,
  ⟨24, [], [(instS (.lit 3))], (.p (.agg [.int .i64 (.lit 3), .bool (.bvar 0), .bool .ff, .int .i64 (.var 0), .int .i64 (.var 1), .int .i64 (.lit 0), .int .i64 (.lit 0), .int .i64 (.var 4), .int .i64 (.var 5), .int .i64 (.lit 0)]))⟩,
  ⟨24, [], [(instS (.lit 4))], (.p (.agg [.int .i64 (.lit 4), .bool (.bvar 0), .bool .ff, .int .i64 (.var 0), .int .i64 (.lit 0), .int .i64 (.lit 0), .int .i64 (.lit 0), .int .i64 (.var 4), .int .i64 (.var 5), .int .i64 (.var 6)]))⟩,
  ⟨24, [], [(instS (.lit 5))], (.p (.agg [.int .i64 (.lit 5), .bool (.bvar 0), .bool .ff, .int .i64 (.var 0), .int .i64 (.var 1), .int .i64 (.lit 0), .int .i64 (.lit 0), .int .i64 (.var 4), .int .i64 (.var 5), .int .i64 (.var 6)]))⟩,
  ⟨24, [], [(instS (.lit 6))], (.p (.agg [.int .i64 (.lit 6), .bool (.bvar 0), .bool .ff, .int .i64 (.var 0), .int .i64 (.var 1), .int .i64 (.var 2), .int .i64 (.lit 0), .int .i64 (.var 4), .int .i64 (.lit 0), .int .i64 (.lit 0)]))⟩,
  ⟨24, [], [(instS (.lit 7))], (.p (.agg [.int .i64 (.lit 7), .bool .ff, .bool .ff, .int .i64 (.lit 0), .int .i64 (.lit 0), .int .i64 (.lit 0), .int .i64 (.lit 0), .int .i64 (.var 4), .int .i64 (.var 5), .int .i64 (.lit 0)]))⟩,
  ⟨24, [], [(instS (.lit 8))], (.p (.agg [.int .i64 (.lit 8), .bool .ff, .bool (.bvar 1), .int .i64 (.lit 0), .int .i64 (.lit 0), .int .i64 (.lit 0), .int .i64 (.lit 0), .int .i64 (.var 4), .int .i64 (.lit 0), .int .i64 (.lit 0)]))⟩,
  ⟨24, [], [(instS (.lit 9))], (.p (.agg [.int .i64 (.lit 9), .bool (.bvar 0), .bool .ff, .int .i64 (.var 0), .int .i64 (.lit 0), .int .i64 (.lit 0), .int .i64 (.lit 0), .int .i64 (.var 4), .int .i64 (.var 5), .int .i64 (.lit 0)]))⟩,
  ⟨24, [], [(instS (.lit 10))], (.p (.agg [.int .i64 (.lit 10), .bool .ff, .bool .ff, .int .i64 (.var 0), .int .i64 (.lit 0), .int .i64 (.lit 0), .int .i64 (.lit 0), .int .i64 (.var 4), .int .i64 (.var 5), .int .i64 (.var 6)]))⟩,
  ⟨24, [], [(instS (.lit 11))], (.p (.agg [.int .i64 (.lit 11), .bool .ff, .bool .ff, .int .i64 (.lit 0), .int .i64 (.var 1), .int .i64 (.lit 0), .int .i64 (.lit 0), .int .i64 (.lit 0), .int .i64 (.var 5), .int .i64 (.lit 0)]))⟩,
  ⟨24, [], [(instS (.lit 12))], (.p (.agg [.int .i64 (.lit 12), .bool .ff, .bool .ff, .int .i64 (.lit 0), .int .i64 (.lit 0), .int .i64 (.lit 0), .int .i64 (.lit 0), .int .i64 (.var 4), .int .i64 (.var 5), .int .i64 (.lit 0)]))⟩,
  ⟨24, [], [(instS (.lit 13))], (.p (.agg [.int .i64 (.lit 13), .bool .ff, .bool .ff, .int .i64 (.lit 0), .int .i64 (.lit 0), .int .i64 (.lit 0), .int .i64 (.lit 0), .int .i64 (.var 4), .int .i64 (.lit 0), .int .i64 (.lit 0)]))⟩,
  ⟨24, [], [(instS (.lit 14))], (.p (.agg [.int .i64 (.lit 14), .bool .ff, .bool .ff, .int .i64 (.lit 0), .int .i64 (.lit 0), .int .i64 (.lit 0), .int .i64 (.lit 0), .int .i64 (.var 4), .int .i64 (.var 5), .int .i64 (.lit 0)]))⟩,
  ⟨24, [], [(instS (.lit 15))], (.p (.agg [.int .i64 (.lit 15), .bool .ff, .bool .ff, .int .i64 (.var 0), .int .i64 (.lit 0), .int .i64 (.lit 0), .int .i64 (.lit 0), .int .i64 (.var 4), .int .i64 (.var 5), .int .i64 (.lit 0)]))⟩,
  ⟨24, [], [(instS (.lit 16))], (.p (.agg [.int .i64 (.lit 16), .bool .ff, .bool .ff, .int .i64 (.lit 0), .int .i64 (.lit 0), .int .i64 (.lit 0), .int .i64 (.lit 0), .int .i64 (.var 4), .int .i64 (.var 5), .int .i64 (.lit 0)]))⟩,
  ⟨24, [], [(instS (.lit 17))], (.p (.agg [.int .i64 (.lit 17), .bool .ff, .bool .ff, .int .i64 (.var 0), .int .i64 (.lit 0), .int .i64 (.lit 0), .int .i64 (.lit 0), .int .i64 (.var 4), .int .i64 (.var 5), .int .i64 (.lit 0)]))⟩,
  ⟨24, [], [(instS (.lit 18))], (.p (.agg [.int .i64 (.lit 18), .bool .ff, .bool .ff, .int .i64 (.var 0), .int .i64 (.lit 0), .int .i64 (.lit 0), .int .i64 (.lit 0), .int .i64 (.var 4), .int .i64 (.var 5), .int .i64 (.lit 0)]))⟩,
  ⟨24, [], [(instS (.lit 19))], (.p (.agg [.int .i64 (.lit 19), .bool .ff, .bool (.bvar 1), .int .i64 (.var 0), .int .i64 (.var 1), .int .i64 (.lit 0), .int .i64 (.var 3), .int .i64 (.var 4), .int .i64 (.var 5), .int .i64 (.var 6)]))⟩,
  ⟨24, [], [(instS (.lit 20))], (.p (.agg [.int .i64 (.lit 20), .bool .ff, .bool .ff, .int .i64 (.var 0), .int .i64 (.var 1), .int .i64 (.lit 0), .int .i64 (.lit 0), .int .i64 (.var 4), .int .i64 (.var 5), .int .i64 (.var 6)]))⟩,
  ⟨24, [], [(instS (.lit 21))], (.p (.agg [.int .i64 (.lit 21), .bool .ff, .bool .ff, .int .i64 (.var 0), .int .i64 (.var 1), .int .i64 (.lit 0), .int .i64 (.var 3), .int .i64 (.var 4), .int .i64 (.var 5), .int .i64 (.var 6)]))⟩,
  ⟨24, [], [(instS (.lit 22))], (.p (.agg [.int .i64 (.lit 22), .bool .ff, .bool (.bvar 1), .int .i64 (.var 0), .int .i64 (.var 1), .int .i64 (.var 2), .int .i64 (.lit 0), .int .i64 (.var 4), .int .i64 (.var 5), .int .i64 (.var 6)]))⟩,
  ⟨24, [], [(instS (.lit 23))], (.p (.agg [.int .i64 (.lit 23), .bool (.bvar 0), .bool (.bvar 1), .int .i64 (.var 0), .int .i64 (.var 1), .int .i64 (.var 2), .int .i64 (.var 3), .int .i64 (.var 4), .int .i64 (.var 5), .int .i64 (.lit 0)]))⟩,
  ⟨24, [], [(instS (.lit 24))], (.p (.agg [.int .i64 (.lit 24), .bool (.bvar 0), .bool (.bvar 1), .int .i64 (.var 0), .int .i64 (.var 1), .int .i64 (.var 2), .int .i64 (.lit 0), .int .i64 (.var 4), .int .i64 (.var 5), .int .i64 (.var 6)]))⟩,
  ⟨24, [], [(instS (.lit 25))], (.p (.agg [.int .i64 (.lit 25), .bool (.bvar 0), .bool (.bvar 1), .int .i64 (.var 0), .int .i64 (.var 1), .int .i64 (.var 2), .int .i64 (.lit 0), .int .i64 (.var 4), .int .i64 (.var 5), .int .i64 (.var 6)]))⟩,
  ⟨24, [], [(instS (.lit 26))], (.p (.agg [.int .i64 (.lit 26), .bool (.bvar 0), .bool (.bvar 1), .int .i64 (.var 0), .int .i64 (.var 1), .int .i64 (.var 2), .int .i64 (.lit 0), .int .i64 (.var 4), .int .i64 (.var 5), .int .i64 (.var 6)]))⟩,
  ⟨24, [], [(instS (.lit 27))], (.p (.agg [.int .i64 (.lit 27), .bool (.bvar 0), .bool (.bvar 1), .int .i64 (.var 0), .int .i64 (.var 1), .int .i64 (.var 2), .int .i64 (.lit 0), .int .i64 (.lit 0), .int .i64 (.var 5), .int .i64 (.lit 0)]))⟩,
  ⟨24, [], [(instS (.lit 28))], (.p (.agg [.int .i64 (.lit 28), .bool (.bvar 0), .bool (.bvar 1), .int .i64 (.lit 0), .int .i64 (.var 1), .int .i64 (.var 2), .int .i64 (.lit 0), .int .i64 (.var 4), .int .i64 (.var 5), .int .i64 (.var 6)]))⟩,
  ⟨24, [], [(instS (.lit 29))], (.p (.agg [.int .i64 (.lit 29), .bool (.bvar 0), .bool .ff, .int .i64 (.var 0), .int .i64 (.var 1), .int .i64 (.var 2), .int .i64 (.lit 0), .int .i64 (.var 4), .int .i64 (.var 5), .int .i64 (.lit 0)]))⟩,
  ⟨24, [], [(instS (.lit 30))], (.p (.agg [.int .i64 (.lit 30), .bool (.bvar 0), .bool .ff, .int .i64 (.var 0), .int .i64 (.var 1), .int .i64 (.lit 0), .int .i64 (.lit 0), .int .i64 (.lit 0), .int .i64 (.var 5), .int .i64 (.lit 0)]))⟩,
  ⟨24, [], [(instS (.lit 31))], (.p (.agg [.int .i64 (.lit 31), .bool (.bvar 0), .bool .ff, .int .i64 (.var 0), .int .i64 (.var 1), .int .i64 (.var 2), .int .i64 (.lit 0), .int .i64 (.lit 0), .int .i64 (.var 5), .int .i64 (.lit 0)]))⟩,
  ⟨24, [], [(instS (.lit 32))], (.p (.agg [.int .i64 (.lit 32), .bool (.bvar 0), .bool .ff, .int .i64 (.var 0), .int .i64 (.var 1), .int .i64 (.var 2), .int .i64 (.var 3), .int .i64 (.lit 0), .int .i64 (.var 5), .int .i64 (.lit 0)]))⟩,
  ⟨24, [(7, (-9223372036854775808), (-1))], [(instS (.var 7))], (.p (.agg [.int .i64 (.var 7), .bool .ff, .bool .ff, .int .i64 (.lit 0), .int .i64 (.lit 0), .int .i64 (.lit 0), .int .i64 (.lit 0), .int .i64 (.lit 0), .int .i64 (.lit 0), .int .i64 (.lit 0)]))⟩,
  ⟨24, [(7, 33, 9223372036854775807)], [(instS (.var 7))], (.p (.agg [.int .i64 (.var 7), .bool .ff, .bool .ff, .int .i64 (.lit 0), .int .i64 (.lit 0), .int .i64 (.lit 0), .int .i64 (.lit 0), .int .i64 (.lit 0), .int .i64 (.lit 0), .int .i64 (.lit 0)]))⟩
]
def sm_cooper_cooperref04_Clean : Sums := (24, tplsSum tp_cooper_cooperref04_Clean) :: sm_cooper_inst_Clean
set_option maxRecDepth 100000 in
theorem ok_cooper_cooperref04_Clean : AllOk Try.prog GoodL sm_cooper_cooperref04_Clean := stage (mrg := []) (fuel := 300) keepsL ok_cooper_inst_Clean insM (by kernel_rfl) (by kernel_rfl)
end
end Go.Proofs.Ytopfaapcekiojaa.Sym
