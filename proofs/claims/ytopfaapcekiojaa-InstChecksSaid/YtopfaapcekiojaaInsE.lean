/- What unit, step and Reach give, by runs. (Printed by mkins.py out of gen_ins2.) -/
import Derived.Test.YtopfaapcekiojaaInsA
namespace Go.Proofs.Ytopfaapcekiojaa.Sym
open Go Go.RowKit Go.Proofs.Ytopfaapcekiojaa
noncomputable section
def tp_cooper_inst_unit_0 : List Tpl := [
  ⟨53, [], [(.p (.c (.int .i64 (.lit 0)))), (.p (.c (.bool (.bvar 0))))], (.p (.c (.int .i64 (.lit 0))))⟩,
  ⟨53, [], [(.p (.c (.int .i64 (.lit 2)))), (.p (.c (.bool (.bvar 0))))], (.p (.c (.int .i64 (.lit 0))))⟩,
  ⟨53, [], [(.p (.c (.int .i64 (.lit 3)))), (.p (.c (.bool (.bvar 0))))], (.p (.c (.int .i64 (.lit 0))))⟩,
  ⟨53, [], [(.p (.c (.int .i64 (.lit 4)))), (.p (.c (.bool (.bvar 0))))], (.p (.c (.int .i64 (.lit 0))))⟩
]
set_option maxRecDepth 100000 in
theorem run_cooper_inst_unit_0 : tplRuns Try.prog sm_cooper_cooperref04_Check [] 300 tp_cooper_inst_unit_0 = true := by kernel_rfl
def tp_cooper_inst_unit_1 : List Tpl := [
  ⟨53, [], [(.p (.c (.int .i64 (.lit 5)))), (.p (.c (.bool (.bvar 0))))], (.p (.c (.int .i64 (.lit 0))))⟩,
  ⟨53, [], [(.p (.c (.int .i64 (.lit 6)))), (.p (.c (.bool (.bvar 0))))], (.p (.c (.int .i64 (.lit 0))))⟩,
  ⟨53, [], [(.p (.c (.int .i64 (.lit 7)))), (.p (.c (.bool (.bvar 0))))], (.p (.c (.int .i64 (.lit 4))))⟩,
  ⟨53, [], [(.p (.c (.int .i64 (.lit 8)))), (.p (.c (.bool (.bvar 0))))], (.p (.c (.int .i64 (.lit 4))))⟩
]
set_option maxRecDepth 100000 in
theorem run_cooper_inst_unit_1 : tplRuns Try.prog sm_cooper_cooperref04_Check [] 300 tp_cooper_inst_unit_1 = true := by kernel_rfl
def tp_cooper_inst_unit_2 : List Tpl := [
  ⟨53, [], [(.p (.c (.int .i64 (.lit 9)))), (.p (.c (.bool (.bvar 0))))], (.p (.c (.int .i64 (.lit 4))))⟩,
  ⟨53, [], [(.p (.c (.int .i64 (.lit 10)))), (.p (.c (.bool (.bvar 0))))], (.p (.c (.int .i64 (.lit 4))))⟩,
  ⟨53, [], [(.p (.c (.int .i64 (.lit 11)))), (.p (.c (.bool (.bvar 0))))], (.p (.c (.int .i64 (.lit 0))))⟩,
  ⟨53, [], [(.p (.c (.int .i64 (.lit 12)))), (.p (.c (.bool (.bvar 0))))], (.p (.c (.int .i64 (.lit 0))))⟩
]
set_option maxRecDepth 100000 in
theorem run_cooper_inst_unit_2 : tplRuns Try.prog sm_cooper_cooperref04_Check [] 300 tp_cooper_inst_unit_2 = true := by kernel_rfl
def tp_cooper_inst_unit_3 : List Tpl := [
  ⟨53, [], [(.p (.c (.int .i64 (.lit 13)))), (.p (.c (.bool (.bvar 0))))], (.p (.c (.int .i64 (.lit 0))))⟩,
  ⟨53, [], [(.p (.c (.int .i64 (.lit 14)))), (.p (.c (.bool (.bvar 0))))], (.p (.c (.int .i64 (.lit 0))))⟩,
  ⟨53, [], [(.p (.c (.int .i64 (.lit 15)))), (.p (.c (.bool (.bvar 0))))], (.p (.c (.int .i64 (.lit 0))))⟩,
  ⟨53, [], [(.p (.c (.int .i64 (.lit 16)))), (.p (.c (.bool (.bvar 0))))], (.p (.c (.int .i64 (.lit 0))))⟩
]
set_option maxRecDepth 100000 in
theorem run_cooper_inst_unit_3 : tplRuns Try.prog sm_cooper_cooperref04_Check [] 300 tp_cooper_inst_unit_3 = true := by kernel_rfl
def tp_cooper_inst_unit_4 : List Tpl := [
  ⟨53, [], [(.p (.c (.int .i64 (.lit 17)))), (.p (.c (.bool (.bvar 0))))], (.p (.c (.int .i64 (.lit 0))))⟩,
  ⟨53, [], [(.p (.c (.int .i64 (.lit 18)))), (.p (.c (.bool (.bvar 0))))], (.p (.c (.int .i64 (.lit 4))))⟩,
  ⟨53, [], [(.p (.c (.int .i64 (.lit 19)))), (.p (.c (.bool (.bvar 0))))], (.p (.c (.int .i64 (.lit 0))))⟩,
  ⟨53, [], [(.p (.c (.int .i64 (.lit 20)))), (.p (.c (.bool (.bvar 0))))], (.p (.c (.int .i64 (.lit 0))))⟩
]
set_option maxRecDepth 100000 in
theorem run_cooper_inst_unit_4 : tplRuns Try.prog sm_cooper_cooperref04_Check [] 300 tp_cooper_inst_unit_4 = true := by kernel_rfl
def tp_cooper_inst_unit_5 : List Tpl := [
  ⟨53, [], [(.p (.c (.int .i64 (.lit 21)))), (.p (.c (.bool (.bvar 0))))], (.p (.c (.int .i64 (.lit 0))))⟩,
  ⟨53, [], [(.p (.c (.int .i64 (.lit 22)))), (.p (.c (.bool (.bvar 0))))], (.p (.c (.int .i64 (.lit 0))))⟩,
  ⟨53, [], [(.p (.c (.int .i64 (.lit 23)))), (.p (.c (.bool (.bvar 0))))], (.p (.c (.int .i64 (.lit 0))))⟩,
  ⟨53, [], [(.p (.c (.int .i64 (.lit 24)))), (.p (.c (.bool (.bvar 0))))], (.p (.c (.int .i64 (.lit 0))))⟩
]
set_option maxRecDepth 100000 in
theorem run_cooper_inst_unit_5 : tplRuns Try.prog sm_cooper_cooperref04_Check [] 300 tp_cooper_inst_unit_5 = true := by kernel_rfl
def tp_cooper_inst_unit_6 : List Tpl := [
  ⟨53, [], [(.p (.c (.int .i64 (.lit 25)))), (.p (.c (.bool (.bvar 0))))], (.p (.c (.int .i64 (.lit 0))))⟩,
  ⟨53, [], [(.p (.c (.int .i64 (.lit 26)))), (.p (.c (.bool (.bvar 0))))], (.p (.c (.int .i64 (.lit 0))))⟩,
  ⟨53, [], [(.p (.c (.int .i64 (.lit 27)))), (.p (.c (.bool (.bvar 0))))], (.p (.c (.int .i64 (.lit 0))))⟩,
  ⟨53, [], [(.p (.c (.int .i64 (.lit 28)))), (.p (.c (.bool (.bvar 0))))], (.p (.c (.int .i64 (.lit 0))))⟩
]
set_option maxRecDepth 100000 in
theorem run_cooper_inst_unit_6 : tplRuns Try.prog sm_cooper_cooperref04_Check [] 300 tp_cooper_inst_unit_6 = true := by kernel_rfl
def tp_cooper_inst_unit_7 : List Tpl := [
  ⟨53, [], [(.p (.c (.int .i64 (.lit 29)))), (.p (.c (.bool (.bvar 0))))], (.p (.c (.int .i64 (.lit 0))))⟩,
  ⟨53, [], [(.p (.c (.int .i64 (.lit 30)))), (.p (.c (.bool (.bvar 0))))], (.p (.c (.int .i64 (.lit 0))))⟩,
  ⟨53, [], [(.p (.c (.int .i64 (.lit 31)))), (.p (.c (.bool (.bvar 0))))], (.p (.c (.int .i64 (.lit 0))))⟩,
  ⟨53, [], [(.p (.c (.int .i64 (.lit 32)))), (.p (.c (.bool (.bvar 0))))], (.p (.c (.int .i64 (.lit 0))))⟩
]
set_option maxRecDepth 100000 in
theorem run_cooper_inst_unit_7 : tplRuns Try.prog sm_cooper_cooperref04_Check [] 300 tp_cooper_inst_unit_7 = true := by kernel_rfl
def tp_cooper_inst_unit_8 : List Tpl := [
  ⟨53, [(7, (-9223372036854775808), (-1))], [(.p (.c (.int .i64 (.var 7)))), (.p (.c (.bool (.bvar 0))))], (.p (.c (.int .i64 (.lit 0))))⟩,
  ⟨53, [(7, 33, 9223372036854775807)], [(.p (.c (.int .i64 (.var 7)))), (.p (.c (.bool (.bvar 0))))], (.p (.c (.int .i64 (.lit 0))))⟩,
  ⟨53, [], [(.p (.c (.int .i64 (.lit 1)))), (.p (.c (.bool .tt)))], (.p (.c (.int .i64 (.lit 4096))))⟩,
  ⟨53, [], [(.p (.c (.int .i64 (.lit 1)))), (.p (.c (.bool .ff)))], (.p (.c (.int .i64 (.lit 1))))⟩
]
set_option maxRecDepth 100000 in
theorem run_cooper_inst_unit_8 : tplRuns Try.prog sm_cooper_cooperref04_Check [] 300 tp_cooper_inst_unit_8 = true := by kernel_rfl
def tp_cooper_inst_unit : List Tpl := tp_cooper_inst_unit_0 ++ (tp_cooper_inst_unit_1 ++ (tp_cooper_inst_unit_2 ++ (tp_cooper_inst_unit_3 ++ (tp_cooper_inst_unit_4 ++ (tp_cooper_inst_unit_5 ++ (tp_cooper_inst_unit_6 ++ (tp_cooper_inst_unit_7 ++ (tp_cooper_inst_unit_8))))))))
def sm_cooper_inst_unit : Sums := (53, tplsSum tp_cooper_inst_unit) :: sm_cooper_cooperref04_Check
set_option maxRecDepth 100000 in
theorem ok_cooper_inst_unit : AllOk Try.prog GoodL sm_cooper_inst_unit := stage (mrg := []) (fuel := 300) keepsL ok_cooper_cooperref04_Check insM (tplRuns_app run_cooper_inst_unit_0 (tplRuns_app run_cooper_inst_unit_1 (tplRuns_app run_cooper_inst_unit_2 (tplRuns_app run_cooper_inst_unit_3 (tplRuns_app run_cooper_inst_unit_4 (tplRuns_app run_cooper_inst_unit_5 (tplRuns_app run_cooper_inst_unit_6 (tplRuns_app run_cooper_inst_unit_7 (run_cooper_inst_unit_8))))))))) (by kernel_rfl)
def tp_cooper_cooperref04_step_0 : List Tpl := [
  ⟨54, [], [(.p (.c (.int .i64 (.lit 0)))), (.p (.c (.bool (.bvar 0))))], (.p (.c (.int .i64 (.lit 0))))⟩,
  ⟨54, [], [(.p (.c (.int .i64 (.lit 2)))), (.p (.c (.bool (.bvar 0))))], (.p (.c (.int .i64 (.lit 0))))⟩,
  ⟨54, [], [(.p (.c (.int .i64 (.lit 3)))), (.p (.c (.bool (.bvar 0))))], (.p (.c (.int .i64 (.lit 0))))⟩,
  ⟨54, [], [(.p (.c (.int .i64 (.lit 4)))), (.p (.c (.bool (.bvar 0))))], (.p (.c (.int .i64 (.lit 0))))⟩
]
set_option maxRecDepth 100000 in
theorem run_cooper_cooperref04_step_0 : tplRuns Try.prog sm_cooper_inst_unit [] 300 tp_cooper_cooperref04_step_0 = true := by kernel_rfl
def tp_cooper_cooperref04_step_1 : List Tpl := [
  ⟨54, [], [(.p (.c (.int .i64 (.lit 5)))), (.p (.c (.bool (.bvar 0))))], (.p (.c (.int .i64 (.lit 0))))⟩,
  ⟨54, [], [(.p (.c (.int .i64 (.lit 6)))), (.p (.c (.bool (.bvar 0))))], (.p (.c (.int .i64 (.lit 0))))⟩,
  ⟨54, [], [(.p (.c (.int .i64 (.lit 7)))), (.p (.c (.bool (.bvar 0))))], (.p (.c (.int .i64 (.lit 4))))⟩,
  ⟨54, [], [(.p (.c (.int .i64 (.lit 8)))), (.p (.c (.bool (.bvar 0))))], (.p (.c (.int .i64 (.lit 4))))⟩
]
set_option maxRecDepth 100000 in
theorem run_cooper_cooperref04_step_1 : tplRuns Try.prog sm_cooper_inst_unit [] 300 tp_cooper_cooperref04_step_1 = true := by kernel_rfl
def tp_cooper_cooperref04_step_2 : List Tpl := [
  ⟨54, [], [(.p (.c (.int .i64 (.lit 9)))), (.p (.c (.bool (.bvar 0))))], (.p (.c (.int .i64 (.lit 4))))⟩,
  ⟨54, [], [(.p (.c (.int .i64 (.lit 10)))), (.p (.c (.bool (.bvar 0))))], (.p (.c (.int .i64 (.lit 4))))⟩,
  ⟨54, [], [(.p (.c (.int .i64 (.lit 11)))), (.p (.c (.bool (.bvar 0))))], (.p (.c (.int .i64 (.lit 0))))⟩,
  ⟨54, [], [(.p (.c (.int .i64 (.lit 12)))), (.p (.c (.bool (.bvar 0))))], (.p (.c (.int .i64 (.lit 0))))⟩
]
set_option maxRecDepth 100000 in
theorem run_cooper_cooperref04_step_2 : tplRuns Try.prog sm_cooper_inst_unit [] 300 tp_cooper_cooperref04_step_2 = true := by kernel_rfl
def tp_cooper_cooperref04_step_3 : List Tpl := [
  ⟨54, [], [(.p (.c (.int .i64 (.lit 13)))), (.p (.c (.bool (.bvar 0))))], (.p (.c (.int .i64 (.lit 0))))⟩,
  ⟨54, [], [(.p (.c (.int .i64 (.lit 14)))), (.p (.c (.bool (.bvar 0))))], (.p (.c (.int .i64 (.lit 0))))⟩,
  ⟨54, [], [(.p (.c (.int .i64 (.lit 15)))), (.p (.c (.bool (.bvar 0))))], (.p (.c (.int .i64 (.lit 0))))⟩,
  ⟨54, [], [(.p (.c (.int .i64 (.lit 16)))), (.p (.c (.bool (.bvar 0))))], (.p (.c (.int .i64 (.lit 0))))⟩
]
set_option maxRecDepth 100000 in
theorem run_cooper_cooperref04_step_3 : tplRuns Try.prog sm_cooper_inst_unit [] 300 tp_cooper_cooperref04_step_3 = true := by kernel_rfl
def tp_cooper_cooperref04_step_4 : List Tpl := [
  ⟨54, [], [(.p (.c (.int .i64 (.lit 17)))), (.p (.c (.bool (.bvar 0))))], (.p (.c (.int .i64 (.lit 0))))⟩,
  ⟨54, [], [(.p (.c (.int .i64 (.lit 18)))), (.p (.c (.bool (.bvar 0))))], (.p (.c (.int .i64 (.lit 4))))⟩,
  ⟨54, [], [(.p (.c (.int .i64 (.lit 19)))), (.p (.c (.bool (.bvar 0))))], (.p (.c (.int .i64 (.lit 0))))⟩,
  ⟨54, [], [(.p (.c (.int .i64 (.lit 20)))), (.p (.c (.bool (.bvar 0))))], (.p (.c (.int .i64 (.lit 0))))⟩
]
set_option maxRecDepth 100000 in
theorem run_cooper_cooperref04_step_4 : tplRuns Try.prog sm_cooper_inst_unit [] 300 tp_cooper_cooperref04_step_4 = true := by kernel_rfl
def tp_cooper_cooperref04_step_5 : List Tpl := [
  ⟨54, [], [(.p (.c (.int .i64 (.lit 21)))), (.p (.c (.bool (.bvar 0))))], (.p (.c (.int .i64 (.lit 0))))⟩,
  ⟨54, [], [(.p (.c (.int .i64 (.lit 22)))), (.p (.c (.bool (.bvar 0))))], (.p (.c (.int .i64 (.lit 0))))⟩,
  ⟨54, [], [(.p (.c (.int .i64 (.lit 23)))), (.p (.c (.bool (.bvar 0))))], (.p (.c (.int .i64 (.lit 0))))⟩,
  ⟨54, [], [(.p (.c (.int .i64 (.lit 24)))), (.p (.c (.bool (.bvar 0))))], (.p (.c (.int .i64 (.lit 0))))⟩
]
set_option maxRecDepth 100000 in
theorem run_cooper_cooperref04_step_5 : tplRuns Try.prog sm_cooper_inst_unit [] 300 tp_cooper_cooperref04_step_5 = true := by kernel_rfl
def tp_cooper_cooperref04_step_6 : List Tpl := [
  ⟨54, [], [(.p (.c (.int .i64 (.lit 25)))), (.p (.c (.bool (.bvar 0))))], (.p (.c (.int .i64 (.lit 0))))⟩,
  ⟨54, [], [(.p (.c (.int .i64 (.lit 26)))), (.p (.c (.bool (.bvar 0))))], (.p (.c (.int .i64 (.lit 0))))⟩,
  ⟨54, [], [(.p (.c (.int .i64 (.lit 27)))), (.p (.c (.bool (.bvar 0))))], (.p (.c (.int .i64 (.lit 0))))⟩,
  ⟨54, [], [(.p (.c (.int .i64 (.lit 28)))), (.p (.c (.bool (.bvar 0))))], (.p (.c (.int .i64 (.lit 0))))⟩
]
set_option maxRecDepth 100000 in
theorem run_cooper_cooperref04_step_6 : tplRuns Try.prog sm_cooper_inst_unit [] 300 tp_cooper_cooperref04_step_6 = true := by kernel_rfl
def tp_cooper_cooperref04_step_7 : List Tpl := [
  ⟨54, [], [(.p (.c (.int .i64 (.lit 29)))), (.p (.c (.bool (.bvar 0))))], (.p (.c (.int .i64 (.lit 0))))⟩,
  ⟨54, [], [(.p (.c (.int .i64 (.lit 30)))), (.p (.c (.bool (.bvar 0))))], (.p (.c (.int .i64 (.lit 0))))⟩,
  ⟨54, [], [(.p (.c (.int .i64 (.lit 31)))), (.p (.c (.bool (.bvar 0))))], (.p (.c (.int .i64 (.lit 0))))⟩,
  ⟨54, [], [(.p (.c (.int .i64 (.lit 32)))), (.p (.c (.bool (.bvar 0))))], (.p (.c (.int .i64 (.lit 0))))⟩
]
set_option maxRecDepth 100000 in
theorem run_cooper_cooperref04_step_7 : tplRuns Try.prog sm_cooper_inst_unit [] 300 tp_cooper_cooperref04_step_7 = true := by kernel_rfl
def tp_cooper_cooperref04_step_8 : List Tpl := [
  ⟨54, [(7, (-9223372036854775808), (-1))], [(.p (.c (.int .i64 (.var 7)))), (.p (.c (.bool (.bvar 0))))], (.p (.c (.int .i64 (.lit 0))))⟩,
  ⟨54, [(7, 33, 9223372036854775807)], [(.p (.c (.int .i64 (.var 7)))), (.p (.c (.bool (.bvar 0))))], (.p (.c (.int .i64 (.lit 0))))⟩,
  ⟨54, [], [(.p (.c (.int .i64 (.lit 1)))), (.p (.c (.bool .tt)))], (.p (.c (.int .i64 (.lit 4096))))⟩,
  ⟨54, [], [(.p (.c (.int .i64 (.lit 1)))), (.p (.c (.bool .ff)))], (.p (.c (.int .i64 (.lit 1))))⟩
]
set_option maxRecDepth 100000 in
theorem run_cooper_cooperref04_step_8 : tplRuns Try.prog sm_cooper_inst_unit [] 300 tp_cooper_cooperref04_step_8 = true := by kernel_rfl
def tp_cooper_cooperref04_step : List Tpl := tp_cooper_cooperref04_step_0 ++ (tp_cooper_cooperref04_step_1 ++ (tp_cooper_cooperref04_step_2 ++ (tp_cooper_cooperref04_step_3 ++ (tp_cooper_cooperref04_step_4 ++ (tp_cooper_cooperref04_step_5 ++ (tp_cooper_cooperref04_step_6 ++ (tp_cooper_cooperref04_step_7 ++ (tp_cooper_cooperref04_step_8))))))))
def sm_cooper_cooperref04_step : Sums := (54, tplsSum tp_cooper_cooperref04_step) :: sm_cooper_inst_unit
set_option maxRecDepth 100000 in
theorem ok_cooper_cooperref04_step : AllOk Try.prog GoodL sm_cooper_cooperref04_step := stage (mrg := []) (fuel := 300) keepsL ok_cooper_inst_unit insM (tplRuns_app run_cooper_cooperref04_step_0 (tplRuns_app run_cooper_cooperref04_step_1 (tplRuns_app run_cooper_cooperref04_step_2 (tplRuns_app run_cooper_cooperref04_step_3 (tplRuns_app run_cooper_cooperref04_step_4 (tplRuns_app run_cooper_cooperref04_step_5 (tplRuns_app run_cooper_cooperref04_step_6 (tplRuns_app run_cooper_cooperref04_step_7 (run_cooper_cooperref04_step_8))))))))) (by kernel_rfl)
def tp_cooper_inst_Reach_0 : List Tpl := [
  ⟨27, [], [(.p (.c (.int .i64 (.lit 0)))), (.p (.c (.bool (.bvar 0))))], (.tup [.c (.int .i64 (.lit 0)), .c (.int .i64 (.lit 0)), .c (.bool .ff)])⟩,
  ⟨27, [], [(.p (.c (.int .i64 (.lit 2)))), (.p (.c (.bool (.bvar 0))))], (.tup [.c (.int .i64 (.lit 0)), .c (.int .i64 (.lit 0)), .c (.bool .ff)])⟩,
  ⟨27, [], [(.p (.c (.int .i64 (.lit 3)))), (.p (.c (.bool (.bvar 0))))], (.tup [.c (.int .i64 (.lit 0)), .c (.int .i64 (.lit 0)), .c (.bool .ff)])⟩,
  ⟨27, [], [(.p (.c (.int .i64 (.lit 4)))), (.p (.c (.bool (.bvar 0))))], (.tup [.c (.int .i64 (.lit 0)), .c (.int .i64 (.lit 0)), .c (.bool .ff)])⟩
]
set_option maxRecDepth 100000 in
theorem run_cooper_inst_Reach_0 : tplRuns Try.prog sm_cooper_cooperref04_step [] 300 tp_cooper_inst_Reach_0 = true := by kernel_rfl
def tp_cooper_inst_Reach_1 : List Tpl := [
  ⟨27, [], [(.p (.c (.int .i64 (.lit 5)))), (.p (.c (.bool (.bvar 0))))], (.tup [.c (.int .i64 (.lit 0)), .c (.int .i64 (.lit 0)), .c (.bool .ff)])⟩,
  ⟨27, [], [(.p (.c (.int .i64 (.lit 6)))), (.p (.c (.bool (.bvar 0))))], (.tup [.c (.int .i64 (.lit 0)), .c (.int .i64 (.lit 0)), .c (.bool .ff)])⟩,
  ⟨27, [], [(.p (.c (.int .i64 (.lit 7)))), (.p (.c (.bool (.bvar 0))))], (.tup [.c (.int .i64 (.lit (-1048576))), .c (.int .i64 (.lit 1048572)), .c (.bool .tt)])⟩,
  ⟨27, [], [(.p (.c (.int .i64 (.lit 8)))), (.p (.c (.bool (.bvar 0))))], (.tup [.c (.int .i64 (.lit (-134217728))), .c (.int .i64 (.lit 134217724)), .c (.bool .tt)])⟩
]
set_option maxRecDepth 100000 in
theorem run_cooper_inst_Reach_1 : tplRuns Try.prog sm_cooper_cooperref04_step [] 300 tp_cooper_inst_Reach_1 = true := by kernel_rfl
def tp_cooper_inst_Reach_2 : List Tpl := [
  ⟨27, [], [(.p (.c (.int .i64 (.lit 9)))), (.p (.c (.bool (.bvar 0))))], (.tup [.c (.int .i64 (.lit (-1048576))), .c (.int .i64 (.lit 1048572)), .c (.bool .tt)])⟩,
  ⟨27, [], [(.p (.c (.int .i64 (.lit 10)))), (.p (.c (.bool (.bvar 0))))], (.tup [.c (.int .i64 (.lit (-32768))), .c (.int .i64 (.lit 32764)), .c (.bool .tt)])⟩,
  ⟨27, [], [(.p (.c (.int .i64 (.lit 11)))), (.p (.c (.bool (.bvar 0))))], (.tup [.c (.int .i64 (.lit 0)), .c (.int .i64 (.lit 0)), .c (.bool .ff)])⟩,
  ⟨27, [], [(.p (.c (.int .i64 (.lit 12)))), (.p (.c (.bool (.bvar 0))))], (.tup [.c (.int .i64 (.lit 0)), .c (.int .i64 (.lit 0)), .c (.bool .ff)])⟩
]
set_option maxRecDepth 100000 in
theorem run_cooper_inst_Reach_2 : tplRuns Try.prog sm_cooper_cooperref04_step [] 300 tp_cooper_inst_Reach_2 = true := by kernel_rfl
def tp_cooper_inst_Reach_3 : List Tpl := [
  ⟨27, [], [(.p (.c (.int .i64 (.lit 13)))), (.p (.c (.bool (.bvar 0))))], (.tup [.c (.int .i64 (.lit 0)), .c (.int .i64 (.lit 0)), .c (.bool .ff)])⟩,
  ⟨27, [], [(.p (.c (.int .i64 (.lit 14)))), (.p (.c (.bool (.bvar 0))))], (.tup [.c (.int .i64 (.lit 0)), .c (.int .i64 (.lit 0)), .c (.bool .ff)])⟩,
  ⟨27, [], [(.p (.c (.int .i64 (.lit 15)))), (.p (.c (.bool (.bvar 0))))], (.tup [.c (.int .i64 (.lit 0)), .c (.int .i64 (.lit 0)), .c (.bool .ff)])⟩,
  ⟨27, [], [(.p (.c (.int .i64 (.lit 16)))), (.p (.c (.bool (.bvar 0))))], (.tup [.c (.int .i64 (.lit 0)), .c (.int .i64 (.lit 0)), .c (.bool .ff)])⟩
]
set_option maxRecDepth 100000 in
theorem run_cooper_inst_Reach_3 : tplRuns Try.prog sm_cooper_cooperref04_step [] 300 tp_cooper_inst_Reach_3 = true := by kernel_rfl
def tp_cooper_inst_Reach_4 : List Tpl := [
  ⟨27, [], [(.p (.c (.int .i64 (.lit 17)))), (.p (.c (.bool (.bvar 0))))], (.tup [.c (.int .i64 (.lit 0)), .c (.int .i64 (.lit 0)), .c (.bool .ff)])⟩,
  ⟨27, [], [(.p (.c (.int .i64 (.lit 18)))), (.p (.c (.bool (.bvar 0))))], (.tup [.c (.int .i64 (.lit (-1048576))), .c (.int .i64 (.lit 1048572)), .c (.bool .tt)])⟩,
  ⟨27, [], [(.p (.c (.int .i64 (.lit 19)))), (.p (.c (.bool (.bvar 0))))], (.tup [.c (.int .i64 (.lit 0)), .c (.int .i64 (.lit 0)), .c (.bool .ff)])⟩,
  ⟨27, [], [(.p (.c (.int .i64 (.lit 20)))), (.p (.c (.bool (.bvar 0))))], (.tup [.c (.int .i64 (.lit 0)), .c (.int .i64 (.lit 0)), .c (.bool .ff)])⟩
]
set_option maxRecDepth 100000 in
theorem run_cooper_inst_Reach_4 : tplRuns Try.prog sm_cooper_cooperref04_step [] 300 tp_cooper_inst_Reach_4 = true := by kernel_rfl
def tp_cooper_inst_Reach_5 : List Tpl := [
  ⟨27, [], [(.p (.c (.int .i64 (.lit 21)))), (.p (.c (.bool (.bvar 0))))], (.tup [.c (.int .i64 (.lit 0)), .c (.int .i64 (.lit 0)), .c (.bool .ff)])⟩,
  ⟨27, [], [(.p (.c (.int .i64 (.lit 22)))), (.p (.c (.bool (.bvar 0))))], (.tup [.c (.int .i64 (.lit 0)), .c (.int .i64 (.lit 0)), .c (.bool .ff)])⟩,
  ⟨27, [], [(.p (.c (.int .i64 (.lit 23)))), (.p (.c (.bool (.bvar 0))))], (.tup [.c (.int .i64 (.lit 0)), .c (.int .i64 (.lit 0)), .c (.bool .ff)])⟩,
  ⟨27, [], [(.p (.c (.int .i64 (.lit 24)))), (.p (.c (.bool (.bvar 0))))], (.tup [.c (.int .i64 (.lit 0)), .c (.int .i64 (.lit 0)), .c (.bool .ff)])⟩
]
set_option maxRecDepth 100000 in
theorem run_cooper_inst_Reach_5 : tplRuns Try.prog sm_cooper_cooperref04_step [] 300 tp_cooper_inst_Reach_5 = true := by kernel_rfl
def tp_cooper_inst_Reach_6 : List Tpl := [
  ⟨27, [], [(.p (.c (.int .i64 (.lit 25)))), (.p (.c (.bool (.bvar 0))))], (.tup [.c (.int .i64 (.lit 0)), .c (.int .i64 (.lit 0)), .c (.bool .ff)])⟩,
  ⟨27, [], [(.p (.c (.int .i64 (.lit 26)))), (.p (.c (.bool (.bvar 0))))], (.tup [.c (.int .i64 (.lit 0)), .c (.int .i64 (.lit 0)), .c (.bool .ff)])⟩,
  ⟨27, [], [(.p (.c (.int .i64 (.lit 27)))), (.p (.c (.bool (.bvar 0))))], (.tup [.c (.int .i64 (.lit 0)), .c (.int .i64 (.lit 0)), .c (.bool .ff)])⟩,
  ⟨27, [], [(.p (.c (.int .i64 (.lit 28)))), (.p (.c (.bool (.bvar 0))))], (.tup [.c (.int .i64 (.lit 0)), .c (.int .i64 (.lit 0)), .c (.bool .ff)])⟩
]
set_option maxRecDepth 100000 in
theorem run_cooper_inst_Reach_6 : tplRuns Try.prog sm_cooper_cooperref04_step [] 300 tp_cooper_inst_Reach_6 = true := by kernel_rfl
def tp_cooper_inst_Reach_7 : List Tpl := [
  ⟨27, [], [(.p (.c (.int .i64 (.lit 29)))), (.p (.c (.bool (.bvar 0))))], (.tup [.c (.int .i64 (.lit 0)), .c (.int .i64 (.lit 0)), .c (.bool .ff)])⟩,
  ⟨27, [], [(.p (.c (.int .i64 (.lit 30)))), (.p (.c (.bool (.bvar 0))))], (.tup [.c (.int .i64 (.lit 0)), .c (.int .i64 (.lit 0)), .c (.bool .ff)])⟩,
  ⟨27, [], [(.p (.c (.int .i64 (.lit 31)))), (.p (.c (.bool (.bvar 0))))], (.tup [.c (.int .i64 (.lit 0)), .c (.int .i64 (.lit 0)), .c (.bool .ff)])⟩,
  ⟨27, [], [(.p (.c (.int .i64 (.lit 32)))), (.p (.c (.bool (.bvar 0))))], (.tup [.c (.int .i64 (.lit 0)), .c (.int .i64 (.lit 0)), .c (.bool .ff)])⟩
]
set_option maxRecDepth 100000 in
theorem run_cooper_inst_Reach_7 : tplRuns Try.prog sm_cooper_cooperref04_step [] 300 tp_cooper_inst_Reach_7 = true := by kernel_rfl
def tp_cooper_inst_Reach_8 : List Tpl := [
  ⟨27, [(7, (-9223372036854775808), (-1))], [(.p (.c (.int .i64 (.var 7)))), (.p (.c (.bool (.bvar 0))))], (.tup [.c (.int .i64 (.lit 0)), .c (.int .i64 (.lit 0)), .c (.bool .ff)])⟩,
  ⟨27, [(7, 33, 9223372036854775807)], [(.p (.c (.int .i64 (.var 7)))), (.p (.c (.bool (.bvar 0))))], (.tup [.c (.int .i64 (.lit 0)), .c (.int .i64 (.lit 0)), .c (.bool .ff)])⟩,
  ⟨27, [], [(.p (.c (.int .i64 (.lit 1)))), (.p (.c (.bool .tt)))], (.tup [.c (.int .i64 (.lit (-4294967296))), .c (.int .i64 (.lit 4294963200)), .c (.bool .tt)])⟩,
  ⟨27, [], [(.p (.c (.int .i64 (.lit 1)))), (.p (.c (.bool .ff)))], (.tup [.c (.int .i64 (.lit (-1048576))), .c (.int .i64 (.lit 1048575)), .c (.bool .tt)])⟩
]
set_option maxRecDepth 100000 in
theorem run_cooper_inst_Reach_8 : tplRuns Try.prog sm_cooper_cooperref04_step [] 300 tp_cooper_inst_Reach_8 = true := by kernel_rfl
def tp_cooper_inst_Reach : List Tpl := tp_cooper_inst_Reach_0 ++ (tp_cooper_inst_Reach_1 ++ (tp_cooper_inst_Reach_2 ++ (tp_cooper_inst_Reach_3 ++ (tp_cooper_inst_Reach_4 ++ (tp_cooper_inst_Reach_5 ++ (tp_cooper_inst_Reach_6 ++ (tp_cooper_inst_Reach_7 ++ (tp_cooper_inst_Reach_8))))))))
def sm_cooper_inst_Reach : Sums := (27, tplsSum tp_cooper_inst_Reach) :: sm_cooper_cooperref04_step
set_option maxRecDepth 100000 in
theorem ok_cooper_inst_Reach : AllOk Try.prog GoodL sm_cooper_inst_Reach := stage (mrg := []) (fuel := 300) keepsL ok_cooper_cooperref04_step insM (tplRuns_app run_cooper_inst_Reach_0 (tplRuns_app run_cooper_inst_Reach_1 (tplRuns_app run_cooper_inst_Reach_2 (tplRuns_app run_cooper_inst_Reach_3 (tplRuns_app run_cooper_inst_Reach_4 (tplRuns_app run_cooper_inst_Reach_5 (tplRuns_app run_cooper_inst_Reach_6 (tplRuns_app run_cooper_inst_Reach_7 (run_cooper_inst_Reach_8))))))))) (by kernel_rfl)
def tp_cooper_cooperref04_Reach_0 : List Tpl := [
  ⟨28, [], [(.p (.c (.int .i64 (.lit 0)))), (.p (.c (.bool (.bvar 0))))], (.tup [.c (.int .i64 (.lit 0)), .c (.int .i64 (.lit 0)), .c (.bool .ff)])⟩,
  ⟨28, [], [(.p (.c (.int .i64 (.lit 2)))), (.p (.c (.bool (.bvar 0))))], (.tup [.c (.int .i64 (.lit 0)), .c (.int .i64 (.lit 0)), .c (.bool .ff)])⟩,
  ⟨28, [], [(.p (.c (.int .i64 (.lit 3)))), (.p (.c (.bool (.bvar 0))))], (.tup [.c (.int .i64 (.lit 0)), .c (.int .i64 (.lit 0)), .c (.bool .ff)])⟩,
  ⟨28, [], [(.p (.c (.int .i64 (.lit 4)))), (.p (.c (.bool (.bvar 0))))], (.tup [.c (.int .i64 (.lit 0)), .c (.int .i64 (.lit 0)), .c (.bool .ff)])⟩
]
set_option maxRecDepth 100000 in
theorem run_cooper_cooperref04_Reach_0 : tplRuns Try.prog sm_cooper_inst_Reach [] 300 tp_cooper_cooperref04_Reach_0 = true := by kernel_rfl
def tp_cooper_cooperref04_Reach_1 : List Tpl := [
  ⟨28, [], [(.p (.c (.int .i64 (.lit 5)))), (.p (.c (.bool (.bvar 0))))], (.tup [.c (.int .i64 (.lit 0)), .c (.int .i64 (.lit 0)), .c (.bool .ff)])⟩,
  ⟨28, [], [(.p (.c (.int .i64 (.lit 6)))), (.p (.c (.bool (.bvar 0))))], (.tup [.c (.int .i64 (.lit 0)), .c (.int .i64 (.lit 0)), .c (.bool .ff)])⟩,
  ⟨28, [], [(.p (.c (.int .i64 (.lit 7)))), (.p (.c (.bool (.bvar 0))))], (.tup [.c (.int .i64 (.lit (-1048576))), .c (.int .i64 (.lit 1048572)), .c (.bool .tt)])⟩,
  ⟨28, [], [(.p (.c (.int .i64 (.lit 8)))), (.p (.c (.bool (.bvar 0))))], (.tup [.c (.int .i64 (.lit (-134217728))), .c (.int .i64 (.lit 134217724)), .c (.bool .tt)])⟩
]
set_option maxRecDepth 100000 in
theorem run_cooper_cooperref04_Reach_1 : tplRuns Try.prog sm_cooper_inst_Reach [] 300 tp_cooper_cooperref04_Reach_1 = true := by kernel_rfl
def tp_cooper_cooperref04_Reach_2 : List Tpl := [
  ⟨28, [], [(.p (.c (.int .i64 (.lit 9)))), (.p (.c (.bool (.bvar 0))))], (.tup [.c (.int .i64 (.lit (-1048576))), .c (.int .i64 (.lit 1048572)), .c (.bool .tt)])⟩,
  ⟨28, [], [(.p (.c (.int .i64 (.lit 10)))), (.p (.c (.bool (.bvar 0))))], (.tup [.c (.int .i64 (.lit (-32768))), .c (.int .i64 (.lit 32764)), .c (.bool .tt)])⟩,
  ⟨28, [], [(.p (.c (.int .i64 (.lit 11)))), (.p (.c (.bool (.bvar 0))))], (.tup [.c (.int .i64 (.lit 0)), .c (.int .i64 (.lit 0)), .c (.bool .ff)])⟩,
  ⟨28, [], [(.p (.c (.int .i64 (.lit 12)))), (.p (.c (.bool (.bvar 0))))], (.tup [.c (.int .i64 (.lit 0)), .c (.int .i64 (.lit 0)), .c (.bool .ff)])⟩
]
set_option maxRecDepth 100000 in
theorem run_cooper_cooperref04_Reach_2 : tplRuns Try.prog sm_cooper_inst_Reach [] 300 tp_cooper_cooperref04_Reach_2 = true := by kernel_rfl
def tp_cooper_cooperref04_Reach_3 : List Tpl := [
  ⟨28, [], [(.p (.c (.int .i64 (.lit 13)))), (.p (.c (.bool (.bvar 0))))], (.tup [.c (.int .i64 (.lit 0)), .c (.int .i64 (.lit 0)), .c (.bool .ff)])⟩,
  ⟨28, [], [(.p (.c (.int .i64 (.lit 14)))), (.p (.c (.bool (.bvar 0))))], (.tup [.c (.int .i64 (.lit 0)), .c (.int .i64 (.lit 0)), .c (.bool .ff)])⟩,
  ⟨28, [], [(.p (.c (.int .i64 (.lit 15)))), (.p (.c (.bool (.bvar 0))))], (.tup [.c (.int .i64 (.lit 0)), .c (.int .i64 (.lit 0)), .c (.bool .ff)])⟩,
  ⟨28, [], [(.p (.c (.int .i64 (.lit 16)))), (.p (.c (.bool (.bvar 0))))], (.tup [.c (.int .i64 (.lit 0)), .c (.int .i64 (.lit 0)), .c (.bool .ff)])⟩
]
set_option maxRecDepth 100000 in
theorem run_cooper_cooperref04_Reach_3 : tplRuns Try.prog sm_cooper_inst_Reach [] 300 tp_cooper_cooperref04_Reach_3 = true := by kernel_rfl
def tp_cooper_cooperref04_Reach_4 : List Tpl := [
  ⟨28, [], [(.p (.c (.int .i64 (.lit 17)))), (.p (.c (.bool (.bvar 0))))], (.tup [.c (.int .i64 (.lit 0)), .c (.int .i64 (.lit 0)), .c (.bool .ff)])⟩,
  ⟨28, [], [(.p (.c (.int .i64 (.lit 18)))), (.p (.c (.bool (.bvar 0))))], (.tup [.c (.int .i64 (.lit (-1048576))), .c (.int .i64 (.lit 1048572)), .c (.bool .tt)])⟩,
  ⟨28, [], [(.p (.c (.int .i64 (.lit 19)))), (.p (.c (.bool (.bvar 0))))], (.tup [.c (.int .i64 (.lit 0)), .c (.int .i64 (.lit 0)), .c (.bool .ff)])⟩,
  ⟨28, [], [(.p (.c (.int .i64 (.lit 20)))), (.p (.c (.bool (.bvar 0))))], (.tup [.c (.int .i64 (.lit 0)), .c (.int .i64 (.lit 0)), .c (.bool .ff)])⟩
]
set_option maxRecDepth 100000 in
theorem run_cooper_cooperref04_Reach_4 : tplRuns Try.prog sm_cooper_inst_Reach [] 300 tp_cooper_cooperref04_Reach_4 = true := by kernel_rfl
def tp_cooper_cooperref04_Reach_5 : List Tpl := [
  ⟨28, [], [(.p (.c (.int .i64 (.lit 21)))), (.p (.c (.bool (.bvar 0))))], (.tup [.c (.int .i64 (.lit 0)), .c (.int .i64 (.lit 0)), .c (.bool .ff)])⟩,
  ⟨28, [], [(.p (.c (.int .i64 (.lit 22)))), (.p (.c (.bool (.bvar 0))))], (.tup [.c (.int .i64 (.lit 0)), .c (.int .i64 (.lit 0)), .c (.bool .ff)])⟩,
  ⟨28, [], [(.p (.c (.int .i64 (.lit 23)))), (.p (.c (.bool (.bvar 0))))], (.tup [.c (.int .i64 (.lit 0)), .c (.int .i64 (.lit 0)), .c (.bool .ff)])⟩,
  ⟨28, [], [(.p (.c (.int .i64 (.lit 24)))), (.p (.c (.bool (.bvar 0))))], (.tup [.c (.int .i64 (.lit 0)), .c (.int .i64 (.lit 0)), .c (.bool .ff)])⟩
]
set_option maxRecDepth 100000 in
theorem run_cooper_cooperref04_Reach_5 : tplRuns Try.prog sm_cooper_inst_Reach [] 300 tp_cooper_cooperref04_Reach_5 = true := by kernel_rfl
def tp_cooper_cooperref04_Reach_6 : List Tpl := [
  ⟨28, [], [(.p (.c (.int .i64 (.lit 25)))), (.p (.c (.bool (.bvar 0))))], (.tup [.c (.int .i64 (.lit 0)), .c (.int .i64 (.lit 0)), .c (.bool .ff)])⟩,
  ⟨28, [], [(.p (.c (.int .i64 (.lit 26)))), (.p (.c (.bool (.bvar 0))))], (.tup [.c (.int .i64 (.lit 0)), .c (.int .i64 (.lit 0)), .c (.bool .ff)])⟩,
  ⟨28, [], [(.p (.c (.int .i64 (.lit 27)))), (.p (.c (.bool (.bvar 0))))], (.tup [.c (.int .i64 (.lit 0)), .c (.int .i64 (.lit 0)), .c (.bool .ff)])⟩,
  ⟨28, [], [(.p (.c (.int .i64 (.lit 28)))), (.p (.c (.bool (.bvar 0))))], (.tup [.c (.int .i64 (.lit 0)), .c (.int .i64 (.lit 0)), .c (.bool .ff)])⟩
]
set_option maxRecDepth 100000 in
theorem run_cooper_cooperref04_Reach_6 : tplRuns Try.prog sm_cooper_inst_Reach [] 300 tp_cooper_cooperref04_Reach_6 = true := by kernel_rfl
def tp_cooper_cooperref04_Reach_7 : List Tpl := [
  ⟨28, [], [(.p (.c (.int .i64 (.lit 29)))), (.p (.c (.bool (.bvar 0))))], (.tup [.c (.int .i64 (.lit 0)), .c (.int .i64 (.lit 0)), .c (.bool .ff)])⟩,
  ⟨28, [], [(.p (.c (.int .i64 (.lit 30)))), (.p (.c (.bool (.bvar 0))))], (.tup [.c (.int .i64 (.lit 0)), .c (.int .i64 (.lit 0)), .c (.bool .ff)])⟩,
  ⟨28, [], [(.p (.c (.int .i64 (.lit 31)))), (.p (.c (.bool (.bvar 0))))], (.tup [.c (.int .i64 (.lit 0)), .c (.int .i64 (.lit 0)), .c (.bool .ff)])⟩,
  ⟨28, [], [(.p (.c (.int .i64 (.lit 32)))), (.p (.c (.bool (.bvar 0))))], (.tup [.c (.int .i64 (.lit 0)), .c (.int .i64 (.lit 0)), .c (.bool .ff)])⟩
]
set_option maxRecDepth 100000 in
theorem run_cooper_cooperref04_Reach_7 : tplRuns Try.prog sm_cooper_inst_Reach [] 300 tp_cooper_cooperref04_Reach_7 = true := by kernel_rfl
def tp_cooper_cooperref04_Reach_8 : List Tpl := [
  ⟨28, [(7, (-9223372036854775808), (-1))], [(.p (.c (.int .i64 (.var 7)))), (.p (.c (.bool (.bvar 0))))], (.tup [.c (.int .i64 (.lit 0)), .c (.int .i64 (.lit 0)), .c (.bool .ff)])⟩,
  ⟨28, [(7, 33, 9223372036854775807)], [(.p (.c (.int .i64 (.var 7)))), (.p (.c (.bool (.bvar 0))))], (.tup [.c (.int .i64 (.lit 0)), .c (.int .i64 (.lit 0)), .c (.bool .ff)])⟩,
  ⟨28, [], [(.p (.c (.int .i64 (.lit 1)))), (.p (.c (.bool .tt)))], (.tup [.c (.int .i64 (.lit (-4294967296))), .c (.int .i64 (.lit 4294963200)), .c (.bool .tt)])⟩,
  ⟨28, [], [(.p (.c (.int .i64 (.lit 1)))), (.p (.c (.bool .ff)))], (.tup [.c (.int .i64 (.lit (-1048576))), .c (.int .i64 (.lit 1048575)), .c (.bool .tt)])⟩
]
set_option maxRecDepth 100000 in
theorem run_cooper_cooperref04_Reach_8 : tplRuns Try.prog sm_cooper_inst_Reach [] 300 tp_cooper_cooperref04_Reach_8 = true := by kernel_rfl
def tp_cooper_cooperref04_Reach : List Tpl := tp_cooper_cooperref04_Reach_0 ++ (tp_cooper_cooperref04_Reach_1 ++ (tp_cooper_cooperref04_Reach_2 ++ (tp_cooper_cooperref04_Reach_3 ++ (tp_cooper_cooperref04_Reach_4 ++ (tp_cooper_cooperref04_Reach_5 ++ (tp_cooper_cooperref04_Reach_6 ++ (tp_cooper_cooperref04_Reach_7 ++ (tp_cooper_cooperref04_Reach_8))))))))
def sm_cooper_cooperref04_Reach : Sums := (28, tplsSum tp_cooper_cooperref04_Reach) :: sm_cooper_inst_Reach
set_option maxRecDepth 100000 in
theorem ok_cooper_cooperref04_Reach : AllOk Try.prog GoodL sm_cooper_cooperref04_Reach := stage (mrg := []) (fuel := 300) keepsL ok_cooper_inst_Reach insM (tplRuns_app run_cooper_cooperref04_Reach_0 (tplRuns_app run_cooper_cooperref04_Reach_1 (tplRuns_app run_cooper_cooperref04_Reach_2 (tplRuns_app run_cooper_cooperref04_Reach_3 (tplRuns_app run_cooper_cooperref04_Reach_4 (tplRuns_app run_cooper_cooperref04_Reach_5 (tplRuns_app run_cooper_cooperref04_Reach_6 (tplRuns_app run_cooper_cooperref04_Reach_7 (run_cooper_cooperref04_Reach_8))))))))) (by kernel_rfl)
end
end Go.Proofs.Ytopfaapcekiojaa.Sym
