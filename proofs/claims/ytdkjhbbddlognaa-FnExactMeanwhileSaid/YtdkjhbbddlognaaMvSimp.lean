/-
  A part of a theory of trees by which the functions of the program are walked: it proves no statement of the seat by itself; no conditions.
-/
import Derived.Test.YtdkjhbbddlognaaMvFn
namespace Go.Mv
set_option linter.unusedVariables false

section
variable (σ : St) (d i b c off : Nat) (s : SV) (cs new : List SV)
theorem put_slot_eq : (σ.put d s).slot d = s := by simp [St.put]
theorem put_slot_ne (h : (i = d) = False) : (σ.put d s).slot i = σ.slot i := by simp [St.put, h]
theorem put_box : (σ.put d s).box = σ.box := rfl
theorem put_bver : (σ.put d s).bver = σ.bver := rfl
theorem put_ep : (σ.put d s).ep = σ.ep := rfl
theorem newBox_slot : (σ.newBox b cs).slot = σ.slot := rfl
theorem newBox_box_eq : (σ.newBox b cs).box b = some cs := by simp [St.newBox]
theorem newBox_box_ne (h : (c = b) = False) : (σ.newBox b cs).box c = σ.box c := by simp [St.newBox, h]
theorem newBox_bver_eq : (σ.newBox b cs).bver b = σ.bver b + 1 := by simp [St.newBox]
theorem newBox_bver_ne (h : (c = b) = False) : (σ.newBox b cs).bver c = σ.bver c := by simp [St.newBox, h]
theorem newBox_ep : (σ.newBox b cs).ep = σ.ep := rfl
theorem setBox_slot : (σ.setBox b off new).slot = σ.slot := rfl
theorem setBox_box_eq : (σ.setBox b off new).box b = (σ.box b).map (fun cs => cs.take off ++ new ++ cs.drop (off + new.length)) := by simp [St.setBox]
theorem setBox_box_ne (h : (c = b) = False) : (σ.setBox b off new).box c = σ.box c := by simp [St.setBox, h]
theorem setBox_bver : (σ.setBox b off new).bver = σ.bver := rfl
theorem setBox_ep : (σ.setBox b off new).ep = σ.ep := rfl
theorem init_slot (us : List Tr) : (St.init us).slot i = match us[i]? with | some t => ofTr t | none => .dead := rfl
theorem init_box (us : List Tr) : (St.init us).box b = none := rfl
theorem init_bver (us : List Tr) : (St.init us).bver b = 0 := rfl
theorem init_ep (us : List Tr) : (St.init us).ep = 0 := rfl
variable (j e r0 : Nat) (r r' : Root) (sz : Nat) (rows : List (List Tr)) (c0 : Option (Nat × List (List Tr)))
theorem put_arg : (σ.put d s).arg = σ.arg := rfl
theorem newBox_arg : (σ.newBox b cs).arg = σ.arg := rfl
theorem setBox_arg : (σ.setBox b off new).arg = σ.arg := rfl
theorem init_arg (us : List Tr) : (St.init us).arg = fun _ _ => none := rfl
theorem put_ver_cell : (σ.put d s).ver (.cell b j) = σ.ver (.cell b j) := by simp [St.put]
theorem put_ver_arg : (σ.put d s).ver (.arg b j) = σ.ver (.arg b j) := by simp [St.put]
theorem put_ver_eq : (σ.put d s).ver (.slot d) = σ.ver (.slot d) + 1 := by simp [St.put]
theorem put_ver_ne (h : (e = d) = False) : (σ.put d s).ver (.slot e) = σ.ver (.slot e) := by simp [St.put, h]
theorem put_nver_cell : (σ.put d s).nver (.cell b j) = σ.nver (.cell b j) := by simp [St.put]
theorem put_nver_arg : (σ.put d s).nver (.arg b j) = σ.nver (.arg b j) := by simp [St.put]
theorem put_nver_eq : (σ.put d s).nver (.slot d) = σ.nver (.slot d) + 1 := by simp [St.put]
theorem put_nver_ne (h : (e = d) = False) : (σ.put d s).nver (.slot e) = σ.nver (.slot e) := by simp [St.put, h]
theorem newBox_ver_slot : (σ.newBox b cs).ver (.slot e) = σ.ver (.slot e) := rfl
theorem newBox_ver_arg : (σ.newBox b cs).ver (.arg e j) = σ.ver (.arg e j) := rfl
theorem newBox_ver_eq : (σ.newBox b cs).ver (.cell b j) = σ.ver (.cell b j) + 1 := by simp [St.newBox]
theorem newBox_ver_ne (h : (c = b) = False) : (σ.newBox b cs).ver (.cell c j) = σ.ver (.cell c j) := by simp [St.newBox, h]
theorem newBox_nver_slot : (σ.newBox b cs).nver (.slot e) = σ.nver (.slot e) := rfl
theorem newBox_nver_arg : (σ.newBox b cs).nver (.arg e j) = σ.nver (.arg e j) := rfl
theorem newBox_nver_eq : (σ.newBox b cs).nver (.cell b j) = σ.nver (.cell b j) + 1 := by simp [St.newBox]
theorem newBox_nver_ne (h : (c = b) = False) : (σ.newBox b cs).nver (.cell c j) = σ.nver (.cell c j) := by simp [St.newBox, h]
theorem setBox_ver_slot : (σ.setBox b off new).ver (.slot e) = σ.ver (.slot e) := rfl
theorem setBox_ver_arg : (σ.setBox b off new).ver (.arg e j) = σ.ver (.arg e j) := rfl
theorem setBox_ver_eq : (σ.setBox b off new).ver (.cell b j) = if off ≤ j ∧ j < off + new.length then σ.ver (.cell b j) + 1 else σ.ver (.cell b j) := by simp [St.setBox]
theorem setBox_ver_ne (h : (c = b) = False) : (σ.setBox b off new).ver (.cell c j) = σ.ver (.cell c j) := by simp [St.setBox, h]
theorem setBox_nver_slot : (σ.setBox b off new).nver (.slot e) = σ.nver (.slot e) := rfl
theorem setBox_nver_arg : (σ.setBox b off new).nver (.arg e j) = σ.nver (.arg e j) := rfl
theorem setBox_nver_eq : (σ.setBox b off new).nver (.cell b j) = if off ≤ j ∧ j < off + new.length then σ.nver (.cell b j) + 1 else σ.nver (.cell b j) := by simp [St.setBox]
theorem setBox_nver_ne (h : (c = b) = False) : (σ.setBox b off new).nver (.cell c j) = σ.nver (.cell c j) := by simp [St.setBox, h]
theorem init_ver (us : List Tr) : (St.init us).ver r = 0 := rfl
theorem init_nver (us : List Tr) : (St.init us).nver r = 0 := rfl
theorem bump_slot : σ.bump.slot = σ.slot := rfl
theorem bump_box : σ.bump.box = σ.box := rfl
theorem bump_arg : σ.bump.arg = σ.arg := rfl
theorem bump_ver : σ.bump.ver = σ.ver := rfl
theorem bump_nver : σ.bump.nver = σ.nver := rfl
theorem bump_bver : σ.bump.bver = σ.bver := rfl
theorem bump_ep : σ.bump.ep = σ.ep + 1 := rfl
theorem setRows_ver : (σ.setRows r sz rows).ver = σ.ver := by cases r <;> rfl
theorem setRows_bver : (σ.setRows r sz rows).bver = σ.bver := by cases r <;> rfl
theorem setRows_ep : (σ.setRows r sz rows).ep = σ.ep := by cases r <;> rfl
theorem setRows_nver_eq : (σ.setRows r sz rows).nver r = σ.nver r + 1 := by cases r <;> simp [St.setRows]
theorem setRows_nver_ne (h : (r' = r) = False) : (σ.setRows r sz rows).nver r' = σ.nver r' := by cases r <;> simp [St.setRows, h]
theorem setRowsS_slot_eq : (σ.setRows (.slot d) sz rows).slot d = .tr none (.sl true sz rows) := by simp [St.setRows]
theorem setRowsS_slot_ne (h : (i = d) = False) : (σ.setRows (.slot d) sz rows).slot i = σ.slot i := by simp [St.setRows, h]
theorem setRowsS_box : (σ.setRows (.slot d) sz rows).box = σ.box := rfl
theorem setRowsS_arg : (σ.setRows (.slot d) sz rows).arg = σ.arg := rfl
theorem setRowsC_slot : (σ.setRows (.cell b j) sz rows).slot = σ.slot := rfl
theorem setRowsC_box_eq : (σ.setRows (.cell b j) sz rows).box b = (σ.box b).map (·.set j (.tr none (.sl true sz rows))) := by simp [St.setRows]
theorem setRowsC_box_ne (h : (c = b) = False) : (σ.setRows (.cell b j) sz rows).box c = σ.box c := by simp [St.setRows, h]
theorem setRowsC_arg : (σ.setRows (.cell b j) sz rows).arg = σ.arg := rfl
theorem setRowsA_slot : (σ.setRows (.arg b j) sz rows).slot = σ.slot := rfl
theorem setRowsA_box : (σ.setRows (.arg b j) sz rows).box = σ.box := rfl
theorem setRowsA_arg : (σ.setRows (.arg b j) sz rows).arg = fun i' j' => if i' = b ∧ j' = j then some (sz, rows) else σ.arg i' j' := rfl
theorem setRowsQ_nver : (σ.setRowsQ r sz rows).nver = σ.nver := rfl
theorem setRowsQ_ver : (σ.setRowsQ r sz rows).ver = σ.ver := by cases r <;> rfl
theorem setRowsQ_bver : (σ.setRowsQ r sz rows).bver = σ.bver := by cases r <;> rfl
theorem setRowsQ_ep : (σ.setRowsQ r sz rows).ep = σ.ep := by cases r <;> rfl
theorem setRowsQS_slot_eq : (σ.setRowsQ (.slot d) sz rows).slot d = .tr none (.sl true sz rows) := by simp [St.setRowsQ, St.setRows]
theorem setRowsQS_slot_ne (h : (i = d) = False) : (σ.setRowsQ (.slot d) sz rows).slot i = σ.slot i := by simp [St.setRowsQ, St.setRows, h]
theorem setRowsQS_box : (σ.setRowsQ (.slot d) sz rows).box = σ.box := rfl
theorem setRowsQS_arg : (σ.setRowsQ (.slot d) sz rows).arg = σ.arg := rfl
theorem setRowsQC_slot : (σ.setRowsQ (.cell b j) sz rows).slot = σ.slot := rfl
theorem setRowsQC_box_eq : (σ.setRowsQ (.cell b j) sz rows).box b = (σ.box b).map (·.set j (.tr none (.sl true sz rows))) := by simp [St.setRowsQ, St.setRows]
theorem setRowsQC_box_ne (h : (c = b) = False) : (σ.setRowsQ (.cell b j) sz rows).box c = σ.box c := by simp [St.setRowsQ, St.setRows, h]
theorem setRowsQC_arg : (σ.setRowsQ (.cell b j) sz rows).arg = σ.arg := rfl
theorem setRowsQA_slot : (σ.setRowsQ (.arg b j) sz rows).slot = σ.slot := rfl
theorem setRowsQA_box : (σ.setRowsQ (.arg b j) sz rows).box = σ.box := rfl
theorem setRowsQA_arg : (σ.setRowsQ (.arg b j) sz rows).arg = fun i' j' => if i' = b ∧ j' = j then some (sz, rows) else σ.arg i' j' := rfl
theorem setArg_slot : (σ.setArg b j c0).slot = σ.slot := rfl
theorem setArg_box : (σ.setArg b j c0).box = σ.box := rfl
theorem setArg_arg : (σ.setArg b j c0).arg = fun i' j' => if i' = b ∧ j' = j then c0 else σ.arg i' j' := rfl
theorem setArg_bver : (σ.setArg b j c0).bver = σ.bver := rfl
theorem setArg_ep : (σ.setArg b j c0).ep = σ.ep := rfl
theorem setArg_ver : (σ.setArg b j c0).ver = fun r => if r = .arg b j then σ.ver r + 1 else σ.ver r := rfl
theorem setArg_nver : (σ.setArg b j c0).nver = fun r => if r = .arg b j then σ.nver r + 1 else σ.nver r := rfl
end
attribute [simp] put_arg newBox_arg setBox_arg init_arg put_ver_cell put_ver_arg put_ver_eq put_ver_ne put_nver_cell put_nver_arg put_nver_eq put_nver_ne newBox_ver_slot newBox_ver_arg newBox_ver_eq newBox_ver_ne newBox_nver_slot newBox_nver_arg newBox_nver_eq newBox_nver_ne
  setBox_ver_slot setBox_ver_arg setBox_ver_eq setBox_ver_ne setBox_nver_slot setBox_nver_arg setBox_nver_eq setBox_nver_ne init_ver init_nver bump_slot bump_box bump_arg bump_ver bump_nver bump_bver bump_ep setRows_ver setRows_bver setRows_ep setRows_nver_eq setRows_nver_ne
  setRowsS_slot_eq setRowsS_slot_ne setRowsS_box setRowsS_arg setRowsC_slot setRowsC_box_eq setRowsC_box_ne setRowsC_arg setRowsA_slot setRowsA_box setRowsA_arg setRowsQ_nver setRowsQ_ver setRowsQ_bver setRowsQ_ep setRowsQS_slot_eq setRowsQS_slot_ne setRowsQS_box setRowsQS_arg
  setRowsQC_slot setRowsQC_box_eq setRowsQC_box_ne setRowsQC_arg setRowsQA_slot setRowsQA_box setRowsQA_arg setArg_slot setArg_box setArg_arg setArg_bver setArg_ep setArg_ver setArg_nver
end Go.Mv
