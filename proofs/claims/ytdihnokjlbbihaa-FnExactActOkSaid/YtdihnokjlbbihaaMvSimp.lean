/-
  A part of a theory of trees by which the functions of the program are walked: it proves no statement of the seat by itself; no conditions.
-/
import Derived.Test.YtdihnokjlbbihaaMvFn
namespace Go.Mv
set_option linter.unusedVariables false

section
variable (σ : St) (d i b c off : Nat) (s : SV) (cs new : List SV)
theorem put_slot_eq : (σ.put d s).slot d = s := by simp [St.put]
theorem put_slot_ne (h : (i = d) = False) : (σ.put d s).slot i = σ.slot i := by simp [St.put, h]
theorem put_box : (σ.put d s).box = σ.box := rfl
theorem put_bver : (σ.put d s).bver = σ.bver := rfl
theorem put_ep : (σ.put d s).ep = σ.ep := rfl
theorem newBox_slot : (σ.newBox b cs).slot = σ.slot := rfl
theorem newBox_box_eq : (σ.newBox b cs).box b = some cs := by simp [St.newBox]
theorem newBox_box_ne (h : (c = b) = False) : (σ.newBox b cs).box c = σ.box c := by simp [St.newBox, h]
theorem newBox_bver_eq : (σ.newBox b cs).bver b = σ.bver b + 1 := by simp [St.newBox]
theorem newBox_bver_ne (h : (c = b) = False) : (σ.newBox b cs).bver c = σ.bver c := by simp [St.newBox, h]
theorem newBox_ep : (σ.newBox b cs).ep = σ.ep := rfl
theorem setBox_slot : (σ.setBox b off new).slot = σ.slot := rfl
theorem setBox_box_eq : (σ.setBox b off new).box b = (σ.box b).map (fun cs => cs.take off ++ new ++ cs.drop (off + new.length)) := by simp [St.setBox]
theorem setBox_box_ne (h : (c = b) = False) : (σ.setBox b off new).box c = σ.box c := by simp [St.setBox, h]
theorem setBox_bver : (σ.setBox b off new).bver = σ.bver := rfl
theorem setBox_ep : (σ.setBox b off new).ep = σ.ep := rfl
theorem init_slot (us : List Tr) : (St.init us).slot i = match us[i]? with | some t => ofTr t | none => .dead := rfl
theorem init_box (us : List Tr) : (St.init us).box b = none := rfl
theorem init_bver (us : List Tr) : (St.init us).bver b = 0 := rfl
theorem init_ep (us : List Tr) : (St.init us).ep = 0 := rfl
end
end Go.Mv
