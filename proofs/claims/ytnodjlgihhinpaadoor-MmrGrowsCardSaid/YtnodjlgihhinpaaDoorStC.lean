/- The store: a node that is laid. -/
import Derived.Test.YtnodjlgihhinpaaDoorStB
import Derived.Deep.LoopGhost
import Derived.Maps.AppendAt
namespace Go.Proofs.YtnodjlgihhinpaaDoor
open Go.RowKit
set_option linter.unusedVariables false
set_option linter.unusedSimpArgs false

def layNs (ns : List (Option (Array Value))) (at_ : Nat) (h : Array Value) : List (Option (Array Value)) := (ns ++ List.replicate (at_ + 1 - ns.length) none).set at_ (some h)

theorem layNs_length (ns : List (Option (Array Value))) (at_ : Nat) (h : Array Value) : (layNs ns at_ h).length = max ns.length (at_ + 1) := by
  simp [layNs]; omega
theorem layNs_get (ns : List (Option (Array Value))) (at_ : Nat) (h : Array Value) (i : Nat) : ((layNs ns at_ h)[i]?).join = if i = at_ then some h else (ns[i]?).join := by
  unfold layNs
  by_cases hi : i = at_
  · subst hi
    rw [if_pos rfl, List.getElem?_set_self (by simp; omega)]
    rfl
  · rw [if_neg hi, List.getElem?_set_ne (fun e => hi e.symm)]
    by_cases hl : i < ns.length
    · rw [List.getElem?_append_left hl]
    · have e0 : ns[i]? = none := List.getElem?_eq_none (by omega)
      rw [List.getElem?_append_right (by omega), e0]
      by_cases hr : i - ns.length < at_ + 1 - ns.length
      · simp [hr]
      · rw [List.getElem?_eq_none (by simp only [List.length_replicate]; omega)]
theorem layNs_live (ns : List (Option (Array Value))) (at_ : Nat) (h : Array Value) (hn : (ns[at_]?).join = none) : liveOf (layNs ns at_ h) = liveOf ns + 1 := by
  have e : ∀ m, liveOf (ns ++ List.replicate m none) = liveOf ns := by intro m; simp [liveOf, List.countP_append, List.countP_replicate]
  rw [← e (at_ + 1 - ns.length)]
  unfold layNs
  generalize hl : ns ++ List.replicate (at_ + 1 - ns.length) none = l
  have h1 : at_ < l.length := by rw [← hl]; simp; omega
  have h2 : l[at_] = none := by
    have : (l[at_]?).join = none := by
      rw [← hl]
      by_cases hq : at_ < ns.length
      · rw [List.getElem?_append_left hq]; exact hn
      · rw [List.getElem?_append_right (by omega)]
        by_cases hr : at_ - ns.length < at_ + 1 - ns.length
        · simp [hr]
        · rw [List.getElem?_eq_none (by simp; omega)]; rfl
    rw [List.getElem?_eq_getElem h1] at this
    simpa using this
  clear hl e hn
  unfold liveOf
  rw [List.countP_set h1]
  simp [h2]
theorem layNs_hash {ns : List (Option (Array Value))} {at_ : Nat} {h : Array Value} (hh : IsHash h) (hns : ∀ q, some q ∈ ns → IsHash q) : ∀ q, some q ∈ layNs ns at_ h → IsHash q := by
  intro q hq
  unfold layNs at hq
  rcases List.mem_or_eq_of_mem_set hq with hq | hq
  · rw [List.mem_append] at hq
    rcases hq with hq | hq
    · exact hns q hq
    · simp [List.mem_replicate] at hq
  · simp at hq; subst hq; exact hh

theorem cellsOf_append (a b : List (Option (Array Value))) : cellsOf (a ++ b) = cellsOf a ++ cellsOf b := by simp [cellsOf]
theorem nodeCells_none : nodeCells none = (nodeOf zeroHash false).toList := by simp [nodeCells, nodeOf]
theorem nodeCells_some (h : Array Value) : nodeCells (some h) = (nodeOf h true).toList := by simp [nodeCells, nodeOf]
theorem nodeCells_length {o : Option (Array Value)} (hh : ∀ h, o = some h → IsHash h) : (nodeCells o).length = 33 := by
  cases o with
  | none => simp [nodeCells, zeroHash]
  | some h => simp [nodeCells, (hh h rfl).1]
theorem cellsOf_length {ns : List (Option (Array Value))} (hh : ∀ h, some h ∈ ns → IsHash h) : (cellsOf ns).length = ns.length * 33 := by
  induction ns with
  | nil => rfl
  | cons o ns ih =>
    have e : cellsOf (o :: ns) = nodeCells o ++ cellsOf ns := by simp [cellsOf]
    rw [e, List.length_append, nodeCells_length (fun h q => hh h (by simp [q])), ih (fun h q => hh h (by simp [q])), List.length_cons]
    omega
theorem cellsOf_cons (o : Option (Array Value)) (ns : List (Option (Array Value))) : cellsOf (o :: ns) = nodeCells o ++ cellsOf ns := by simp [cellsOf]
theorem cellsOf_set {ns : List (Option (Array Value))} (hh : ∀ h, some h ∈ ns → IsHash h) {i : Nat} (hi : i < ns.length) {o : Option (Array Value)} :
    cellsOf (ns.set i o) = (cellsOf ns).take (i * 33) ++ nodeCells o ++ (cellsOf ns).drop (i * 33 + 33) := by
  have hd : ns = ns.take i ++ (ns[i] :: ns.drop (i + 1)) := by rw [← List.drop_eq_getElem_cons hi, List.take_append_drop]
  have e1 : cellsOf ns = cellsOf (ns.take i) ++ (nodeCells ns[i] ++ cellsOf (ns.drop (i + 1))) := (congrArg cellsOf hd).trans (by rw [cellsOf_append, cellsOf_cons])
  have l1 : (cellsOf (ns.take i)).length = i * 33 := by
    rw [cellsOf_length (fun h q => hh h (List.mem_of_mem_take q))]; simp; omega
  have l2 : (nodeCells ns[i]).length = 33 := nodeCells_length (fun h q => hh h (by rw [← q]; exact List.getElem_mem hi))
  rw [List.set_eq_take_append_cons_drop, if_pos hi, cellsOf_append, cellsOf_cons, e1]
  generalize cellsOf (ns.take i) = A at *
  generalize nodeCells ns[i] = B at *
  generalize cellsOf (ns.drop (i + 1)) = C at *
  have e2 : (A ++ (B ++ C)).take (i * 33) = A := by rw [← l1, List.take_left]
  have e3 : (A ++ (B ++ C)).drop (i * 33 + 33) = C := by
    rw [← List.append_assoc, show i * 33 + 33 = (A ++ B).length from by simp [l1, l2], List.drop_left]
  rw [e2, e3]
  simp
end Go.Proofs.YtnodjlgihhinpaaDoor
