/- What the program's head says, word by word: how it was made, that it may be entered. -/
import Derived.Test.YtdpbbnnlbjgjgaaGreatRows
import Derived.KernelRfl
import Derived.JoinedOf
set_option maxRecDepth 100000
namespace Go.Proofs.YtdpbbnnlbjgjgaaGreat.Head
def w1 : List Char := [Char.ofNat 104, Char.ofNat 97, Char.ofNat 114, Char.ofNat 110, Char.ofNat 101, Char.ofNat 115, Char.ofNat 115]
def w2 : List Char := [Char.ofNat 50, Char.ofNat 53, Char.ofNat 55, Char.ofNat 54, Char.ofNat 56, Char.ofNat 101, Char.ofNat 52, Char.ofNat 54, Char.ofNat 57, Char.ofNat 55, Char.ofNat 98, Char.ofNat 51, Char.ofNat 98, Char.ofNat 100, Char.ofNat 99, Char.ofNat 51, Char.ofNat 50, Char.ofNat 53, Char.ofNat 99, Char.ofNat 56, Char.ofNat 52, Char.ofNat 49, Char.ofNat 54, Char.ofNat 57, Char.ofNat 55, Char.ofNat 99, Char.ofNat 53, Char.ofNat 98, Char.ofNat 98, Char.ofNat 54, Char.ofNat 49, Char.ofNat 57, Char.ofNat 52, Char.ofNat 57, Char.ofNat 53, Char.ofNat 54, Char.ofNat 52, Char.ofNat 48, Char.ofNat 97, Char.ofNat 53, Char.ofNat 99, Char.ofNat 49, Char.ofNat 53, Char.ofNat 101, Char.ofNat 49, Char.ofNat 56, Char.ofNat 49, Char.ofNat 97, Char.ofNat 51, Char.ofNat 51, Char.ofNat 55, Char.ofNat 54, Char.ofNat 48, Char.ofNat 48, Char.ofNat 98, Char.ofNat 54, Char.ofNat 100, Char.ofNat 49, Char.ofNat 99, Char.ofNat 100, Char.ofNat 53, Char.ofNat 102, Char.ofNat 101, Char.ofNat 100]
def w3 : List Char := [Char.ofNat 99, Char.ofNat 117, Char.ofNat 116]
def wr : List Char := [Char.ofNat 97, Char.ofNat 116, Char.ofNat 32, Char.ofNat 114, Char.ofNat 101, Char.ofNat 109, Char.ofNat 101, Char.ofNat 109, Char.ofNat 98, Char.ofNat 114, Char.ofNat 97, Char.ofNat 110, Char.ofNat 99, Char.ofNat 101, Char.ofNat 114, Char.ofNat 47, Char.ofNat 114, Char.ofNat 101, Char.ofNat 109, Char.ofNat 101, Char.ofNat 109, Char.ofNat 98, Char.ofNat 114, Char.ofNat 97, Char.ofNat 110, Char.ofNat 99, Char.ofNat 101, Char.ofNat 114, Char.ofNat 108, Char.ofNat 97, Char.ofNat 119, Char.ofNat 55, Char.ofNat 46, Char.ofNat 83, Char.ofNat 116, Char.ofNat 97, Char.ofNat 116, Char.ofNat 101, Char.ofNat 65, Char.ofNat 108, Char.ofNat 108, Char.ofNat 32, Char.ofNat 114, Char.ofNat 101, Char.ofNat 109, Char.ofNat 101, Char.ofNat 109, Char.ofNat 98, Char.ofNat 114, Char.ofNat 97, Char.ofNat 110, Char.ofNat 99, Char.ofNat 101, Char.ofNat 114, Char.ofNat 47, Char.ofNat 114, Char.ofNat 101, Char.ofNat 109, Char.ofNat 101, Char.ofNat 109, Char.ofNat 98, Char.ofNat 114, Char.ofNat 97, Char.ofNat 110, Char.ofNat 99, Char.ofNat 101, Char.ofNat 114, Char.ofNat 108, Char.ofNat 97, Char.ofNat 119, Char.ofNat 55, Char.ofNat 46, Char.ofNat 83, Char.ofNat 116, Char.ofNat 97, Char.ofNat 116, Char.ofNat 101, Char.ofNat 79, Char.ofNat 119, Char.ofNat 110, Char.ofNat 32, Char.ofNat 114, Char.ofNat 101, Char.ofNat 109, Char.ofNat 101, Char.ofNat 109, Char.ofNat 98, Char.ofNat 114, Char.ofNat 97, Char.ofNat 110, Char.ofNat 99, Char.ofNat 101, Char.ofNat 114, Char.ofNat 47, Char.ofNat 114, Char.ofNat 101, Char.ofNat 109, Char.ofNat 101, Char.ofNat 109, Char.ofNat 98, Char.ofNat 114, Char.ofNat 97, Char.ofNat 110, Char.ofNat 99, Char.ofNat 101, Char.ofNat 114, Char.ofNat 108, Char.ofNat 97, Char.ofNat 119, Char.ofNat 55, Char.ofNat 46, Char.ofNat 83, Char.ofNat 116, Char.ofNat 97, Char.ofNat 116, Char.ofNat 101, Char.ofNat 67, Char.ofNat 111, Char.ofNat 112, Char.ofNat 121, Char.ofNat 32, Char.ofNat 114, Char.ofNat 101, Char.ofNat 109, Char.ofNat 101, Char.ofNat 109, Char.ofNat 98, Char.ofNat 114, Char.ofNat 97, Char.ofNat 110, Char.ofNat 99, Char.ofNat 101, Char.ofNat 114, Char.ofNat 47, Char.ofNat 114, Char.ofNat 101, Char.ofNat 109, Char.ofNat 101, Char.ofNat 109, Char.ofNat 98, Char.ofNat 114, Char.ofNat 97, Char.ofNat 110, Char.ofNat 99, Char.ofNat 101, Char.ofNat 114, Char.ofNat 108, Char.ofNat 97, Char.ofNat 119, Char.ofNat 55, Char.ofNat 46, Char.ofNat 83, Char.ofNat 116, Char.ofNat 97, Char.ofNat 116, Char.ofNat 101, Char.ofNat 76, Char.ofNat 111, Char.ofNat 97, Char.ofNat 100, Char.ofNat 32, Char.ofNat 114, Char.ofNat 101, Char.ofNat 109, Char.ofNat 101, Char.ofNat 109, Char.ofNat 98, Char.ofNat 114, Char.ofNat 97, Char.ofNat 110, Char.ofNat 99, Char.ofNat 101, Char.ofNat 114, Char.ofNat 47, Char.ofNat 114, Char.ofNat 101, Char.ofNat 109, Char.ofNat 101, Char.ofNat 109, Char.ofNat 98, Char.ofNat 114, Char.ofNat 97, Char.ofNat 110, Char.ofNat 99, Char.ofNat 101, Char.ofNat 114, Char.ofNat 108, Char.ofNat 97, Char.ofNat 119, Char.ofNat 55, Char.ofNat 46, Char.ofNat 83, Char.ofNat 116, Char.ofNat 97, Char.ofNat 116, Char.ofNat 101, Char.ofNat 67, Char.ofNat 101, Char.ofNat 108, Char.ofNat 108, Char.ofNat 115]
theorem io : Tryz.prog.initOrder = String.ofList (w1 ++ Char.ofNat 32 :: (w2 ++ Char.ofNat 32 :: (w3 ++ Char.ofNat 32 :: wr))) := by kernel_rfl
theorem words_word : ∀ (w r : List Char), (w.all fun c => c != Char.ofNat 32) = true → wordsSigns (w ++ Char.ofNat 32 :: r) = w :: wordsSigns r
  | [], r, _ => rfl
  | c :: w, r, h => by
    simp only [List.all_cons, Bool.and_eq_true, bne_iff_ne, ne_eq] at h
    have ih := words_word w r h.2
    have hc : c ≠ Char.ofNat 32 := h.1
    rw [List.cons_append]
    have e : wordsSigns (c :: (w ++ Char.ofNat 32 :: r)) = match wordsSigns (w ++ Char.ofNat 32 :: r) with
        | w :: ws => (c :: w) :: ws
        | [] => [[c]] := by
      conv => lhs; unfold wordsSigns
      split
      · rename_i heq; cases heq
      · rename_i heq
        cases heq
        exact absurd rfl hc
      · rename_i heq
        cases heq
        rfl
    rw [e, ih]
theorem ws : wordsSigns Tryz.prog.initOrder.toList = w1 :: w2 :: w3 :: wordsSigns wr := by
  rw [io, String.toList_ofList, words_word w1 _ (by decide +kernel), words_word w2 _ (by decide +kernel), words_word w3 _ (by decide +kernel)]
theorem behind (X : List (List Char)) : behindMainWord (w1 :: w2 :: w3 :: X) = w3 :: X := by
  show (if ((w1 == "harness".toList || w1 == "ownmain".toList) && isSumSigns w2) = true then w3 :: X else w1 :: w2 :: w3 :: X) = w3 :: X
  rw [if_pos (by decide +kernel)]
theorem n1 : (w3 == "gc".toList) = false := by decide +kernel
theorem n2 : (w3 == "spec".toList) = false := by decide +kernel
theorem n3 : (w3 == "carried".toList) = false := by decide +kernel
theorem y1 : (w3 == "cut".toList) = true := by decide +kernel
theorem make_of {P : Program} {w : List Char} {X : List (List Char)} (h : behindMainWord (wordsSigns P.initOrder.toList) = w :: X) (n1 : (w == "gc".toList) = false) (n2 : (w == "spec".toList) = false) (y1 : (w == "cut".toList) = true) : P.make = some .cut := by
  unfold Program.make
  rw [h]
  simp only [n1, n2, y1, Bool.or_false, Bool.true_or, Bool.false_eq_true, if_false, if_true]
theorem head : behindMainWord (wordsSigns Tryz.prog.initOrder.toList) = w3 :: wordsSigns wr := by rw [ws, behind]
theorem make : Tryz.prog.make = some .cut := make_of head n1 n2 y1
theorem lifts : Tryz.prog.headLifts = [] := by
  unfold Program.headLifts
  rw [ws, behind]
  generalize wordsSigns wr = X
  kernel_rfl
theorem liftsFinal : Tryz.prog.liftsFinal = false := by
  unfold Program.liftsFinal
  rw [lifts, ws, behind]
  generalize wordsSigns wr = X
  kernel_rfl
theorem strip (X : List (List Char)) : stripLifts liftWords (w3 :: X) = ([], w3 :: X) := by kernel_rfl
theorem later : Tryz.prog.laysLater = false := by kernel_rfl
theorem reflect : Tryz.prog.bearsReflect = false := by kernel_rfl
theorem door : Tryz.prog.doorFits [] = true := by kernel_rfl
theorem y2 : (some w3 == some "cut".toList) = true := by decide +kernel
theorem enter_of {P : Program} {w : List Char} {X : List (List Char)} (h : behindMainWord (wordsSigns P.initOrder.toList) = w :: X) (n1 : (w == "gc".toList) = false) (n2 : (w == "spec".toList) = false) (n3 : (w == "carried".toList) = false) (y2 : (some w == some "cut".toList) = true)
    (strip : stripLifts liftWords (w :: X) = ([], w :: X)) (later : P.laysLater = false) (reflect : P.bearsReflect = false) (door : P.doorFits [] = true) : P.mayEnter = true := by
  unfold Program.mayEnter
  rw [h]
  simp only [strip, n1, n2, n3, later, reflect, door, List.head?_cons, y2, List.contains_nil, Bool.or_false, Bool.false_or, Bool.false_and, Bool.not_false, Bool.and_true]
theorem mayEnter : Tryz.prog.mayEnter = true := enter_of head n1 n2 n3 y2 (strip _) later reflect door
end Go.Proofs.YtdpbbnnlbjgjgaaGreat.Head
