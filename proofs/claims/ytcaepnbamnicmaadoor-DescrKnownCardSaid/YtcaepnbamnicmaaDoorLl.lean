/- What the law DescrKnown needs of its texts. -/
import Derived.Test.YtcaepnbamnicmaaDoorRl
import Derived.Test.YtcaepnbamnicmaaDoorOq
import Derived.Carry
import Derived.ShutString
import Derived.ChangeOld
import Derived.SizedLaws
import Derived.Test.YtcaepnbamnicmaaDoorShelfR
import Derived.Test.YtcaepnbamnicmaaDoorDm
import Derived.Test.YtcaepnbamnicmaaDoorPt
namespace Go.Proofs.YtcaepnbamnicmaaDoor.descrKnown
open Go.ChangeShapes Go.WideShapes Go.ChangeAt Go.RowKit
open Go.ChangeMaps (open_string shut_string)
open Go.Proofs.YtcaepnbamnicmaaDoor Go.Proofs.YtcaepnbamnicmaaDoorW.PrintWords

theorem is_text (t : Ty) (w : World) (hS : Sg w) (h : tyOk t = true) :
    Calls Tryd.prog 30 #[.string (tyText t), .agg #[.int .i64 t.k, .string t.n]] w fun e w' => e = .returned (.bool true) ∧ Below w.heap.size w w' := by
  have := is_true (tyText t).data.toList t w hS (by have := tyL_size h; unfold tyL at this; omega) (typeL_of h) h (tx_of _).symm
  rw [tx_of] at this
  exact this
def l64 : List UInt8 := List.replicate 64 110
theorem rep64 : Lib.repeatL [110] 64 = l64 := by decide +kernel
theorem rep16 : Lib.repeatL [73] 16 = List.replicate 16 73 := by rfl
theorem rep17 : Lib.repeatL [73] 17 = List.replicate 17 73 := by rfl
theorem name64 : isName (tx l64) = true := by decide +kernel
theorem size64 : (tx l64).size = 64 := by decide +kernel
def lbad : List UInt8 := 76 :: (l64 ++ [110, 59])
theorem bad1 : typeL lbad = none := Option.isNone_iff_eq_none.1 (by decide +kernel)
theorem bad2 : protoL lbad = none := Option.isNone_iff_eq_none.1 (by decide +kernel)
theorem bad3 : ⟨#[76]⟩ ++ tx l64 ++ ⟨#[110, 59]⟩ = tx lbad := by decide +kernel
def lp16 : List UInt8 := 40 :: (List.replicate 16 73 ++ [41, 91, 74])
def lp17 : List UInt8 := 40 :: (List.replicate 17 73 ++ [41, 86])
def z17 : List Ty := List.replicate 17 zTy
def cells17 : Array Value := madeCells #[.int .i64 0, .string ⟨#[]⟩] 34
theorem cells17_is : cells17.toList = z17.flatMap fun t => [.int .i64 t.k, .string t.n] := by kernel_rfl
theorem mk17 (W : World) : (Instr.makeSlice 27 (.int .i64 17) (.int .i64 17)).run Tryd.prog W = .ok (.slice (some ⟨W.heap.size, 0, none⟩) 17 17) (W.alloc (.cells cells17 23)) := by kernel_rfl
theorem err17 : protoErr ⟨zTy, z17⟩ = 5 := by rfl
def iTy : Ty := ⟨1, ⟨#[]⟩⟩
def p16 : Pr := ⟨⟨5, ⟨#[]⟩⟩, List.replicate 16 iTy⟩
theorem err1 : protoErr ⟨zTy, [zTy]⟩ = 2 := by rfl
theorem errA : protoErr ⟨⟨0, ⟨#[97]⟩⟩, []⟩ = 2 := by rfl
theorem same_pp : (tyEq ⟨5, ⟨#[]⟩⟩ ⟨5, ⟨#[]⟩⟩ && tysEq p16.args p16.args) = true := by rw [tyEq_self, (tysEq_iff _ _).2 rfl]; rfl
theorem same_pq : (tyEq ⟨5, ⟨#[]⟩⟩ zTy && tysEq p16.args []) = false := by rfl
theorem p16_read : protoL lp16 = some p16 := by rfl
theorem p17_read : protoL lp17 = none := by rfl
theorem p16_text : ⟨#[40]⟩ ++ tx (List.replicate 16 73) ++ ⟨#[41, 91, 74]⟩ = tx lp16 := by decide +kernel
theorem p17_text : ⟨#[40]⟩ ++ tx (List.replicate 17 73) ++ ⟨#[41, 86]⟩ = tx lp17 := by decide +kernel
theorem p0_read : protoL [40, 41, 86] = some ⟨zTy, []⟩ := by rfl
theorem repeat_is (s : List UInt8) (c : Nat) (l : List UInt8) (w : World) (h : Lib.repeatL s c = l) (hc : c ≤ 9223372036854775807) (hl : (tx s).size * c ≤ 140737488355328) :
    Calls Tryd.prog 41 #[.string (tx s), .int .i64 c] w fun e w' => e = .returned (.string (tx l)) ∧ Below w.heap.size w w' := by
  have := Tryd.strings_Repeat (tx s) c w hc hl
  rw [tx_toList, h] at this
  exact this
theorem isName_is {s : ByteArray} {b : Bool} (h : isName s = b) (w : World) :
    Calls Tryd.prog 17 #[.string s] w fun e w' => e = .returned (.bool b) ∧ Below w.heap.size w w' := h ▸ isName_any s w
/-- A row of types in a block of its own. -/
theorem rowOf {w : World} {g : Nat} {xs : List Ty} {cs : Array Value} (h : w.heap[g]? = some (.cells cs 23 (0, 0))) (hc : cs.toList = xs.flatMap fun t => [.int .i64 t.k, .string t.n]) (hl : xs.length ≤ 9223372036854775807) : Kd.C kTy w (some ⟨g, 0, none⟩) xs.length xs := by
  refine ⟨rfl, hl, fun _ => ⟨_, rfl, fun j p hp => ⟨[.int .i64 p.k, .string p.n], rfl, kTy_mk w p, fun i u hu => ?_⟩⟩⟩
  rw [Go.Proofs.YtcaepnbamnicmaaDoorW.PrintWords.add_plain]
  refine (blk_cell h (j * 2 + i)).trans ?_
  have key : ∀ (xs : List Ty) (j : Nat), xs[j]? = some p → (xs.flatMap fun t => [Value.int .i64 t.k, Value.string t.n])[j * 2 + i]? = some u := by
    intro xs
    induction xs with
    | nil => intro j hp; simp at hp
    | cons a xs ih =>
      intro j hp
      cases j with
      | zero =>
        simp only [List.getElem?_cons_zero, Option.some.injEq] at hp
        subst hp
        simp only [List.flatMap_cons, Nat.zero_mul, Nat.zero_add]
        have hi : i < 2 := (List.getElem?_eq_some_iff.1 hu).1
        rw [List.getElem?_append_left (by exact hi)]
        exact hu
      | succ j =>
        simp only [List.getElem?_cons_succ] at hp
        have := ih j hp
        simp only [List.flatMap_cons]
        rw [List.getElem?_append_right (by simp only [List.length_cons, List.length_nil]; omega)]
        simp only [List.length_cons, List.length_nil]
        rw [show (j + 1) * 2 + i - (0 + 1 + 1) = j * 2 + i by omega]
        exact this
  rw [← Array.getElem?_toList, hc]
  exact key xs j hp

end Go.Proofs.YtcaepnbamnicmaaDoor.descrKnown
