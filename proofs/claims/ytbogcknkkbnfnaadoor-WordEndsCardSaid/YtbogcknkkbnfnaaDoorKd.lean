/- What the stable sort compares by; copied. -/
import Derived.Test.YtbogcknkkbnfnaaDoorKc
namespace Go.Proofs.YtbogcknkkbnfnaaDoor
open Go.RowKit Go.Proofs.YtbogcknkkbnfnaaDoorW.PrintWords

/-- An element of a row of classes, as its cells. -/
structure El where
  p : Sl
  n : ByteArray
  s : ByteArray
  b : Bool
  f : Sl
  l : Sl
  m : Sl
def El.cells (e : El) : List Value := [.slice e.p.a e.p.n e.p.c, .string e.n, .string e.s, .bool e.b, .slice e.f.a e.f.n e.f.c, .slice e.l.a e.l.n e.l.c, .slice e.m.a e.m.n e.m.c]
def zSl : Sl := ⟨none, 0, 0⟩
def zEl : El := ⟨zSl, ⟨#[]⟩, ⟨#[]⟩, false, zSl, zSl, zSl⟩

set_option maxHeartbeats 1000000 in
/-- The comparison, on whatever two values whose names are a and b: two blocks are made. -/
theorem named1_any (x y : El) (w : World) :
    Calls Tryd.prog 125 #[.agg x.cells.toArray, .agg y.cells.toArray] w fun e w' => e = .returned (.int .i64 (cmpL x.n y.n)) ∧ w' = (w.alloc (.cells x.cells.toArray 57)).alloc (.cells y.cells.toArray 57) := by
  unfold El.cells
  go_enter Tryd.func125, Tryd.ntmps125
  go_wp2_with fail
  refine (compare_any x.n y.n _).mono ?_
  rintro e w1 ⟨rfl, rfl⟩
  go_wp2
  go_ret
  exact ⟨rfl, rfl⟩
end Go.Proofs.YtbogcknkkbnfnaaDoor
