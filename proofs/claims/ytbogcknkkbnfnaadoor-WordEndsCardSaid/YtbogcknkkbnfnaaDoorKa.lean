/- A class's head: what the package link reads of a class; what it hands on unread is kept as values. -/
import Derived.Test.YtbogcknkkbnfnaaDoorOp
namespace Go.Proofs.YtbogcknkkbnfnaaDoor
open Go.RowKit Go.Proofs.YtbogcknkkbnfnaaDoorW.PrintWords Go.Proofs.YtbogcknkkbnfnaaDoor.Op

theorem hid {p : Prop} (h : p) : Hid p := h
/-- A slice that is handed on unread. -/
structure Sl where
  a : Option Addr
  n : Nat
  c : Nat
def Sl.v (s : Sl) : Value := .slice s.a s.n s.c
def kRaw : Kd Sl := Kd.scalar Sl.v (fun _ => rfl)
structure Cl where
  pool : Sl
  name : ByteArray
  super : ByteArray
  face : Bool
  faces : List ByteArray
  fields : Sl
  methods : Sl
def kStrs : Kd (List ByteArray) := Kd.slice 9 Kd.string
def kCl : Kd Cl := Kd.iso (Kd.pair kRaw (Kd.pair Kd.string (Kd.pair Kd.string (Kd.pair Kd.bool (Kd.pair kStrs (Kd.pair kRaw kRaw)))))) (fun c => (c.pool, c.name, c.super, c.face, c.faces, c.fields, c.methods))
theorem kCl_open {w : World} {x : Cl} {cs : List Value} (h : kCl.K w x cs) : ∃ A c, cs = [.slice x.pool.a x.pool.n x.pool.c, .string x.name, .string x.super, .bool x.face, .slice A x.faces.length c, .slice x.fields.a x.fields.n x.fields.c, .slice x.methods.a x.methods.n x.methods.c] ∧ x.faces.length ≤ c ∧ Kd.C Kd.string w A x.faces.length x.faces := by
  obtain ⟨_, _, rfl, rfl, _, _, rfl, rfl, _, _, rfl, rfl, _, _, rfl, rfl, _, _, rfl, ⟨A, c, rfl, h1, h2⟩, _, _, rfl, rfl, rfl⟩ := h
  exact ⟨A, c, rfl, h1, h2⟩
theorem kCl_sz : kCl.sz = 7 := rfl
end Go.Proofs.YtbogcknkkbnfnaaDoor
