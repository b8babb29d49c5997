/- Blocks: the base: rows of integers, of ways, of blocks. -/
import Derived.Test.YthjjkpkohhmgcaaOp
import Derived.Test.YthjjkpkohhmgcaaProg
import Derived.Deep.RegionWith
import Derived.Deep.RegionHeld3
import Derived.Deep.RegionLaw
import Derived.WalkKit
import Derived.WalkSpells
import Derived.Laws.Rows
import Derived.BigQuiet
namespace Go.Proofs.Ythjjkpkohhmgcaa
open Go.RowKit Go.Proofs.YthjjkpkohhmgcaaW.PrintWords Go.Proofs.Ythjjkpkohhmgcaa.Op

theorem hid {p : Prop} (h : p) : Hid p := h
theorem infoInt : (Try.prog.info? 3).map (fun i => (i.zero, i.size, i.bytes)) = some (some (.int .i64 0), 1, 8) := by kernel_rfl
def kI : Kd Int := Kd.int .i64
def kIs : Kd (List Int) := Kd.slice 3 kI
def kW : Kd (Int × Int) := Kd.pair kI kI
theorem kW_open {w : World} {x : Int × Int} {cs : List Value} (h : kW.K w x cs) : cs = [.int .i64 x.1, .int .i64 x.2] := by
  obtain ⟨_, _, rfl, rfl, rfl⟩ := h
  rfl
/-- A block. -/
structure Bk where
  lo : Int
  hi : Int
  goes : List Int
  seen : Bool
def kB : Kd Bk := Kd.iso (Kd.pair kI (Kd.pair kI (Kd.pair kIs Kd.bool))) (fun b => (b.lo, b.hi, b.goes, b.seen))
theorem kB_open {w : World} {x : Bk} {cs : List Value} (h : kB.K w x cs) : ∃ A c, cs = [.int .i64 x.lo, .int .i64 x.hi, .slice A x.goes.length c, .bool x.seen] ∧ x.goes.length ≤ c ∧ kI.C w A x.goes.length x.goes := by
  obtain ⟨_, _, rfl, rfl, _, _, rfl, rfl, _, _, rfl, ⟨A, c, rfl, h1, h2⟩, rfl⟩ := h
  exact ⟨A, c, rfl, h1, h2⟩
theorem kB_mk (w : World) (x : Bk) (A : Option Addr) (c : Nat) (hl : x.goes.length ≤ c) (hC : kI.C w A x.goes.length x.goes) : kB.K w x [.int .i64 x.lo, .int .i64 x.hi, .slice A x.goes.length c, .bool x.seen] :=
  ⟨[_], _, rfl, rfl, [_], _, rfl, rfl, [_], _, rfl, ⟨A, c, rfl, hl, hC⟩, rfl⟩
theorem kB_sz : kB.sz = 4 := rfl
/-- A row that is read lies at a plain address. -/
theorem C_plain {α : Type} {k : Kd α} {w : World} {A : Option Addr} {n : Nat} {xs : List α} (h : k.C w A n xs) (hn : 0 < n) (hs : 0 < k.sz) : ∃ b off, A = some ⟨b, off, none⟩ := by
  obtain ⟨h1, _, h3⟩ := h
  obtain ⟨ad, rfl, h4⟩ := h3 hn
  obtain ⟨p, hp⟩ : ∃ p, xs[0]? = some p := ⟨xs[0], by rw [List.getElem?_eq_getElem]⟩
  obtain ⟨c, hc, _, h5⟩ := h4 0 p hp
  obtain ⟨u, hu⟩ : ∃ u, c[0]? = some u := ⟨c[0], by rw [List.getElem?_eq_getElem]⟩
  have := h5 0 u hu
  obtain ⟨b, off, spot⟩ := ad
  cases spot with
  | none => exact ⟨b, off, rfl⟩
  | some s =>
    exfalso
    simp only [Nat.zero_mul, Nat.add_zero, Addr.add, if_true, World.cell?] at this
    split at this <;> simp at this
theorem C_scalar {α : Type} {enc : α → Value} {h1 : ∀ x, (enc x).oneCell' = true} {w : World} {b off n : Nat} {xs : List α} (h : (Kd.scalar enc h1).C w (some ⟨b, off, none⟩) n xs) (z : α) : ∀ j, j < xs.length → w.cell? ⟨b, off + j, none⟩ = some (enc (xs.getD j z)) := by
  intro j hj
  obtain ⟨hl, _, h3⟩ := h
  obtain ⟨ad, e, h4⟩ := h3 (by omega)
  cases e
  obtain ⟨c, hc, hk, h5⟩ := h4 j xs[j] (List.getElem?_eq_getElem hj)
  have hk' : c = [enc xs[j]] := hk
  subst hk'
  have := h5 0 _ rfl
  have e2 : (⟨b, off, none⟩ : Addr).add (j * (Kd.scalar enc h1).sz + 0) = ⟨b, off + j, none⟩ := by
    show (⟨b, off, none⟩ : Addr).add (j * 1 + 0) = _
    unfold Addr.add
    split
    · have : j = 0 := by omega
      subst this; rfl
    · simp
  rw [e2] at this
  rw [this]
  simp [List.getD, hj]
/-- A cell of an elder block is written. -/
theorem R_old {α : Type} {d : Kd α} {e : Nat} {w : World} {base : Nat} {ok : Nat → Prop} {v : Value} {xs : List α} (h : d.R e w base ok v xs) {p : Addr} (hp : p.block < base) (u : Value) : d.R e (w.setCell p u) base ok v xs :=
  Kd.R_mono (Kd.R_far (Kd.R_bound h) (fun k hk => by have := hk.2.1; omega) u) (fun _ hk => hk.1)
theorem R_ne {α : Type} {d : Kd α} {e : Nat} {w : World} {base : Nat} {ok : Nat → Prop} {v : Value} {xs : List α} (h : d.R e w base ok v xs) {g t : Nat} {cs : Array Value} (hb : w.heap[g]? = some (.cells cs t (0, 0))) (ht : e ≠ t) : some g ≠ v.ownBlock := by
  intro hg
  obtain ⟨inner, ho⟩ := Kd.R_own h
  obtain ⟨cells, hc⟩ := own_typed ho g hg.symm
  rw [hc] at hb
  injection hb with hb
  injection hb with h1 h2 h3
  exact ht h2
theorem R_one {W : World} {base b : Nat} {x : Int} (h : W.heap[b]? = some (.cells #[.int .i64 x] 3 (0, 0))) (hb : base ≤ b) : kI.R 3 W base (fun _ => True) (.slice (some ⟨b, 0, none⟩) 1 1) [x] :=
  Kd.R_of_own (h1 := fun _ => rfl) ⟨rfl, .inr ⟨b, 1, #[.int .i64 x], rfl, hb, h, Nat.le_refl 1, by decide, rfl, rfl⟩⟩ (fun _ _ => trivial)
theorem C_reps {α : Type} {d : Kd α} {w : World} {g : Nat} {cs : List Value} {t : TypeId} {xs : List α} (hg : w.heap[g]? = some (.cells cs.toArray t (0, 0))) (h : Reps (d.K w) d.sz xs cs) (hn : xs.length ≤ 9223372036854775807) : d.C w (some ⟨g, 0, none⟩) xs.length xs := by
  refine ⟨rfl, hn, fun _ => ⟨_, rfl, fun j p hp => ⟨(cs.drop (j * d.sz)).take d.sz, ?_, h.2 j p hp, fun i u hu => ?_⟩⟩⟩
  · have hj := (List.getElem?_eq_some_iff.1 hp).1
    have : j * d.sz + d.sz ≤ xs.length * d.sz := by rw [← Nat.succ_mul]; exact Nat.mul_le_mul_right _ hj
    rw [List.length_take, List.length_drop, h.1]
    omega
  · rw [add_plain, blk_cell hg]
    rw [List.getElem?_take] at hu
    split at hu
    · rw [List.getElem?_drop] at hu
      simpa using hu
    · cases hu
theorem R_sl {α : Type} {d : Kd α} {e : Nat} {w : World} {base : Nat} {ok : Nat → Prop} {v : Value} {xs : List α} (h : d.R e w base ok v xs) : ∃ A n c, v = .slice A n c := by
  obtain ⟨A, c, e⟩ := Kd.R_slice h
  exact ⟨_, _, _, e⟩
end Go.Proofs.Ythjjkpkohhmgcaa
