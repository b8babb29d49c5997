/- The numbers of classes: a list's names, a map's entries; the set's block. -/
import Derived.Test.YtbogcknkkbnfnaaDoorKn
import Derived.Maps.OwnSet
import Derived.Maps.OwnOps
import Derived.Laws.Rows
import Derived.Deep.RegionLaw
namespace Go.Proofs.YtbogcknkkbnfnaaDoor
open Go.RowKit Go.Proofs.YtbogcknkkbnfnaaDoorW.PrintWords Go.Maps Go.WideMaps

def nmEq (a b : ByteArray) : Bool := a.data.toList == b.data.toList
theorem nmEq_iff {a b : ByteArray} : nmEq a b = true ↔ a = b := by
  unfold nmEq
  rw [beq_iff_eq]
  exact ⟨fun h => Go.WideShapes.bytes_inj h, fun h => by rw [h]⟩
theorem nmEq_ne {a b : ByteArray} : nmEq a b = false ↔ a ≠ b := by
  rw [← Bool.not_eq_true, nmEq_iff]
/-- The number of a name: the first class of that name. -/
def numOf (L : List Cl) (s : ByteArray) : Option Nat := L.findIdx? (fun c => nmEq c.name s)
theorem numOf_nil (s : ByteArray) : numOf [] s = none := rfl
theorem numOf_append (L M : List Cl) (s : ByteArray) : numOf (L ++ M) s = (numOf L s).or ((numOf M s).map (· + L.length)) := by
  unfold numOf
  rw [List.findIdx?_append]
theorem numOf_snoc (L : List Cl) (c : Cl) (s : ByteArray) : numOf (L ++ [c]) s = match numOf L s with | some i => some i | none => if nmEq c.name s then some L.length else none := by
  rw [numOf_append]
  cases numOf L s with
  | some i => rfl
  | none =>
    simp only [numOf, List.findIdx?_cons, List.findIdx?_nil]
    cases nmEq c.name s <;> simp
theorem numOf_some {L : List Cl} {s : ByteArray} {i : Nat} (h : numOf L s = some i) : ∃ c, L[i]? = some c ∧ c.name = s := by
  unfold numOf at h
  rw [List.findIdx?_eq_some_iff_getElem] at h
  obtain ⟨hi, h1, _⟩ := h
  exact ⟨L[i], List.getElem?_eq_getElem hi, nmEq_iff.1 h1⟩
theorem numOf_lt {L : List Cl} {s : ByteArray} {i : Nat} (h : numOf L s = some i) : i < L.length := by
  obtain ⟨c, hc, _⟩ := numOf_some h
  exact (List.getElem?_eq_some_iff.1 hc).1
theorem numOf_none {L : List Cl} {s : ByteArray} : numOf L s = none ↔ ∀ c ∈ L, c.name ≠ s := by
  unfold numOf
  rw [List.findIdx?_eq_none_iff]
  exact ⟨fun h c hc => nmEq_ne.1 (h c hc), fun h c hc => nmEq_ne.2 (h c hc)⟩
def zCl : Cl := ⟨zSl, ⟨#[]⟩, ⟨#[]⟩, false, [], zSl, zSl⟩
/-- Is a class's name one of those ahead? -/
def dupAt (L : List Cl) (k : Nat) : Bool := (numOf (L.take k) (L.getD k zCl).name).isSome
/-- The first number of which something is so. -/
def firstI (p : Nat → Bool) (n : Nat) : Option Nat := (List.range n).find? p
theorem firstI_some {p : Nat → Bool} {n k : Nat} (h : ∀ j, j < k → p j = false) (hk : k < n) (hp : p k = true) : firstI p n = some k := by
  unfold firstI
  rw [List.find?_range_eq_some]
  exact ⟨hp, by simpa using hk, fun j hj => by rw [h j hj]; rfl⟩
theorem firstI_none {p : Nat → Bool} {n : Nat} (h : ∀ j, j < n → p j = false) : firstI p n = none := by
  unfold firstI
  rw [List.find?_range_eq_none]
  exact fun j hj => by rw [h j hj]; rfl

/-! The map. -/
theorem lawS : Keyed Tryd.prog 9 := string_keyed Tryd.underlying9
theorem zeroI (w : World) : (zeroValue 3).run Tryd.prog w = .ok (.int .i64 0) w := by kernel_rfl
def keyL (s : ByteArray) : Lit := .string s.data.toList
def NumD (L : List Cl) (D : DataW Unit) : Prop := ∀ s : ByteArray, Maps.has D (keyL s) = (numOf L s).isSome ∧ ∀ i, numOf L s = some i → D.atKey (keyL s) (.lit (.int .i64 0)) = .lit (.int .i64 i)
/-- Block m is a map that tells the numbers of L's names. -/
def MapAt (w : World) (m : Nat) (L : List Cl) : Prop := ∃ D : DataW Unit, w.ownsMap Tryd.prog 9 (plainElem Tryd.prog 3) m L.length D ∧ NumD L D
theorem MapAt.made (w : World) : MapAt (w.alloc (.map #[] 0)) w.heap.size [] := ⟨_, World.ownsMap_made _ _ _ _, fun s => ⟨rfl, fun i h => by cases h⟩⟩
theorem MapAt.lt {w : World} {m : Nat} {L : List Cl} (h : MapAt w m L) : m < w.heap.size := by obtain ⟨D, h, _⟩ := h; exact h.lt
theorem MapAt.move {w w' : World} {m : Nat} {L : List Cl} (h : MapAt w m L) (hw : w'.heap[m]? = w.heap[m]?) : MapAt w' m L := by
  obtain ⟨D, ⟨es, clock, hb, h⟩, hn⟩ := h
  exact ⟨D, ⟨es, clock, hw.trans hb, h⟩, hn⟩
theorem MapAt.below {w w' : World} {m : Nat} {L : List Cl} (h : MapAt w m L) (hb : Below w.heap.size w w') : MapAt w' m L := h.move (hb.block m h.lt)
theorem MapAt.notCells {w : World} {m : Nat} {L : List Cl} (h : MapAt w m L) {g : Nat} {cs : Array Value} {t : TypeId} {fr : Nat × Nat} (hg : w.heap[g]? = some (.cells cs t fr)) : m ≠ g := by
  rintro rfl
  obtain ⟨D, ⟨es, clock, hb, _⟩, _⟩ := h
  rw [hb] at hg
  cases hg
def numI (L : List Cl) (s : ByteArray) : Int := ((numOf L s).getD 0 : Nat)
theorem MapAt.look {w : World} {m : Nat} {L : List Cl} (h : MapAt w m L) (s : ByteArray) (hs : s.size ≤ 9223372036854775807) : (Instr.lookup 89 (.map (some m)) (.string s) true).run Tryd.prog w = .ok (.tuple #[.int .i64 (numI L s), .bool (numOf L s).isSome]) w := by
  obtain ⟨D, ho, hn⟩ := h
  obtain ⟨v, ps, hr, hv⟩ := ho.look_ok lawS Tryd.underlying89 (zeroI w) (plainElem_int Tryd.underlying3 (by decide)) (keyOf_string_mk Tryd.underlying9 (by unfold maxLen; omega) : keyOf Tryd.prog 9 (.string s) = some (keyL s))
  obtain ⟨c, rfl, hc, _⟩ := plainElem_int_inv Tryd.underlying3 hv
  simp only [Prod.mk.injEq] at hc
  obtain ⟨h1, h2⟩ := hn s
  unfold keyL at h1 h2
  rw [h1] at hr
  rw [hr]
  have : c = numI L s := by
    unfold numI
    cases e : numOf L s with
    | some i =>
      have := h2 i e
      rw [hc.1] at this
      simpa using this
    | none =>
      rw [e] at h1
      have := atKey_of_not_has h1 (.lit (.int .i64 0))
      rw [hc.1] at this
      simpa using this
  rw [this]
theorem numD_put {L : List Cl} {D : DataW Unit} (h : NumD L D) (hD : IsMap D) (c : Cl) (hc : numOf L c.name = none) : NumD (L ++ [c]) (D.put (keyL c.name) (.lit (.int .i64 (L.length : Int)))) := by
  have hk : WideAt.IsKeyLit (keyL c.name) := by trivial
  intro s
  rw [numOf_snoc]
  by_cases e : c.name = s
  · subst e
    rw [hc, nmEq_iff.2 rfl]
    exact ⟨has_put_same hD hk _, fun i hi => by cases hi; exact atKey_put_same hD hk _ _⟩
  · have hne : keyL s ≠ keyL c.name := fun h => e (by
      unfold keyL at h
      injection h with h
      exact (Go.WideShapes.bytes_inj h).symm)
    rw [nmEq_ne.2 e]
    obtain ⟨h1, h2⟩ := h s
    rw [has_put_other hne, h1]
    cases e2 : numOf L s with
    | some i => exact ⟨rfl, fun j hj => by cases hj; rw [atKey_put_other hne]; exact h2 i e2⟩
    | none => exact ⟨rfl, fun j hj => by cases hj⟩
end Go.Proofs.YtbogcknkkbnfnaaDoor
