/- named: classes get their numbers. -/
import Derived.Test.YtbogcknkkbnfnaaDoorKp
namespace Go.Proofs.YtbogcknkkbnfnaaDoor
open Go.RowKit Go.Proofs.YtbogcknkkbnfnaaDoorW.PrintWords Go.Maps Go.WideMaps

def bn : Nat → ByteArray
  | 0 => ⟨#[79, 98, 106, 101, 99, 116]⟩
  | 1 => ⟨#[84, 104, 114, 111, 119, 97, 98, 108, 101]⟩
  | 2 => ⟨#[65, 114, 105, 116, 104]⟩
  | 3 => ⟨#[78, 117, 108, 108]⟩
  | 4 => ⟨#[66, 111, 117, 110, 100, 115]⟩
  | 5 => ⟨#[67, 97, 115, 116]⟩
  | 6 => ⟨#[83, 105, 122, 101]⟩
  | _ => ⟨#[83, 116, 111, 114, 101]⟩
def biCells : Array Value := #[.string (bn 0), .string (bn 1), .string (bn 2), .string (bn 3), .string (bn 4), .string (bn 5), .string (bn 6), .string (bn 7)]
/-- The names of those that are built in lie in their block. -/
def Bi (w : World) : Prop := ∃ t fr, w.heap[0]? = some (.cells biCells t fr)
theorem Bi.lt {w : World} (h : Bi w) : 0 < w.heap.size := by obtain ⟨t, fr, h⟩ := h; exact (Array.getElem?_eq_some_iff.1 h).1
theorem Bi.below {B : Nat} {w w' : World} (h : Bi w) (hB : 0 < B) (hb : Below B w w') : Bi w' := by
  obtain ⟨t, fr, hg⟩ := h
  exact ⟨t, fr, (hb.block 0 hB).trans hg⟩
theorem Bi.cell {w : World} (h : Bi w) (j : Nat) (v : Value) (hj : biCells[j]? = some v) : w.cell? ⟨0, j, none⟩ = some v := by
  obtain ⟨t, fr, hg⟩ := h
  simp [World.cell?, hg, hj]
theorem idx_bi0 (w : World) : (Instr.index 155 (.agg biCells) (.int .i64 0)).run Tryd.prog w = .ok (.string (bn 0)) w := by kernel_rfl
theorem idx_bi1 (w : World) : (Instr.index 155 (.agg biCells) (.int .i64 1)).run Tryd.prog w = .ok (.string (bn 1)) w := by kernel_rfl
theorem idx_bi2 (w : World) : (Instr.index 155 (.agg biCells) (.int .i64 2)).run Tryd.prog w = .ok (.string (bn 2)) w := by kernel_rfl
theorem idx_bi3 (w : World) : (Instr.index 155 (.agg biCells) (.int .i64 3)).run Tryd.prog w = .ok (.string (bn 3)) w := by kernel_rfl
theorem idx_bi4 (w : World) : (Instr.index 155 (.agg biCells) (.int .i64 4)).run Tryd.prog w = .ok (.string (bn 4)) w := by kernel_rfl
theorem idx_bi5 (w : World) : (Instr.index 155 (.agg biCells) (.int .i64 5)).run Tryd.prog w = .ok (.string (bn 5)) w := by kernel_rfl
theorem idx_bi6 (w : World) : (Instr.index 155 (.agg biCells) (.int .i64 6)).run Tryd.prog w = .ok (.string (bn 6)) w := by kernel_rfl
theorem idx_bi7 (w : World) : (Instr.index 155 (.agg biCells) (.int .i64 7)).run Tryd.prog w = .ok (.string (bn 7)) w := by kernel_rfl
theorem idx_bi (j : Nat) (h : j < 8) (w : World) : (Instr.index 155 (.agg biCells) (.int .i64 j)).run Tryd.prog w = .ok (.string (bn j)) w := by
  match j, h with
  | 0, _ => exact idx_bi0 w
  | 1, _ => exact idx_bi1 w
  | 2, _ => exact idx_bi2 w
  | 3, _ => exact idx_bi3 w
  | 4, _ => exact idx_bi4 w
  | 5, _ => exact idx_bi5 w
  | 6, _ => exact idx_bi6 w
  | 7, _ => exact idx_bi7 w
/-- Those that are built in. -/
def biCl (j : Nat) : Cl := ⟨zSl, bn j, if j ≤ 1 then bn 0 else bn 1, false, [], zSl, zSl⟩
def builtL : List Cl := (List.range 8).map biCl
theorem builtL_take {q : Nat} (h : q < 8) : builtL.take (q + 1) = builtL.take q ++ [biCl q] := by
  rw [List.take_succ_eq_append_getElem (by simpa [builtL] using h)]
  simp [builtL]
/-- What New keeps behind the set's own block: a pointer to it, and its five steps. -/
def fiveF (p : Nat) : Array Value := #[.func (.func 74) #[] #[.pointer (some ⟨p + 1, 0, none⟩), .pointer (some ⟨p - 2, 0, none⟩)], .func (.func 76) #[.pointer (some ⟨p, 0, none⟩)] #[], .func (.func 77) #[] #[.pointer (some ⟨p + 1, 0, none⟩)], .func (.func 80) #[] #[.pointer (some ⟨p + 1, 0, none⟩)], .func (.func 82) #[] #[.pointer (some ⟨p + 1, 0, none⟩)]]
structure Fix (p : Nat) (w : World) : Prop where
  k1 : w.heap[p + 1]? = some (.cells #[.pointer (some ⟨p, 0, none⟩)] 25 (0, 0))
  k2 : w.heap[p + 2]? = some (.cells (fiveF p) 131 (0, 0))
theorem Fix.move {p : Nat} {w w' : World} (h : Fix p w) (h1 : w'.heap[p + 1]? = w.heap[p + 1]?) (h2 : w'.heap[p + 2]? = w.heap[p + 2]?) : Fix p w' := ⟨h1.trans h.k1, h2.trans h.k2⟩
theorem Fix.below {p : Nat} {w w' : World} (h : Fix p w) (hb : Below w.heap.size w w') : Fix p w' := ⟨blk_below h.k1 hb, blk_below h.k2 hb⟩
/-- A row of another type has grown. -/
theorem Fix.grown {p : Nat} {w w' : World} (h : Fix p w) {row : Option Nat} (hg : w.grownBy w' row) {e : Nat} (hty : ∀ k, row = some k → ∃ cells, w.heap[k]? = some (.cells cells e (0, 0))) (h1 : e ≠ 25) (h2 : e ≠ 131) : Fix p w' := by
  refine ⟨blk_grown h.k1 hg (fun e1 => ?_), blk_grown h.k2 hg (fun e1 => ?_)⟩
  · obtain ⟨cells, hc⟩ := hty _ e1.symm
    exact absurd rfl (blk_ne hc h.k1 h1)
  · obtain ⟨cells, hc⟩ := hty _ e1.symm
    exact absurd rfl (blk_ne hc h.k2 h2)
theorem Fix.map {p m : Nat} {L : List Cl} {w w' : World} (h : Fix p w) (hM : MapAt w m L) (hg : w.grownBy w' (some m)) : Fix p w' := by
  refine ⟨blk_grown h.k1 hg (fun e1 => ?_), blk_grown h.k2 hg (fun e1 => ?_)⟩
  · cases e1
    exact hM.notCells h.k1 rfl
  · cases e1
    exact hM.notCells h.k2 rfl
theorem Fix.set {p : Nat} {w : World} (h : Fix p w) (j : Nat) (u : Value) : Fix p (w.setCell ⟨p, j, none⟩ u) :=
  h.move (Below.heap_setCell w ⟨p, j, none⟩ u _ (by show p + 1 ≠ p; omega)) (Below.heap_setCell w ⟨p, j, none⟩ u _ (by show p + 2 ≠ p; omega))
/-- The set's block while its classes are laid. -/
structure NSt (w0 : World) (p m : Nat) (cV : Value) (L M : List Cl) (w : World) : Prop where
  below : Below w0.heap.size w0 w
  blk : w.heap[p]? = some (.cells #[cV, .map (some m), .slice none 0 0, .slice none 0 0, .slice none 0 0] 92 (0, 0))
  row : kCl.R 57 w w0.heap.size (fun _ => True) cV L
  fix : Fix p w
  map : MapAt w m M
theorem NSt.alloc {w0 : World} {p m : Nat} {cV : Value} {L M : List Cl} {w : World} (h : NSt w0 p m cV L M w) (o : Obj) : NSt w0 p m cV L M (w.alloc o) :=
  ⟨h.below.alloc h.below.size o, blk_alloc h.blk o, Kd.R_alloc h.row o, h.fix.below (below_alloc (Below.refl _ _) o), h.map.below (below_alloc (Below.refl _ _) o)⟩
theorem NSt.drewN {w0 : World} {p m : Nat} {cV : Value} {L M : List Cl} {w : World} (h : NSt w0 p m cV L M w) (n : Nat) : NSt w0 p m cV L M (w.drewN n) :=
  ⟨pw_below_drewN h.below n, h.blk, Kd.R_drewN h.row n, h.fix.move rfl rfl, h.map⟩
theorem R_sl {α : Type} {d : Kd α} {e : Nat} {w : World} {base : Nat} {ok : Nat → Prop} {v : Value} {xs : List α} (h : d.R e w base ok v xs) : ∃ A n c, v = .slice A n c := by
  obtain ⟨A, c, e⟩ := Kd.R_slice h
  exact ⟨_, _, _, e⟩
theorem MapAt.grown {w w' : World} {m : Nat} {L : List Cl} (h : MapAt w m L) {row : Option Nat} (hg : w.grownBy w' row) (hr : some m ≠ row) : MapAt w' m L := h.move (hg.block m h.lt hr)
theorem NSt.put {w0 : World} {p m : Nat} {cV v1 : Value} {L L1 M : List Cl} {w W w1 : World} (h : NSt w0 p m cV L M w) (hW : ∀ i : Nat, W.heap[i]? = w.heap[i]?) (hp : w0.heap.size ≤ p) (hQ : kCl.R 57 w1 w0.heap.size (fun _ => True) v1 L1) (hB : Below w0.heap.size w0 w1) (hG : W.grownBy w1 cV.ownBlock) : NSt w0 p m v1 L1 M (w1.setCell ⟨p, 0, none⟩ v1) := by
  have hne := Kd.R_ne h.row h.blk (show 57 ≠ 92 by decide)
  have hk := blk_grown (w := W) ((hW p).trans h.blk) hG hne
  have hm : some m ≠ cV.ownBlock := fun e => by
    obtain ⟨cells, hc⟩ := Kd.R_typed h.row m e.symm
    exact h.map.notCells hc rfl
  have hM := (h.map.move (hW m)).grown hG hm
  have hpm : m ≠ p := h.map.notCells h.blk
  exact ⟨hB.setCell hp _, blk_put hk 0 _ rfl, Kd.R_set hQ hk (by decide) 0 _, (((h.fix.move (hW _) (hW _)).grown hG (fun k e => by rw [hW]; exact Kd.R_typed h.row k e) (by decide) (by decide)).set 0 v1), hM.move (Below.heap_setCell w1 ⟨p, 0, none⟩ v1 m hpm)⟩
theorem alloc_drew (w : World) (o : Obj) : (w.alloc o).drew = w.drew.alloc o := rfl
theorem NSt.step {w0 : World} {p m : Nat} {cV : Value} {L M : List Cl} {w w' : World} (h : NSt w0 p m cV L M w) (hb : Below w.heap.size w w') : NSt w0 p m cV L M w' :=
  ⟨below_weaken h.below h.below.size hb, blk_below h.blk hb, Kd.R_below h.row hb, h.fix.below hb, h.map.below hb⟩
theorem mkCl_M (w : World) (base : Nat) (ok : Nat → Prop) (x : Cl) (v : Value) (h : Kd.string.R 9 w base ok v x.faces) : kCl.M w base ok x [.slice x.pool.a x.pool.n x.pool.c, .string x.name, .string x.super, .bool x.face, v, .slice x.fields.a x.fields.n x.fields.c, .slice x.methods.a x.methods.n x.methods.c] :=
  ⟨[_], _, rfl, rfl, [_], _, rfl, rfl, [_], _, rfl, rfl, [_], _, rfl, rfl, [_], _, rfl, ⟨v, rfl, h⟩, [_], [_], rfl, rfl, rfl⟩
theorem mkCl_nil (w : World) (base : Nat) (ok : Nat → Prop) (j : Nat) : kCl.M w base ok (biCl j) [.slice none 0 0, .string (bn j), .string (biCl j).super, .bool false, .slice none 0 0, .slice none 0 0, .slice none 0 0] :=
  mkCl_M w base ok (biCl j) (.slice none 0 0) (Kd.R_nil _ _ _ _ _)

theorem R_mapfar {α : Type} {d : Kd α} {e : Nat} {w w1 : World} {base : Nat} {ok : Nat → Prop} {v : Value} {xs : List α} {m : Nat} {L : List Cl} (h : d.R e w base ok v xs) (hm : MapAt w m L) (hg : w.grownBy w1 (some m)) : d.R e w1 base ok v xs :=
  Kd.R_mono (Kd.R_grown (Kd.R_bound h) hg (fun k hk e => by
    cases e
    obtain ⟨q, _, cells, hc⟩ := hk.2.2.2
    exact hm.notCells hc rfl)) (fun _ h => h.1)
/-- A class of the set's row, as its cells. -/
theorem el_at {w : World} {g n : Nat} {L : List Cl} (h : kCl.C w (some ⟨g, 0, none⟩) n L) (k : Nat) (hk : k < n) : ∃ e : El, ElCl w e (L.getD k zCl) ∧
    w.cell? ⟨g, k * 7, none⟩ = some (.slice e.p.a e.p.n e.p.c) ∧ w.cell? ⟨g, k * 7 + 1, none⟩ = some (.string e.n) ∧ w.cell? ⟨g, k * 7 + 2, none⟩ = some (.string e.s) ∧ w.cell? ⟨g, k * 7 + 3, none⟩ = some (.bool e.b) ∧ w.cell? ⟨g, k * 7 + 4, none⟩ = some (.slice e.f.a e.f.n e.f.c) ∧ w.cell? ⟨g, k * 7 + 5, none⟩ = some (.slice e.l.a e.l.n e.l.c) ∧ w.cell? ⟨g, k * 7 + 6, none⟩ = some (.slice e.m.a e.m.n e.m.c) := by
  obtain ⟨hl, _, h3⟩ := h
  obtain ⟨ad, ea, h4⟩ := h3 (by omega)
  cases ea
  obtain ⟨c, hc, hK, h5⟩ := h4 k L[k] (List.getElem?_eq_getElem (by omega))
  obtain ⟨e, rfl, he⟩ := elCl_of hK
  have key : ∀ j u, e.cells[j]? = some u → w.cell? ⟨g, k * 7 + j, none⟩ = some u := fun j u hu => by
    have := h5 j u hu
    rw [add_plain] at this
    exact this
  refine ⟨e, ?_, key 0 _ rfl, key 1 _ rfl, key 2 _ rfl, key 3 _ rfl, key 4 _ rfl, key 5 _ rfl, key 6 _ rfl⟩
  have : L.getD k zCl = L[k] := by simp [List.getD, show k < L.length by omega]
  rw [this]
  exact he
/-- Pairs follow their firsts. -/
theorem perm_lift {α β : Type} {f : β → α} {l l' : List α} (h : l'.Perm l) : ∀ z : List β, z.map f = l → ∃ z' : List β, z'.map f = l' ∧ z'.Perm z := by
  induction h with
  | nil => intro z hz; exact ⟨z, hz, .refl _⟩
  | cons x _ ih =>
    intro z hz
    cases z with
    | nil => cases hz
    | cons a z =>
      simp only [List.map_cons, List.cons.injEq] at hz
      obtain ⟨z', h1, h2⟩ := ih z hz.2
      exact ⟨a :: z', by rw [List.map_cons, h1, hz.1], h2.cons a⟩
  | swap x y l =>
    intro z hz
    match z, hz with
    | a :: b :: z, hz =>
      simp only [List.map_cons, List.cons.injEq] at hz
      exact ⟨b :: a :: z, by simp [hz], .swap _ _ _⟩
  | trans _ _ ih1 ih2 =>
    intro z hz
    obtain ⟨z1, h1, h2⟩ := ih2 z hz
    obtain ⟨z2, h3, h4⟩ := ih1 z1 h1
    exact ⟨z2, h3, h4.trans h2⟩
set_option maxRecDepth 100000 in
theorem sortZero (a : Option Addr) (c : Nat) (w : World) :
    Calls Tryd.prog 124 #[.slice a 0 c, cmpV] w fun e w' => e = .returned (.tuple #[]) ∧ w' = w := by
  unfold cmpV
  go_enter Tryd.func124, Tryd.ntmps124
  go_wp2
  refine wp_loop_rounds 1 ?_
  rw [rounds_succ]
  go_wp2
  refine wp_loop_rounds 1 ?_
  rw [rounds_succ]
  go_wp2
  go_end0
  go_wp2
  refine wp_loop_rounds 1 ?_
  rw [rounds_succ]
  go_wp2
  go_end0
  go_wp2
  go_end0
  exact ⟨rfl, rfl⟩
/-- A copy, sorted. -/
structure Sorted (w0 w : World) (L : List Cl) (P : List (El × Cl)) (v : Value) (w' : World) : Prop where
  perm : (P.map (·.2)).Perm L
  srt : (P.map (·.2)).Pairwise (fun x y => less y.name x.name = false)
  ok : ∀ z ∈ P, ElCl w0 z.1 z.2
  below : Below w.heap.size w w'
  at' : (P = [] ∧ ∃ a c, v = .slice a 0 c) ∨ ∃ g tl cap, w.heap.size ≤ g ∧ v = .slice (some ⟨g, 0, none⟩) P.length cap ∧ Row g tl (P.map (·.1)) w'
theorem sort_any (w0 w w1 : World) (L : List Cl) (P : List (El × Cl)) (v : Value) (h : Copied w0 w L P v w1) (hl : L.length ≤ 1000000) :
    Calls Tryd.prog 124 #[v, cmpV] w1 fun e w' => e = .returned (.tuple #[]) ∧ ∃ P', Sorted w0 w L P' v w' := by
  rcases h.at' with ⟨h0, a, c, rfl⟩ | ⟨g, tl, cap, hg, rfl, hR⟩
  · have hP : P = [] := by
      have := h.snd
      rw [h0] at this
      exact List.map_eq_nil_iff.1 this
    subst h0 hP
    exact (sortZero a c w1).mono fun e w' ⟨he, hw⟩ => ⟨he, [], .refl _, .nil, (fun z hz => by cases hz), (by rw [hw]; exact h.below), .inl ⟨rfl, a, c, rfl⟩⟩
  · have hlen : P.length = L.length := by rw [← h.snd, List.length_map]
    refine (sortStable_any g cap tl (P.map (·.1)) L.length w1 w1 (SWr.start hR) (by rw [List.length_map, hlen]) (by omega)).mono ?_
    rintro e w' ⟨he, d', hW, hp, hs⟩
    obtain ⟨P', hf, hP'⟩ := perm_lift hp P rfl
    have hok' : ∀ z ∈ P', ElCl w0 z.1 z.2 := fun z hz => h.ok z (hP'.mem_iff.1 hz)
    refine ⟨he, P', ?_, ?_, hok', h.below.trans (hW.below.mono hg), .inr ⟨g, tl, cap, hg, by rw [hP'.length_eq, hlen], by rw [hf]; exact hW.row⟩⟩
    · rw [← h.snd]
      exact hP'.map _
    · rw [← hf, List.pairwise_map] at hs
      rw [List.pairwise_map]
      refine hs.imp_of_mem (fun {a b} ha hb hab => ?_)
      rw [← (hok' a ha).n, ← (hok' b hb).n]
      exact hab
/-- The sorted row, as a slice. -/
theorem Sorted.shape {w0 w : World} {L : List Cl} {P : List (El × Cl)} {v : Value} {w' : World} (h : Sorted w0 w L P v w') : ∃ A n c, v = .slice A n c ∧ n = P.length ∧ (0 < n → ∃ g tl, A = some ⟨g, 0, none⟩ ∧ w.heap.size ≤ g ∧ Row g tl (P.map (·.1)) w') := by
  rcases h.at' with ⟨h0, a, c, e⟩ | ⟨g, tl, cap, hg, e, hR⟩
  · exact ⟨a, 0, c, e, by rw [h0]; rfl, fun h => by omega⟩
  · exact ⟨_, _, _, e, rfl, fun _ => ⟨g, tl, rfl, hg, hR⟩⟩
theorem pair_at (P : List (El × Cl)) (k : Nat) (hk : k < P.length) : ∃ z ∈ P, (P.map (·.1)).getD k zEl = z.1 ∧ (P.map (·.2)).take (k + 1) = (P.map (·.2)).take k ++ [z.2] := by
  refine ⟨P[k], List.getElem_mem hk, by simp [List.getD, hk], ?_⟩
  rw [List.take_succ_eq_append_getElem (by rw [List.length_map]; exact hk), List.getElem_map]
/-- What a class's texts and rows are at most. -/
def clOk (x : Cl) : Prop := x.name.size ≤ 140737488351232 ∧ x.super.size ≤ 140737488351232 ∧ x.faces.length * 16 ≤ 140737488351232 ∧ ∀ s ∈ x.faces, s.size ≤ 140737488351232
theorem C_below0 {α : Type} {k : Kd α} {w0 w : World} {A : Option Addr} {n : Nat} {xs : List α} (h : k.C w0 A n xs) (hb : Below w0.heap.size w0 w) : k.C w A n xs := Kd.C_below h hb
/-- What named comes to. -/
def NamedPost (w0 : World) (p m : Nat) (l : List Cl) (e : Ending) (w' : World) : Prop :=
  ∃ r : List Cl, r.Perm l ∧ r.Pairwise (fun x y => less y.name x.name = false) ∧ Below w0.heap.size w0 w' ∧
    match firstI (dupAt (builtL ++ r)) (builtL ++ r).length with
    | some k => e = .returned (.tuple #[.string ((builtL ++ r).getD k zCl).name, .int .i64 92])
    | none => e = .returned (.tuple #[.string ⟨#[]⟩, .int .i64 0]) ∧ ∃ cV, NSt w0 p m cV (builtL ++ r) (builtL ++ r) w'
theorem builtL_small : ∀ x ∈ builtL, x.name.size ≤ 140737488351232 := by
  intro x hx
  simp only [builtL, List.mem_map, List.mem_range] at hx
  obtain ⟨j, hj, rfl⟩ := hx
  have : j = 0 ∨ j = 1 ∨ j = 2 ∨ j = 3 ∨ j = 4 ∨ j = 5 ∨ j = 6 ∨ j = 7 := by omega
  rcases this with rfl | rfl | rfl | rfl | rfl | rfl | rfl | rfl <;> (show _ ≤ _; decide)
theorem take_snoc_Cl {L : List Cl} {k : Nat} (h : k < L.length) : L.take (k + 1) = L.take k ++ [L.getD k zCl] := by
  rw [List.take_succ_eq_append_getElem h]
  simp [List.getD, h]

set_option maxRecDepth 100000 in
set_option maxHeartbeats 8000000 in
theorem named_any (w0 : World) (p m : Nat) (A : Option Addr) (c : Nat) (l : List Cl) (w : World) (hBi : Bi w0) (hp : w0.heap.size ≤ p) (hmb : w0.heap.size ≤ m) (hN : NSt w0 p m (.slice none 0 0) [] [] w) (hC : kCl.C w0 A l.length l) (hl : l.length ≤ 64) (hok : ∀ x ∈ l, clOk x) :
    Calls Tryd.prog 75 #[.pointer (some ⟨p, 0, none⟩), .slice A l.length c] w (NamedPost w0 p m l) := by
  have HBI := hid hBi
  have h00 := hBi.lt
  obtain ⟨t, fr, hgb⟩ := hBi.below h00 hN.below
  have HC := hid hC
  have HOK := hid hok
  have HMB := hid hmb
  clear hC hBi hok hmb
  go_enter Tryd.func75, Tryd.ntmps75
  go_wp2_with (refine wpList_load_row rfl 155 _ rfl 0 rfl t _ fr _ hgb Tryd.underlying155 rfl (by kernel_rfl) ?_)
  clear hgb
  go_loopw [17] (fun i wr => ∃ (q : Nat) (cV : Value), q ≤ 8 ∧ i = .int .i64 q ∧ Hid (NSt w0 p m cV (builtL.take q) [] wr)) (fun i _ => 8 - (intOf i).toNat)
  case atStart => exact ⟨0, _, by omega, rfl, hN⟩
  obtain ⟨q, cV, hq, rfl, HN⟩ := hrel
  by_cases hlt : q < 8
  · have hi := fun w => idx_bi q hlt w
    have hx : wr.cell? ⟨0, 1, none⟩ = some (.string (bn 1)) := (HBI.out.below h00 HN.out.below).cell 1 _ rfl
    have hx0 := blk_cell HN.out.blk 0
    have hf0 := blk_frozen HN.out.blk 0
    have hsup : (biCl q).super = if q ≤ 1 then bn 0 else bn 1 := rfl
    have z8 := blk_lt HN.out.blk
    by_cases hq1 : q ≤ 1
    · rw [if_pos hq1] at hsup
      have HS := hid hsup
      clear hsup
      go_wp2_with fail
      have H8 := hid (HN.out.alloc (.cells #[.slice none 0 0, .string (bn q), .string ⟨#[79, 98, 106, 101, 99, 116]⟩, .bool false, .slice none 0 0, .slice none 0 0, .slice none 0 0] 57))
      have k8 := blk_new wr (.cells #[.slice none 0 0, .string (bn q), .string ⟨#[79, 98, 106, 101, 99, 116]⟩, .bool false, .slice none 0 0, .slice none 0 0, .slice none 0 0] 57)
      clear hx0 hf0 hx z8
      generalize wr.alloc (.cells #[.slice none 0 0, .string (bn q), .string ⟨#[79, 98, 106, 101, 99, 116]⟩, .bool false, .slice none 0 0, .slice none 0 0, .slice none 0 0] 57) = w8 at *
      generalize wr.heap.size = b8 at *
      have c0 := blk_cell k8 0
      have c1 := blk_cell k8 1
      have c2 := blk_cell k8 2
      have c3 := blk_cell k8 3
      have c4 := blk_cell k8 4
      have c5 := blk_cell k8 5
      have c6 := blk_cell k8 6
      have hx0 := blk_cell H8.out.blk 0
      have hf0 := blk_frozen H8.out.blk 0
      have hB8 := hid H8.out.below
      have hR8 := hid H8.out.row
      have zp := blk_lt H8.out.blk
      have hK8 := hid H8.out.blk
      have hN8 := hid (Kd.R_ne H8.out.row H8.out.blk (by decide))
      go_region_law ((rw [alloc_drew]); refine Kd.R_append_step kCl w0.heap.size (by rfl) (.tmp 32) (.tmp 34) 22 57 _ 136 (by rfl) Tryd.underlying22 infoCls (by rfl) (by decide) (by decide) cV (builtL.take q) (biCl q) [.slice none 0 0, .string (bn q), .string ⟨#[79, 98, 106, 101, 99, 116]⟩, .bool false, .slice none 0 0, .slice none 0 0, .slice none 0 0] (fun _ => True) (fun _ => False) (by rfl) (by rfl) (by have := mkCl_nil w8.drew w0.heap.size (fun _ => False) q; rw [HS.out] at this; exact this) (fun _ h => h.elim) (fun _ _ => trivial) (by exact Kd.R_drew hR8.out) (by exact below_drew hB8.out) (by exact hB8.out.size) (by simp [builtL]; omega) ?_; intro v1 w1 hQ1 hB1 hG1 hat1; obtain ⟨A1, n1, k1, rfl⟩ := R_sl hQ1; have hk1 := hid (blk_grown (w := w8.drew) hK8.out hG1 hN8.out); have hx1 := blk_cell hk1.out 0; have hf1 := blk_frozen hk1.out 0)
      all_goals
        have hP := hid (H8.out.put (w := w8) (W := w8.drew) (fun _ => rfl) hp hQ1 hB1 hG1)
        clear hQ1 hB1 hG1 hat1 hk1 hx1 hf1 hx0 hf0 c0 c1 c2 c3 c4 c5 c6 k8 hi
        go_wp2
        go_roundw
        case rel => exact ⟨q + 1, _, by omega, by go_num, by rw [builtL_take hlt]; exact hP.out⟩
        case measure => simp [intOf]; omega
    · rw [if_neg hq1] at hsup
      have HS := hid hsup
      clear hsup
      go_wp2_with fail
      have H8 := hid (HN.out.alloc (.cells #[.slice none 0 0, .string (bn q), .string (bn 1), .bool false, .slice none 0 0, .slice none 0 0, .slice none 0 0] 57))
      have k8 := blk_new wr (.cells #[.slice none 0 0, .string (bn q), .string (bn 1), .bool false, .slice none 0 0, .slice none 0 0, .slice none 0 0] 57)
      clear hx0 hf0 hx z8
      generalize wr.alloc (.cells #[.slice none 0 0, .string (bn q), .string (bn 1), .bool false, .slice none 0 0, .slice none 0 0, .slice none 0 0] 57) = w8 at *
      generalize wr.heap.size = b8 at *
      have c0 := blk_cell k8 0
      have c1 := blk_cell k8 1
      have c2 := blk_cell k8 2
      have c3 := blk_cell k8 3
      have c4 := blk_cell k8 4
      have c5 := blk_cell k8 5
      have c6 := blk_cell k8 6
      have hx0 := blk_cell H8.out.blk 0
      have hf0 := blk_frozen H8.out.blk 0
      have hB8 := hid H8.out.below
      have hR8 := hid H8.out.row
      have zp := blk_lt H8.out.blk
      have hK8 := hid H8.out.blk
      have hN8 := hid (Kd.R_ne H8.out.row H8.out.blk (by decide))
      go_region_law ((rw [alloc_drew]); refine Kd.R_append_step kCl w0.heap.size (by rfl) (.tmp 32) (.tmp 34) 22 57 _ 136 (by rfl) Tryd.underlying22 infoCls (by rfl) (by decide) (by decide) cV (builtL.take q) (biCl q) [.slice none 0 0, .string (bn q), .string (bn 1), .bool false, .slice none 0 0, .slice none 0 0, .slice none 0 0] (fun _ => True) (fun _ => False) (by rfl) (by rfl) (by have := mkCl_nil w8.drew w0.heap.size (fun _ => False) q; rw [HS.out] at this; exact this) (fun _ h => h.elim) (fun _ _ => trivial) (by exact Kd.R_drew hR8.out) (by exact below_drew hB8.out) (by exact hB8.out.size) (by simp [builtL]; omega) ?_; intro v1 w1 hQ1 hB1 hG1 hat1; obtain ⟨A1, n1, k1, rfl⟩ := R_sl hQ1; have hk1 := hid (blk_grown (w := w8.drew) hK8.out hG1 hN8.out); have hx1 := blk_cell hk1.out 0; have hf1 := blk_frozen hk1.out 0)
      all_goals
        have hP := hid (H8.out.put (w := w8) (W := w8.drew) (fun _ => rfl) hp hQ1 hB1 hG1)
        clear hQ1 hB1 hG1 hat1 hk1 hx1 hf1 hx0 hf0 c0 c1 c2 c3 c4 c5 c6 k8 hi
        go_wp2
        go_roundw
        case rel => exact ⟨q + 1, _, by omega, by go_num, by rw [builtL_take hlt]; exact hP.out⟩
        case measure => simp [intOf]; omega
  · obtain rfl : q = 8 := by omega
    have HN1 : Hid (NSt w0 p m cV builtL [] wr) := HN
    clear HN
    go_wp2_with fail
    refine (cloneCls_any A c l w0 _ HC.out HN1.out.below (by omega)).mono ?_
    rintro e w1 ⟨v', P, rfl, hCp⟩
    go_wp2_with fail
    refine (sort_any w0 wr w1 l P v' hCp (by omega)).mono ?_
    rintro e w2 ⟨rfl, P', hS⟩
    obtain ⟨A', n, c', rfl, hn, hR⟩ := hS.shape
    have HN2 := hid (HN1.out.step hS.below)
    have hz := HN1.out.row
    have HPM := hid hS.perm
    have HSR := hid hS.srt
    have HEL := hid hS.ok
    have HLEN := hid hn
    have hn64 : n ≤ 64 := by rw [hn, ← List.length_map (f := (·.2)), hS.perm.length_eq]; exact hl
    have HR0 : Hid (0 < n → ∃ g tl, A' = some ⟨g, 0, none⟩ ∧ Row g tl (P'.map (·.1)) w2 ∧ some g ≠ cV.ownBlock) := fun h => by
      obtain ⟨g, tl, e, hg, hr⟩ := hR h
      exact ⟨g, tl, e, hr, fun e2 => by have := Kd.R_lt hz g e2.symm; omega⟩
    clear hCp hS hn hR hz HN1
    obtain ⟨wo, rfl⟩ : ∃ wo : World, wo = wr := ⟨_, rfl⟩
    go_wp2_with fail
    go_loopw [45] (fun i wr => ∃ (k : Nat) (dV : Value), k ≤ n ∧ i = .int .i64 k ∧ Hid (NSt w0 p m dV (builtL ++ (P'.map (·.2)).take k) [] wr) ∧ Hid (0 < n → ∃ g tl, A' = some ⟨g, 0, none⟩ ∧ Row g tl (P'.map (·.1)) wr ∧ some g ≠ dV.ownBlock)) (fun i _ => n - (intOf i).toNat)
    case atStart => exact ⟨0, cV, by omega, rfl, by rw [List.take_zero, List.append_nil]; exact HN2.out, HR0⟩
    clear HN2 HR0
    obtain ⟨k, dV, hk, rfl, HN, HR⟩ := hrel
    by_cases hlt : k < n
    · obtain ⟨g, tl, rfl, hrow, hgd⟩ := HR.out (by omega)
      obtain ⟨z, hzm, hz1, hz2⟩ := pair_at P' k (by rw [← HLEN.out]; exact hlt)
      have HX : Hid (ElCl wr z.1 z.2) := by
        have h0 := HEL.out z hzm
        exact ⟨h0.p, h0.n, h0.s, h0.b, h0.l, h0.m, h0.fn, h0.fc, C_below0 h0.fC HN.out.below⟩
      have HB : Hid (z.2.faces.length * 16 ≤ 140737488355328) := by
        have := (HOK.out z.2 (HPM.out.mem_iff.1 (List.mem_map_of_mem hzm))).2.2.1
        show _ ≤ _
        omega
      have HZ2 := hid hz2
      obtain ⟨c0, c1, c2, c3, c4, c5, c6⟩ := hrow.el k (by rw [List.length_map, ← HLEN.out]; exact hlt)
      rw [hz1] at c0 c1 c2 c3 c4 c5 c6
      have zg := hrow.lt
      have zp := blk_lt HN.out.blk
      clear hz1 hz2
      obtain ⟨e, x⟩ := z
      simp only at c0 c1 c2 c3 c4 c5 c6 HX HB HZ2
      have HROW := hid hrow
      have HGD := hid hgd
      clear hrow hgd HR hzm
      go_wp2_with fail
      have H8 := hid (HN.out.alloc (.cells #[.slice e.p.a e.p.n e.p.c, .string e.n, .string e.s, .bool e.b, .slice e.f.a e.f.n e.f.c, .slice e.l.a e.l.n e.l.c, .slice e.m.a e.m.n e.m.c] 57))
      have k8 := blk_new wr (.cells #[.slice e.p.a e.p.n e.p.c, .string e.n, .string e.s, .bool e.b, .slice e.f.a e.f.n e.f.c, .slice e.l.a e.l.n e.l.c, .slice e.m.a e.m.n e.m.c] 57)
      have HR8 := hid (HROW.out.below (below_alloc (Below.refl _ _) (.cells #[.slice e.p.a e.p.n e.p.c, .string e.n, .string e.s, .bool e.b, .slice e.f.a e.f.n e.f.c, .slice e.l.a e.l.n e.l.c, .slice e.m.a e.m.n e.m.c] 57)))
      have HX8 := hid (HX.out.below (below_alloc (Below.refl _ _) (.cells #[.slice e.p.a e.p.n e.p.c, .string e.n, .string e.s, .bool e.b, .slice e.f.a e.f.n e.f.c, .slice e.l.a e.l.n e.l.c, .slice e.m.a e.m.n e.m.c] 57)))
      clear c0 c1 c2 c3 c4 c5 c6 zg zp HN HROW HX
      generalize wr.alloc (.cells #[.slice e.p.a e.p.n e.p.c, .string e.n, .string e.s, .bool e.b, .slice e.f.a e.f.n e.f.c, .slice e.l.a e.l.n e.l.c, .slice e.m.a e.m.n e.m.c] 57) = w8 at *
      generalize wr.heap.size = b8 at *
      have c0 := blk_cell k8 0
      have c1 := blk_cell k8 1
      have c2 := blk_cell k8 2
      have c3 := blk_cell k8 3
      have c4 := blk_cell k8 4
      have c5 := blk_cell k8 5
      have c6 := blk_cell k8 6
      have hx0 := blk_cell H8.out.blk 0
      have hf0 := blk_frozen H8.out.blk 0
      have zp := blk_lt H8.out.blk
      have g8 := H8.out.below.size
      have HK8 := hid (HR8.out.lt)
      go_region_law (first
        | ((try rw [alloc_drew]); refine Kd.R_append_step kCl w0.heap.size (by rfl) (.tmp 53) (.tmp 56) 22 57 _ 136 (by rfl) Tryd.underlying22 infoCls (by rfl) (by decide) (by decide) dV (builtL ++ (P'.map (·.2)).take k) x [.slice e.p.a e.p.n e.p.c, .string e.n, .string e.s, .bool e.b, .slice A3 x.faces.length c3', .slice e.l.a e.l.n e.l.c, .slice e.m.a e.m.n e.m.c] (fun _ => True) (fun j => w8.heap.size ≤ j) (by rfl) (by rfl) (by have := mkCl_M _ w0.heap.size _ x _ hM3.out; rw [← HX8.out.p, ← HX8.out.n, ← HX8.out.s, ← HX8.out.b, ← HX8.out.l, ← HX8.out.m] at this; exact this) (fun j hj => ⟨trivial, fun e => by have := Kd.R_lt H8.out.row j e.symm; omega⟩) (fun _ _ => trivial) (by exact H3.out.row) (by exact H3.out.below) (by exact H3.out.below.size) (by have := List.length_take_le k (P'.map (·.2)); simp [builtL]; omega) ?_; intro v1 w1 hQ1 hB1 hG1 hat1; obtain ⟨A1, n1, k1, rfl⟩ := R_sl hQ1; have hk1 := hid (blk_grown (w := w3) H3.out.blk hG1 (Kd.R_ne H3.out.row H3.out.blk (by decide))); have hx1 := blk_cell hk1.out 0; have hf1 := blk_frozen hk1.out 0)
        | (go_simp; go_at_call 65; refine (copied_any e x _ (by exact HX8.out.below (below_drew (Below.refl _ _))) HB.out).mono ?_; rintro r w3 ⟨A3, c3', rfl, hR3, hb3⟩; have hM3 := hid (Kd.R_mono (ok' := fun j => w8.heap.size ≤ j) (Kd.R_lower (Kd.R_bound hR3) (base' := w0.heap.size) g8) (fun j hj => hj.2.1)); have H3 := hid ((H8.out.drewN 1).step (w' := w3) hb3); have HR3 := hid (Row.below (w := w8.drew) HR8.out hb3); have hx3 := blk_cell H3.out.blk 0; have hf3 := blk_frozen H3.out.blk 0; have zp3 := blk_lt H3.out.blk))
      all_goals
        have hP := hid (H3.out.put (w := w3) (W := w3) (fun _ => rfl) hp hQ1 hB1 hG1)
        have hG : Hid (0 < n → ∃ g' tl, some (⟨g, 0, none⟩ : Addr) = some ⟨g', 0, none⟩ ∧ Row g' tl (P'.map (·.1)) (w1.setCell ⟨p, 0, none⟩ (.slice A1 n1 k1)) ∧ some g' ≠ (Value.slice A1 n1 k1).ownBlock) := fun _ => by
          refine ⟨g, tl, rfl, blk_far (blk_grown HR3.out hG1 HGD.out) (by show g ≠ p; exact blk_ne (blk_grown HR3.out hG1 HGD.out) hk1.out (by decide)) _, fun e => ?_⟩
          rcases hat1 with h | ⟨b, h, hle⟩
          · exact HGD.out (e.trans h)
          · rw [h] at e
            injection e with e
            have := HR3.out.lt
            omega
        clear hQ1 hB1 hG1 hat1 hk1 hx1 hf1 hx0 hf0 c0 c1 c2 c3 c4 c5 c6 k8 hx3 hf3 zp3 zp hR3 hb3 hM3 HR3 H3
        go_wp2
        go_roundw
        case rel => exact ⟨k + 1, _, by omega, by go_num, by rw [HZ2.out, ← List.append_assoc]; exact hP.out, hG⟩
        case measure => simp [intOf]; omega
    · obtain rfl : k = n := by omega
      have HN1 : Hid (NSt w0 p m dV (builtL ++ P'.map (·.2)) [] wr) := by
        have := HN.out
        rw [List.take_of_length_le (by rw [List.length_map, ← HLEN.out]; exact Nat.le_refl _)] at this
        exact this
      have HNM : Hid (∀ x ∈ builtL ++ P'.map (·.2), x.name.size ≤ 140737488351232) := fun x hx => by
        rcases List.mem_append.1 hx with hx | hx
        · exact builtL_small x hx
        · exact (HOK.out x (HPM.out.mem_iff.1 hx)).1
      obtain ⟨LL, hLL⟩ : ∃ LL, builtL ++ P'.map (·.2) = LL := ⟨_, rfl⟩
      have hlen : LL.length = 8 + k := by rw [← hLL, List.length_append, List.length_map, ← HLEN.out]; rfl
      obtain ⟨N, hN2⟩ : ∃ N, LL.length = N := ⟨_, rfl⟩
      have hN8 : 0 < N := by omega
      have hN72 : N ≤ 72 := by omega
      rw [hLL] at HN1 HNM
      have HLL := hid hLL
      obtain ⟨g, cap, rfl, _⟩ := Kd.R_form HN1.out.row (by omega)
      rw [hN2] at HN1
      have HNN := hid hN2
      clear HN HR hlt hLL hlen hN2 HEL HLEN
      have hx0 := blk_cell HN1.out.blk 0
      obtain ⟨wo, rfl⟩ : ∃ wo : World, wo = wr := ⟨_, rfl⟩
      go_wp2_with fail
      clear hx0
      go_loopw [66] (fun i wr => ∃ k : Nat, k ≤ N ∧ i = .int .i64 k ∧ Hid (NSt w0 p m (.slice (some ⟨g, 0, none⟩) N cap) LL (LL.take k) wr) ∧ Hid (∀ j, j < k → dupAt LL j = false)) (fun i _ => N - (intOf i).toNat)
      case atStart => exact ⟨0, by omega, rfl, by rw [List.take_zero]; exact HN1, fun j hj => by omega⟩
      clear HN1
      obtain ⟨k, hk, rfl, HN, HD⟩ := hrel
      by_cases hlt : k < N
      · obtain ⟨e, hE, c0, c1, c2, c3, c4, c5, c6⟩ := el_at (Kd.R_reads' HN.out.row).2.2 k (by rw [HNN.out]; exact hlt)
        have hnm : e.n.size ≤ 9223372036854775807 := by
          rw [hE.n]
          have : LL.getD k zCl ∈ LL := by simp [List.getD, show k < LL.length by rw [HNN.out]; exact hlt]
          have := HNM.out _ this
          omega
        have HE := hid hE.n
        have zg : g < wr.heap.size := Kd.R_lt HN.out.row g (by simp [Value.ownBlock])
        clear hE
        go_wp2_with fail
        have H8 := hid (HN.out.alloc (.cells #[.slice e.p.a e.p.n e.p.c, .string e.n, .string e.s, .bool e.b, .slice e.f.a e.f.n e.f.c, .slice e.l.a e.l.n e.l.c, .slice e.m.a e.m.n e.m.c] 57))
        have k8 := hid (blk_new wr (.cells #[.slice e.p.a e.p.n e.p.c, .string e.n, .string e.s, .bool e.b, .slice e.f.a e.f.n e.f.c, .slice e.l.a e.l.n e.l.c, .slice e.m.a e.m.n e.m.c] 57))
        clear c0 c1 c2 c3 c4 c5 c6 zg HN
        generalize wr.alloc (.cells #[.slice e.p.a e.p.n e.p.c, .string e.n, .string e.s, .bool e.b, .slice e.f.a e.f.n e.f.c, .slice e.l.a e.l.n e.l.c, .slice e.m.a e.m.n e.m.c] 57) = w8 at *
        generalize wr.heap.size = b8 at *
        have c1 := blk_cell k8.out 1
        have hx1 := blk_cell H8.out.blk 1
        have hlook := fun nq => (H8.out.drewN nq).map.look e.n hnm
        cases hnum : numOf (LL.take k) e.n with
        | some i =>
          simp only [hnum] at hlook
          have HU : Hid (firstI (dupAt LL) LL.length = some k) := firstI_some HD.out (by rw [HNN.out]; exact hlt) (by unfold dupAt; rw [← HE.out, hnum]; rfl)
          clear hnum
          go_quiet (fail)
          go_wp2
          go_ret2
          refine ⟨P'.map (·.2), HPM.out, HSR.out, (H8.out.drewN _).below, ?_⟩
          rw [HLL.out, HU.out]
          show _ = Ending.returned (.tuple #[.string (LL.getD k zCl).name, .int .i64 92])
          rw [← HE.out]
          rfl
        | none =>
          simp only [hnum] at hlook
          have hf : dupAt LL k = false := by unfold dupAt; rw [← HE.out, hnum]; rfl
          have HD2 : Hid (∀ j, j < k + 1 → dupAt LL j = false) := fun j hj => by
            by_cases h : j = k
            · rw [h]; exact hf
            · exact HD.out j (by omega)
          have HNUM := hid hnum
          clear hnum hf
          go_quiet (fail)
          have H9 := hid (H8.out.drewN nq)
          have k9 := hid (show (w8.drewN nq).heap[b8]? = _ from k8.out)
          clear c1 hx1 hlook H8 k8
          generalize w8.drewN nq = w9 at *
          have c1 := blk_cell k9.out 1
          have hx1 := blk_cell H9.out.blk 1
          go_wp2_with fail
          go_still_tail 7, (by kernel_rfl)
          change wpList _ _ _ _ _ w9.drew
          obtain ⟨D, ho, hD⟩ := H9.out.map
          have hlt2 := HNN.out
          rw [show (LL.take k).length = k by rw [List.length_take]; omega] at ho
          clear hlt2
          have ho2 : w9.drew.ownsMap Tryd.prog 9 (plainElem Tryd.prog 3) m k D := ho
          have hkey : keyOf Tryd.prog 9 (.string e.n) = some (keyL e.n) := keyOf_string_mk Tryd.underlying9 (by unfold maxLen; omega)
          go_wp2_with (at_mapUpdate; refine wpList_mapUpdate_own _ rfl _ _ _ 89 rfl 9 3 lawS Tryd.underlying89 _ m k _ rfl ho2 (by unfold maxLen; omega) _ _ _ rfl rfl hkey _ [] (plainElem_int Tryd.underlying3 (WalkArith.wf_i64 (by omega))) ?_; intro w10 hown1 hgrow1)
          have hP : Hid (NSt w0 p m (.slice (some ⟨g, 0, none⟩) N cap) LL (LL.take (k + 1)) w10) := by
            have hl2 : k < LL.length := by rw [HNN.out]; exact hlt
            have hM : MapAt w9.drew m (LL.take k) := H9.out.map
            have hpm : some p ≠ some m := fun e => by cases e; exact hM.notCells H9.out.blk rfl
            refine ⟨(below_drew H9.out.below).grown hgrow1 H9.out.below.size (fun j hj => by cases hj; exact HMB.out), blk_grown (w := w9.drew) H9.out.blk hgrow1 hpm, R_mapfar (Kd.R_drew H9.out.row) hM hgrow1, (H9.out.fix.move (w' := w9.drew) rfl rfl).map hM hgrow1, D.put (keyL e.n) (.lit (.int .i64 (k : Int))), ?_, ?_⟩
            · rw [take_snoc_Cl hl2, List.length_append, List.length_take, Nat.min_eq_left (by omega)]
              exact hown1
            · have := numD_put hD ho.isMap (LL.getD k zCl) (by rw [← HE.out]; exact HNUM.out)
              rw [← take_snoc_Cl hl2, ← HE.out, List.length_take, Nat.min_eq_left (by omega)] at this
              exact this
          clear hown1 hgrow1 ho ho2 hD hkey c1 hx1 k9 H9
          go_wp2
          go_roundw
          case rel => exact ⟨k + 1, by omega, by go_num, hP, HD2⟩
          case measure => simp [intOf]; omega
      · obtain rfl : k = N := by omega
        have HU : Hid (firstI (dupAt LL) LL.length = none) := firstI_none (by rw [HNN.out]; exact HD.out)
        go_wp2
        go_ret2
        refine ⟨P'.map (·.2), HPM.out, HSR.out, HN.out.below, ?_⟩
        rw [HLL.out, HU.out]
        refine ⟨rfl, .slice (some ⟨g, 0, none⟩) k cap, ?_⟩
        have := HN.out
        rw [List.take_of_length_le (by rw [HNN.out]; exact Nat.le_refl _)] at this
        exact this
end Go.Proofs.YtbogcknkkbnfnaaDoor
