/- Copies of slices; a class's copy. -/
import Derived.Test.YtbogcknkkbnfnaaDoorKm
import Derived.Test.YtbogcknkkbnfnaaDoorShelf
namespace Go.Proofs.YtbogcknkkbnfnaaDoor
open Go.RowKit Go.Proofs.YtbogcknkkbnfnaaDoorW.PrintWords

theorem infoStr : (Tryd.prog.info? 9).map (fun i => (i.zero, i.size, i.bytes)) = some (some (.string ⟨#[]⟩), 1, 16) := by kernel_rfl
theorem infoInt : (Tryd.prog.info? 3).map (fun i => (i.zero, i.size, i.bytes)) = some (some (.int .i64 0), 1, 8) := by kernel_rfl
theorem infoCls : (Tryd.prog.info? 57).map (fun i => (i.zero, i.size, i.bytes)) = some (some (.agg #[(.slice none 0 0), (.string ⟨#[]⟩), (.string ⟨#[]⟩), (.bool false), (.slice none 0 0), (.slice none 0 0), (.slice none 0 0)]), 7, 136) := by kernel_rfl

/-- A row that is read lies at a plain address. -/
theorem C_plain {α : Type} {k : Kd α} {w : World} {A : Option Addr} {n : Nat} {xs : List α} (h : k.C w A n xs) (hn : 0 < n) (hs : 0 < k.sz) : ∃ b off, A = some ⟨b, off, none⟩ := by
  obtain ⟨h1, _, h3⟩ := h
  obtain ⟨ad, rfl, h4⟩ := h3 hn
  obtain ⟨p, hp⟩ : ∃ p, xs[0]? = some p := ⟨xs[0], by rw [List.getElem?_eq_getElem]⟩
  obtain ⟨c, hc, _, h5⟩ := h4 0 p hp
  obtain ⟨u, hu⟩ : ∃ u, c[0]? = some u := ⟨c[0], by rw [List.getElem?_eq_getElem]⟩
  have := h5 0 u hu
  obtain ⟨b, off, spot⟩ := ad
  cases spot with
  | none => exact ⟨b, off, rfl⟩
  | some s =>
    exfalso
    simp only [Nat.zero_mul, Nat.add_zero, Addr.add, if_true, World.cell?] at this
    split at this <;> simp at this
theorem C_scalar {α : Type} {enc : α → Value} {h1 : ∀ x, (enc x).oneCell' = true} {w : World} {b off n : Nat} {xs : List α} (h : (Kd.scalar enc h1).C w (some ⟨b, off, none⟩) n xs) (z : α) : ∀ j, j < xs.length → w.cell? ⟨b, off + j, none⟩ = some (enc (xs.getD j z)) := by
  intro j hj
  obtain ⟨hl, _, h3⟩ := h
  obtain ⟨ad, e, h4⟩ := h3 (by omega)
  cases e
  obtain ⟨c, hc, hk, h5⟩ := h4 j xs[j] (List.getElem?_eq_getElem hj)
  have hk' : c = [enc xs[j]] := hk
  subst hk'
  have := h5 0 _ rfl
  have e2 : (⟨b, off, none⟩ : Addr).add (j * (Kd.scalar enc h1).sz + 0) = ⟨b, off + j, none⟩ := by
    show (⟨b, off, none⟩ : Addr).add (j * 1 + 0) = _
    unfold Addr.add
    split
    · have : j = 0 := by omega
      subst this; rfl
    · simp
  rw [e2] at this
  rw [this]
  simp [List.getD, hj]

theorem cloneStr_any (A : Option Addr) (c : Nat) (xs : List ByteArray) (w : World) (h : Kd.string.C w A xs.length xs) (hb : xs.length * 16 ≤ 140737488355328) :
    Calls Tryd.prog 117 #[.slice A xs.length c] w fun e w' => ∃ v', e = .returned v' ∧ Kd.string.R 9 w' w.heap.size (fun _ => True) v' xs ∧ Below w.heap.size w w' := by
  cases A with
  | none =>
    have h0 : xs = [] := by
      obtain ⟨_, _, h3⟩ := h
      cases xs with
      | nil => rfl
      | cons x xs => obtain ⟨ad, e, _⟩ := h3 (by simp); cases e
    subst h0
    exact (Tryd.slices_Clone_string_nil _ _ w).mono fun e w' ⟨he, hw⟩ => ⟨_, he, Kd.R_nil _ _ _ _ _, by rw [hw]; exact Below.refl _ _⟩
  | some ad =>
    by_cases hn : 0 < xs.length
    · obtain ⟨b, off, e⟩ := C_plain h hn (by decide)
      cases e
      refine (Tryd.slices_Clone_string b off xs.length c xs w (Nat.le_refl _) hb (fun j hj => C_scalar h _ j hj)).mono fun e w' ⟨v', he, ho, _, hB⟩ => ⟨v', he, Kd.R_of_own ?_ (fun _ _ => trivial), hB⟩
      rw [List.take_length] at ho
      exact ho
    · have h0 : xs = [] := List.eq_nil_of_length_eq_zero (by omega)
      subst h0
      exact (Tryd.slices_Clone_string_zero ad c w).mono fun e w' ⟨v', he, ho, _, hB⟩ => ⟨v', he, Kd.R_of_own ho (fun _ _ => trivial), hB⟩
theorem cloneInt_any (A : Option Addr) (c : Nat) (xs : List Int) (w : World) (h : (Kd.int .i64).C w A xs.length xs) (hb : xs.length * 8 ≤ 140737488355328) :
    Calls Tryd.prog 67 #[.slice A xs.length c] w fun e w' => ∃ v', e = .returned v' ∧ (Kd.int .i64).R 3 w' w.heap.size (fun _ => True) v' xs ∧ Below w.heap.size w w' := by
  cases A with
  | none =>
    have h0 : xs = [] := by
      obtain ⟨_, _, h3⟩ := h
      cases xs with
      | nil => rfl
      | cons x xs => obtain ⟨ad, e, _⟩ := h3 (by simp); cases e
    subst h0
    exact (Tryd.slices_Clone_int_nil _ _ w).mono fun e w' ⟨he, hw⟩ => ⟨_, he, Kd.R_nil _ _ _ _ _, by rw [hw]; exact Below.refl _ _⟩
  | some ad =>
    by_cases hn : 0 < xs.length
    · obtain ⟨b, off, e⟩ := C_plain h hn (by decide)
      cases e
      refine (Tryd.slices_Clone_int b off xs.length c xs w (Nat.le_refl _) hb (fun j hj => C_scalar h _ j hj)).mono fun e w' ⟨v', he, ho, _, hB⟩ => ⟨v', he, Kd.R_of_own ?_ (fun _ _ => trivial), hB⟩
      rw [List.take_length] at ho
      exact ho
    · have h0 : xs = [] := List.eq_nil_of_length_eq_zero (by omega)
      subst h0
      exact (Tryd.slices_Clone_int_zero ad c w).mono fun e w' ⟨v', he, ho, _, hB⟩ => ⟨v', he, Kd.R_of_own ho (fun _ _ => trivial), hB⟩

def laysClsRen : Go.Shelf.Ren := ⟨fun | 41 => 123 | n => n, fun | 22 => 22 | 23 => 57 | 4 => 4 | n => n, fun | n => n⟩
theorem laysCls : Go.Proofs.SlLaysE0.n41 Tryd.prog laysClsRen := {
  mixed := by kernel_rfl
  f41 := ⟨Tryd.f123.name, by decide, Tryd.func123.trans (congrArg some (by kernel_rfl))⟩
  t4 := Tryd.underlying4
  a4 := Tryd.isAgg4
  z4 := Tryd.sizeOf4
  v4 := Tryd.zeroValue4
  t22 := Tryd.underlying22
  a22 := Tryd.isAgg22
  z22 := Tryd.sizeOf22
  v22 := Tryd.zeroValue22 }
open Go.Lib in
theorem cloneRaw (i0 : TypeInfo) (z : Value) (size bytes : Nat) (hi : Tryd.prog.info? 57 = some i0) (hz0 : i0.zero = some z) (hz1 : i0.size = size) (hz2 : i0.bytes = bytes) (hzs : z.cells.size = size) (hsz : 0 < size) (z23 : ∀ w, (Go.sizeOf 57).run Tryd.prog w = .ok size w) (b off n c : Nat) (news : List Value) (w : World) (hl : news.length = n * size) (hn : n ≤ maxLen) (hbig : n * bytes ≤ 140737488355328) (hc : ∀ j u, news[j]? = some u → w.cell? ⟨b, off + j, none⟩ = some u) (h1 : ∀ u ∈ news, u.oneCell' = true) :
    Calls Tryd.prog 123 #[.slice (some ⟨b, off, none⟩) n c] w fun e w' => ∃ v', e = .returned v' ∧ w'.ownsRow w.heap.size 57 size v' n news ∧ v' ≠ .slice none 0 0 ∧ Below w.heap.size w w' := AnyE.slices_Clone laysCls i0 z size bytes hi hz0 hz1 hz2 hzs hsz z23 b off n c news w hl hn hbig hc h1
theorem cloneRawNil (n c : Nat) (w : World) :
    Calls Tryd.prog 123 #[.slice none n c] w fun e w' => e = .returned (.slice none 0 0) ∧ w' = w := AnyE.slices_Clone_nil laysCls n c w

/-- An element's cells are a class's. -/
structure ElCl (w : World) (e : El) (x : Cl) : Prop where
  p : e.p = x.pool
  n : e.n = x.name
  s : e.s = x.super
  b : e.b = x.face
  l : e.l = x.fields
  m : e.m = x.methods
  fn : e.f.n = x.faces.length
  fc : x.faces.length ≤ e.f.c
  fC : Kd.string.C w e.f.a x.faces.length x.faces
theorem ElCl.below {w w' : World} {e : El} {x : Cl} (h : ElCl w e x) (hb : Below w.heap.size w w') : ElCl w' e x := ⟨h.p, h.n, h.s, h.b, h.l, h.m, h.fn, h.fc, Kd.C_below h.fC hb⟩
theorem elCl_of {w : World} {x : Cl} {cs : List Value} (h : kCl.K w x cs) : ∃ e : El, cs = e.cells ∧ ElCl w e x := by
  obtain ⟨A, c, rfl, h1, h2⟩ := kCl_open h
  exact ⟨⟨x.pool, x.name, x.super, x.face, ⟨A, x.faces.length, c⟩, x.fields, x.methods⟩, rfl, rfl, rfl, rfl, rfl, rfl, rfl, rfl, h1, h2⟩
theorem flat_at (d : List El) (q : Nat) (u : Value) (h : (d.flatMap El.cells)[q]? = some u) : ∃ i j, q = i * 7 + j ∧ j < 7 ∧ i < d.length ∧ (d.getD i zEl).cells[j]? = some u := by
  have hq : q < d.length * 7 := by
    have := (List.getElem?_eq_some_iff.1 h).1
    rwa [flat_len] at this
  have h2 := flat_get d [] (q / 7) (q % 7) (by omega) (by omega)
  rw [List.append_nil, show q / 7 * 7 + q % 7 = q by omega, h] at h2
  exact ⟨q / 7, q % 7, by omega, by omega, by omega, h2.symm⟩
theorem cells_one (e : El) : ∀ u ∈ e.cells, u.oneCell' = true := by
  intro u hu
  simp only [El.cells, List.mem_cons, List.not_mem_nil, or_false] at hu
  rcases hu with rfl | rfl | rfl | rfl | rfl | rfl | rfl <;> rfl
/-- A row of classes, as its elements' cells. -/
theorem els_of {w : World} {A : Option Addr} {n : Nat} {L : List Cl} (h : kCl.C w A n L) : ∃ P : List (El × Cl), P.map (·.2) = L ∧ (∀ z ∈ P, ElCl w z.1 z.2) ∧ (∀ b off, A = some ⟨b, off, none⟩ → ∀ q u, ((P.map (·.1)).flatMap El.cells)[q]? = some u → w.cell? ⟨b, off + q, none⟩ = some u) := by
  obtain ⟨hl, _, h3⟩ := h
  have key : ∀ i, i < n → ∃ z : El × Cl, L[i]? = some z.2 ∧ ElCl w z.1 z.2 ∧ ∀ ad, A = some ad → ∀ j u, z.1.cells[j]? = some u → w.cell? (ad.add (i * 7 + j)) = some u := by
    intro i hi
    obtain ⟨ad, e, h4⟩ := h3 (by omega)
    obtain ⟨c, hc, hk, h5⟩ := h4 i L[i] (List.getElem?_eq_getElem (by omega))
    obtain ⟨el, rfl, he⟩ := elCl_of hk
    exact ⟨(el, L[i]), List.getElem?_eq_getElem (by omega), he, fun ad' e' j u hu => by rw [e] at e'; cases e'; exact h5 j u hu⟩
  obtain ⟨P, hP, hQ⟩ := Op.list_of n key
  refine ⟨P, ?_, fun z hz => ?_, fun b off eA q u hu => ?_⟩
  · apply List.ext_getElem?
    intro i
    rw [List.getElem?_map]
    by_cases hi : i < n
    · obtain ⟨h1, _, _⟩ := hQ i P[i] (List.getElem?_eq_getElem (by omega))
      rw [List.getElem?_eq_getElem (by omega), h1]; rfl
    · rw [List.getElem?_eq_none (by omega), List.getElem?_eq_none (by omega)]; rfl
  · obtain ⟨i, hi⟩ := List.getElem?_of_mem hz
    exact (hQ i z hi).2.1
  · obtain ⟨i, j, rfl, hj, hi, h1⟩ := flat_at _ q u hu
    rw [List.length_map] at hi
    obtain ⟨_, _, h2⟩ := hQ i P[i] (List.getElem?_eq_getElem hi)
    have e1 : (P.map (·.1)).getD i zEl = P[i].1 := by simp [List.getD, hi]
    rw [e1] at h1
    have := h2 _ eA j u h1
    unfold Addr.add at this
    split at this
    · rename_i h0; rw [h0]; exact this
    · exact this
/-- What a copy of classes is (of ones that lie in an elder world w0). -/
structure Copied (w0 w : World) (L : List Cl) (P : List (El × Cl)) (v : Value) (w' : World) : Prop where
  snd : P.map (·.2) = L
  ok : ∀ z ∈ P, ElCl w0 z.1 z.2
  below : Below w.heap.size w w'
  at' : (L = [] ∧ ∃ a c, v = .slice a 0 c) ∨ ∃ g tl cap, w.heap.size ≤ g ∧ v = .slice (some ⟨g, 0, none⟩) L.length cap ∧ Row g tl (P.map (·.1)) w'
set_option maxRecDepth 100000 in
theorem cloneRawZero (a : Addr) (c : Nat) (w : World) :
    Calls Tryd.prog 123 #[.slice (some a) 0 c] w fun e w' => (∃ b c', e = .returned (.slice b 0 c')) ∧ Below w.heap.size w w' := by
  have qT : ∀ (w : World) (a : Option Addr) (n c n' c' : Nat), (binOp .eql 22 (.slice a n c) (.slice none n' c')).run Tryd.prog w = .ok (.bool a.isNone) w := fun w a n c n' c' => Lib.run_eql_slice_nil w _ _ a n c n' c' Tryd.underlying22
  go_enter Tryd.func123, Tryd.ntmps123
  go_wp2
  go_ret
  exact ⟨⟨_, _, rfl⟩, below_alloc (Below.refl _ _) _⟩
theorem cloneCls_any (A : Option Addr) (c : Nat) (L : List Cl) (w0 w : World) (h : kCl.C w0 A L.length L) (hw : Below w0.heap.size w0 w) (hb : L.length ≤ 1000000) :
    Calls Tryd.prog 123 #[.slice A L.length c] w fun e w' => ∃ v' P, e = .returned v' ∧ Copied w0 w L P v' w' := by
  obtain ⟨P, hP, hok, hcells⟩ := els_of h
  cases A with
  | none =>
    have h0 : L = [] := by
      obtain ⟨_, _, h3⟩ := h
      cases L with
      | nil => rfl
      | cons x xs => obtain ⟨ad, e, _⟩ := h3 (by simp); cases e
    subst h0
    exact (cloneRawNil _ _ w).mono fun e w' ⟨he, hw⟩ => ⟨_, P, he, hP, hok, by rw [hw]; exact Below.refl _ _, .inl ⟨rfl, _, _, rfl⟩⟩
  | some ad =>
    by_cases hn : 0 < L.length
    · obtain ⟨b, off, e⟩ := C_plain h hn (by decide)
      cases e
      obtain ⟨i0, hi, hz⟩ := Option.map_eq_some_iff.1 infoCls
      simp only [Prod.mk.injEq] at hz
      obtain ⟨hz0, hz1, hz2⟩ := hz
      have hlen : P.length = L.length := by rw [← hP, List.length_map]
      refine (cloneRaw i0 _ 7 136 hi hz0 hz1 hz2 rfl (by decide) Tryd.sizeOf57 b off L.length c ((P.map (·.1)).flatMap El.cells) w (by rw [flat_len, List.length_map, hlen]) (by unfold maxLen; omega) (by omega) (fun q u hu => (hw.cell (World.block_lt_of_cell? w0 _ (hcells b off rfl q u hu))).trans (hcells b off rfl q u hu)) (fun u hu => ?_)).mono ?_
      · obtain ⟨e, _, he⟩ := List.mem_flatMap.1 hu
        exact cells_one e u he
      · rintro e w' ⟨v', he, ho, hne, hB⟩
        refine ⟨v', P, he, hP, hok, hB, .inr ?_⟩
        rcases ho.2 with ⟨rfl, _⟩ | ⟨g, cap, cur, rfl, hg, hh, hf, hx⟩
        · exact absurd rfl hne
        · refine ⟨g, cur.toList.drop (L.length * 7), cap, hg, rfl, ?_⟩
          unfold Row
          rw [← hx.2.2, List.take_append_drop]
          simpa using hh
    · have h0 : L = [] := List.eq_nil_of_length_eq_zero (by omega)
      subst h0
      exact (cloneRawZero ad c w).mono fun e w' ⟨⟨b, c', he⟩, hB⟩ => ⟨_, P, he, hP, hok, hB, .inl ⟨rfl, _, _, rfl⟩⟩

/-- A cell of an elder block is written. -/
theorem R_old {α : Type} {d : Kd α} {e : Nat} {w : World} {base : Nat} {ok : Nat → Prop} {v : Value} {xs : List α} (h : d.R e w base ok v xs) {p : Addr} (hp : p.block < base) (u : Value) : d.R e (w.setCell p u) base ok v xs :=
  Kd.R_mono (Kd.R_far (Kd.R_bound h) (fun k hk => by have := hk.2.1; omega) u) (fun _ hk => hk.1)
set_option maxHeartbeats 2000000 in
theorem copied_any (e : El) (x : Cl) (w : World) (h : ElCl w e x) (hb : x.faces.length * 16 ≤ 140737488355328) :
    Calls Tryd.prog 65 #[.agg #[.slice e.p.a e.p.n e.p.c, .string e.n, .string e.s, .bool e.b, .slice e.f.a e.f.n e.f.c, .slice e.l.a e.l.n e.l.c, .slice e.m.a e.m.n e.m.c]] w
      fun r w' => ∃ A c, r = .returned (.agg #[.slice e.p.a e.p.n e.p.c, .string e.n, .string e.s, .bool e.b, .slice A x.faces.length c, .slice e.l.a e.l.n e.l.c, .slice e.m.a e.m.n e.m.c]) ∧ Kd.string.R 9 w' w.heap.size (fun _ => True) (.slice A x.faces.length c) x.faces ∧ Below w.heap.size w w' := by
  obtain ⟨⟨pa, pn, pc⟩, n, s, b, ⟨fa, fn, fc⟩, ⟨la, ln, lc⟩, ⟨ma, mn, mc⟩⟩ := e
  have hfn : fn = x.faces.length := h.fn
  subst hfn
  have HC := hid (show Kd.string.C w fa x.faces.length x.faces from h.fC)
  have HB := hid hb
  clear h hb
  generalize x.faces = F at *
  go_enter Tryd.func65, Tryd.ntmps65
  go_wp2_with fail
  have hB1 := below_alloc (below_alloc (Below.refl w.heap.size w) (.cells #[.slice pa pn pc, .string n, .string s, .bool b, .slice fa F.length fc, .slice la ln lc, .slice ma mn mc] 57)) (.cells #[.slice none 0 0, .string ⟨#[]⟩, .string ⟨#[]⟩, .bool false, .slice none 0 0, .slice none 0 0, .slice none 0 0] 57)
  have hC1 := hid (Kd.C_below HC.out hB1)
  have k0 := blk_alloc (blk_new w (.cells #[.slice pa pn pc, .string n, .string s, .bool b, .slice fa F.length fc, .slice la ln lc, .slice ma mn mc] 57)) (.cells #[.slice none 0 0, .string ⟨#[]⟩, .string ⟨#[]⟩, .bool false, .slice none 0 0, .slice none 0 0, .slice none 0 0] 57)
  have k1 := blk_new (w.alloc (.cells #[.slice pa pn pc, .string n, .string s, .bool b, .slice fa F.length fc, .slice la ln lc, .slice ma mn mc] 57)) (.cells #[.slice none 0 0, .string ⟨#[]⟩, .string ⟨#[]⟩, .bool false, .slice none 0 0, .slice none 0 0, .slice none 0 0] 57)
  rw [World.size_alloc] at k1
  have hne : w.heap.size ≠ w.heap.size + 1 := by omega
  generalize (w.alloc (.cells #[.slice pa pn pc, .string n, .string s, .bool b, .slice fa F.length fc, .slice la ln lc, .slice ma mn mc] 57)).alloc (.cells #[.slice none 0 0, .string ⟨#[]⟩, .string ⟨#[]⟩, .bool false, .slice none 0 0, .slice none 0 0, .slice none 0 0] 57) = w1 at *
  refine (cloneStr_any fa fc F w1 hC1.out HB.out).mono ?_
  rintro r w2 ⟨v', rfl, hQ, hb⟩
  obtain ⟨A, c, rfl⟩ := Kd.R_slice hQ
  have HQ := hid hQ
  have k0' := hid (blk_below k0 hb)
  have k1' := hid (blk_below k1 hb)
  have hB2 := below_step hB1 hb
  have hle := blk_lt k1
  clear hQ hb hB1 k0 k1 hC1
  have z1 := blk_lt k1'.out
  have c0 := blk_cell k0'.out 0
  have c1 := blk_cell k0'.out 1
  have c2 := blk_cell k0'.out 2
  have c3 := blk_cell k0'.out 3
  have c4 := blk_cell k0'.out 4
  have c5 := blk_cell k0'.out 5
  have c6 := blk_cell k0'.out 6
  have f0 := blk_frozen k0'.out 4
  have d0 := blk_cell k1'.out 0
  have d1 := blk_cell k1'.out 1
  have d2 := blk_cell k1'.out 2
  have d3 := blk_cell k1'.out 3
  have d4 := blk_cell k1'.out 4
  have d5 := blk_cell k1'.out 5
  have d6 := blk_cell k1'.out 6
  have g0 := blk_frozen k1'.out 0
  have g1 := blk_frozen k1'.out 1
  have g2 := blk_frozen k1'.out 2
  have g3 := blk_frozen k1'.out 3
  have g4 := blk_frozen k1'.out 4
  have g5 := blk_frozen k1'.out 5
  have g6 := blk_frozen k1'.out 6
  go_wp2
  refine bodyPost_ret (results_single rfl (.cell (w.heap.size + 1) 57 #[.slice pa pn pc, .string n, .string s, .bool b, .slice A F.length c, .slice la ln lc, .slice ma mn mc] (0, 0) _ rfl (blk_put (blk_put (blk_put (blk_put (blk_put (blk_put (blk_put (blk_far k1'.out (by show w.heap.size + 1 ≠ w.heap.size; omega) _) 0 _ rfl) 1 _ rfl) 2 _ rfl) 3 _ rfl) 4 _ rfl) 5 _ rfl) 6 _ rfl) Tryd.underlying57 rfl (by kernel_rfl) .nil)) rfl ?_
  refine ⟨A, c, rfl, Kd.R_lower (R_old (R_old (R_old (R_old (R_old (R_old (R_old (R_old HQ.out (by show w.heap.size < _; omega) _) (by show w.heap.size + 1 < _; omega) _) (by show w.heap.size + 1 < _; omega) _) (by show w.heap.size + 1 < _; omega) _) (by show w.heap.size + 1 < _; omega) _) (by show w.heap.size + 1 < _; omega) _) (by show w.heap.size + 1 < _; omega) _) (by show w.heap.size + 1 < _; omega) _) (by omega), ?_⟩
  exact (((((((hB2.setCell (Nat.le_refl _) _).setCell (by show w.heap.size ≤ w.heap.size + 1; omega) _).setCell (by show w.heap.size ≤ w.heap.size + 1; omega) _).setCell (by show w.heap.size ≤ w.heap.size + 1; omega) _).setCell (by show w.heap.size ≤ w.heap.size + 1; omega) _).setCell (by show w.heap.size ≤ w.heap.size + 1; omega) _).setCell (by show w.heap.size ≤ w.heap.size + 1; omega) _).setCell (by show w.heap.size ≤ w.heap.size + 1; omega) _
end Go.Proofs.YtbogcknkkbnfnaaDoor
