/- Opening an argument of any type that is built of integers, bools, texts, structs, arrays and slices: what its memory holds, as a value of Lean's; with bounds on its texts and rows. -/
import Derived.Test.YthjjkpkohhmgcaaWWords
import Derived.OpenShut
import Derived.SizedLaws
import Derived.WideShapes
import Derived.Carry
import Derived.ChangeOld
namespace Go.Proofs.Ythjjkpkohhmgcaa.Op
open Go Go.RowKit Go.WideShapes Go.Proofs.YthjjkpkohhmgcaaW.PrintWords

/-- How a datum of type t is opened as a value of kind k; g: what is known of it. -/
def Opn {α : Type} (P : Program) (k : Kd α) (t : TypeId) (g : α → Prop) : Prop :=
  ∀ (H : Type) (enc : TypeId × Value → H) (w : World) (fuel : Nat) (cs : List Value) (x : DataW H × List MemPlace),
    DataW.trod enc P w 0 (fun _ => true) true fuel t cs = some x → (∀ n ∈ DataW.weights P t x.1, n ≤ reachBytes) → ∃ a, k.K w a cs ∧ g a

theorem opn_int {P : Program} {t : TypeId} {k : IntKind} (ht : P.underlying t = some (.int k)) : Opn P (Kd.int k) t (fun n => (Lit.int k n).wf = true) := by
  intro H enc w fuel cs x h _
  obtain ⟨n, rfl, _, hw⟩ := DataW.trod_int ht h
  exact ⟨n, rfl, hw⟩
theorem opn_bool {P : Program} {t : TypeId} (ht : P.underlying t = some .bool) : Opn P Kd.bool t (fun _ => True) := by
  intro H enc w fuel cs x h _
  obtain ⟨n, rfl, _⟩ := DataW.trod_bool ht h
  exact ⟨n, rfl, trivial⟩
theorem opn_string {P : Program} {t : TypeId} (ht : P.underlying t = some .string) : Opn P Kd.string t (fun s => s.size ≤ reachBytes) := by
  intro H enc w fuel cs x h hw
  obtain ⟨s, rfl, rfl, _⟩ := DataW.trod_string ht h
  refine ⟨s, rfl, ?_⟩
  have := hw s.data.toList.length (by simp [DataW.weights])
  exact this
theorem Opn.mono {α : Type} {P : Program} {k : Kd α} {t : TypeId} {g g' : α → Prop} (h : Opn P k t g) (hg : ∀ a, g a → g' a) : Opn P k t g' := by
  intro H enc w fuel cs x h1 h2
  obtain ⟨a, ha, hb⟩ := h H enc w fuel cs x h1 h2
  exact ⟨a, ha, hg a hb⟩
theorem opn_iso {α β : Type} {P : Program} {k : Kd α} {t : TypeId} {g : α → Prop} (h : Opn P k t g) (f : β → α) (f' : α → β) (hf : ∀ a, f (f' a) = a) : Opn P (Kd.iso k f) t (fun b => g (f b)) := by
  intro H enc w fuel cs x h1 h2
  obtain ⟨a, ha, hb⟩ := h H enc w fuel cs x h1 h2
  refine ⟨f' a, ?_, ?_⟩
  · show k.K w (f (f' a)) cs
    rw [hf]; exact ha
  · show g (f (f' a))
    rw [hf]; exact hb

theorem list_of {α : Type} {Q : Nat → α → Prop} (n : Nat) (h : ∀ i, i < n → ∃ a, Q i a) : ∃ xs : List α, xs.length = n ∧ ∀ i a, xs[i]? = some a → Q i a := by
  induction n with
  | zero => exact ⟨[], rfl, fun i a h => by simp at h⟩
  | succ n ih =>
    obtain ⟨xs, hl, hx⟩ := ih (fun i hi => h i (by omega))
    obtain ⟨a, ha⟩ := h n (by omega)
    refine ⟨xs ++ [a], by simp [hl], fun i b hb => ?_⟩
    by_cases hi : i < n
    · rw [List.getElem?_append_left (by omega)] at hb
      exact hx i b hb
    · have hi2 := (List.getElem?_eq_some_iff.1 hb).1
      simp only [List.length_append, List.length_singleton] at hi2
      obtain rfl : i = n := by omega
      rw [List.getElem?_append_right (by omega), hl] at hb
      simp at hb
      subst hb
      exact ha
theorem weightsAll_mem {H : Type} {P : Program} {e : TypeId} {l : List (DataW H)} {d : DataW H} (h : d ∈ l) {n : Nat} (hn : n ∈ DataW.weights P e d) : n ∈ DataW.weightsAll P e l := by
  induction l with
  | nil => cases h
  | cons a l ih =>
    unfold DataW.weightsAll
    rw [List.mem_append]
    rcases List.mem_cons.1 h with rfl | h
    · exact .inl hn
    · exact .inr (ih h)

theorem opn_slice {α : Type} {P : Program} {d : Kd α} {t e : TypeId} {g : α → Prop} (ht : P.underlying t = some (.slice e)) (hsz : P.cellsOf e = d.sz) (h : Opn P d e g) : Opn P (Kd.slice e d) t (fun l => l.length * P.bytesOf e ≤ reachBytes ∧ ∀ a ∈ l, g a) := by
  intro H enc w fuel cs x hx hw
  rcases DataW.trod_slice ht hx with ⟨rfl, rfl⟩ | ⟨a, len, cap, elems, rest, n, _, rfl, rfl, _, hl, hm, hlen, hel, _, _⟩
  · exact ⟨[], ⟨none, 0, rfl, by simp, rfl, by simp, fun h => absurd h (by simp)⟩, by simp [reachBytes], fun a h => by cases h⟩
  · have key : ∀ i, i < len → ∃ b, (∃ c, c.length = d.sz ∧ d.K w b c ∧ ∀ j u, c[j]? = some u → w.cell? (a.add (i * d.sz + j)) = some u) ∧ g b := by
      intro i hi
      have he := hel i hi
      have hy : i < elems.length := by omega
      rw [List.getElem?_eq_getElem hy, Option.bind_eq_some_iff] at he
      obtain ⟨c, hc, htr⟩ := he
      obtain ⟨b, hk, hg⟩ := h H enc w n c _ htr (fun m hm => hw m (by
        simp only [DataW.weights, ht]
        refine List.mem_cons_of_mem _ (List.mem_append_left _ (weightsAll_mem ?_ hm))
        exact List.mem_map_of_mem (List.getElem_mem hy)))
      rw [hsz] at hc
      obtain ⟨h1, h2, h3⟩ := World.cells?_some hc
      have hcl : c.length = d.sz := d.K_len hk
      refine ⟨b, ⟨c, hcl, hk, fun j u hu => ?_⟩, hg⟩
      have hj : j < d.sz := by rw [← hcl]; exact (List.getElem?_eq_some_iff.1 hu).1
      have := h3 j hj
      rw [Addr.add_add] at this
      exact this.trans hu
    obtain ⟨xs, hxl, hxs⟩ := list_of len key
    have hlen2 : elems.length * P.bytesOf e ≤ reachBytes := by
      have := hw ((elems.length + rest.length) * P.bytesOf e) (by simp [DataW.weights, ht])
      have h2 : elems.length * P.bytesOf e ≤ (elems.length + rest.length) * P.bytesOf e := Nat.mul_le_mul_right _ (by omega)
      omega
    refine ⟨xs, ⟨some a, cap, by rw [hxl], by omega, rfl, ?_, fun _ => ⟨a, rfl, fun j p hp => (hxs j p hp).1⟩⟩, by rw [hxl, ← hlen]; exact hlen2, fun b hb => ?_⟩
    · have : maxLen = 9223372036854775807 := rfl
      omega
    · obtain ⟨i, hi⟩ := List.getElem?_of_mem hb
      exact (hxs i b hi).2

/-- Fields in line. -/
def OpnS {α : Type} (P : Program) (k : Kd α) (ts : List TypeId) (g : α → Prop) : Prop :=
  ∀ (H : Type) (enc : TypeId × Value → H) (w : World) (fuel : Nat) (cs : List Value) (xs : List (DataW H × List MemPlace)),
    cs.length = (ts.map P.cellsOf).sum → xs.length = ts.length → (∀ i t, ts[i]? = some t → DataW.trod enc P w 0 (fun _ => true) true fuel t ((cs.drop ((ts.take i).map P.cellsOf).sum).take (P.cellsOf t)) = xs[i]?) →
    (∀ n ∈ DataW.weightsEach P ts (xs.map (·.1)), n ≤ reachBytes) → ∃ a, k.K w a cs ∧ g a
theorem opnS_one {α : Type} {P : Program} {k : Kd α} {t : TypeId} {g : α → Prop} (h : Opn P k t g) : OpnS P k [t] g := by
  intro H enc w fuel cs xs hl hx ht hw
  match xs, hx with
  | [x], _ =>
    have := ht 0 t rfl
    simp only [List.map_cons, List.map_nil, List.sum_cons, List.sum_nil, Nat.add_zero] at hl
    simp only [List.take_zero, List.map_nil, List.sum_nil, List.drop_zero] at this
    rw [List.take_of_length_le (by omega)] at this
    exact h H enc w fuel cs x this (fun n hn => hw n (by simp [DataW.weightsEach, hn]))
theorem opnS_cons {α β : Type} {P : Program} {k : Kd α} {k' : Kd β} {t : TypeId} {ts : List TypeId} {g : α → Prop} {g' : β → Prop} (h : Opn P k t g) (h' : OpnS P k' ts g') : OpnS P (Kd.pair k k') (t :: ts) (fun p => g p.1 ∧ g' p.2) := by
  intro H enc w fuel cs xs hl hx ht hw
  match xs, hx with
  | x :: xs, hx =>
    simp only [List.length_cons, Nat.add_right_cancel_iff] at hx
    simp only [List.map_cons, List.sum_cons] at hl
    have h0 := ht 0 t rfl
    simp only [List.take_zero, List.map_nil, List.sum_nil, List.drop_zero, List.getElem?_cons_zero] at h0
    obtain ⟨a, ha, hga⟩ := h H enc w fuel _ x h0 (fun n hn => hw n (by simp [DataW.weightsEach, hn]))
    obtain ⟨b, hb, hgb⟩ := h' H enc w fuel (cs.drop (P.cellsOf t)) xs (by rw [List.length_drop]; omega) hx (fun i u hu => by
      have := ht (i + 1) u hu
      simp only [List.take_succ_cons, List.map_cons, List.sum_cons, List.getElem?_cons_succ] at this
      rw [List.drop_drop]
      exact this) (fun n hn => hw n (by
        simp only [List.map_cons, DataW.weightsEach, List.mem_append]
        exact .inr hn))
    exact ⟨(a, b), ⟨cs.take (P.cellsOf t), cs.drop (P.cellsOf t), (List.take_append_drop _ _).symm, ha, hb⟩, hga, hgb⟩
/-- The fields of a struct lie in line. -/
def inLine (P : Program) (fs : Array Field) : Bool := (List.range fs.size).all fun i => match fs[i]? with
  | some f => f.offset == ((fs.toList.take i).map fun f => P.cellsOf f.type).sum
  | none => true
theorem opn_struct {α : Type} {P : Program} {k : Kd α} {t : TypeId} {fs : Array Field} {ts : List TypeId} {g : α → Prop} (ht : P.underlying t = some (.struct fs)) (hts : fs.toList.map (·.type) = ts) (hin : inLine P fs = true) (hsz : P.cellsOf t = (ts.map P.cellsOf).sum) (h : OpnS P k ts g) : Opn P k t g := by
  intro H enc w fuel cs x hx hw
  obtain ⟨xs, n, rfl, rfl, hl, hxl, hf⟩ := DataW.trod_struct ht hx
  subst hts
  refine h H enc w n cs xs (hl.trans hsz) (by simp [hxl]) (fun i u hu => ?_) (fun m hm => hw m (by simpa [DataW.weights, ht] using hm))
  rw [List.getElem?_map] at hu
  cases hfi : fs.toList[i]? with
  | none => rw [hfi] at hu; cases hu
  | some f =>
    rw [hfi] at hu
    obtain rfl : f.type = u := by simpa using hu
    have hfi' : fs[i]? = some f := by simpa using hfi
    have hi : i < fs.size := by
      have := (List.getElem?_eq_some_iff.1 hfi).1
      simpa using this
    have ho := List.all_eq_true.1 hin i (by simp [hi])
    rw [hfi'] at ho
    have ho' : f.offset = ((fs.toList.take i).map fun f => P.cellsOf f.type).sum := by simpa using ho
    have := hf i f hfi'
    rw [ho'] at this
    rw [← List.map_take, List.map_map]
    exact this
theorem opn_array {α : Type} {P : Program} {k : Kd α} {t e : TypeId} {m : Nat} {g : α → Prop} (ht : P.underlying t = some (.array m e)) (hsz : P.cellsOf t = m * P.cellsOf e) (h : OpnS P k (List.replicate m e) g) : Opn P k t g := by
  intro H enc w fuel cs x hx hw
  obtain ⟨xs, n, rfl, rfl, hl, hxl, hf⟩ := DataW.trod_array ht hx
  refine h H enc w n cs xs (by rw [hl, hsz]; simp) (by simp [hxl]) (fun i u hu => ?_) (fun q hq => hw q ?_)
  · have hi : i < m := by
      have := (List.getElem?_eq_some_iff.1 hu).1
      simpa using this
    rw [List.getElem?_replicate, if_pos hi] at hu
    obtain rfl := Option.some.inj hu
    rw [List.take_replicate, List.map_replicate, List.sum_replicate_nat, Nat.min_eq_left (by omega)]
    exact hf i hi
  · have all : ∀ (l : List (DataW H)), q ∈ DataW.weightsEach P (List.replicate l.length e) l → q ∈ DataW.weightsAll P e l := by
      intro l
      induction l with
      | nil => intro h; simp [DataW.weightsEach] at h
      | cons a l ih =>
        intro h
        simp only [List.length_cons, List.replicate_succ, DataW.weightsEach, List.mem_append] at h
        simp only [DataW.weightsAll, List.mem_append]
        exact h.imp id ih
    have := all (xs.map (·.1)) (by simpa [hxl] using hq)
    simpa [DataW.weights, ht] using this

/-- One of a row's weights: those of each argument. -/
theorem weights_of {H : Type} {P : Program} {ts : List TypeId} {ds : List (DataW H)} (h : (DataW.weightsEach P ts ds).all (· ≤ reachBytes) = true) {j : Nat} {t : TypeId} {d : DataW H} (ht : ts[j]? = some t) (hd : ds[j]? = some d) : ∀ n ∈ DataW.weights P t d, n ≤ reachBytes := by
  intro n hn
  have := List.all_eq_true.1 h n (DataW.weights_mem_each ht hd n hn)
  simpa using this

/-- An argument that is a struct or an array. -/
theorem open_agg {α H : Type} {enc : TypeId × Value → H} {P : Program} {w : World} {k : Kd α} {t : TypeId} {g : α → Prop} {v : Value} {d : DataW H} {p : List MemPlace} (ho : Opn P k t g) (hv : ∃ cs, v = .agg cs) (h : DataW.Trod enc P w 0 (fun _ => true) true t v d p) (hw : ∀ n ∈ DataW.weights P t d, n ≤ reachBytes) : ∃ a cs, v = .agg cs ∧ k.K w a cs.toList ∧ g a := by
  obtain ⟨cs, rfl⟩ := hv
  obtain ⟨fuel, hf⟩ := h
  obtain ⟨a, ha, hb⟩ := ho H enc w fuel _ _ hf hw
  exact ⟨a, cs, rfl, ha, hb⟩
theorem agg_struct {P : Program} {w : World} {r : Reach} {b : Nat} {t : TypeId} {v : Value} {fs : Array Field} (ht : P.underlying t = some (.struct fs)) (h : Value.okWide P w r b t v) : ∃ cs, v = .agg cs := by
  obtain ⟨cs, h, _⟩ := okWide_struct ht h
  exact ⟨cs, h⟩
theorem agg_array {P : Program} {w : World} {r : Reach} {b : Nat} {t e : TypeId} {n : Nat} {v : Value} (ht : P.underlying t = some (.array n e)) (h : Value.okWide P w r b t v) : ∃ cs, v = .agg cs := by
  simp only [Value.okWide, ht] at h
  obtain ⟨cs, h, _⟩ := h
  exact ⟨cs, h⟩
/-- .. a slice. -/
theorem open_slice {α H : Type} {enc : TypeId × Value → H} {P : Program} {w : World} {d : Kd α} {r : Reach} {b : Nat} {t e : TypeId} {g : List α → Prop} {v : Value} {dd : DataW H} {p : List MemPlace} (ht : P.underlying t = some (.slice e)) (ho : Opn P (Kd.slice e d) t g) (hv : Value.okWide P w r b t v) (h : DataW.Trod enc P w 0 (fun _ => true) true t v dd p) (hw : ∀ n ∈ DataW.weights P t dd, n ≤ reachBytes) : ∃ A l c, v = .slice A l.length c ∧ l.length ≤ c ∧ d.C w A l.length l ∧ g l := by
  obtain ⟨A, n, c, rfl⟩ := okWide_slice ht hv
  obtain ⟨fuel, hf⟩ := h
  obtain ⟨l, ⟨A', c', h1, h2, h3⟩, hg⟩ := ho H enc w fuel _ _ hf hw
  simp only [Value.cells, List.cons.injEq, Value.slice.injEq, and_true] at h1
  obtain ⟨rfl, rfl, rfl⟩ := h1
  exact ⟨A, l, c, rfl, h2, h3, hg⟩
theorem trod_places {H : Type} {enc : TypeId × Value → H} {P : Program} {w : World} {t : TypeId} {v : Value} {d : DataW H} {p : List MemPlace} (h : DataW.Trod enc P w 0 (fun _ => true) true t v d p) : ∀ x ∈ p, x.block < w.heap.size := by
  obtain ⟨fuel, hf⟩ := h
  exact DataW.trod_lt _ _ _ _ hf
end Go.Proofs.Ythjjkpkohhmgcaa.Op
