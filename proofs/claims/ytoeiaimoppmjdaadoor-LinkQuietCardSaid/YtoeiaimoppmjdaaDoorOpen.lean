/- Arguments opened: from the form's own reading of an argument to what its cells say (the print's kinds), type by type; the bulk of the reading bounds every length. -/
import Derived.Test.YtoeiaimoppmjdaaDoorRows
import Derived.Test.YtoeiaimoppmjdaaDoorWWords
import Derived.Deep.Slices
import Derived.OpenShut
import Derived.ProofKit
namespace Go.Proofs.YtoeiaimoppmjdaaDoor.Opn
open Go Go.ChangeShapes Go.WideShapes Go.RowKit Go.Deep Go.Proofs.YtoeiaimoppmjdaaDoorW.PrintWords
set_option linter.unusedVariables false
set_option linter.unusedSimpArgs false

theorem bulk_one {H : Type} (d : DataW H) : 1 ≤ Rows.uptoBulk d := by
  cases d with
  | lit l => cases l <;> simp [Rows.uptoBulk]
  | nil => simp [Rows.uptoBulk]
  | ptr d => simp [Rows.uptoBulk]
  | slice elems spare => simp [Rows.uptoBulk]
  | agg parts => simp [Rows.uptoBulk]
  | iface t d => simp [Rows.uptoBulk]
  | map entries => simp [Rows.uptoBulk]
  | held h => simp [Rows.uptoBulk]

/-- Every reading of type T has its cells as kind d says, of a value that is valid (V), and is at least of bulk B. -/
structure Opens {α : Type} (P : Program) (T : TypeId) (d : Kd α) (V : α → Prop) (B : α → Nat) : Prop where
  sz : P.cellsOf T = d.sz
  go : ∀ {H : Type} {enc : TypeId × Value → H} {w : World} {fuel : Nat} {cs : List Value} {x : DataW H × List MemPlace},
    DataW.trod enc P w 0 (fun _ => true) true fuel T cs = some x → ∃ a, d.K w a cs ∧ V a ∧ B a ≤ Rows.uptoBulk x.1

theorem opens_int {P : Program} {T : TypeId} {k : IntKind} (ht : P.underlying T = some (.int k)) (hc : P.cellsOf T = 1) : Opens P T (Kd.int k) (fun n => (Lit.int k n).wf = true) (fun _ => 1) :=
  ⟨hc, fun h => by
    obtain ⟨n, rfl, rfl, wf⟩ := DataW.trod_int ht h
    exact ⟨n, rfl, wf, bulk_one _⟩⟩
theorem opens_bool {P : Program} {T : TypeId} (ht : P.underlying T = some .bool) (hc : P.cellsOf T = 1) : Opens P T Kd.bool (fun _ => True) (fun _ => 1) :=
  ⟨hc, fun h => by
    obtain ⟨b, rfl, rfl⟩ := DataW.trod_bool ht h
    exact ⟨b, rfl, trivial, bulk_one _⟩⟩
theorem opens_string {P : Program} {T : TypeId} (ht : P.underlying T = some .string) (hc : P.cellsOf T = 1) : Opens P T Kd.string (fun _ => True) (fun s => s.size + 1) :=
  ⟨hc, fun h => by
    obtain ⟨s, rfl, rfl, _⟩ := DataW.trod_string ht h
    refine ⟨s, rfl, trivial, ?_⟩
    simp [Rows.uptoBulk]⟩
/-- A list's bulk. -/
def sumB {α : Type} (B : α → Nat) : List α → Nat
  | [] => 0
  | a :: l => B a + sumB B l
theorem sumB_le {α H : Type} (B : α → Nat) (f : Nat → α) (D : Nat → DataW H) : ∀ n, (∀ i, i < n → B (f i) ≤ Rows.uptoBulk (D i)) → sumB B ((List.range n).map f) ≤ Rows.uptoBulkAll ((List.range n).map D) := by
  intro n h
  have key : ∀ l : List Nat, (∀ i, i ∈ l → B (f i) ≤ Rows.uptoBulk (D i)) → sumB B (l.map f) ≤ Rows.uptoBulkAll (l.map D) := by
    intro l
    induction l with
    | nil => intro _; simp [sumB]
    | cons x l ih =>
      intro h
      have h1 := h x (List.mem_cons_self)
      have h2 := ih (fun i hi => h i (List.mem_cons_of_mem _ hi))
      simp only [List.map_cons, sumB, Rows.uptoBulkAll]
      omega
  exact key _ (fun i hi => h i (List.mem_range.1 hi))
theorem sumB_mem {α : Type} {B : α → Nat} {a : α} {l : List α} (h : a ∈ l) : B a ≤ sumB B l := by
  induction l with
  | nil => cases h
  | cons x l ih =>
    simp only [sumB]
    rcases List.mem_cons.1 h with rfl | h
    · omega
    · have := ih h; omega
theorem sumB_length {α : Type} {B : α → Nat} (hB : ∀ a, 1 ≤ B a) (l : List α) : l.length ≤ sumB B l := by
  induction l with
  | nil => simp [sumB]
  | cons x l ih => have := hB x; simp only [sumB, List.length_cons]; omega

theorem opens_slice {α : Type} [Inhabited α] {P : Program} {T e : TypeId} {d : Kd α} {V : α → Prop} {B : α → Nat} (ht : P.underlying T = some (.slice e)) (hc : P.cellsOf T = 1) (he : Opens P e d V B) :
    Opens P T (Kd.slice e d) (fun l => ∀ a, a ∈ l → V a) (fun l => sumB B l + 1) :=
  ⟨hc, by
    intro H enc w fuel cs x h
    rcases open_slice ht h with ⟨rfl, rfl⟩ | ⟨a, len, cap, m, n, D, Pl, rfl, _, hl, hm, hmm, rfl, hi⟩
    · exact ⟨([] : List α), ⟨none, 0, rfl, Nat.le_refl _, rfl, Nat.zero_le _, fun h => absurd h (Nat.lt_irrefl 0)⟩, ⟨fun a ha => absurd ha List.not_mem_nil, by simp [sumB, Rows.uptoBulk]⟩⟩
    · have hlm : len ≤ m := by simp at hmm; omega
      obtain ⟨f, hf⟩ := choose_lt (α := α) (n := len) (p := fun i y => ∃ cs', w.cells? 0 (a.add (i * P.cellsOf e)) (P.cellsOf e) = some cs' ∧ d.K w y cs' ∧ V y ∧ B y ≤ Rows.uptoBulk (D i)) (fun i hil => by
        obtain ⟨cs', h1, h2⟩ := hi i (by omega)
        obtain ⟨y, hK, hV, hB⟩ := he.go h2
        exact ⟨y, cs', h1, hK, hV, hB⟩)
      refine ⟨(List.range len).map f, ⟨some a, cap, by simp, by simpa using hl, by simp, by simp only [maxLen] at hm; simp; omega, fun hp => ⟨a, rfl, fun j p hj => ?_⟩⟩, fun y hy => ?_, ?_⟩
      · have hjl : j < len := by
          have := (List.getElem?_eq_some_iff.1 hj).1
          simpa using this
        obtain ⟨cs', h1, hK, _, _⟩ := hf j hjl
        have hp' : p = f j := by
          rw [List.getElem?_map, List.getElem?_range hjl] at hj
          simpa using hj.symm
        subst hp'
        obtain ⟨_, hlen, hcell⟩ := World.cells?_some h1
        refine ⟨cs', d.K_len hK, hK, fun i u hu => ?_⟩
        have hil : i < cs'.length := (List.getElem?_eq_some_iff.1 hu).1
        rw [he.sz] at hcell hlen
        have := hcell i (by omega)
        rw [Go.Deep.add_add] at this
        rw [this]; exact hu
      · obtain ⟨i, hi', rfl⟩ := List.mem_map.1 hy
        exact (hf i (List.mem_range.1 hi')).choose_spec.2.2.1
      · have := sumB_le B f D len (fun i hil => (hf i hil).choose_spec.2.2.2)
        simp only [Rows.uptoBulk]
        omega⟩

/-- The fields from place i on, whose cells begin at off. -/
structure OpensF {α : Type} (P : Program) (fs : List Go.Field) (off : Nat) (d : Kd α) (V : α → Prop) (B : α → Nat) : Prop where
  go : ∀ {H : Type} {enc : TypeId × Value → H} {w : World} {n : Nat} {cs : List Value} {ys : List (DataW H × List MemPlace)}, off + d.sz ≤ cs.length → ys.length = fs.length →
    (∀ (i : Nat) (f : Go.Field), fs[i]? = some f → DataW.trod enc P w 0 (fun _ => true) true n f.type ((cs.drop f.offset).take (P.cellsOf f.type)) = ys[i]?) →
    ∃ a, d.K w a ((cs.drop off).take d.sz) ∧ V a ∧ B a ≤ Rows.uptoBulkAll (ys.map (·.1))
theorem opensF_one {α : Type} {P : Program} {f : Go.Field} {d : Kd α} {V : α → Prop} {B : α → Nat} (h : Opens P f.type d V B) : OpensF P [f] f.offset d V B :=
  ⟨by
    intro H enc w n cs ys hl hy hg
    match ys, hy with
    | [y], _ =>
      have h0 := hg 0 f rfl
      rw [h.sz] at h0
      obtain ⟨a, hK, hV, hB⟩ := h.go h0
      refine ⟨a, hK, hV, ?_⟩
      simp only [List.map_cons, List.map_nil, Rows.uptoBulkAll]
      omega⟩
theorem opensF_cons {α β : Type} {P : Program} {f : Go.Field} {fs : List Go.Field} {off : Nat} {d : Kd α} {V : α → Prop} {B : α → Nat} {d' : Kd β} {V' : β → Prop} {B' : β → Nat} (h : Opens P f.type d V B) (h' : OpensF P fs off d' V' B') (ho : off = f.offset + d.sz) :
    OpensF P (f :: fs) f.offset (Kd.pair d d') (fun x => V x.1 ∧ V' x.2) (fun x => B x.1 + B' x.2) :=
  ⟨by
    intro H enc w n cs ys hl hy hg
    match ys, hy with
    | y :: ys, hy =>
      have h0 := hg 0 f rfl
      rw [h.sz] at h0
      obtain ⟨a, hK, hV, hB⟩ := h.go h0
      have hl' : f.offset + (d.sz + d'.sz) ≤ cs.length := hl
      obtain ⟨b, hK', hV', hB'⟩ := h'.go (ys := ys) (cs := cs) (n := n) (w := w) (enc := enc) (by omega) (by simpa using hy) (fun i f' hf' => hg (i + 1) f' hf')
      refine ⟨(a, b), ⟨_, _, ?_, hK, hK'⟩, ⟨hV, hV'⟩, ?_⟩
      · subst ho
        show (cs.drop f.offset).take (d.sz + d'.sz) = _
        rw [List.take_add, List.drop_drop]
      · simp only [List.map_cons, Rows.uptoBulkAll]
        omega⟩
theorem opens_struct {α : Type} {P : Program} {T : TypeId} {fs : Array Go.Field} {d : Kd α} {V : α → Prop} {B : α → Nat} (ht : P.underlying T = some (.struct fs)) (hc : P.cellsOf T = d.sz) (h : OpensF P fs.toList 0 d V B) :
    Opens P T d V (fun x => B x + 1) :=
  ⟨hc, by
    intro H enc w fuel cs x hx
    obtain ⟨xs, n, _, rfl, hlen, hxl, hg⟩ := DataW.trod_struct ht hx
    obtain ⟨a, hK, hV, hB⟩ := h.go (cs := cs) (ys := xs) (n := n) (w := w) (enc := enc) (by omega) (by simpa using hxl) (fun i f hf => hg i f (by simpa using hf))
    refine ⟨a, ?_, hV, ?_⟩
    · rw [hc] at hlen
      simpa [← hlen] using hK
    · simp only [Rows.uptoBulk]
      omega⟩
/-- An array of two. -/
theorem opens_two {α : Type} {P : Program} {T e : TypeId} {d : Kd α} {V : α → Prop} {B : α → Nat} (ht : P.underlying T = some (.array 2 e)) (hc : P.cellsOf T = d.sz + d.sz) (h : Opens P e d V B) :
    Opens P T (Kd.pair d d) (fun x => V x.1 ∧ V x.2) (fun x => B x.1 + B x.2 + 1) :=
  ⟨hc, by
    intro H enc w fuel cs x hx
    obtain ⟨xs, n, _, rfl, hlen, hxl, hg⟩ := DataW.trod_array ht hx
    match xs, hxl with
    | [y0, y1], _ =>
      have h0 := hg 0 (by omega)
      have h1 := hg 1 (by omega)
      rw [h.sz] at h0 h1
      rw [hc] at hlen
      obtain ⟨a, hK, hV, hB⟩ := h.go h0
      obtain ⟨b, hK', hV', hB'⟩ := h.go h1
      refine ⟨(a, b), ⟨_, _, ?_, hK, hK'⟩, ⟨hV, hV'⟩, ?_⟩
      · rw [Nat.zero_mul, List.drop_zero, Nat.one_mul]
        have : (cs.drop d.sz).take d.sz = cs.drop d.sz := List.take_of_length_le (by simp; omega)
        rw [this, List.take_append_drop]
      · simp only [List.map_cons, List.map_nil, Rows.uptoBulk, Rows.uptoBulkAll]
        omega⟩
/-- The value of a struct parameter: its cells. -/
theorem open_arg {P : Program} {H : Type} {enc : TypeId × Value → H} {W : World} {T : TypeId} {fs : Array Go.Field} {base : Nat} {v : Value} {x : DataW H} {ps : List MemPlace} {α : Type} {d : Kd α} {V : α → Prop} {B : α → Nat} (ht : P.underlying T = some (.struct fs)) (ho : Opens P T d V B)
    (hok : Value.okWide P W .any base T v) (h : DataW.Trod enc P W 0 (fun _ => true) true T v x ps) : ∃ a cs, v = .agg cs ∧ d.K W a cs.toList ∧ V a ∧ B a ≤ Rows.uptoBulk x := by
  obtain ⟨cs, rfl, _⟩ := okWide_struct ht hok
  obtain ⟨fuel, hf⟩ := h
  obtain ⟨a, hK, hV, hB⟩ := ho.go hf
  exact ⟨a, cs, rfl, hK, hV, hB⟩
end Go.Proofs.YtoeiaimoppmjdaaDoor.Opn
