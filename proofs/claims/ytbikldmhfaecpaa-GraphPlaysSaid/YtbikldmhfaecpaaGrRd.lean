/-
  Layer 48 (graph), the reference: Set.
-/
import Derived.Test.YtbikldmhfaecpaaGrRc
namespace Go.Proofs.Ytbikldmhfaecpaa
open Go.RowKit
set_option linter.unusedVariables false
set_option linter.unusedSimpArgs false
attribute [local go_sem] B_data B_size

theorem infoV : (Try.prog.info? 59).map (fun i => (i.zero, i.size, i.bytes)) = some (some (.agg #[.string ⟨#[]⟩, .bool false, .string ⟨#[]⟩, .slice none 0 0, .int .i64 0, .bool false, .slice none 0 0, .string ⟨#[]⟩, .int .i64 0, .bool false]), 10, 136) := by kernel_rfl
def vmC (v : VM) : Array Value := #[.string (B v.nm), .bool v.rule, .string (B v.vl), .slice v.nA v.nd.length v.nc, .int .i64 v.F, .bool v.called, .slice v.iA v.inn.length v.ic, .string (B v.out), .int .i64 (v.e : Int), .bool v.fresh]
/-- a vertex appended to a graph's row -/
theorem wpList_appV {ops : Array Oper} {rest : List Oper} {o : Oper} {a : Act} {Q : Exit → Act → World → Prop} (hgd : o.guard = none) (s x : Operand)
    (ho : o.op = .call { callee := .builtin .append, args := #[s, x], argTypes := #[51, 51] }) (wr : World) (p : VM)
    (base : Nat) (v : Value) (n : Nat) (xs : List Value) (hown : wr.ownsRow base 59 10 v n xs) (hs : a.eval s = v) (hx : a.eval x = .slice (some ⟨wr.heap.size, 0, none⟩) 1 1) (hn : n ≤ 100000) (hbase : base ≤ wr.heap.size)
    (h : ∀ g cap w', w'.ownsRow base 59 10 (.slice (some ⟨g, 0, none⟩) (n + 1) cap) (n + 1) (xs ++ vmF p) → wr.grownBy w' v.ownBlock → Below base wr w' → (v.ownBlock = some g ∨ wr.heap.size ≤ g) → g < w'.heap.size → wpList Try.prog ops Q rest (a.put o.dst (.slice (some ⟨g, 0, none⟩) (n + 1) cap)) w') :
    wpList Try.prog ops Q (o :: rest) a (wr.alloc (.cells (vmC p) 59)) := by
  obtain ⟨i0, hi, hz0, hz1, hz2⟩ := info_parts infoV
  refine wpList_append_lies _ hgd s x 51 ho base 59 i0 _ 10 136 Try.underlying51 hi hz0 hz1 hz2 rfl (by omega) v n xs hs (hown.alloc _) ⟨wr.heap.size, 0, none⟩ 1 1 (vmF p) hx rfl ?_ (by simp [vmF]; exact ⟨rfl, rfl, rfl, rfl, rfl, rfl, rfl, rfl, rfl, rfl⟩) (by omega) (by simp only [maxLen]; omega) (by omega) (by simp; omega) (wr.heap.size + 1) (by simp) ?_
  · intro j u hj
    rw [addr_lit, cell_of_row (wr.alloc (.cells (vmC p) 59)) wr.heap.size _ (vmC p) 59 (0, 0) (heap_alloc_new wr _)]
    simpa [vmF, vmC] using hj
  · intro g cap w' h1 h2 h3 h4
    have hg : wr.grownBy w' v.ownBlock := grown_trans (World.grownBy_alloc wr _ _) h2
    exact h g cap w' h1 hg (below_of_grown hg hbase fun k hk => (hown.lt k hk).1) (by rcases h3 with h3 | h3; exact .inl h3; exact .inr (by omega)) h4
theorem RG.more {rb c N : Nat} {A : Option Addr} {L : List VM} {w0 w : World} {X Y : Nat → Prop} (h : RG rb A c L N w0 w X) (hx : ∀ b, X b → Y b) (hy : ∀ b, Y b → w0.heap.size ≤ b ∧ b < w.heap.size) : RG rb A c L N w0 w Y where
  xs := hy
  b := h.b
  hd := h.hd
  xr := hx _ h.xr
  row := h.row
  rx := fun b e => ⟨hx b (h.rx b e).1, (h.rx b e).2⟩
  dt := fun v hv => ⟨⟨(h.dt v hv).1.1, fun ad e hn => ⟨hx _ ((h.dt v hv).1.2 ad e hn).1, ((h.dt v hv).1.2 ad e hn).2⟩⟩, ⟨(h.dt v hv).2.1, fun ad e hn => ⟨hx _ ((h.dt v hv).2.2 ad e hn).1, ((h.dt v hv).2.2 ad e hn).2⟩⟩⟩
/-- the row of vertices grown by one, and stored -/
theorem RG.push {rb c N g cap : Nat} {A : Option Addr} {L : List VM} {w0 w w1 : World} {X : Nat → Prop} {v : VM} (h : RG rb A c L N w0 w X)
    (ho : w1.ownsRow w0.heap.size 59 10 (.slice (some ⟨g, 0, none⟩) (L.length + 1) cap) (L.length + 1) (L.flatMap vmF ++ vmF v)) (hg : w.grownBy w1 (Value.slice A L.length c).ownBlock) (hb : Below w0.heap.size w w1)
    (hl : (Value.slice A L.length c).ownBlock = some g ∨ w.heap.size ≤ g) (hs : g < w1.heap.size)
    (hd : Dt w X rb (Value.slice A L.length c).ownBlock v.nA v.nd ∧ Dt w X rb (Value.slice A L.length c).ownBlock v.iA v.inn) :
    RG rb (some ⟨g, 0, none⟩) cap (L ++ [v]) N w0 (w1.setCell ⟨rb, 0, none⟩ (.slice (some ⟨g, 0, none⟩) (L.length + 1) cap)) (fun b => X b ∨ (w.heap.size ≤ b ∧ b < w1.heap.size)) := by
  have hlen : (L ++ [v]).length = L.length + 1 := by simp
  have hsz : (w1.setCell ⟨rb, 0, none⟩ (.slice (some ⟨g, 0, none⟩) (L.length + 1) cap)).heap.size = w1.heap.size := by simp [World.setCell]
  have hrb := (h.xs rb h.xr).2
  have hne : (Value.slice A L.length c).ownBlock ≠ some rb := fun e => (h.rx rb e).2 rfl
  have hgr : g ≠ rb := by
    rcases hl with e | e
    · exact (h.rx g e).2
    · omega
  have hk : ∀ b, b < w.heap.size → b ≠ rb → (Value.slice A L.length c).ownBlock ≠ some b → (w1.setCell ⟨rb, 0, none⟩ (.slice (some ⟨g, 0, none⟩) (L.length + 1) cap)).heap[b]? = w.heap[b]? := fun b hb h1 h2 => by
    rw [Below.heap_setCell w1 ⟨rb, 0, none⟩ _ b h1]
    exact hg.block b hb (fun e => h2 e.symm)
  have keep : ∀ {A' : Option Addr} {l : List Nm}, Dt w X rb (Value.slice A L.length c).ownBlock A' l → Dt (w1.setCell ⟨rb, 0, none⟩ (.slice (some ⟨g, 0, none⟩) (L.length + 1) cap)) (fun b => X b ∨ (w.heap.size ≤ b ∧ b < w1.heap.size)) rb (some g) A' l := fun {A' l} hd => by
    have h1 := hd.keep (w' := w1.setCell ⟨rb, 0, none⟩ (.slice (some ⟨g, 0, none⟩) (L.length + 1) cap)) (fun b hx h1 h2 => hk b (h.xs b hx).2 h1 h2) (by rw [hsz]; exact hg.size)
    refine ⟨h1.1, fun ad e hn => ?_⟩
    obtain ⟨x1, x2, x3⟩ := hd.2 ad e hn
    refine ⟨.inl x1, x2, fun e2 => ?_⟩
    injection e2 with e2
    rcases hl with e3 | e3
    · exact x3 (by rw [e3, e2])
    · have := (h.xs _ x1).2; omega
  refine ⟨fun b hx => ?_, (h.b.trans hb).setCell (p := ⟨rb, 0, none⟩) (h.xs rb h.xr).1 _, ?_, .inl h.xr, ?_, fun b e => ?_, fun a ha => ?_⟩
  · rw [hsz]
    rcases hx with hx | hx
    · exact ⟨(h.xs b hx).1, Nat.lt_of_lt_of_le (h.xs b hx).2 hg.size⟩
    · exact ⟨Nat.le_trans h.b.size hx.1, hx.2⟩
  · have h1 : w1.heap[rb]? = some (.cells #[.slice A L.length c, .int .i64 (N : Int)] 53 (0, 0)) := (hg.block rb hrb (fun e => hne e.symm)).trans h.hd
    rw [heap_setCell_same w1 rb 0 _ _ _ h1, hlen]
    rfl
  · rw [hlen, List.flatMap_append]
    have := ownsRow_setCell_other ho (a := ⟨rb, 0, none⟩) (fun e => hgr (by injection e)) (.slice (some ⟨g, 0, none⟩) (L.length + 1) cap)
    simpa using this
  · rw [hlen] at e
    have e : some g = some b := e
    injection e with e; subst e
    refine ⟨?_, hgr⟩
    rcases hl with e3 | e3
    · exact .inl (h.rx _ e3).1
    · exact .inr ⟨e3, hs⟩
  · rw [hlen]
    rcases List.mem_append.1 ha with ha | ha
    · exact ⟨keep (h.dt a ha).1, keep (h.dt a ha).2⟩
    · rw [List.mem_singleton] at ha; subst ha
      exact ⟨keep hd.1, keep hd.2⟩
/-- what a call of the reference keeps -/
def RPost (X : Nat → Prop) (w w' : World) (X' : Nat → Prop) : Prop := KO X w w' ∧ ∀ b, X' b → X b ∨ w.heap.size ≤ b
def valV (n v : Nm) : VM := ⟨n, false, v, [], 0, false, [], [], 0, false, none, 0, none, 0⟩
def SetR (L : List VM) (n v : Nm) (code : Nat) (L' : List VM) : Prop :=
  (n = [] ∧ code = 6 ∧ L' = L) ∨
  (n ≠ [] ∧ ∃ i v0, findI L n = some i ∧ L[i]? = some v0 ∧ ((v0.rule = true ∧ code = 7 ∧ L' = L) ∨ (v0.rule = false ∧ v0.vl = v ∧ code = 0 ∧ L' = L) ∨ (v0.rule = false ∧ v0.vl ≠ v ∧ code = 0 ∧ L' = (L.set i { v0 with vl := v }).map (mkV (StV (L.set i { v0 with vl := v }) n))))) ∨
  (n ≠ [] ∧ findI L n = none ∧ ((1024 ≤ L.length ∧ code = 3 ∧ L' = L) ∨ (L.length < 1024 ∧ code = 0 ∧ L' = (L ++ [valV n v]).map (mkV (StV (L ++ [valV n v]) n)))))
end Go.Proofs.Ytbikldmhfaecpaa
