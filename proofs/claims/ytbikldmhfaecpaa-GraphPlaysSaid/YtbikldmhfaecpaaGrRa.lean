/-
  Layer 48 (graph), the reference: a graph in memory; needs, same, find.
-/
import Derived.Test.YtbikldmhfaecpaaGrX2
namespace Go.Proofs.Ytbikldmhfaecpaa
open Go.RowKit
set_option linter.unusedVariables false
set_option linter.unusedSimpArgs false
attribute [local go_sem] B_data B_size

/-- a vertex, and where its texts lie -/
structure VM where
  nm : Nm
  rule : Bool
  vl : Nm
  nd : List Nm
  F : Int
  called : Bool
  inn : List Nm
  out : Nm
  e : Nat
  fresh : Bool
  nA : Option Addr
  nc : Nat
  iA : Option Addr
  ic : Nat
def vmF (v : VM) : List Value := [.string (B v.nm), .bool v.rule, .string (B v.vl), .slice v.nA v.nd.length v.nc, .int .i64 v.F, .bool v.called, .slice v.iA v.inn.length v.ic, .string (B v.out), .int .i64 (v.e : Int), .bool v.fresh]
theorem vmF_len (v : VM) : (vmF v).length = 10 := rfl
/-- texts in a block of X that is not one of the two others -/
def Dt (w : World) (X : Nat → Prop) (r1 : Nat) (r2 : Option Nat) (A : Option Addr) (l : List Nm) : Prop :=
  Rd w w.heap.size 1 A l.length (strs l) ∧ ∀ ad, A = some ad → 0 < l.length → X ad.block ∧ ad.block ≠ r1 ∧ r2 ≠ some ad.block
structure RG (rb : Nat) (A : Option Addr) (c : Nat) (L : List VM) (N : Nat) (w0 w : World) (X : Nat → Prop) : Prop where
  xs : ∀ b, X b → w0.heap.size ≤ b ∧ b < w.heap.size
  b : Below w0.heap.size w0 w
  hd : w.heap[rb]? = some (.cells #[.slice A L.length c, .int .i64 (N : Int)] 53 (0, 0))
  xr : X rb
  row : w.ownsRow w0.heap.size 59 10 (.slice A L.length c) L.length (L.flatMap vmF)
  rx : ∀ b, (Value.slice A L.length c).ownBlock = some b → X b ∧ b ≠ rb
  dt : ∀ v ∈ L, Dt w X rb (Value.slice A L.length c).ownBlock v.nA v.nd ∧ Dt w X rb (Value.slice A L.length c).ownBlock v.iA v.inn
section
variable {rb c N : Nat} {A : Option Addr} {L : List VM} {w0 w w' : World} {X : Nat → Prop}
theorem Dt.keep {r1 : Nat} {r2 : Option Nat} {A : Option Addr} {l : List Nm} (h : Dt w X r1 r2 A l) (hk : ∀ b, X b → b ≠ r1 → r2 ≠ some b → w'.heap[b]? = w.heap[b]?) (hs : w.heap.size ≤ w'.heap.size) : Dt w' X r1 r2 A l := by
  obtain ⟨⟨h1, h2⟩, h3⟩ := h
  refine ⟨⟨h1, fun hn => ?_⟩, h3⟩
  obtain ⟨ad, e, hb, hc⟩ := h2 hn
  obtain ⟨x1, x2, x3⟩ := h3 ad e hn
  exact ⟨ad, e, Nat.lt_of_lt_of_le hb hs, fun j u hj => (World.cell?_of_block (w := w) (a := ad.add j) (by rw [addr_block]; exact hk _ x1 x2 x3)).trans (hc j u hj)⟩
theorem RG.keep (h : RG rb A c L N w0 w X) (hb : Below w0.heap.size w0 w') (k : KX X w w') : RG rb A c L N w0 w' X where
  xs := fun b hx => ⟨(h.xs b hx).1, Nat.lt_of_lt_of_le (h.xs b hx).2 k.2⟩
  b := hb
  hd := (k.1 rb h.xr).trans h.hd
  xr := h.xr
  row := own_kept h.row (fun b e => k.1 b (h.rx b e).1)
  rx := h.rx
  dt := fun v hv => ⟨(h.dt v hv).1.keep (fun b hx _ _ => k.1 b hx) k.2, (h.dt v hv).2.keep (fun b hx _ _ => k.1 b hx) k.2⟩
theorem RG.below (h : RG rb A c L N w0 w X) (hb : Below w.heap.size w w') : RG rb A c L N w0 w' X :=
  h.keep (h.b.trans (hb.mono h.b.size)) ⟨fun b hx => hb.block b (h.xs b hx).2, hb.size⟩
theorem RG.h0 (h : RG rb A c L N w0 w X) : w.cell? ⟨rb, 0, none⟩ = some (.slice A L.length c) := by simp [World.cell?, h.hd]
theorem RG.h1 (h : RG rb A c L N w0 w X) : w.cell? ⟨rb, 1, none⟩ = some (.int .i64 (N : Int)) := by simp [World.cell?, h.hd]
theorem RG.at10 {i : Nat} {v : VM} (h : RG rb A c L N w0 w X) (hi : L[i]? = some v) :
    ∃ g, A = some ⟨g, 0, none⟩ ∧ g < w.heap.size ∧ w.cell? ⟨g, i * 10, none⟩ = some (.string (B v.nm)) ∧ w.cell? ⟨g, i * 10 + 1, none⟩ = some (.bool v.rule) ∧ w.cell? ⟨g, i * 10 + 2, none⟩ = some (.string (B v.vl)) ∧ w.cell? ⟨g, i * 10 + 3, none⟩ = some (.slice v.nA v.nd.length v.nc) ∧ w.cell? ⟨g, i * 10 + 4, none⟩ = some (.int .i64 v.F) ∧ w.cell? ⟨g, i * 10 + 5, none⟩ = some (.bool v.called) ∧ w.cell? ⟨g, i * 10 + 6, none⟩ = some (.slice v.iA v.inn.length v.ic) ∧ w.cell? ⟨g, i * 10 + 7, none⟩ = some (.string (B v.out)) ∧ w.cell? ⟨g, i * 10 + 8, none⟩ = some (.int .i64 (v.e : Int)) ∧ w.cell? ⟨g, i * 10 + 9, none⟩ = some (.bool v.fresh) := by
  obtain ⟨g, o, e, hg, hc⟩ := (Rd.of_own h.row).elem vmF 10 vmF_len (by omega) hi
  have ho : o = 0 := by
    rcases h.row.2 with ⟨h0, h1⟩ | ⟨g', cap, cur, hv, _⟩
    · injection h0 with h0; rw [e] at h0; cases h0
    · injection hv with hv; rw [e] at hv; injection hv with hv; injection hv
  subst ho
  simp only [Nat.zero_add] at hc
  exact ⟨g, e, hg, hc 0 _ rfl, hc 1 _ rfl, hc 2 _ rfl, hc 3 _ rfl, hc 4 _ rfl, hc 5 _ rfl, hc 6 _ rfl, hc 7 _ rfl, hc 8 _ rfl, hc 9 _ rfl⟩
end
set_option maxHeartbeats 4000000 in
set_option maxRecDepth 100000 in
theorem needs_any (A : Option Addr) (n c : Nat) (l : List Nm) (s : Nm) (w : World) (hr : Rd w w.heap.size 1 A n (strs l)) (hn : n ≤ 140737488355328) :
    Calls Try.prog 33 #[.slice A n c, .string (B s)] w fun e w' => e = .returned (.bool (decide (s ∈ l))) ∧ w' = w := by
  have HL := Lib.hid hr.strs_length
  go_enter Try.func33, Try.ntmps33
  go_wp2
  go_loopw [6, 9] (fun _ i wr => ∃ j : Nat, j ≤ n ∧ i = .int .i64 j ∧ wr = w ∧ Hid (∀ x ∈ l.take j, x ≠ s)) (fun _ i _ => n - (intOf i).toNat)
  case atStart => exact ⟨0, Nat.zero_le _, rfl, rfl, fun x hx => by simp at hx⟩
  case round =>
    obtain ⟨j, hj, rfl, rfl, hfs⟩ := hrel
    by_cases hlt : j < n
    · obtain ⟨x, hx⟩ := get_of (l := l) (k := j) (by rw [HL.out]; exact hlt)
      obtain ⟨g, o, rfl, hg, c0⟩ := hr.strk hx
      have i1 : (0 : Int) ≤ (j : Int) := by omega
      have i2 : (j : Int) < (n : Int) := by omega
      by_cases hxs : x = s
      · have hm : s ∈ l := hxs ▸ List.mem_of_getElem? hx
        have hd : decide (s ∈ l) = true := decide_eq_true hm
        subst hxs
        have HD := Lib.hid hd
        clear hd
        clear hx hm
        go_wp2
        go_ret
        exact ⟨by rw [HD.out]; rfl, rfl⟩
      · have hne : (x == s) = false := beq_eq_false_iff_ne.2 hxs
        have HF := Lib.hid (all_take hfs.out hxs hx)
        clear hx
        go_wp2
        go_roundw
        case rel => exact ⟨j + 1, by omega, by go_num, by trivial, HF⟩
        case measure => simp [intOf]; omega
    · have e : j = n := by omega
      subst e
      have hd : decide (s ∈ l) = false := decide_eq_false (fun hm => by
        have h := hfs.out
        rw [List.take_of_length_le (by rw [HL.out]; omega)] at h
        exact h s hm rfl)
      have HD := Lib.hid hd
      clear hd
      go_wp2
      go_ret
      exact ⟨by rw [HD.out]; rfl, rfl⟩
set_option maxHeartbeats 4000000 in
set_option maxRecDepth 100000 in
theorem sameR_any (A1 A2 : Option Addr) (n1 c1 n2 c2 : Nat) (l1 l2 : List Nm) (w : World) (h1 : Rd w w.heap.size 1 A1 n1 (strs l1)) (h2 : Rd w w.heap.size 1 A2 n2 (strs l2)) (hn : n1 ≤ 140737488355328) (hn2 : n2 ≤ 140737488355328) :
    Calls Try.prog 44 #[.slice A1 n1 c1, .slice A2 n2 c2] w fun e w' => e = .returned (.bool (decide (l1 = l2))) ∧ Below w.heap.size w w' := by
  have HL1 := Lib.hid h1.strs_length
  have HL2 := Lib.hid h2.strs_length
  by_cases hl : n1 = n2
  · subst hl
    go_enter Try.func44, Try.ntmps44
    go_wp2
    go_loopw [5] (fun i wr => ∃ j : Nat, j ≤ n1 ∧ i = .int .i64 j ∧ Below w.heap.size w wr ∧ Hid (l1.take j = l2.take j)) (fun i _ => n1 - (intOf i).toNat)
    case atStart => exact ⟨0, Nat.zero_le _, rfl, Below.refl _ _, Lib.hid rfl⟩
    case round =>
      obtain ⟨j, hj, rfl, hbw, hfs⟩ := hrel
      by_cases hlt : j < n1
      · obtain ⟨x, hx⟩ := get_of (l := l1) (k := j) (by rw [HL1.out]; exact hlt)
        obtain ⟨y, hy⟩ := get_of (l := l2) (k := j) (by rw [HL2.out]; exact hlt)
        obtain ⟨g, o, rfl, hg, c0⟩ := (h1.below hbw).strk hx
        obtain ⟨g', o', rfl, hg', c0'⟩ := (h2.below hbw).strk hy
        have i1 : (0 : Int) ≤ (j : Int) := by omega
        have i2 : (j : Int) < (n1 : Int) := by omega
        have HB := Lib.hid hbw
        by_cases hxs : x = y
        · subst hxs
          have HF : Hid (l1.take (j + 1) = l2.take (j + 1)) := Lib.hid (by rw [take_one hx, take_one hy, hfs.out])
          clear hx hy hbw hfs
          go_wp2_with fail
          go_quiet (fail)
          go_wp2
          go_roundw
          case rel => exact ⟨j + 1, by omega, by go_num, by exact ⟨HB.out.os, HB.out.tape, HB.out.output, HB.out.size, HB.out.block⟩, HF⟩
          case measure => simp [intOf]; omega
        · have hd : decide (l1 = l2) = false := decide_eq_false (fun e => hxs (by rw [e, hy] at hx; injection hx with hx; exact hx.symm))
          have hne : (x == y) = false := beq_eq_false_iff_ne.2 hxs
          have HD := Lib.hid hd
          clear hd
          clear hx hy hbw hfs
          go_wp2_with fail
          go_quiet (fail)
          go_wp2
          go_ret
          exact ⟨by rw [HD.out]; rfl, ⟨HB.out.os, HB.out.tape, HB.out.output, HB.out.size, HB.out.block⟩⟩
      · have e : j = n1 := by omega
        subst e
        have hd : decide (l1 = l2) = true := decide_eq_true (by
          have h := hfs.out
          rwa [List.take_of_length_le (by rw [HL1.out]; omega), List.take_of_length_le (by rw [HL2.out]; omega)] at h)
        have HD := Lib.hid hd
        clear hd
        go_wp2
        go_ret
        exact ⟨by rw [HD.out]; rfl, hbw⟩
  · have hd : decide (l1 = l2) = false := decide_eq_false (fun e => hl (by rw [← HL1.out, ← HL2.out, e]))
    have HD := Lib.hid hd
    clear hd
    have hl2 : ((n1 : Int) == (n2 : Int)) = false := by rw [beq_eq_false_iff_ne]; omega
    go_enter Try.func44, Try.ntmps44
    go_wp2
    go_ret
    exact ⟨by rw [HD.out]; rfl, Below.refl _ _⟩
def findI (L : List VM) (n : Nm) : Option Nat := L.findIdx? fun v => decide (v.nm = n)
/-- the index of a name, or -1 -/
def fiV (o : Option Nat) : Int := match o with
  | some i => (i : Int)
  | none => -1
theorem findI_some {L : List VM} {n : Nm} {i : Nat} (h : findI L n = some i) : ∃ v, L[i]? = some v ∧ v.nm = n ∧ ∀ j v', j < i → L[j]? = some v' → v'.nm ≠ n := by
  unfold findI at h
  rw [List.findIdx?_eq_some_iff_getElem] at h
  obtain ⟨h1, h2, h3⟩ := h
  refine ⟨L[i], List.getElem?_eq_getElem h1, of_decide_eq_true h2, fun j v' hj hv => ?_⟩
  obtain ⟨hl, e⟩ := List.getElem?_eq_some_iff.1 hv
  have := h3 j hj
  rw [e] at this
  simpa using this
theorem findI_is {L : List VM} {n : Nm} {i : Nat} {v : VM} (hv : L[i]? = some v) (hn : v.nm = n) (hl : ∀ v' ∈ L.take i, v'.nm ≠ n) : findI L n = some i := by
  unfold findI
  rw [List.findIdx?_eq_some_iff_getElem]
  obtain ⟨h1, e⟩ := List.getElem?_eq_some_iff.1 hv
  refine ⟨h1, by rw [e]; simp [hn], fun j hj => ?_⟩
  have : L[j] ∈ L.take i := by
    rw [List.mem_take_iff_getElem]
    exact ⟨j, by omega, rfl⟩
  have := hl _ this
  simpa using this
theorem findI_none {L : List VM} {n : Nm} : findI L n = none ↔ ∀ v ∈ L, v.nm ≠ n := by
  unfold findI
  rw [List.findIdx?_eq_none_iff]
  simp
set_option maxHeartbeats 4000000 in
set_option maxRecDepth 100000 in
theorem find_any {rb c N : Nat} {A : Option Addr} {L : List VM} {w0 : World} {X : Nat → Prop} (n : Nm) (w : World) (h : RG rb A c L N w0 w X) (hl : L.length ≤ 100000) :
    Calls Try.prog 29 #[.pointer (some ⟨rb, 0, none⟩), .string (B n)] w fun e w' => e = .returned (.int .i64 (fiV (findI L n))) ∧ w' = w := by
  have k0 := h.h0
  obtain ⟨m, hm⟩ : ∃ m, L.length = m := ⟨_, rfl⟩
  have HM := Lib.hid hm
  have H := Lib.hid h
  rw [hm] at k0 hl
  clear hm h
  go_enter Try.func29, Try.ntmps29
  go_wp2
  go_loopw [5] (fun i wr => ∃ j : Nat, j ≤ m ∧ i = .int .i64 j ∧ wr = w ∧ Hid (∀ x ∈ L.take j, x.nm ≠ n)) (fun i _ => m - (intOf i).toNat)
  case atStart => exact ⟨0, Nat.zero_le _, rfl, rfl, fun x hx => by simp at hx⟩
  case round =>
    obtain ⟨j, hj, rfl, rfl, hfs⟩ := hrel
    by_cases hlt : j < m
    · obtain ⟨v, hv⟩ := get_of (l := L) (k := j) (by rw [HM.out]; exact hlt)
      obtain ⟨g, rfl, hg, c0, _⟩ := H.out.at10 hv
      have i1 : (0 : Int) ≤ (j : Int) := by omega
      have i2 : (j : Int) < (m : Int) := by omega
      by_cases hxs : v.nm = n
      · have hd : fiV (findI L n) = (j : Int) := by rw [findI_is hv hxs hfs.out]; rfl
        have HD := Lib.hid hd
        clear hd
        rw [hxs] at c0
        clear hv hfs
        go_wp2
        go_ret
        exact ⟨by rw [HD.out]; rfl, rfl⟩
      · have hne : (v.nm == n) = false := beq_eq_false_iff_ne.2 hxs
        have HF := Lib.hid (all_take hfs.out hxs hv)
        clear hv hfs
        go_wp2
        go_roundw
        case rel => exact ⟨j + 1, by omega, by go_num, by trivial, HF⟩
        case measure => simp [intOf]; omega
    · have e : j = m := by omega
      subst e
      have hd : fiV (findI L n) = -1 := by
        have : findI L n = none := findI_none.2 (by
          have h := hfs.out
          rwa [List.take_of_length_le (by rw [HM.out]; omega)] at h)
        rw [this]; rfl
      have HD := Lib.hid hd
      clear hd
      go_wp2
      go_ret
      exact ⟨by rw [HD.out]; rfl, rfl⟩
end Go.Proofs.Ytbikldmhfaecpaa
