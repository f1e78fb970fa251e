/-
  Layer 33 (markup): nodes in memory.
-/
import Derived.Test.YtejjidbodfoiiaaGreatDoorMkF
namespace Go.Proofs.YtejjidbodfoiiaaGreatDoor
open Go.RowKit
set_option linter.unusedVariables false
set_option linter.unusedSimpArgs false

/-- A slice that reads as cells, in blocks of a set. -/
def RdS (w : World) (S : Nat → Prop) (sz : Nat) (A : Option Addr) (n : Nat) (xs : List Value) : Prop :=
  xs.length = n * sz ∧ (0 < n → ∃ ad, A = some ad ∧ S ad.block ∧ ∀ j u, xs[j]? = some u → w.cell? (ad.add j) = some u)
theorem RdS.rd {w : World} {S : Nat → Prop} {M sz n : Nat} {A : Option Addr} {xs : List Value} (h : RdS w S sz A n xs) (hS : ∀ b, S b → b < M) : Rd w M sz A n xs :=
  ⟨h.1, fun hn => by obtain ⟨ad, e, hb, hc⟩ := h.2 hn; exact ⟨ad, e, hS _ hb, hc⟩⟩
theorem Rd.rdS {w : World} {S : Nat → Prop} {M sz n : Nat} {A : Option Addr} {xs : List Value} (h : Rd w M sz A n xs) (hS : ∀ b, b < M → S b) : RdS w S sz A n xs :=
  ⟨h.1, fun hn => by obtain ⟨ad, e, hb, hc⟩ := h.2 hn; exact ⟨ad, e, hS _ hb, hc⟩⟩
theorem RdS.mono {w : World} {S S' : Nat → Prop} {sz n : Nat} {A : Option Addr} {xs : List Value} (h : RdS w S sz A n xs) (hS : ∀ b, S b → S' b) : RdS w S' sz A n xs :=
  ⟨h.1, fun hn => by obtain ⟨ad, e, hb, hc⟩ := h.2 hn; exact ⟨ad, e, hS _ hb, hc⟩⟩
theorem cell_block {w w' : World} {p : Addr} (h : w'.heap[p.block]? = w.heap[p.block]?) : w'.cell? p = w.cell? p := by
  unfold World.cell?
  rw [h]
theorem RdS.keep {w w' : World} {S : Nat → Prop} {sz n : Nat} {A : Option Addr} {xs : List Value} (h : RdS w S sz A n xs) (hk : ∀ b, S b → w'.heap[b]? = w.heap[b]?) : RdS w' S sz A n xs :=
  ⟨h.1, fun hn => by
    obtain ⟨ad, e, hb, hc⟩ := h.2 hn
    exact ⟨ad, e, hb, fun j u hu => (cell_block (hk _ (by rw [addr_block]; exact hb))).trans (hc j u hu)⟩⟩

def prF (p : List UInt8 × List UInt8) : List Value := [.string (B p.1), .string (B p.2)]
theorem prF_len (p : List UInt8 × List UInt8) : (prF p).length = 2 := rfl
/-- the cells of a node -/
structure NC where
  nm : List UInt8
  tx : List UInt8
  A : Option Addr
  na : Nat
  ca : Nat
  K : Option Addr
  nk : Nat
  ck : Nat
def NC.cells (c : NC) : List Value := [.string (B c.nm), .string (B c.tx), .slice c.A c.na c.ca, .slice c.K c.nk c.ck]
theorem NC.cells_len (c : NC) : c.cells.length = 4 := rfl
mutual
/-- the node n lies in memory: its cells are c, all else lies in blocks of S -/
def NdAt (w : World) (S : Nat → Prop) : Nd → NC → Prop
  | .mk nm tx ats ks, c => c.nm = nm ∧ c.tx = tx ∧ RdS w S 2 c.A c.na (ats.flatMap prF) ∧ ∃ cs : List NC, RdS w S 4 c.K c.nk (cs.flatMap NC.cells) ∧ KsAt w S ks cs
def KsAt (w : World) (S : Nat → Prop) : List Nd → List NC → Prop
  | [], cs => cs = []
  | _ :: _, [] => False
  | k :: r, c :: q => NdAt w S k c ∧ KsAt w S r q
end
theorem KsAt.len {w : World} {S : Nat → Prop} : ∀ {ks : List Nd} {cs : List NC}, KsAt w S ks cs → ks.length = cs.length := by
  intro ks
  induction ks with
  | nil => intro cs h; rw [KsAt] at h; subst h; rfl
  | cons k r ih =>
    intro cs h
    cases cs with
    | nil => rw [KsAt] at h; exact absurd h id
    | cons c q => rw [KsAt] at h; simp [ih h.2]
theorem KsAt.get {w : World} {S : Nat → Prop} : ∀ {ks : List Nd} {cs : List NC} {i : Nat} {k : Nd}, KsAt w S ks cs → ks[i]? = some k → ∃ c, cs[i]? = some c ∧ NdAt w S k c := by
  intro ks
  induction ks with
  | nil => intro cs i k h hk; simp at hk
  | cons k0 r ih =>
    intro cs i k h hk
    cases cs with
    | nil => rw [KsAt] at h; exact absurd h id
    | cons c q =>
      rw [KsAt] at h
      cases i with
      | zero =>
        have e : k0 = k := by simpa using hk
        subst e
        exact ⟨c, rfl, h.1⟩
      | succ i => simpa using ih h.2 (by simpa using hk)
theorem KsAt.snoc {w : World} {S : Nat → Prop} : ∀ {ks : List Nd} {cs : List NC} {k : Nd} {c : NC}, KsAt w S ks cs → NdAt w S k c → KsAt w S (ks ++ [k]) (cs ++ [c]) := by
  intro ks
  induction ks with
  | nil => intro cs k c h hk; rw [KsAt] at h; subst h; exact ⟨hk, rfl⟩
  | cons k0 r ih =>
    intro cs k c h hk
    cases cs with
    | nil => rw [KsAt] at h; exact absurd h id
    | cons c0 q =>
      rw [KsAt] at h
      exact ⟨h.1, ih h.2 hk⟩
theorem KsAt.of_all {w w' : World} {S S' : Nat → Prop} (ks : List Nd) (H : ∀ k ∈ ks, ∀ c, NdAt w S k c → NdAt w' S' k c) : ∀ cs, KsAt w S ks cs → KsAt w' S' ks cs := by
  induction ks with
  | nil => intro cs h; rw [KsAt] at h ⊢; exact h
  | cons k r ih =>
    intro cs h
    cases cs with
    | nil => rw [KsAt] at h; exact absurd h id
    | cons c q =>
      rw [KsAt] at h
      exact ⟨H k (List.mem_cons_self ..) c h.1, ih (fun x hx => H x (List.mem_cons_of_mem _ hx)) q h.2⟩
theorem NdAt.keep {w w' : World} {S S' : Nat → Prop} (hS : ∀ b, S b → S' b) (hk : ∀ b, S b → w'.heap[b]? = w.heap[b]?) : ∀ n c, NdAt w S n c → NdAt w' S' n c := by
  refine Nd.ind ?_
  intro nm tx ats ks IH c h
  obtain ⟨h1, h2, h3, cs, h4, h5⟩ := h
  exact ⟨h1, h2, (h3.keep hk).mono hS, cs, (h4.keep hk).mono hS, KsAt.of_all ks IH cs h5⟩
/-- a node that lies below block M -/
def NdB (w : World) (M : Nat) (n : Nd) (c : NC) : Prop := NdAt w (fun b => b < M) n c
theorem NdB.below {w w' : World} {M : Nat} {n : Nd} {c : NC} (h : NdB w M n c) (hb : Below M w w') : NdB w' M n c := NdAt.keep (fun _ h => h) (fun b hlt => hb.block b hlt) n c h
theorem NdB.more {w : World} {M M' : Nat} {n : Nd} {c : NC} (h : NdB w M n c) (hM : M ≤ M') : NdB w M' n c := NdAt.keep (fun b hb => Nat.lt_of_lt_of_le hb hM) (fun _ _ => rfl) n c h
theorem NdB.parts {w : World} {M : Nat} {nm tx : List UInt8} {ats : List (List UInt8 × List UInt8)} {ks : List Nd} {c : NC} (h : NdB w M (.mk nm tx ats ks) c) :
    c.nm = nm ∧ c.tx = tx ∧ Rd w M 2 c.A c.na (ats.flatMap prF) ∧ ∃ cs : List NC, Rd w M 4 c.K c.nk (cs.flatMap NC.cells) ∧ ks.length = cs.length ∧ ∀ (i : Nat) (k : Nd), ks[i]? = some k → ∃ c, cs[i]? = some c ∧ NdB w M k c := by
  obtain ⟨h1, h2, h3, cs, h4, h5⟩ := h
  exact ⟨h1, h2, h3.rd (fun _ h => h), cs, h4.rd (fun _ h => h), h5.len, fun i k hk => h5.get hk⟩
/-- block b holds a copy of a node's cells -/
def Bx (w : World) (b : Nat) (c : NC) : Prop := w.heap[b]? = some (.cells #[.string (B c.nm), .string (B c.tx), .slice c.A c.na c.ca, .slice c.K c.nk c.ck] 65 (0, 0))
theorem Bx.new (w : World) (c : NC) : Bx (w.alloc (.cells #[.string (B c.nm), .string (B c.tx), .slice c.A c.na c.ca, .slice c.K c.nk c.ck] 65)) w.heap.size c := heap_alloc_new w _
theorem Bx.lt {w : World} {b : Nat} {c : NC} (h : Bx w b c) : b < w.heap.size := (Array.getElem?_eq_some_iff.1 h).1
theorem Bx.c0 {w : World} {b : Nat} {c : NC} (h : Bx w b c) : w.cell? ⟨b, 0, none⟩ = some (.string (B c.nm)) := by unfold Bx at h; simp [World.cell?, h]
theorem Bx.c1 {w : World} {b : Nat} {c : NC} (h : Bx w b c) : w.cell? ⟨b, 1, none⟩ = some (.string (B c.tx)) := by unfold Bx at h; simp [World.cell?, h]
theorem Bx.c2 {w : World} {b : Nat} {c : NC} (h : Bx w b c) : w.cell? ⟨b, 2, none⟩ = some (.slice c.A c.na c.ca) := by unfold Bx at h; simp [World.cell?, h]
theorem Bx.c3 {w : World} {b : Nat} {c : NC} (h : Bx w b c) : w.cell? ⟨b, 3, none⟩ = some (.slice c.K c.nk c.ck) := by unfold Bx at h; simp [World.cell?, h]
theorem Bx.below {w w' : World} {b M : Nat} {c : NC} (h : Bx w b c) (hb : Below M w w') (hM : b < M) : Bx w' b c := (hb.block b hM).trans h
theorem Bx.alloc {w : World} {b : Nat} {c : NC} (h : Bx w b c) (o : Obj) : Bx (w.alloc o) b c := h.below (below_alloc w o) h.lt
mutual
/-- every text of a node is within the reach -/
def okN (M : Nat) : Nd → Prop
  | .mk nm tx ats ks => nm.length ≤ M ∧ tx.length ≤ M ∧ ats.length ≤ M ∧ ks.length ≤ M ∧ (∀ p ∈ ats, p.1.length ≤ M ∧ p.2.length ≤ M) ∧ okL M ks
def okL (M : Nat) : List Nd → Prop
  | [] => True
  | k :: r => okN M k ∧ okL M r
end
theorem okL.mem {M : Nat} : ∀ {ks : List Nd} {k : Nd}, okL M ks → k ∈ ks → okN M k := by
  intro ks
  induction ks with
  | nil => intro k _ h; cases h
  | cons a r ih =>
    intro k h hk
    rw [okL] at h
    rcases List.mem_cons.1 hk with rfl | hk
    · exact h.1
    · exact ih h.2 hk
theorem okN.parts {M : Nat} {nm tx : List UInt8} {ats : List (List UInt8 × List UInt8)} {ks : List Nd} (h : okN M (.mk nm tx ats ks)) : nm.length ≤ M ∧ tx.length ≤ M ∧ ats.length ≤ M ∧ ks.length ≤ M ∧ (∀ p ∈ ats, p.1.length ≤ M ∧ p.2.length ≤ M) ∧ ∀ k ∈ ks, okN M k := by
  rw [okN] at h
  exact ⟨h.1, h.2.1, h.2.2.1, h.2.2.2.1, h.2.2.2.2.1, fun k hk => h.2.2.2.2.2.mem hk⟩
def IPost (r : Int) (w : World) (e : Ending) (w' : World) : Prop := e = .returned (.int .i64 r) ∧ Below w.heap.size w w'
end Go.Proofs.YtejjidbodfoiiaaGreatDoor
