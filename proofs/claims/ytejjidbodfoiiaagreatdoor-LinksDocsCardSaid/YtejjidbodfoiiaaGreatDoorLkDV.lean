/-
  Layer 44 (links): documents, plain and in memory: blocks, inlines, what lies in them.
  Layer 44 (links): a document is visited: each block, each inline, in order.
-/
import Derived.Test.YtejjidbodfoiiaaGreatDoorMkEFG
import Derived.StillTailTactics
namespace Go.Proofs.YtejjidbodfoiiaaGreatDoor
open Go.RowKit
set_option linter.unusedVariables false
set_option linter.unusedSimpArgs false

abbrev Bs := List UInt8
/-- a part of a citation -/
structure Ct where
  key : Bs
  pre : Bs
  suf : Bs
  bare : Bool
def ctF (c : Ct) : List Value := [.string (B c.key), .string (B c.pre), .string (B c.suf), .bool c.bare]
theorem ctF_len (c : Ct) : (ctF c).length = 4 := rfl
/-- attributes, but for the identifier -/
structure Ao where
  cls : List Bs
  prs : List (Bs × Bs)
/-- an inline: kind, text, destination, title, identifier, attributes, arguments, citations, kids -/
inductive In where
  | mk (k : Int) (tx ds ti id : Bs) (ao : Ao) (ags : List Bs) (cts : List Ct) (ks : List In)
/-- a block: kind, level, info, text, destination, title, identifier, attributes, line, kids -/
inductive Bk where
  | mk (k lv : Int) (nf tx ds ti id : Bs) (ao : Ao) (ln : List In) (ks : List Bk)
theorem In.ind {P : In → Prop} (h : ∀ k tx ds ti id ao ags cts ks, (∀ x ∈ ks, P x) → P (.mk k tx ds ti id ao ags cts ks)) : ∀ n, P n := by
  intro n
  exact In.rec (motive_1 := P) (motive_2 := fun ks => ∀ k ∈ ks, P k) (fun k tx ds ti id ao ags cts ks hk => h k tx ds ti id ao ags cts ks hk) (fun k hk => by cases hk)
    (fun k r hk hr x hx => by
      rcases List.mem_cons.1 hx with rfl | hx
      · exact hk
      · exact hr x hx) n
theorem Bk.ind {P : Bk → Prop} (h : ∀ k lv nf tx ds ti id ao ln ks, (∀ x ∈ ks, P x) → P (.mk k lv nf tx ds ti id ao ln ks)) : ∀ n, P n := by
  intro n
  exact Bk.rec (motive_1 := P) (motive_2 := fun ks => ∀ k ∈ ks, P k) (fun k lv nf tx ds ti id ao ln ks hk => h k lv nf tx ds ti id ao ln ks hk) (fun k hk => by cases hk)
    (fun k r hk hr x hx => by
      rcases List.mem_cons.1 hx with rfl | hx
      · exact hk
      · exact hr x hx) n
def In.k : In → Int
  | .mk k _ _ _ _ _ _ _ _ => k
def In.tx : In → Bs
  | .mk _ tx _ _ _ _ _ _ _ => tx
def In.ds : In → Bs
  | .mk _ _ ds _ _ _ _ _ _ => ds
def In.id : In → Bs
  | .mk _ _ _ _ id _ _ _ _ => id
def Bk.k : Bk → Int
  | .mk k _ _ _ _ _ _ _ _ _ => k
def Bk.nf : Bk → Bs
  | .mk _ _ nf _ _ _ _ _ _ _ => nf
def Bk.id : Bk → Bs
  | .mk _ _ _ _ _ _ id _ _ _ => id
def Bk.ln : Bk → List In
  | .mk _ _ _ _ _ _ _ _ ln _ => ln
/-- what is visited: blocks and inlines -/
inductive Ev where
  | b (x : Bk)
  | i (x : In)
mutual
/-- an inline and those in it -/
def dpI : In → List In
  | .mk k tx ds ti id ao ags cts ks => .mk k tx ds ti id ao ags cts ks :: dpL ks
def dpL : List In → List In
  | [] => []
  | x :: r => dpI x ++ dpL r
end
mutual
/-- a block, its line, its kids: all that is visited -/
def evB : Bk → List Ev
  | .mk k lv nf tx ds ti id ao ln ks => .b (.mk k lv nf tx ds ti id ao ln ks) :: ((dpL ln).map Ev.i ++ evL ks)
def evL : List Bk → List Ev
  | [] => []
  | x :: r => evB x ++ evL r
end
mutual
/-- a block and those in it -/
def flB : Bk → List Bk
  | .mk k lv nf tx ds ti id ao ln ks => .mk k lv nf tx ds ti id ao ln ks :: flL ks
def flL : List Bk → List Bk
  | [] => []
  | x :: r => flB x ++ flL r
end
theorem dpL_app (a b : List In) : dpL (a ++ b) = dpL a ++ dpL b := by
  induction a with
  | nil => rfl
  | cons x r ih => rw [List.cons_append, dpL, dpL, ih, List.append_assoc]
theorem evL_app (a b : List Bk) : evL (a ++ b) = evL a ++ evL b := by
  induction a with
  | nil => rfl
  | cons x r ih => rw [List.cons_append, evL, evL, ih, List.append_assoc]
theorem flL_app (a b : List Bk) : flL (a ++ b) = flL a ++ flL b := by
  induction a with
  | nil => rfl
  | cons x r ih => rw [List.cons_append, flL, flL, ih, List.append_assoc]
theorem dpL_take {l : List In} {j : Nat} {x : In} (h : l[j]? = some x) : dpL (l.take (j + 1)) = dpL (l.take j) ++ dpI x := by
  obtain ⟨hj, e⟩ := List.getElem?_eq_some_iff.1 h
  rw [List.take_succ_eq_append_getElem hj, dpL_app, e, dpL, dpL, List.append_nil]
theorem evL_take {l : List Bk} {j : Nat} {x : Bk} (h : l[j]? = some x) : evL (l.take (j + 1)) = evL (l.take j) ++ evB x := by
  obtain ⟨hj, e⟩ := List.getElem?_eq_some_iff.1 h
  rw [List.take_succ_eq_append_getElem hj, evL_app, e, evL, evL, List.append_nil]
theorem flL_take {l : List Bk} {j : Nat} {x : Bk} (h : l[j]? = some x) : flL (l.take (j + 1)) = flL (l.take j) ++ flB x := by
  obtain ⟨hj, e⟩ := List.getElem?_eq_some_iff.1 h
  rw [List.take_succ_eq_append_getElem hj, flL_app, e, flL, flL, List.append_nil]

/-- a slice -/
structure Sl where
  A : Option Addr
  n : Nat
  c : Nat
abbrev Sl.v (s : Sl) : Value := .slice s.A s.n s.c
def Sl.nil : Sl := ⟨none, 0, 0⟩
/-- the cells of an inline -/
structure IC where
  k : Int
  tx : Bs
  ds : Bs
  ti : Bs
  id : Bs
  cl : Sl
  pr : Sl
  ag : Sl
  ct : Sl
  kd : Sl
def IC.cells (c : IC) : List Value := [.int .i64 c.k, .string (B c.tx), .string (B c.ds), .string (B c.ti), .string (B c.id), c.cl.v, c.pr.v, c.ag.v, c.ct.v, c.kd.v]
theorem IC.cells_len (c : IC) : c.cells.length = 10 := rfl
/-- the cells of a block -/
structure BC where
  k : Int
  lv : Int
  nf : Bs
  tx : Bs
  ds : Bs
  ti : Bs
  id : Bs
  cl : Sl
  pr : Sl
  ln : Sl
  kd : Sl
def BC.cells (c : BC) : List Value := [.int .i64 c.k, .int .i64 c.lv, .string (B c.nf), .string (B c.tx), .string (B c.ds), .string (B c.ti), .string (B c.id), c.cl.v, c.pr.v, c.ln.v, c.kd.v]
theorem BC.cells_len (c : BC) : c.cells.length = 11 := rfl
/-- a slice that reads as elements -/
def RdT (w : World) (S : Nat → Prop) (sz : Nat) (s : Sl) (xs : List Value) : Prop := RdS w S sz s.A s.n xs ∧ s.n ≤ 140737488355328
def AoAt (w : World) (S : Nat → Prop) (a : Ao) (cl pr : Sl) : Prop := RdT w S 1 cl (strs a.cls) ∧ RdT w S 2 pr (a.prs.flatMap prF)
/-- no text is longer than a slice can be -/
def okT (l : List Bs) : Prop := ∀ s ∈ l, s.length ≤ 140737488355328
def aoT (a : Ao) : List Bs := a.cls ++ a.prs.flatMap fun p => [p.1, p.2]
def inT (tx ds ti id : Bs) (ao : Ao) (ags : List Bs) (cts : List Ct) : List Bs := [tx, ds, ti, id] ++ aoT ao ++ ags ++ cts.flatMap fun c => [c.key, c.pre, c.suf]
def bkT (nf tx ds ti id : Bs) (ao : Ao) : List Bs := [nf, tx, ds, ti, id] ++ aoT ao
mutual
/-- an inline in memory: its cells are c, all else lies in blocks of S -/
def InAt (w : World) (S : Nat → Prop) : In → IC → Prop
  | .mk k tx ds ti id ao ags cts ks, c => okT (inT tx ds ti id ao ags cts) ∧ (c.k = k ∧ c.tx = tx ∧ c.ds = ds ∧ c.ti = ti ∧ c.id = id) ∧ AoAt w S ao c.cl c.pr ∧ RdT w S 1 c.ag (strs ags) ∧ RdT w S 4 c.ct (cts.flatMap ctF) ∧ ∃ cs : List IC, RdT w S 10 c.kd (cs.flatMap IC.cells) ∧ IsAt w S ks cs
def IsAt (w : World) (S : Nat → Prop) : List In → List IC → Prop
  | [], cs => cs = []
  | _ :: _, [] => False
  | x :: r, c :: q => InAt w S x c ∧ IsAt w S r q
end
mutual
/-- a block in memory -/
def BkAt (w : World) (S : Nat → Prop) : Bk → BC → Prop
  | .mk k lv nf tx ds ti id ao ln ks, c => okT (bkT nf tx ds ti id ao) ∧ (c.k = k ∧ c.lv = lv ∧ c.nf = nf ∧ c.tx = tx ∧ c.ds = ds ∧ c.ti = ti ∧ c.id = id) ∧ AoAt w S ao c.cl c.pr ∧ (∃ cs : List IC, RdT w S 10 c.ln (cs.flatMap IC.cells) ∧ IsAt w S ln cs) ∧ ∃ cs : List BC, RdT w S 11 c.kd (cs.flatMap BC.cells) ∧ BsAt w S ks cs
def BsAt (w : World) (S : Nat → Prop) : List Bk → List BC → Prop
  | [], cs => cs = []
  | _ :: _, [] => False
  | x :: r, c :: q => BkAt w S x c ∧ BsAt w S r q
end
theorem RdT.keep {w w' : World} {S S' : Nat → Prop} {sz : Nat} {s : Sl} {xs : List Value} (h : RdT w S sz s xs) (hS : ∀ b, S b → S' b) (hk : ∀ b, S b → w'.heap[b]? = w.heap[b]?) : RdT w' S' sz s xs := ⟨RdS.mono (RdS.keep h.1 hk) hS, h.2⟩
theorem AoAt.keep {w w' : World} {S S' : Nat → Prop} {a : Ao} {cl pr : Sl} (h : AoAt w S a cl pr) (hS : ∀ b, S b → S' b) (hk : ∀ b, S b → w'.heap[b]? = w.heap[b]?) : AoAt w' S' a cl pr := ⟨h.1.keep hS hk, h.2.keep hS hk⟩
theorem IsAt.len {w : World} {S : Nat → Prop} : ∀ {ks : List In} {cs : List IC}, IsAt w S ks cs → ks.length = cs.length := by
  intro ks
  induction ks with
  | nil => intro cs h; rw [IsAt] at h; subst h; rfl
  | cons k r ih =>
    intro cs h
    cases cs with
    | nil => rw [IsAt] at h; exact absurd h (fun x => x)
    | cons c q => rw [IsAt] at h; simp [ih h.2]
theorem IsAt.get {w : World} {S : Nat → Prop} : ∀ {ks : List In} {cs : List IC} {i : Nat} {k : In}, IsAt w S ks cs → ks[i]? = some k → ∃ c, cs[i]? = some c ∧ InAt w S k c := by
  intro ks
  induction ks with
  | nil => intro cs i k h hk; simp at hk
  | cons k0 r ih =>
    intro cs i k h hk
    cases cs with
    | nil => rw [IsAt] at h; exact absurd h (fun x => x)
    | cons c q =>
      rw [IsAt] at h
      cases i with
      | zero =>
        have e : k0 = k := by simpa using hk
        subst e
        exact ⟨c, rfl, h.1⟩
      | succ i => simpa using ih h.2 (by simpa using hk)
theorem IsAt.of_all {w w' : World} {S S' : Nat → Prop} (ks : List In) (H : ∀ k ∈ ks, ∀ c, InAt w S k c → InAt w' S' k c) : ∀ cs, IsAt w S ks cs → IsAt w' S' ks cs := by
  induction ks with
  | nil => intro cs h; rw [IsAt] at h ⊢; exact h
  | cons k r ih =>
    intro cs h
    cases cs with
    | nil => rw [IsAt] at h; exact absurd h (fun x => x)
    | cons c q =>
      rw [IsAt] at h
      exact ⟨H k (List.mem_cons_self ..) c h.1, ih (fun x hx => H x (List.mem_cons_of_mem _ hx)) q h.2⟩
theorem InAt.keep {w w' : World} {S S' : Nat → Prop} (hS : ∀ b, S b → S' b) (hk : ∀ b, S b → w'.heap[b]? = w.heap[b]?) : ∀ n c, InAt w S n c → InAt w' S' n c := by
  refine In.ind ?_
  intro k tx ds ti id ao ags cts ks IH c h
  obtain ⟨h0, h1, h2, h3, h4, cs, h5, h6⟩ := h
  exact ⟨h0, h1, h2.keep hS hk, h3.keep hS hk, h4.keep hS hk, cs, h5.keep hS hk, IsAt.of_all ks IH cs h6⟩
theorem IsAt.keep {w w' : World} {S S' : Nat → Prop} (hS : ∀ b, S b → S' b) (hk : ∀ b, S b → w'.heap[b]? = w.heap[b]?) (ks : List In) (cs : List IC) (h : IsAt w S ks cs) : IsAt w' S' ks cs := IsAt.of_all ks (fun n _ c => InAt.keep hS hk n c) cs h
theorem BsAt.len {w : World} {S : Nat → Prop} : ∀ {ks : List Bk} {cs : List BC}, BsAt w S ks cs → ks.length = cs.length := by
  intro ks
  induction ks with
  | nil => intro cs h; rw [BsAt] at h; subst h; rfl
  | cons k r ih =>
    intro cs h
    cases cs with
    | nil => rw [BsAt] at h; exact absurd h (fun x => x)
    | cons c q => rw [BsAt] at h; simp [ih h.2]
theorem BsAt.get {w : World} {S : Nat → Prop} : ∀ {ks : List Bk} {cs : List BC} {i : Nat} {k : Bk}, BsAt w S ks cs → ks[i]? = some k → ∃ c, cs[i]? = some c ∧ BkAt w S k c := by
  intro ks
  induction ks with
  | nil => intro cs i k h hk; simp at hk
  | cons k0 r ih =>
    intro cs i k h hk
    cases cs with
    | nil => rw [BsAt] at h; exact absurd h (fun x => x)
    | cons c q =>
      rw [BsAt] at h
      cases i with
      | zero =>
        have e : k0 = k := by simpa using hk
        subst e
        exact ⟨c, rfl, h.1⟩
      | succ i => simpa using ih h.2 (by simpa using hk)
theorem BsAt.of_all {w w' : World} {S S' : Nat → Prop} (ks : List Bk) (H : ∀ k ∈ ks, ∀ c, BkAt w S k c → BkAt w' S' k c) : ∀ cs, BsAt w S ks cs → BsAt w' S' ks cs := by
  induction ks with
  | nil => intro cs h; rw [BsAt] at h ⊢; exact h
  | cons k r ih =>
    intro cs h
    cases cs with
    | nil => rw [BsAt] at h; exact absurd h (fun x => x)
    | cons c q =>
      rw [BsAt] at h
      exact ⟨H k (List.mem_cons_self ..) c h.1, ih (fun x hx => H x (List.mem_cons_of_mem _ hx)) q h.2⟩
theorem BkAt.keep {w w' : World} {S S' : Nat → Prop} (hS : ∀ b, S b → S' b) (hk : ∀ b, S b → w'.heap[b]? = w.heap[b]?) : ∀ n c, BkAt w S n c → BkAt w' S' n c := by
  refine Bk.ind ?_
  intro k lv nf tx ds ti id ao ln ks IH c h
  obtain ⟨h0, h1, h2, ⟨cs, h3, h4⟩, cs2, h5, h6⟩ := h
  exact ⟨h0, h1, h2.keep hS hk, ⟨cs, h3.keep hS hk, IsAt.keep hS hk ln cs h4⟩, cs2, h5.keep hS hk, BsAt.of_all ks IH cs2 h6⟩
/-- below a block -/
def InB (w : World) (M : Nat) (n : In) (c : IC) : Prop := InAt w (fun b => b < M) n c
def BkB (w : World) (M : Nat) (n : Bk) (c : BC) : Prop := BkAt w (fun b => b < M) n c
theorem InB.below {w w' : World} {M : Nat} {n : In} {c : IC} (h : InB w M n c) (hb : Below M w w') : InB w' M n c := InAt.keep (fun _ h => h) (fun b hlt => hb.block b hlt) n c h
theorem InB.more {w : World} {M M' : Nat} {n : In} {c : IC} (h : InB w M n c) (hM : M ≤ M') : InB w M' n c := InAt.keep (fun b hb => Nat.lt_of_lt_of_le hb hM) (fun _ _ => rfl) n c h
theorem BkB.below {w w' : World} {M : Nat} {n : Bk} {c : BC} (h : BkB w M n c) (hb : Below M w w') : BkB w' M n c := BkAt.keep (fun _ h => h) (fun b hlt => hb.block b hlt) n c h
theorem BkB.more {w : World} {M M' : Nat} {n : Bk} {c : BC} (h : BkB w M n c) (hM : M ≤ M') : BkB w M' n c := BkAt.keep (fun b hb => Nat.lt_of_lt_of_le hb hM) (fun _ _ => rfl) n c h
/-- a slice of inlines, of blocks -/
def IsB (w : World) (M : Nat) (ks : List In) (s : Sl) : Prop := ∃ cs : List IC, Rd w M 10 s.A s.n (cs.flatMap IC.cells) ∧ (ks.length = cs.length ∧ s.n ≤ 140737488355328) ∧ ∀ (i : Nat) (k : In), ks[i]? = some k → ∃ c, cs[i]? = some c ∧ InB w M k c
def BsB (w : World) (M : Nat) (ks : List Bk) (s : Sl) : Prop := ∃ cs : List BC, Rd w M 11 s.A s.n (cs.flatMap BC.cells) ∧ (ks.length = cs.length ∧ s.n ≤ 140737488355328) ∧ ∀ (i : Nat) (k : Bk), ks[i]? = some k → ∃ c, cs[i]? = some c ∧ BkB w M k c
theorem IsB.below {w w' : World} {M : Nat} {ks : List In} {s : Sl} (h : IsB w M ks s) (hb : Below M w w') : IsB w' M ks s := by
  obtain ⟨cs, h1, h2, h3⟩ := h
  exact ⟨cs, h1.below hb, h2, fun i k hk => by obtain ⟨c, a, b⟩ := h3 i k hk; exact ⟨c, a, b.below hb⟩⟩
theorem BsB.below {w w' : World} {M : Nat} {ks : List Bk} {s : Sl} (h : BsB w M ks s) (hb : Below M w w') : BsB w' M ks s := by
  obtain ⟨cs, h1, h2, h3⟩ := h
  exact ⟨cs, h1.below hb, h2, fun i k hk => by obtain ⟨c, a, b⟩ := h3 i k hk; exact ⟨c, a, b.below hb⟩⟩
theorem IsB.more {w : World} {M M' : Nat} {ks : List In} {s : Sl} (h : IsB w M ks s) (hM : M ≤ M') : IsB w M' ks s := by
  obtain ⟨cs, h1, h2, h3⟩ := h
  exact ⟨cs, h1.more hM, h2, fun i k hk => by obtain ⟨c, a, b⟩ := h3 i k hk; exact ⟨c, a, b.more hM⟩⟩
theorem BsB.more {w : World} {M M' : Nat} {ks : List Bk} {s : Sl} (h : BsB w M ks s) (hM : M ≤ M') : BsB w M' ks s := by
  obtain ⟨cs, h1, h2, h3⟩ := h
  exact ⟨cs, h1.more hM, h2, fun i k hk => by obtain ⟨c, a, b⟩ := h3 i k hk; exact ⟨c, a, b.more hM⟩⟩
theorem InB.parts {w : World} {M : Nat} {k : Int} {tx ds ti id : Bs} {ao : Ao} {ags : List Bs} {cts : List Ct} {ks : List In} {c : IC} (h : InB w M (.mk k tx ds ti id ao ags cts ks) c) :
    (c.k = k ∧ c.tx = tx ∧ c.ds = ds ∧ c.ti = ti ∧ c.id = id) ∧ (Rd w M 1 c.cl.A c.cl.n (strs ao.cls) ∧ Rd w M 2 c.pr.A c.pr.n (ao.prs.flatMap prF)) ∧ Rd w M 1 c.ag.A c.ag.n (strs ags) ∧ Rd w M 4 c.ct.A c.ct.n (cts.flatMap ctF) ∧ IsB w M ks c.kd := by
  obtain ⟨h0, h1, h2, h3, h4, cs, h5, h6⟩ := h
  exact ⟨h1, ⟨RdS.rd h2.1.1 (fun _ h => h), RdS.rd h2.2.1 (fun _ h => h)⟩, RdS.rd h3.1 (fun _ h => h), RdS.rd h4.1 (fun _ h => h), cs, RdS.rd h5.1 (fun _ h => h), ⟨h6.len, h5.2⟩, fun i k hk => h6.get hk⟩
theorem BkB.parts {w : World} {M : Nat} {k lv : Int} {nf tx ds ti id : Bs} {ao : Ao} {ln : List In} {ks : List Bk} {c : BC} (h : BkB w M (.mk k lv nf tx ds ti id ao ln ks) c) :
    (c.k = k ∧ c.lv = lv ∧ c.nf = nf ∧ c.tx = tx ∧ c.ds = ds ∧ c.ti = ti ∧ c.id = id) ∧ (Rd w M 1 c.cl.A c.cl.n (strs ao.cls) ∧ Rd w M 2 c.pr.A c.pr.n (ao.prs.flatMap prF)) ∧ IsB w M ln c.ln ∧ BsB w M ks c.kd := by
  obtain ⟨h0, h1, h2, ⟨cs, h3, h4⟩, cs2, h5, h6⟩ := h
  exact ⟨h1, ⟨RdS.rd h2.1.1 (fun _ h => h), RdS.rd h2.2.1 (fun _ h => h)⟩, ⟨cs, RdS.rd h3.1 (fun _ h => h), ⟨h4.len, h3.2⟩, fun i k hk => h4.get hk⟩, cs2, RdS.rd h5.1 (fun _ h => h), ⟨h6.len, h5.2⟩, fun i k hk => h6.get hk⟩
theorem InB.ok {w : World} {M : Nat} {k : Int} {tx ds ti id : Bs} {ao : Ao} {ags : List Bs} {cts : List Ct} {ks : List In} {c : IC} (h : InB w M (.mk k tx ds ti id ao ags cts ks) c) : okT (inT tx ds ti id ao ags cts) := h.1
theorem BkB.ok {w : World} {M : Nat} {k lv : Int} {nf tx ds ti id : Bs} {ao : Ao} {ln : List In} {ks : List Bk} {c : BC} (h : BkB w M (.mk k lv nf tx ds ti id ao ln ks) c) : okT (bkT nf tx ds ti id ao) := h.1
end Go.Proofs.YtejjidbodfoiiaaGreatDoor
namespace Go.Proofs.YtejjidbodfoiiaaGreatDoor
open Go.RowKit
set_option linter.unusedVariables false
set_option linter.unusedSimpArgs false
attribute [local go_sem] B_data B_size

/-- w' is w, but for the blocks of R and new ones -/
structure Kp (R : Nat → Prop) (w w' : World) : Prop where
  os : w'.os = w.os
  tape : w'.tape = w.tape
  output : w'.output = w.output
  size : w.heap.size ≤ w'.heap.size
  block : ∀ k, k < w.heap.size → ¬ R k → w'.heap[k]? = w.heap[k]?
section
variable {R S T : Nat → Prop} {a b c : World}
theorem Kp.refl (R : Nat → Prop) (w : World) : Kp R w w := ⟨rfl, rfl, rfl, Nat.le_refl _, fun _ _ _ => rfl⟩
theorem Kp.trans2 (h : Kp R a b) (k : Kp S b c) (hS : ∀ i, i < a.heap.size → S i → R i) : Kp R a c :=
  ⟨k.os.trans h.os, k.tape.trans h.tape, k.output.trans h.output, Nat.le_trans h.size k.size, fun i h1 h2 => (k.block i (Nat.lt_of_lt_of_le h1 h.size) (fun e => h2 (hS i h1 e))).trans (h.block i h1 h2)⟩
theorem Kp.mono (h : Kp R a b) (hS : ∀ i, i < a.heap.size → R i → S i) : Kp S a b := ⟨h.os, h.tape, h.output, h.size, fun i h1 h2 => h.block i h1 fun e => h2 (hS i h1 e)⟩
theorem Kp.of_below (h : Below a.heap.size a b) : Kp R a b := ⟨h.os, h.tape, h.output, h.size, fun i h1 _ => h.block i h1⟩
theorem Kp.of_grown {row : Option Nat} (h : a.grownBy b row) : Kp (fun k => row = some k) a b := ⟨h.os, h.tape, h.output, h.size, fun i h1 h2 => h.block i h1 fun e => h2 e.symm⟩
theorem Kp.below {M : Nat} (h : Kp R a b) (hM : M ≤ a.heap.size) (hR : ∀ k, R k → M ≤ k) : Below M a b := ⟨h.os, h.tape, h.output, h.size, fun i h1 => h.block i (Nat.lt_of_lt_of_le h1 hM) fun e => by have := hR i e; omega⟩
theorem Kp.alloc (h : Kp R a b) (o : Obj) : Kp R a (b.alloc o) := h.trans2 (Kp.of_below (R := R) (below_alloc b o)) fun _ _ e => e
theorem Kp.at {k : Nat} {o : Obj} (h : Kp R a b) (hk : a.heap[k]? = some o) (hR : ¬ R k) : b.heap[k]? = some o := (h.block k (Array.getElem?_eq_some_iff.1 hk).1 hR).trans hk
theorem Kp.setCell {q i : Nat} {u : Value} (h : Kp R a b) (hq : q < a.heap.size → R q) : Kp R a (b.setCell ⟨q, i, none⟩ u) :=
  ⟨h.os, h.tape, h.output, by have := h.size; simpa [World.setCell] using this, fun k hk hr => by
    rw [Below.heap_setCell b ⟨q, i, none⟩ u k (fun e => hr (by have e : k = q := e; subst e; exact hq hk))]
    exact h.block k hk hr⟩
/-- what is owned moves from R to S while a becomes b -/
structure Mv (R S : Nat → Prop) (a b : World) : Prop where
  k : Kp R a b
  n : ∀ i, S i → R i ∨ a.heap.size ≤ i
theorem Mv.refl (R : Nat → Prop) (a : World) : Mv R R a a := ⟨Kp.refl _ _, fun _ h => .inl h⟩
theorem Mv.trans (h : Mv R S a b) (k : Mv S T b c) : Mv R T a c :=
  ⟨h.k.trans2 k.k fun i hi hs => by rcases h.n i hs with h | h
                                    · exact h
                                    · omega,
   fun i hi => by
    rcases k.n i hi with h1 | h1
    · exact h.n i h1
    · have := h.k.size; exact .inr (by omega)⟩
theorem Mv.of_below (h : Below a.heap.size a b) : Mv R R a b := ⟨Kp.of_below h, fun _ h => .inl h⟩
theorem Mv.at {k : Nat} {o : Obj} (h : Mv R S a b) (hk : a.heap[k]? = some o) (hR : ¬ R k) : b.heap[k]? = some o := h.k.at hk hR
end
/-- the cells of an element at an address -/
def CellsAt (w : World) (b o : Nat) (xs : List Value) : Prop := ∀ (j : Nat) u, xs[j]? = some u → w.cell? ⟨b, o + j, none⟩ = some u
abbrev Jt := List Ev → (Nat → Prop) → World → Prop
/-- after a visit -/
def VP (J : Jt) (V : List Ev) (O : Nat → Prop) (w : World) (e : Ending) (w' : World) : Prop := e = .returned (.tuple #[]) ∧ ∃ O', J V O' w' ∧ Mv O O' w w'
/-- a function of the program's own is entered -/
def Ent (g : Nat) : Prop := ∀ (args : Array Value) (W : World), (callFunc g args).run Tryz.prog W = .ok (.enter g args) W
/-- a visitor: what it keeps, what its functions do -/
structure Vis (w0 : World) (M L : Nat) (vb vl : Value) (J : Jt) : Prop where
  keep : ∀ V O W, J V O W → Below M w0 W
  lt : ∀ V O W, J V O W → ∀ k, O k → k < W.heap.size
  step : ∀ V O W W', J V O W → Below W.heap.size W W' → J V O W'
  blk : (vb = .nilFunc ∧ ∀ V O W b, J V O W → J (V ++ [.b b]) O W) ∨ ∃ g caps, vb = .func (.func g) #[] caps ∧ Ent g ∧ ∀ V O W b c q o, J V O W → V.length < L → BkB W M b c → CellsAt W q o c.cells → Calls Tryz.prog g (#[.pointer (some ⟨q, o, none⟩)] ++ caps) W (VP J (V ++ [.b b]) O W)
  lin : (vl = .nilFunc ∧ ∀ V O W x, J V O W → J (V ++ [.i x]) O W) ∨ ∃ g caps, vl = .func (.func g) #[] caps ∧ Ent g ∧ ∀ V O W x c q o, J V O W → V.length < L → InB W M x c → CellsAt W q o c.cells → Calls Tryz.prog g (#[.pointer (some ⟨q, o, none⟩)] ++ caps) W (VP J (V ++ [.i x]) O W)
theorem vne_b (g : Nat) (caps : Array Value) (w : World) : (binOp .neq 96 (.func (.func g) #[] caps) .nilFunc).run Tryz.prog w = .ok (.bool true) w := by kernel_rfl
theorem vne_i (g : Nat) (caps : Array Value) (w : World) : (binOp .neq 97 (.func (.func g) #[] caps) .nilFunc).run Tryz.prog w = .ok (.bool true) w := by kernel_rfl
theorem vne_b0 (w : World) : (binOp .neq 96 .nilFunc .nilFunc).run Tryz.prog w = .ok (.bool false) w := by kernel_rfl
theorem vne_i0 (w : World) : (binOp .neq 97 .nilFunc .nilFunc).run Tryz.prog w = .ok (.bool false) w := by kernel_rfl
theorem dpL_le (ks : List In) (j : Nat) : (dpL (ks.take j)).length ≤ (dpL ks).length := by
  have h : dpL ks = dpL (ks.take j) ++ dpL (ks.drop j) := by rw [← dpL_app, List.take_append_drop]
  rw [h, List.length_append]; omega
theorem evL_le (ks : List Bk) (j : Nat) : (evL (ks.take j)).length ≤ (evL ks).length := by
  have h : evL ks = evL (ks.take j) ++ evL (ks.drop j) := by rw [← evL_app, List.take_append_drop]
  rw [h, List.length_append]; omega
def In.ks : In → List In
  | .mk _ _ _ _ _ _ _ _ ks => ks
def Bk.ks : Bk → List Bk
  | .mk _ _ _ _ _ _ _ _ _ ks => ks
theorem dpI_eq (x : In) : dpI x = x :: dpL x.ks := by cases x; rw [dpI]; rfl
theorem evB_eq (x : Bk) : evB x = .b x :: ((dpL x.ln).map Ev.i ++ evL x.ks) := by cases x; rw [evB]; rfl
theorem InB.kids {w : World} {M : Nat} {x : In} {c : IC} (h : InB w M x c) : IsB w M x.ks c.kd := by cases x; exact h.parts.2.2.2.2
theorem BkB.kids {w : World} {M : Nat} {x : Bk} {c : BC} (h : BkB w M x c) : BsB w M x.ks c.kd := by cases x; exact h.parts.2.2.2
theorem BkB.line {w : World} {M : Nat} {x : Bk} {c : BC} (h : BkB w M x c) : IsB w M x.ln c.ln := by cases x; exact h.parts.2.2.1
/-- visiting inlines -/
def InlC (w0 : World) (M L : Nat) (vb vl : Value) (J : Jt) (ks : List In) : Prop := ∀ s V O w, IsB w0 M ks s → J V O w → V.length + (dpL ks).length ≤ L →
  Calls Tryz.prog 88 #[.agg #[vb, vl], s.v] w (VP J (V ++ (dpL ks).map Ev.i) O w)
def BlkC (w0 : World) (M L : Nat) (vb vl : Value) (J : Jt) (ks : List Bk) : Prop := ∀ s V O w, BsB w0 M ks s → J V O w → V.length + (evL ks).length ≤ L →
  Calls Tryz.prog 54 #[.agg #[vb, vl], s.v] w (VP J (V ++ evL ks) O w)
theorem IsB.elem {w : World} {M : Nat} {ks : List In} {s : Sl} (h : IsB w M ks s) {j : Nat} {x : In} (hx : ks[j]? = some x) :
    ∃ c b o, s.A = some ⟨b, o, none⟩ ∧ InB w M x c ∧ CellsAt w b (o + j * 10) c.cells ∧ b < M := by
  obtain ⟨cs, hrd, ⟨hlen, hmx⟩, hks⟩ := h
  obtain ⟨c, hc, hn⟩ := hks j x hx
  have hl : cs.length = s.n := hrd.count IC.cells 10 IC.cells_len (by omega)
  have hj := (List.getElem?_eq_some_iff.1 hx).1
  obtain ⟨bb, o, e, hb, hcell⟩ := hrd.elem IC.cells 10 IC.cells_len (by omega) hc
  exact ⟨c, bb, o, e, hn, fun r u hu => hcell r u hu, hb⟩
theorem IsB.count {w : World} {M : Nat} {ks : List In} {s : Sl} (h : IsB w M ks s) : ks.length = s.n := by
  obtain ⟨cs, hrd, ⟨hlen, hmx⟩, hks⟩ := h
  rw [hlen]; exact hrd.count IC.cells 10 IC.cells_len (by omega)
theorem IsB.max {w : World} {M : Nat} {ks : List In} {s : Sl} (h : IsB w M ks s) : s.n ≤ 140737488355328 := by
  obtain ⟨cs, hrd, ⟨hlen, hmx⟩, hks⟩ := h
  exact hmx
theorem BsB.max {w : World} {M : Nat} {ks : List Bk} {s : Sl} (h : BsB w M ks s) : s.n ≤ 140737488355328 := by
  obtain ⟨cs, hrd, ⟨hlen, hmx⟩, hks⟩ := h
  exact hmx
theorem BsB.elem {w : World} {M : Nat} {ks : List Bk} {s : Sl} (h : BsB w M ks s) {j : Nat} {x : Bk} (hx : ks[j]? = some x) :
    ∃ c b o, s.A = some ⟨b, o, none⟩ ∧ BkB w M x c ∧ CellsAt w b (o + j * 11) c.cells ∧ b < M := by
  obtain ⟨cs, hrd, ⟨hlen, hmx⟩, hks⟩ := h
  obtain ⟨c, hc, hn⟩ := hks j x hx
  have hl : cs.length = s.n := hrd.count BC.cells 11 BC.cells_len (by omega)
  have hj := (List.getElem?_eq_some_iff.1 hx).1
  obtain ⟨bb, o, e, hb, hcell⟩ := hrd.elem BC.cells 11 BC.cells_len (by omega) hc
  exact ⟨c, bb, o, e, hn, fun r u hu => hcell r u hu, hb⟩
theorem BsB.count {w : World} {M : Nat} {ks : List Bk} {s : Sl} (h : BsB w M ks s) : ks.length = s.n := by
  obtain ⟨cs, hrd, ⟨hlen, hmx⟩, hks⟩ := h
  rw [hlen]; exact hrd.count BC.cells 11 BC.cells_len (by omega)
attribute [local go_sem] vne_b vne_i vne_b0 vne_i0
set_option maxHeartbeats 4000000 in
set_option maxRecDepth 100000 in
theorem inl_step {w0 : World} {M L : Nat} {vb vl : Value} {J : Jt} (HV : Vis w0 M L vb vl J) (ks : List In) (IH : ∀ x ∈ ks, InlC w0 M L vb vl J x.ks) : InlC w0 M L vb vl J ks := by
  intro s V O w hs hJ hL
  have hcnt := hs.count
  have hmx := hs.max
  obtain ⟨A, n, c⟩ := s
  have hcnt : ks.length = n := hcnt
  have hmx : n ≤ 140737488355328 := hmx
  have hO : ¬ O w.heap.size := fun h => Nat.lt_irrefl _ (HV.lt V O w hJ _ h)
  have hb := below_alloc w (.cells #[vb, vl] 99)
  have q := heap_alloc_new w (.cells #[vb, vl] 99)
  have hJ1 := HV.step _ _ _ _ hJ hb
  have hMw : Mv O O w (w.alloc (.cells #[vb, vl] 99)) := .of_below hb
  have HS := Lib.hid hs
  have HIH := Lib.hid IH
  have HVV := Lib.hid HV
  clear hs IH HV hJ hb
  show Calls Tryz.prog 88 #[.agg #[vb, vl], .slice A n c] w _
  go_enter Tryz.func88, Tryz.ntmps88
  go_wp2
  generalize w.alloc (.cells #[vb, vl] 99) = W at *
  go_loopw [7] (fun i wr => ∃ (j : Nat) (O' : Nat → Prop), j ≤ n ∧ i = .int .i64 j ∧ J (V ++ (dpL (ks.take j)).map Ev.i) O' wr ∧ Mv O O' W wr) (fun i _ => n - (intOf i).toNat)
  case atStart => exact ⟨0, O, Nat.zero_le _, rfl, by simpa [dpL] using hJ1, .refl _ _⟩
  case round =>
    obtain ⟨j, O', hj, rfl, hJ, hm⟩ := hrel
    by_cases hlt : j < n
    · obtain ⟨x, hx⟩ := get_of (l := ks) (k := j) (by rw [hcnt]; exact hlt)
      obtain ⟨xc, bb, o, hA, hxB, hxc, hbM⟩ := HS.out.elem hx
      have hA : A = some ⟨bb, o, none⟩ := hA
      subst hA
      have HT := Lib.hid (dpL_take hx)
      have hmem := List.mem_of_getElem? hx
      have hv := hm.at q hO
      have hbw := HVV.out.keep _ _ _ hJ
      have hxB0 := hxB
      have hxB := hxB.below hbw
      have x9 : wr.cell? ⟨bb, o + j * 10 + 9, none⟩ = some xc.kd.v := (hbw.cell hbM).trans (hxc 9 _ rfl)
      have hxr : CellsAt wr bb (o + j * 10) xc.cells := fun r u hu => (hbw.cell hbM).trans (hxc r u hu)
      have q0 : wr.cell? ⟨w.heap.size, 0, none⟩ = some vb := by simp [World.cell?, hv]
      have q1 : wr.cell? ⟨w.heap.size, 1, none⟩ = some vl := by simp [World.cell?, hv]
      have hlt' : (j : Int) < (n : Int) := by omega
      have hkB := hxB0.kids
      have hde := dpI_eq x
      have hl1 : (dpL (ks.take j)).length + (1 + (dpL x.ks).length) ≤ (dpL ks).length := by
        have h1 := dpL_le ks (j + 1)
        rw [HT.out, hde, List.length_append, List.length_cons] at h1
        omega
      rcases HVV.out.lin with ⟨rfl, hno⟩ | ⟨g, caps, rfl, hent, hcall⟩
      · have hJd := HVV.out.step _ _ _ _ (hno _ _ _ x hJ) (Below.refl wr.heap.size wr).drew
        have hmd := hm.trans (.of_below (Below.refl wr.heap.size wr).drew)
        have HR := Lib.hid (HIH.out x hmem _ _ _ wr.drew hkB hJd (by simp only [List.length_append, List.length_map, List.length_singleton]; omega))
        go_wp2_with fail
        go_still_tail 6, (by kernel_rfl)
        change wpList _ _ _ _ _ wr.drew
        go_wp2_with fail
        refine HR.out.mono ?_
        rintro e w6 ⟨rfl, O6, hJ6, hm6⟩
        have HE : Hid (V ++ List.map Ev.i (dpL (ks.take j)) ++ [Ev.i x] ++ List.map Ev.i (dpL x.ks) = V ++ List.map Ev.i (dpL (ks.take (j + 1)))) := by rw [HT.out, hde]; simp [Hid]
        rw [HE.out] at hJ6
        go_wp2
        go_roundw
        case rel => exact ⟨j + 1, O6, by omega, by go_num, hJ6, hmd.trans hm6⟩
        case measure => simp [intOf]; omega
      · unfold Ent at hent
        have hJd := HVV.out.step _ _ _ _ hJ (Below.refl wr.heap.size wr).drew
        have hmd := hm.trans (.of_below (Below.refl wr.heap.size wr).drew)
        have HC := Lib.hid (hcall _ _ wr.drew x xc bb (o + j * 10) hJd (by simp only [List.length_append, List.length_map, List.length_singleton]; omega) (hxB.below (Below.refl M wr).drew) hxr)
        go_wp2_with fail
        go_still_tail 5, (by kernel_rfl)
        change wpList _ _ _ _ _ wr.drew
        go_wp2_with fail
        refine HC.out.mono ?_
        rintro e w5 ⟨rfl, O5, hJ5, hm5⟩
        have hm5 := hmd.trans hm5
        have hbw5 := HVV.out.keep _ _ _ hJ5
        have y9 : w5.cell? ⟨bb, o + j * 10 + 9, none⟩ = some xc.kd.v := (hbw5.cell hbM).trans (hxc 9 _ rfl)
        have hJ6 := HVV.out.step _ _ _ _ hJ5 (Below.refl w5.heap.size w5).drew
        have hm6 := hm5.trans (.of_below (Below.refl w5.heap.size w5).drew)
        have hv5 := hm5.at q hO
        have r0 : w5.cell? ⟨w.heap.size, 0, none⟩ = some vb := by simp [World.cell?, hv5]
        have r1 : w5.cell? ⟨w.heap.size, 1, none⟩ = some (.func (.func g) #[] caps) := by simp [World.cell?, hv5]
        have HR := Lib.hid (HIH.out x hmem _ _ _ w5.drew hkB hJ6 (by simp only [List.length_append, List.length_map, List.length_singleton]; omega))
        clear q0 q1 x9 HC
        go_wp2_with fail
        go_still_tail 6, (by kernel_rfl)
        change wpList _ _ _ _ _ w5.drew
        go_wp2_with fail
        refine HR.out.mono ?_
        rintro e w6 ⟨rfl, O6, hJ7, hm7⟩
        have HE : Hid (V ++ List.map Ev.i (dpL (ks.take j)) ++ [Ev.i x] ++ List.map Ev.i (dpL x.ks) = V ++ List.map Ev.i (dpL (ks.take (j + 1)))) := by rw [HT.out, hde]; simp [Hid]
        rw [HE.out] at hJ7
        go_wp2
        go_roundw
        case rel => exact ⟨j + 1, O6, by omega, by go_num, hJ7, hm6.trans hm7⟩
        case measure => simp [intOf]; omega
    · have hjn : j = n := by omega
      subst hjn
      rw [List.take_of_length_le (by omega)] at hJ
      go_wp2
      go_end0
      exact ⟨rfl, O', hJ, hMw.trans hm⟩
theorem inl_kids {w0 : World} {M L : Nat} {vb vl : Value} {J : Jt} (HV : Vis w0 M L vb vl J) : ∀ x : In, InlC w0 M L vb vl J x.ks := by
  refine In.ind ?_
  intro k tx ds ti id ao ags cts ks IH
  exact inl_step HV ks IH
theorem inl_any {w0 : World} {M L : Nat} {vb vl : Value} {J : Jt} (HV : Vis w0 M L vb vl J) (ks : List In) : InlC w0 M L vb vl J ks := inl_step HV ks fun x _ => inl_kids HV x
set_option maxHeartbeats 4000000 in
set_option maxRecDepth 100000 in
theorem blk_step {w0 : World} {M L : Nat} {vb vl : Value} {J : Jt} (HV : Vis w0 M L vb vl J) (ks : List Bk) (IH : ∀ x ∈ ks, BlkC w0 M L vb vl J x.ks) : BlkC w0 M L vb vl J ks := by
  intro s V O w hs hJ hL
  have hcnt := hs.count
  have hmx := hs.max
  obtain ⟨A, n, c⟩ := s
  have hcnt : ks.length = n := hcnt
  have hmx : n ≤ 140737488355328 := hmx
  have hO : ¬ O w.heap.size := fun h => Nat.lt_irrefl _ (HV.lt V O w hJ _ h)
  have hb := below_alloc w (.cells #[vb, vl] 99)
  have q := heap_alloc_new w (.cells #[vb, vl] 99)
  have hJ1 := HV.step _ _ _ _ hJ hb
  have hMw : Mv O O w (w.alloc (.cells #[vb, vl] 99)) := .of_below hb
  have HS := Lib.hid hs
  have HIH := Lib.hid IH
  have HVV := Lib.hid HV
  clear hs IH HV hJ hb
  show Calls Tryz.prog 54 #[.agg #[vb, vl], .slice A n c] w _
  go_enter Tryz.func54, Tryz.ntmps54
  go_wp2
  generalize w.alloc (.cells #[vb, vl] 99) = W at *
  go_loopw [7] (fun i wr => ∃ (j : Nat) (O' : Nat → Prop), j ≤ n ∧ i = .int .i64 j ∧ J (V ++ evL (ks.take j)) O' wr ∧ Mv O O' W wr) (fun i _ => n - (intOf i).toNat)
  case atStart => exact ⟨0, O, Nat.zero_le _, rfl, by simpa [evL] using hJ1, .refl _ _⟩
  case round =>
    obtain ⟨j, O', hj, rfl, hJ, hm⟩ := hrel
    by_cases hlt : j < n
    · obtain ⟨x, hx⟩ := get_of (l := ks) (k := j) (by rw [hcnt]; exact hlt)
      obtain ⟨xc, bb, o, hA, hxB, hxc, hbM⟩ := HS.out.elem hx
      have hA : A = some ⟨bb, o, none⟩ := hA
      subst hA
      have HT := Lib.hid (evL_take hx)
      have hmem := List.mem_of_getElem? hx
      have hv := hm.at q hO
      have hbw := HVV.out.keep _ _ _ hJ
      have hxB0 := hxB
      have hxB := hxB.below hbw
      have hxr : CellsAt wr bb (o + j * 11) xc.cells := fun r u hu => (hbw.cell hbM).trans (hxc r u hu)
      have q0 : wr.cell? ⟨w.heap.size, 0, none⟩ = some vb := by simp [World.cell?, hv]
      have q1 : wr.cell? ⟨w.heap.size, 1, none⟩ = some vl := by simp [World.cell?, hv]
      have hlt' : (j : Int) < (n : Int) := by omega
      have hkB := hxB0.kids
      have hlB := hxB0.line
      have hde := evB_eq x
      have hl1 : (evL (ks.take j)).length + (1 + (dpL x.ln).length + (evL x.ks).length) ≤ (evL ks).length := by
        have h1 := evL_le ks (j + 1)
        rw [HT.out, hde, List.length_append, List.length_cons, List.length_append, List.length_map] at h1
        omega
      rcases HVV.out.blk with ⟨rfl, hno⟩ | ⟨g, caps, rfl, hent, hcall⟩
      · have hJn := hno _ _ _ x hJ
        have hbw5 := HVV.out.keep _ _ _ hJn
        have y9 : wr.cell? ⟨bb, o + j * 11 + 9, none⟩ = some xc.ln.v := (hbw5.cell hbM).trans (hxc 9 _ rfl)
        have hJ6 := HVV.out.step _ _ _ _ hJn (Below.refl wr.heap.size wr).drew
        have hm6 := hm.trans (.of_below (Below.refl wr.heap.size wr).drew)
        have hv5 := hm.at q hO
        have r0 : wr.cell? ⟨w.heap.size, 0, none⟩ = some .nilFunc := by simp [World.cell?, hv5]
        have r1 : wr.cell? ⟨w.heap.size, 1, none⟩ = some vl := by simp [World.cell?, hv5]
        have HR := Lib.hid (inl_any HVV.out x.ln _ _ _ wr.drew hlB hJ6 (by simp only [List.length_append, List.length_map, List.length_singleton]; omega))
        clear q0 q1
        go_wp2_with fail
        go_still_tail 6, (by kernel_rfl)
        change wpList _ _ _ _ _ wr.drew
        go_wp2_with fail
        refine HR.out.mono ?_
        rintro e w7 ⟨rfl, O7, hJ7, hm7⟩
        have hm7 := hm6.trans hm7
        have hbw7 := HVV.out.keep _ _ _ hJ7
        have z10 : w7.cell? ⟨bb, o + j * 11 + 10, none⟩ = some xc.kd.v := (hbw7.cell hbM).trans (hxc 10 _ rfl)
        have hJ8 := HVV.out.step _ _ _ _ hJ7 (Below.refl w7.heap.size w7).drew
        have hm8 := hm7.trans (.of_below (Below.refl w7.heap.size w7).drew)
        have hv7 := hm7.at q hO
        have t0 : w7.cell? ⟨w.heap.size, 0, none⟩ = some .nilFunc := by simp [World.cell?, hv7]
        have t1 : w7.cell? ⟨w.heap.size, 1, none⟩ = some vl := by simp [World.cell?, hv7]
        have HR2 := Lib.hid (HIH.out x hmem _ _ _ w7.drew hkB hJ8 (by simp only [List.length_append, List.length_map, List.length_singleton]; omega))
        clear HR r0 r1 y9
        go_wp2_with fail
        go_still_tail 6, (by kernel_rfl)
        change wpList _ _ _ _ _ w7.drew
        go_wp2_with fail
        refine HR2.out.mono ?_
        rintro e w9 ⟨rfl, O9, hJ9, hm9⟩
        have HE : Hid (V ++ evL (ks.take j) ++ [Ev.b x] ++ List.map Ev.i (dpL x.ln) ++ evL x.ks = V ++ evL (ks.take (j + 1))) := by rw [HT.out, hde]; simp [Hid]
        rw [HE.out] at hJ9
        go_wp2
        go_roundw
        case rel => exact ⟨j + 1, O9, by omega, by go_num, hJ9, hm8.trans hm9⟩
        case measure => simp [intOf]; omega
      · unfold Ent at hent
        have hJd := HVV.out.step _ _ _ _ hJ (Below.refl wr.heap.size wr).drew
        have hmd := hm.trans (.of_below (Below.refl wr.heap.size wr).drew)
        have HC := Lib.hid (hcall _ _ wr.drew x xc bb (o + j * 11) hJd (by simp only [List.length_append, List.length_map, List.length_singleton]; omega) (hxB.below (Below.refl M wr).drew) hxr)
        go_wp2_with fail
        go_still_tail 5, (by kernel_rfl)
        change wpList _ _ _ _ _ wr.drew
        go_wp2_with fail
        refine HC.out.mono ?_
        rintro e w5 ⟨rfl, O5, hJ5, hm5⟩
        have hm5 := hmd.trans hm5
        have hbw5 := HVV.out.keep _ _ _ hJ5
        have y9 : w5.cell? ⟨bb, o + j * 11 + 9, none⟩ = some xc.ln.v := (hbw5.cell hbM).trans (hxc 9 _ rfl)
        have hJ6 := HVV.out.step _ _ _ _ hJ5 (Below.refl w5.heap.size w5).drew
        have hm6 := hm5.trans (.of_below (Below.refl w5.heap.size w5).drew)
        have hv5 := hm5.at q hO
        have r0 : w5.cell? ⟨w.heap.size, 0, none⟩ = some (.func (.func g) #[] caps) := by simp [World.cell?, hv5]
        have r1 : w5.cell? ⟨w.heap.size, 1, none⟩ = some vl := by simp [World.cell?, hv5]
        have HR := Lib.hid (inl_any HVV.out x.ln _ _ _ w5.drew hlB hJ6 (by simp only [List.length_append, List.length_map, List.length_singleton]; omega))
        clear q0 q1 HC
        go_wp2_with fail
        go_still_tail 6, (by kernel_rfl)
        change wpList _ _ _ _ _ w5.drew
        go_wp2_with fail
        refine HR.out.mono ?_
        rintro e w7 ⟨rfl, O7, hJ7, hm7⟩
        have hm7 := hm6.trans hm7
        have hbw7 := HVV.out.keep _ _ _ hJ7
        have z10 : w7.cell? ⟨bb, o + j * 11 + 10, none⟩ = some xc.kd.v := (hbw7.cell hbM).trans (hxc 10 _ rfl)
        have hJ8 := HVV.out.step _ _ _ _ hJ7 (Below.refl w7.heap.size w7).drew
        have hm8 := hm7.trans (.of_below (Below.refl w7.heap.size w7).drew)
        have hv7 := hm7.at q hO
        have t0 : w7.cell? ⟨w.heap.size, 0, none⟩ = some (.func (.func g) #[] caps) := by simp [World.cell?, hv7]
        have t1 : w7.cell? ⟨w.heap.size, 1, none⟩ = some vl := by simp [World.cell?, hv7]
        have HR2 := Lib.hid (HIH.out x hmem _ _ _ w7.drew hkB hJ8 (by simp only [List.length_append, List.length_map, List.length_singleton]; omega))
        clear HR r0 r1 y9
        go_wp2_with fail
        go_still_tail 6, (by kernel_rfl)
        change wpList _ _ _ _ _ w7.drew
        go_wp2_with fail
        refine HR2.out.mono ?_
        rintro e w9 ⟨rfl, O9, hJ9, hm9⟩
        have HE : Hid (V ++ evL (ks.take j) ++ [Ev.b x] ++ List.map Ev.i (dpL x.ln) ++ evL x.ks = V ++ evL (ks.take (j + 1))) := by rw [HT.out, hde]; simp [Hid]
        rw [HE.out] at hJ9
        go_wp2
        go_roundw
        case rel => exact ⟨j + 1, O9, by omega, by go_num, hJ9, hm8.trans hm9⟩
        case measure => simp [intOf]; omega
    · have hjn : j = n := by omega
      subst hjn
      rw [List.take_of_length_le (by omega)] at hJ
      go_wp2
      go_end0
      exact ⟨rfl, O', hJ, hMw.trans hm⟩
theorem blk_kids {w0 : World} {M L : Nat} {vb vl : Value} {J : Jt} (HV : Vis w0 M L vb vl J) : ∀ x : Bk, BlkC w0 M L vb vl J x.ks := by
  refine Bk.ind ?_
  intro k lv nf tx ds ti id ao ln ks IH
  exact blk_step HV ks IH
theorem blk_any {w0 : World} {M L : Nat} {vb vl : Value} {J : Jt} (HV : Vis w0 M L vb vl J) (ks : List Bk) : BlkC w0 M L vb vl J ks := blk_step HV ks fun x _ => blk_kids HV x
end Go.Proofs.YtejjidbodfoiiaaGreatDoor
