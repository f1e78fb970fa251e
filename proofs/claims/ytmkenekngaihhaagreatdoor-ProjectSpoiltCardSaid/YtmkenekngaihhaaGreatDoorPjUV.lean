/-
  Chapter 49 (project), plain: what is read from short lines is short.
  Layer 49 (project): Parse: the program's.
  Layer 49 (project): Parse: the chapter's.
-/
import Derived.Test.YtmkenekngaihhaaGreatDoorPjD
import Derived.Test.YtmkenekngaihhaaGreatDoorPjT
import Derived.Test.YtmkenekngaihhaaGreatDoorPjF
import Derived.Test.YtmkenekngaihhaaGreatDoorLinesB
namespace Go.Proofs.YtmkenekngaihhaaGreatDoor
set_option linter.unusedVariables false
set_option linter.unusedSimpArgs false

theorem eqTail_len (v : List UInt8) : v.length ≤ (eqTail v).length := by
  unfold eqTail
  split
  · rename_i h; subst h; simp
  · simp; omega
theorem fixP_len {n l v : List UInt8} (h : fixP n l = some v) : v.length ≤ l.length := by
  have e := congrArg List.length (fixP_some h)
  have := eqTail_len v
  unfold setL at e
  rw [List.length_append] at e
  omega
theorem varP_len {s : List UInt8} {x : List UInt8 × List UInt8} (h : varP [] s = some x) : x.1.length ≤ s.length ∧ x.2.length ≤ s.length := by
  have e := congrArg List.length (varP_some _ _ h)
  have := eqTail_len x.2
  rw [List.length_append, List.length_append, List.length_nil] at e
  omega
theorem targetP_len {s : List UInt8} {t : Tg} (h : targetP s = some t) : t.nm.length ≤ s.length ∧ t.kd.length ≤ s.length := by
  have e := congrArg List.length (target_some h)
  unfold targetL at e
  simp only [List.length_append, List.length_cons, List.length_nil] at e
  omega
/-- strings of at most `N` bytes, lists of at most `k` -/
structure PjBd (N k : Nat) (p : Pj) : Prop where
  ti : p.ti.length ≤ N
  la : p.la.length ≤ N
  ma : p.ma.length ≤ N
  so : p.so.length ≤ N
  st : p.st.length ≤ N
  vs : ∀ v ∈ p.vs, v.1.length ≤ N ∧ v.2.length ≤ N
  fs : ∀ v ∈ p.fs, v.length ≤ N
  ts : ∀ v ∈ p.ts, v.nm.length ≤ N ∧ v.kd.length ≤ N
  nv : p.vs.length ≤ k
  nf : p.fs.length ≤ k
  nt : p.ts.length ≤ k
theorem PjBd.up {N k k' : Nat} {p : Pj} (h : PjBd N k p) (hk : k ≤ k') : PjBd N k' p :=
  ⟨h.ti, h.la, h.ma, h.so, h.st, h.vs, h.fs, h.ts, Nat.le_trans h.nv hk, Nat.le_trans h.nf hk, Nat.le_trans h.nt hk⟩
theorem PjBd.sm {N k : Nat} {p : Pj} (h : PjBd N k p) (hN : N ≤ 1000000) (hk : k ≤ 1000000) : PjSm p :=
  ⟨Nat.le_trans h.ti hN, Nat.le_trans h.la hN, Nat.le_trans h.ma hN, Nat.le_trans h.so hN, Nat.le_trans h.st hN,
   fun v hv => ⟨Nat.le_trans (h.vs v hv).1 hN, Nat.le_trans (h.vs v hv).2 hN⟩, fun v hv => Nat.le_trans (h.fs v hv) hN,
   fun v hv => ⟨Nat.le_trans (h.ts v hv).1 hN, Nat.le_trans (h.ts v hv).2 hN⟩, Nat.le_trans h.nv hk, Nat.le_trans h.nf hk, Nat.le_trans h.nt hk⟩
theorem moreP_bd {N k st : Nat} {p : Pj} {l : List UInt8} {x : Pj × Nat} (h : moreP p l st = some x) (hl : l.length ≤ N) (hp : PjBd N k p) : PjBd N (k + 1) x.1 := by
  unfold moreP at h
  split at h
  · cases hv : varP [] (l.drop 4) with
    | none => rw [hv] at h; cases h
    | some v =>
      rw [hv] at h
      have hx := varP_len hv
      rw [List.length_drop] at hx
      cases h
      refine ⟨hp.ti, hp.la, hp.ma, hp.so, hp.st, ?_, hp.fs, hp.ts, ?_, Nat.le_succ_of_le hp.nf, Nat.le_succ_of_le hp.nt⟩
      · intro u hu
        rcases List.mem_append.1 hu with hu | hu
        · exact hp.vs u hu
        · rw [List.mem_singleton] at hu
          subst hu
          exact ⟨by omega, by omega⟩
      · have := hp.nv
        show (p.vs ++ [v]).length ≤ k + 1
        rw [List.length_append, List.length_singleton]
        omega
  · split at h
    · split at h
      · cases h
        refine ⟨hp.ti, hp.la, hp.ma, hp.so, hp.st, hp.vs, ?_, hp.ts, Nat.le_succ_of_le hp.nv, ?_, Nat.le_succ_of_le hp.nt⟩
        · intro u hu
          rcases List.mem_append.1 hu with hu | hu
          · exact hp.fs u hu
          · rw [List.mem_singleton] at hu
            subst hu
            rw [List.length_drop]
            omega
        · have := hp.nf
          show (p.fs ++ [l.drop 5]).length ≤ k + 1
          rw [List.length_append, List.length_singleton]
          omega
      · cases h
    · split at h
      · cases hv : targetP (l.drop 7) with
        | none => rw [hv] at h; cases h
        | some t =>
          rw [hv] at h
          have hx := targetP_len hv
          rw [List.length_drop] at hx
          cases h
          refine ⟨hp.ti, hp.la, hp.ma, hp.so, hp.st, hp.vs, hp.fs, ?_, Nat.le_succ_of_le hp.nv, Nat.le_succ_of_le hp.nf, ?_⟩
          · intro u hu
            rcases List.mem_append.1 hu with hu | hu
            · exact hp.ts u hu
            · rw [List.mem_singleton] at hu
              subst hu
              exact ⟨by omega, by omega⟩
          · have := hp.nt
            show (p.ts ++ [t]).length ≤ k + 1
            rw [List.length_append, List.length_singleton]
            omega
      · cases h
theorem tailP_bd {N : Nat} : ∀ (ls : List (List UInt8)) {k st i : Nat} {p q : Pj}, tailP p st i ls = .ok q → (∀ l ∈ ls, l.length ≤ N) → PjBd N k p → PjBd N (k + ls.length) q := by
  intro ls
  induction ls with
  | nil => intro k st i p q h _ hp; cases h; exact hp
  | cons l r ih =>
    intro k st i p q h hl hp
    rw [tailP] at h
    cases hm : moreP p l st with
    | none => rw [hm] at h; cases h
    | some x =>
      rw [hm] at h
      have h1 := ih h (fun u hu => hl u (List.mem_cons_of_mem _ hu)) (moreP_bd hm (hl l List.mem_cons_self) hp)
      exact h1.up (by rw [List.length_cons]; omega)
theorem headP_len {N : Nat} : ∀ (ns : List (List UInt8)) {i : Nat} {ls vs : List (List UInt8)} {x : List (List UInt8) × List (List UInt8)}, headP ns i ls vs = .ok x → (∀ l ∈ ls, l.length ≤ N) → (∀ v ∈ vs, v.length ≤ N) → (∀ v ∈ x.1, v.length ≤ N) ∧ x.2.length ≤ ls.length ∧ (∀ l ∈ x.2, l.length ≤ N) := by
  intro ns
  induction ns with
  | nil => intro i ls vs x h hl hv; cases h; exact ⟨hv, Nat.le_refl _, hl⟩
  | cons n ns ih =>
    intro i ls vs x h hl hv
    cases ls with
    | nil => cases h
    | cons l r =>
      rw [headP] at h
      cases hf : fixP n l with
      | none => rw [hf] at h; cases h
      | some v =>
        rw [hf] at h
        obtain ⟨h1, h2, h3⟩ := ih h (fun u hu => hl u (List.mem_cons_of_mem _ hu)) (by
          intro u hu
          rcases List.mem_append.1 hu with hu | hu
          · exact hv u hu
          · rw [List.mem_singleton] at hu
            subst hu
            exact Nat.le_trans (fixP_len hf) (hl l List.mem_cons_self))
        exact ⟨h1, by rw [List.length_cons]; omega, h3⟩
theorem getD_len {N : Nat} {vs : List (List UInt8)} (h : ∀ v ∈ vs, v.length ≤ N) (i : Nat) : (vs.getD i []).length ≤ N := by
  rw [List.getD_eq_getElem?_getD]
  cases e : vs[i]? with
  | none => simp
  | some v => exact h v (List.mem_of_getElem? e)
theorem pjOf_bd {N : Nat} {vs : List (List UInt8)} (h : ∀ v ∈ vs, v.length ≤ N) : PjBd N 0 (pjOf vs) :=
  ⟨getD_len h 0, getD_len h 1, getD_len h 2, getD_len h 3, getD_len h 4, (by intro v hv; cases hv), (by intro v hv; cases hv), (by intro v hv; cases hv), Nat.le_refl _, Nat.le_refl _, Nat.le_refl _⟩
/-- what short lines give is short -/
theorem read_sm {ls vs r : List (List UInt8)} {p : Pj} (hh : headP heads 0 ls [] = .ok (vs, r)) (ht : tailP (pjOf vs) 0 5 r = .ok p) (hl : ∀ l ∈ ls, l.length ≤ 1000000) (hn : ls.length ≤ 1000000) : PjSm p := by
  obtain ⟨h1, h2, h3⟩ := headP_len heads hh hl (by intro v hv; cases hv)
  have h4 := tailP_bd r ht h3 (pjOf_bd h1)
  exact h4.sm (Nat.le_refl _) (by have : r.length ≤ ls.length := h2; omega)
end Go.Proofs.YtmkenekngaihhaaGreatDoor
namespace Go.Proofs.YtmkenekngaihhaaGreatDoor
open Go.RowKit
set_option linter.unusedVariables false
set_option linter.unusedSimpArgs false
attribute [local go_sem] B_data B_size

theorem run_ix0 (a b c d e : ByteArray) (w : World) : Sem.run Tryz.prog (Instr.index 63 (.agg #[.string a, .string b, .string c, .string d, .string e]) (.int .i64 0)) w = .ok (.string a) w := by simp [Instr.index, run_underlying Tryz.underlying63, asIntOf, go_sem]
theorem run_ix1 (a b c d e : ByteArray) (w : World) : Sem.run Tryz.prog (Instr.index 63 (.agg #[.string a, .string b, .string c, .string d, .string e]) (.int .i64 1)) w = .ok (.string b) w := by simp [Instr.index, run_underlying Tryz.underlying63, asIntOf, go_sem]
theorem run_ix2 (a b c d e : ByteArray) (w : World) : Sem.run Tryz.prog (Instr.index 63 (.agg #[.string a, .string b, .string c, .string d, .string e]) (.int .i64 2)) w = .ok (.string c) w := by simp [Instr.index, run_underlying Tryz.underlying63, asIntOf, go_sem]
theorem run_ix3 (a b c d e : ByteArray) (w : World) : Sem.run Tryz.prog (Instr.index 63 (.agg #[.string a, .string b, .string c, .string d, .string e]) (.int .i64 3)) w = .ok (.string d) w := by simp [Instr.index, run_underlying Tryz.underlying63, asIntOf, go_sem]
theorem run_ix4 (a b c d e : ByteArray) (w : World) : Sem.run Tryz.prog (Instr.index 63 (.agg #[.string a, .string b, .string c, .string d, .string e]) (.int .i64 4)) w = .ok (.string e) w := by simp [Instr.index, run_underlying Tryz.underlying63, asIntOf, go_sem]
theorem head_short {ls vs : List (List UInt8)} {k : Nat} (hk : k < 5) (hl : ls.length ≤ k) : headP (heads.drop k) k (ls.drop k) vs = .error (k + 1) := by
  rw [List.drop_of_length_le hl]
  have : k = 0 ∨ k = 1 ∨ k = 2 ∨ k = 3 ∨ k = 4 := by omega
  rcases this with rfl | rfl | rfl | rfl | rfl <;> rfl
theorem head_drop {k : Nat} (hk : k < 5) : heads.drop k = heads.getD k [] :: heads.drop (k + 1) := by
  have : k = 0 ∨ k = 1 ∨ k = 2 ∨ k = 3 ∨ k = 4 := by omega
  rcases this with rfl | rfl | rfl | rfl | rfl <;> rfl
theorem ls_drop {ls : List (List UInt8)} {k : Nat} (hk : k < ls.length) : ls.drop k = ls.getD k [] :: ls.drop (k + 1) := by
  rw [List.drop_eq_getElem_cons hk, List.getD_eq_getElem?_getD, List.getElem?_eq_getElem hk]; rfl
theorem head_bad {ls vs : List (List UInt8)} {k : Nat} (hk : k < 5) (hl : k < ls.length) (h : fixP (heads.getD k []) (ls.getD k []) = none) : headP (heads.drop k) k (ls.drop k) vs = .error (k + 1) := by
  rw [head_drop hk, ls_drop hl, headP, h]
theorem head_ok {ls vs : List (List UInt8)} {k : Nat} {v : List UInt8} (hk : k < 5) (hl : k < ls.length) (h : fixP (heads.getD k []) (ls.getD k []) = some v) : headP (heads.drop k) k (ls.drop k) vs = headP (heads.drop (k + 1)) (k + 1) (ls.drop (k + 1)) (vs ++ [v]) := by
  rw [head_drop hk, ls_drop hl, headP, h]
theorem head_end {ls vs : List (List UInt8)} : headP (heads.drop 5) 5 (ls.drop 5) vs = .ok (vs, ls.drop 5) := rfl
theorem PB.setk {q k : Nat} {vs : List (List UInt8)} {vA vF vT : Value} {W : World} (h : PB q (pjOf vs) vA vF vT W) (hv : vs.length = k) (hk : k < 5) (v : List UInt8) : PB q (pjOf (vs ++ [v])) vA vF vT (W.setCell ⟨q, k, none⟩ (.string (B v))) := by
  subst hv
  unfold PB at *
  match vs, hk with
  | [], _ => simp [World.setCell, Array.getElem?_modify, h, pjOf]
  | [a], _ => simp [World.setCell, Array.getElem?_modify, h, pjOf]
  | [a, b], _ => simp [World.setCell, Array.getElem?_modify, h, pjOf]
  | [a, b, c], _ => simp [World.setCell, Array.getElem?_modify, h, pjOf]
  | [a, b, c, d], _ => simp [World.setCell, Array.getElem?_modify, h, pjOf]
theorem splitGo_len (r : List UInt8) : ∀ cur : List UInt8, ∀ l ∈ splitGo cur r, l.length ≤ cur.length + r.length := by
  induction r with
  | nil =>
    intro cur l h
    rw [splitGo] at h
    split at h
    · cases h
    · rw [List.mem_singleton] at h; subst h; simp
  | cons c r ih =>
    intro cur l h
    rw [splitGo] at h
    split at h
    · rcases List.mem_cons.1 h with h | h
      · subst h; simp
      · have := ih [] l h; simp only [List.length_nil, List.length_cons] at *; omega
    · have := ih (cur ++ [c]) l h; simp only [List.length_append, List.length_cons, List.length_nil] at *; omega
theorem split_lens {l s : List UInt8} (h : l ∈ split s) : l.length ≤ s.length := by
  have := splitGo_len s [] l h
  simpa using this
theorem getD_le {ls : List (List UInt8)} {n : Nat} (h : ∀ l ∈ ls, l.length ≤ n) (k : Nat) : (ls.getD k []).length ≤ n := getD_len h k
theorem tail_bad {p : Pj} {st j : Nat} {ls : List (List UInt8)} (hj : j < ls.length) (h : moreP p (ls.getD j []) st = none) : tailP p st j (ls.drop j) = .error (j + 1) := by
  rw [ls_drop hj, tailP, h]
theorem tail_ok {p p' : Pj} {st st' j : Nat} {ls : List (List UInt8)} (hj : j < ls.length) (h : moreP p (ls.getD j []) st = some (p', st')) : tailP p st j (ls.drop j) = tailP p' st' (j + 1) (ls.drop (j + 1)) := by
  rw [ls_drop hj, tailP, h]
theorem tail_end {p : Pj} {st j : Nat} {ls : List (List UInt8)} (hj : ls.length ≤ j) : tailP p st j (ls.drop j) = .ok p := by
  rw [List.drop_of_length_le hj]; rfl
theorem parse_head {ls r vs : List (List UInt8)} {k : Pk} (h : headP heads 0 ls [] = .ok (vs, r)) : parseL k ls = match tailP (pjOf vs) 0 5 r with
    | .error i => (pj0, i, 5)
    | .ok p => if checkE k p ≠ 0 then (pj0, 0, checkE k p) else (p, 0, 0) := by
  unfold parseL; rw [h]; rfl
/-- what Parse leaves -/
def PaPost (s : List UInt8) (w : World) (e : Ending) (w' : World) : Prop :=
  ∃ (p : Pj) (line : Nat) (err : Int) (A G H : Option Addr) (a g h : Nat), parseL pkG (split s) = (p, line, err) ∧
    e = .returned (.tuple #[.agg #[.string (B p.ti), .string (B p.la), .string (B p.ma), .string (B p.so), .string (B p.st), .slice A p.vs.length a, .slice G p.fs.length g, .slice H p.ts.length h], .int .i64 (line : Int), .int .i64 err]) ∧
    Below w.heap.size w w' ∧ PV w.heap.size p (.slice A p.vs.length a) (.slice G p.fs.length g) (.slice H p.ts.length h) w'
theorem PV.nil (w : World) (M : Nat) (hM : M ≤ w.heap.size) (vs : List (List UInt8)) : PV M (pjOf vs) (.slice none 0 0) (.slice none 0 0) (.slice none 0 0) w := ⟨World.ownsRow_nil .., World.ownsRow_nil .., World.ownsRow_nil .., hM⟩
theorem pa_bad {s : List UInt8} {w w' : World} {line : Nat} {err i : Int} (h : Hid (parseL pkG (split s) = (pj0, line, err) ∧ i = (line : Int))) (hb : Below w.heap.size w w') : PaPost s w (.returned (.tuple #[.agg #[.string ⟨#[]⟩, .string ⟨#[]⟩, .string ⟨#[]⟩, .string ⟨#[]⟩, .string ⟨#[]⟩, .slice none 0 0, .slice none 0 0, .slice none 0 0], .int .i64 i, .int .i64 err])) w' := by
  obtain ⟨h1, rfl⟩ := h.out
  exact ⟨pj0, line, err, none, none, none, 0, 0, 0, h1, rfl, hb, PV.nil w' _ hb.size []⟩
theorem PV.low {base base' : Nat} {p : Pj} {vA vF vT : Value} {W : World} (h : PV base p vA vF vT W) (hb : base' ≤ base) : PV base' p vA vF vT W := ⟨own_more h.ov hb, own_more h.of hb, own_more h.ot hb, Nat.le_trans hb h.le⟩
theorem pa_good {s : List UInt8} {w w' : World} {p : Pj} {A G H : Option Addr} {a g h : Nat} (hp : Hid (parseL pkG (split s) = (p, 0, 0))) (hb : Below w.heap.size w w') (hv : PV w.heap.size p (.slice A p.vs.length a) (.slice G p.fs.length g) (.slice H p.ts.length h) w') : PaPost s w (.returned (.tuple #[.agg #[.string (B p.ti), .string (B p.la), .string (B p.ma), .string (B p.so), .string (B p.st), .slice A p.vs.length a, .slice G p.fs.length g, .slice H p.ts.length h], .int .i64 0, .int .i64 0])) w' :=
  ⟨p, 0, 0, A, G, H, a, g, h, hp.out, rfl, hb, hv⟩
/-- the worlds of the first loop -/
structure L1 (w : World) (q pb : Nat) (A : Option Addr) (n c : Nat) (ls vs : List (List UInt8)) (W : World) : Prop where
  bw : Below w.heap.size w W
  bq : PB q (pjOf vs) (.slice none 0 0) (.slice none 0 0) (.slice none 0 0) W
  rz : RZ w.heap.size W
  own : W.ownsRow (w.heap.size + 2) 9 1 (.slice A n c) n (strs ls)
  pk : W.heap[pb]? = some (.cells #[.pointer (some ⟨q, 0, none⟩), .pointer (some ⟨q, 1, none⟩), .pointer (some ⟨q, 2, none⟩), .pointer (some ⟨q, 3, none⟩), .pointer (some ⟨q, 4, none⟩)] 65 (0, 0))
  G : Fil.Glob W
  lq : w.heap.size < q
  qp : pb ≠ q
theorem L1.p0 {w : World} {q pb : Nat} {A : Option Addr} {n c : Nat} {ls vs : List (List UInt8)} {W : World} (h : L1 w q pb A n c ls vs W) : W.cell? ⟨pb, 0, none⟩ = some (.pointer (some ⟨q, 0, none⟩)) := by have := h.pk; simp [World.cell?, this]
theorem L1.p1 {w : World} {q pb : Nat} {A : Option Addr} {n c : Nat} {ls vs : List (List UInt8)} {W : World} (h : L1 w q pb A n c ls vs W) : W.cell? ⟨pb, 1, none⟩ = some (.pointer (some ⟨q, 1, none⟩)) := by have := h.pk; simp [World.cell?, this]
theorem L1.p2 {w : World} {q pb : Nat} {A : Option Addr} {n c : Nat} {ls vs : List (List UInt8)} {W : World} (h : L1 w q pb A n c ls vs W) : W.cell? ⟨pb, 2, none⟩ = some (.pointer (some ⟨q, 2, none⟩)) := by have := h.pk; simp [World.cell?, this]
theorem L1.p3 {w : World} {q pb : Nat} {A : Option Addr} {n c : Nat} {ls vs : List (List UInt8)} {W : World} (h : L1 w q pb A n c ls vs W) : W.cell? ⟨pb, 3, none⟩ = some (.pointer (some ⟨q, 3, none⟩)) := by have := h.pk; simp [World.cell?, this]
theorem L1.p4 {w : World} {q pb : Nat} {A : Option Addr} {n c : Nat} {ls vs : List (List UInt8)} {W : World} (h : L1 w q pb A n c ls vs W) : W.cell? ⟨pb, 4, none⟩ = some (.pointer (some ⟨q, 4, none⟩)) := by have := h.pk; simp [World.cell?, this]
theorem L1.set {w : World} {q pb k : Nat} {A : Option Addr} {n c : Nat} {ls vs : List (List UInt8)} {W : World} (h : L1 w q pb A n c ls vs W) (hG : Fil.Glob w) (hv : vs.length = k) (hk : k < 5) (v : List UInt8) : L1 w q pb A n c ls (vs ++ [v]) (W.setCell ⟨q, k, none⟩ (.string (B v))) := by
  have hg : W.grownBy (W.setCell ⟨q, k, none⟩ (.string (B v))) (some q) := grown_setC (World.grownBy.refl W _)
  have hb : Below w.heap.size W (W.setCell ⟨q, k, none⟩ (.string (B v))) := below_of_grown hg h.bw.size (fun k hk => by injection hk with hk; have := h.lq; omega)
  exact ⟨h.bw.trans hb, h.bq.setk hv hk v, h.rz.grown hg (fun e => by injection e with e; have := h.lq; omega), h.own.kept hg (.inr (own_ne h.own h.bq (by decide))), (hg.block pb (Array.getElem?_eq_some_iff.1 h.pk).1 (fun e => by injection e with e; exact h.qp e)).trans h.pk, Fil.Glob.below hG (h.bw.trans hb) (Nat.le_refl _), h.lq, h.qp⟩
theorem Kq.grown {q : Nat} {W W' : World} (h : Kq W.heap.size q W W') : W.grownBy W' (some q) := ⟨h.os, h.tape, h.output, h.size, fun k hk hne => h.block k hk (fun e => hne (by rw [e]))⟩
/-- the worlds of the second loop -/
structure L2 (w : World) (q : Nat) (A : Option Addr) (n c : Nat) (ls : List (List UInt8)) (W : World) : Prop where
  bw : Below w.heap.size w W
  rz : RZ w.heap.size W
  own : W.ownsRow (w.heap.size + 2) 9 1 (.slice A n c) n (strs ls)
  G : Fil.Glob W
theorem L1.kq {w : World} {q pb : Nat} {A : Option Addr} {n c : Nat} {ls vs : List (List UInt8)} {W W' : World} (h : L1 w q pb A n c ls vs W) (hG : Fil.Glob w) (hk : Kq W.heap.size q W W') : L2 w q A n c ls W' := by
  have hg := hk.grown
  have hb : Below w.heap.size W W' := below_of_grown hg h.bw.size (fun k hk => by injection hk with hk; have := h.lq; omega)
  exact ⟨h.bw.trans hb, h.rz.grown hg (fun e => by injection e with e; have := h.lq; omega), h.own.kept hg (.inr (own_ne h.own h.bq (by decide))), Fil.Glob.below hG (h.bw.trans hb) (Nat.le_refl _)⟩
set_option maxHeartbeats 16000000 in
set_option maxRecDepth 100000 in
theorem parse_any (s : ByteArray) (w : World) (hs : s.size ≤ 900000) (hG : Fil.Glob w) :
    Calls Tryz.prog 13 #[.string s] w (PaPost s.toList w) := by
  have hb1 := below_alloc w (.cells #[.string ⟨#[]⟩, .string ⟨#[]⟩, .string ⟨#[]⟩, .string ⟨#[]⟩, .string ⟨#[]⟩, .slice none 0 0, .slice none 0 0, .slice none 0 0] 26)
  have hb2 := below_alloc (w.alloc (.cells #[.string ⟨#[]⟩, .string ⟨#[]⟩, .string ⟨#[]⟩, .string ⟨#[]⟩, .string ⟨#[]⟩, .slice none 0 0, .slice none 0 0, .slice none 0 0] 26)) (.cells #[.string ⟨#[]⟩, .string ⟨#[]⟩, .string ⟨#[]⟩, .string ⟨#[]⟩, .string ⟨#[]⟩, .slice none 0 0, .slice none 0 0, .slice none 0 0] 26)
  have hR : RZ w.heap.size (w.alloc (.cells #[.string ⟨#[]⟩, .string ⟨#[]⟩, .string ⟨#[]⟩, .string ⟨#[]⟩, .string ⟨#[]⟩, .slice none 0 0, .slice none 0 0, .slice none 0 0] 26)) := heap_alloc_new w _
  have hR := hR.step hb2
  have hQ : PB (w.heap.size + 1) (pjOf []) (.slice none 0 0) (.slice none 0 0) (.slice none 0 0) ((w.alloc (.cells #[.string ⟨#[]⟩, .string ⟨#[]⟩, .string ⟨#[]⟩, .string ⟨#[]⟩, .string ⟨#[]⟩, .slice none 0 0, .slice none 0 0, .slice none 0 0] 26)).alloc (.cells #[.string ⟨#[]⟩, .string ⟨#[]⟩, .string ⟨#[]⟩, .string ⟨#[]⟩, .string ⟨#[]⟩, .slice none 0 0, .slice none 0 0, .slice none 0 0] 26)) := by
    have := heap_alloc_new (w.alloc (.cells #[.string ⟨#[]⟩, .string ⟨#[]⟩, .string ⟨#[]⟩, .string ⟨#[]⟩, .string ⟨#[]⟩, .slice none 0 0, .slice none 0 0, .slice none 0 0] 26)) (.cells #[.string ⟨#[]⟩, .string ⟨#[]⟩, .string ⟨#[]⟩, .string ⟨#[]⟩, .string ⟨#[]⟩, .slice none 0 0, .slice none 0 0, .slice none 0 0] 26)
    have e : (w.alloc (.cells #[.string ⟨#[]⟩, .string ⟨#[]⟩, .string ⟨#[]⟩, .string ⟨#[]⟩, .string ⟨#[]⟩, .slice none 0 0, .slice none 0 0, .slice none 0 0] 26)).heap.size = w.heap.size + 1 := by simp
    rw [e] at this
    exact this
  have es : ((w.alloc (.cells #[.string ⟨#[]⟩, .string ⟨#[]⟩, .string ⟨#[]⟩, .string ⟨#[]⟩, .string ⟨#[]⟩, .slice none 0 0, .slice none 0 0, .slice none 0 0] 26)).alloc (.cells #[.string ⟨#[]⟩, .string ⟨#[]⟩, .string ⟨#[]⟩, .string ⟨#[]⟩, .string ⟨#[]⟩, .slice none 0 0, .slice none 0 0, .slice none 0 0] 26)).heap.size = w.heap.size + 2 := by simp
  have hbw : Below w.heap.size w ((w.alloc (.cells #[.string ⟨#[]⟩, .string ⟨#[]⟩, .string ⟨#[]⟩, .string ⟨#[]⟩, .string ⟨#[]⟩, .slice none 0 0, .slice none 0 0, .slice none 0 0] 26)).alloc (.cells #[.string ⟨#[]⟩, .string ⟨#[]⟩, .string ⟨#[]⟩, .string ⟨#[]⟩, .string ⟨#[]⟩, .slice none 0 0, .slice none 0 0, .slice none 0 0] 26)) := hb1.trans (hb2.mono hb1.size)
  clear hb1 hb2
  go_enter Tryz.func13, Tryz.ntmps13
  go_wp2_with fail
  refine (split_any s _ (by omega)).mono ?_
  rintro e w1 ⟨v, rfl, ho, hbn⟩
  rw [es] at ho
  have hR := hR.step hbn
  have hQ := hQ.step hbn
  rw [es] at hbn
  have hbw := hbw.trans (hbn.mono (by omega))
  clear hbn es
  obtain ⟨A, c, rfl, hc⟩ := own_form ho
  obtain ⟨ls, hls⟩ : ∃ ls, ls = split s.toList := ⟨_, rfl⟩
  have HLS := Lib.hid hls
  rw [← hls] at ho hc
  rw [← hls]
  clear hls
  obtain ⟨n, hnl⟩ : ∃ n, n = ls.length := ⟨_, rfl⟩
  rw [← hnl] at ho hc
  rw [← hnl]
  have HNL := Lib.hid hnl
  clear hnl
  obtain ⟨q, hq⟩ : ∃ q, q = w.heap.size + 1 := ⟨_, rfl⟩
  have hL : L1 w q (w1.heap.size + 1) A n c ls [] ((w1.alloc (.cells #[.string ⟨#[116, 105, 116, 108, 101]⟩, .string ⟨#[108, 97, 110, 103]⟩, .string ⟨#[109, 97, 105, 110]⟩, .string ⟨#[115, 111, 117, 114, 99, 101, 115]⟩, .string ⟨#[115, 116, 121, 108, 101]⟩] 63)).alloc (.cells #[.pointer (some ⟨q, 0, none⟩), .pointer (some ⟨q, 1, none⟩), .pointer (some ⟨q, 2, none⟩), .pointer (some ⟨q, 3, none⟩), .pointer (some ⟨q, 4, none⟩)] 65)) := by
    have h1 := below_alloc w1 (.cells #[.string ⟨#[116, 105, 116, 108, 101]⟩, .string ⟨#[108, 97, 110, 103]⟩, .string ⟨#[109, 97, 105, 110]⟩, .string ⟨#[115, 111, 117, 114, 99, 101, 115]⟩, .string ⟨#[115, 116, 121, 108, 101]⟩] 63)
    have h2 := below_alloc (w1.alloc (.cells #[.string ⟨#[116, 105, 116, 108, 101]⟩, .string ⟨#[108, 97, 110, 103]⟩, .string ⟨#[109, 97, 105, 110]⟩, .string ⟨#[115, 111, 117, 114, 99, 101, 115]⟩, .string ⟨#[115, 116, 121, 108, 101]⟩] 63)) (.cells #[.pointer (some ⟨q, 0, none⟩), .pointer (some ⟨q, 1, none⟩), .pointer (some ⟨q, 2, none⟩), .pointer (some ⟨q, 3, none⟩), .pointer (some ⟨q, 4, none⟩)] 65)
    rw [← hq] at hQ
    have hbw2 := hbw.trans ((h1.trans (h2.mono h1.size)).mono hbw.size)
    refine ⟨hbw2, (hQ.step h1).step h2, (hR.step h1).step h2, (ho.alloc _).alloc _, ?_, Fil.Glob.below hG hbw2 (Nat.le_refl _), by omega, ?_⟩
    · have := heap_alloc_new (w1.alloc (.cells #[.string ⟨#[116, 105, 116, 108, 101]⟩, .string ⟨#[108, 97, 110, 103]⟩, .string ⟨#[109, 97, 105, 110]⟩, .string ⟨#[115, 111, 117, 114, 99, 101, 115]⟩, .string ⟨#[115, 116, 121, 108, 101]⟩] 63)) (.cells #[.pointer (some ⟨q, 0, none⟩), .pointer (some ⟨q, 1, none⟩), .pointer (some ⟨q, 2, none⟩), .pointer (some ⟨q, 3, none⟩), .pointer (some ⟨q, 4, none⟩)] 65)
      have e : (w1.alloc (.cells #[.string ⟨#[116, 105, 116, 108, 101]⟩, .string ⟨#[108, 97, 110, 103]⟩, .string ⟨#[109, 97, 105, 110]⟩, .string ⟨#[115, 111, 117, 114, 99, 101, 115]⟩, .string ⟨#[115, 116, 121, 108, 101]⟩] 63)).heap.size = w1.heap.size + 1 := by simp
      rw [e] at this
      exact this
    · have := hQ.lt; omega
  clear ho hR hQ hbw
  go_wp2
  rw [← hq]
  have hqw : w.heap.size < q := by omega
  generalize hpb : w1.heap.size + 1 = pb at *
  generalize ((w1.alloc (.cells #[.string ⟨#[116, 105, 116, 108, 101]⟩, .string ⟨#[108, 97, 110, 103]⟩, .string ⟨#[109, 97, 105, 110]⟩, .string ⟨#[115, 111, 117, 114, 99, 101, 115]⟩, .string ⟨#[115, 116, 121, 108, 101]⟩] 63)).alloc (.cells #[.pointer (some ⟨q, 0, none⟩), .pointer (some ⟨q, 1, none⟩), .pointer (some ⟨q, 2, none⟩), .pointer (some ⟨q, 3, none⟩), .pointer (some ⟨q, 4, none⟩)] 65)) = W1 at *
  generalize w1.heap.size = hb at *
  clear hpb hq
  have HLN : Hid (∀ l ∈ ls, l.length ≤ 900000) := fun l hl => by rw [HLS.out] at hl; have := split_lens hl; rw [len_toList] at this; omega
  have hln : n ≤ 900000 := by rw [HNL.out, HLS.out]; have := split_le s.toList; rw [len_toList] at this; omega
  go_loopw [28] (fun i wr => ∃ (k : Nat) (vs : List (List UInt8)), k ≤ 5 ∧ i = .int .i64 k ∧ vs.length = k ∧ Hid (L1 w q pb A n c ls vs wr) ∧ Hid (headP heads 0 ls [] = headP (heads.drop k) k (ls.drop k) vs)) (fun i _ => 5 - (intOf i).toNat)
  case atStart => exact ⟨0, [], by omega, rfl, rfl, hL, by simp [Hid]⟩
  case round =>
    clear hL
    obtain ⟨k, vs, hk, rfl, hv, hL, HH⟩ := hrel
    have hL := hL.out
    by_cases hlt : k < 5
    · have hbw := hL.bw
      by_cases hn : k < n
      · obtain ⟨g, c', hAe, _, hcs⟩ := own_cells hL.own (by omega)
        have e0 := hcs k hn
        clear hcs
        obtain ⟨rfl, rfl⟩ : A = some ⟨g, 0, none⟩ ∧ c = c' := by injection hAe with h1 h2 h3; exact ⟨h1, h3⟩
        clear hAe
        have hll := getD_le HLN.out k
        obtain ⟨l, hle⟩ : ∃ l, l = ls.getD k [] := ⟨_, rfl⟩
        rw [← hle] at e0 hll
        have HLE := Lib.hid hle
        clear hle
        have c0 := hL.p0
        have c1 := hL.p1
        have c2 := hL.p2
        have c3 := hL.p3
        have c4 := hL.p4
        have d0 := hL.bq.d0
        have d1 := hL.bq.d1
        have d2 := hL.bq.d2
        have d3 := hL.bq.d3
        have d4 := hL.bq.d4
        have cf0 := hL.bq.ff (i := 0)
        have cf1 := hL.bq.ff (i := 1)
        have cf2 := hL.bq.ff (i := 2)
        have cf3 := hL.bq.ff (i := 3)
        have cf4 := hL.bq.ff (i := 4)
        have HLL := Lib.hid hL
        clear hL
        have hkk : k = 0 ∨ k = 1 ∨ k = 2 ∨ k = 3 ∨ k = 4 := by omega
        rcases hkk with rfl | rfl | rfl | rfl | rfl
        · have HF := Lib.hid (fixed_any l [116, 105, 116, 108, 101] wr (by omega) (by decide))
          have ix := run_ix0
          have HV : Hid (fixP (heads.getD 0 []) (ls.getD 0 []) = fixP [116, 105, 116, 108, 101] l) := by rw [HLE.out]; rfl
          go_wp2_with fail
          refine HF.out.mono ?_
          rintro e wx ⟨rfl, rfl⟩
          cases hf : fixP [116, 105, 116, 108, 101] l with
          | none =>
            have HX : Hid (parseL pkG (split s.toList) = (pj0, 0 + 1, 5) ∧ (1 : Int) = ((0 + 1 : Nat) : Int)) := ⟨by unfold parseL; rw [← HLS.out, HH.out, head_bad (by omega) (by rw [← HNL.out]; exact hn) (by rw [HV.out, hf])], rfl⟩
            have hrz := HLL.out.rz
            clear HF hf HV e0
            unfold VRet
            have r0 := hrz.r0
            have r1 := hrz.r1
            have r2 := hrz.r2
            have r3 := hrz.r3
            have r4 := hrz.r4
            have r5 := hrz.r5
            have r6 := hrz.r6
            have r7 := hrz.r7
            have rf0 := hrz.ff (i := 0)
            have rf1 := hrz.ff (i := 1)
            have rf2 := hrz.ff (i := 2)
            have rf3 := hrz.ff (i := 3)
            have rf4 := hrz.ff (i := 4)
            have rf5 := hrz.ff (i := 5)
            have rf6 := hrz.ff (i := 6)
            have rf7 := hrz.ff (i := 7)
            go_wp2
            refine bodyPost_ret (v := .tuple #[.agg #[.string ⟨#[]⟩, .string ⟨#[]⟩, .string ⟨#[]⟩, .string ⟨#[]⟩, .string ⟨#[]⟩, .slice none 0 0, .slice none 0 0, .slice none 0 0], .int .i64 1, .int .i64 5]) (by simp [results, Tryz.results13, go_sem, r0, r1, r2, r3, r4, r5, r6, r7]) rfl ?_
            exact pa_bad HX (hbw.trans (below_of_grown (grown_set8 _ _ _ _ _ _ _ _ _ _) hbw.size (fun k hk => by injection hk with hk; omega)))
          | some v =>
            have HX : Hid (headP heads 0 ls [] = headP (heads.drop (0 + 1)) (0 + 1) (ls.drop (0 + 1)) (vs ++ [v])) := by rw [HH.out, head_ok (by omega) (by rw [← HNL.out]; exact hn) (by rw [HV.out, hf])]; rfl
            have HL2 := Lib.hid (HLL.out.set hG hv (by omega) v)
            clear HF hf HV e0
            unfold VRet
            go_wp2
            go_roundw
            case rel => exact ⟨0 + 1, vs ++ [v], by omega, by go_num, by rw [List.length_append, hv, List.length_singleton], HL2, HX⟩
            case measure => simp [intOf]
        · have HF := Lib.hid (fixed_any l [108, 97, 110, 103] wr (by omega) (by decide))
          have ix := run_ix1
          have HV : Hid (fixP (heads.getD 1 []) (ls.getD 1 []) = fixP [108, 97, 110, 103] l) := by rw [HLE.out]; rfl
          go_wp2_with fail
          refine HF.out.mono ?_
          rintro e wx ⟨rfl, rfl⟩
          cases hf : fixP [108, 97, 110, 103] l with
          | none =>
            have HX : Hid (parseL pkG (split s.toList) = (pj0, 1 + 1, 5) ∧ (2 : Int) = ((1 + 1 : Nat) : Int)) := ⟨by unfold parseL; rw [← HLS.out, HH.out, head_bad (by omega) (by rw [← HNL.out]; exact hn) (by rw [HV.out, hf])], rfl⟩
            have hrz := HLL.out.rz
            clear HF hf HV e0
            unfold VRet
            have r0 := hrz.r0
            have r1 := hrz.r1
            have r2 := hrz.r2
            have r3 := hrz.r3
            have r4 := hrz.r4
            have r5 := hrz.r5
            have r6 := hrz.r6
            have r7 := hrz.r7
            have rf0 := hrz.ff (i := 0)
            have rf1 := hrz.ff (i := 1)
            have rf2 := hrz.ff (i := 2)
            have rf3 := hrz.ff (i := 3)
            have rf4 := hrz.ff (i := 4)
            have rf5 := hrz.ff (i := 5)
            have rf6 := hrz.ff (i := 6)
            have rf7 := hrz.ff (i := 7)
            go_wp2
            refine bodyPost_ret (v := .tuple #[.agg #[.string ⟨#[]⟩, .string ⟨#[]⟩, .string ⟨#[]⟩, .string ⟨#[]⟩, .string ⟨#[]⟩, .slice none 0 0, .slice none 0 0, .slice none 0 0], .int .i64 2, .int .i64 5]) (by simp [results, Tryz.results13, go_sem, r0, r1, r2, r3, r4, r5, r6, r7]) rfl ?_
            exact pa_bad HX (hbw.trans (below_of_grown (grown_set8 _ _ _ _ _ _ _ _ _ _) hbw.size (fun k hk => by injection hk with hk; omega)))
          | some v =>
            have HX : Hid (headP heads 0 ls [] = headP (heads.drop (1 + 1)) (1 + 1) (ls.drop (1 + 1)) (vs ++ [v])) := by rw [HH.out, head_ok (by omega) (by rw [← HNL.out]; exact hn) (by rw [HV.out, hf])]; rfl
            have HL2 := Lib.hid (HLL.out.set hG hv (by omega) v)
            clear HF hf HV e0
            unfold VRet
            go_wp2
            go_roundw
            case rel => exact ⟨1 + 1, vs ++ [v], by omega, by go_num, by rw [List.length_append, hv, List.length_singleton], HL2, HX⟩
            case measure => simp [intOf]
        · have HF := Lib.hid (fixed_any l [109, 97, 105, 110] wr (by omega) (by decide))
          have ix := run_ix2
          have HV : Hid (fixP (heads.getD 2 []) (ls.getD 2 []) = fixP [109, 97, 105, 110] l) := by rw [HLE.out]; rfl
          go_wp2_with fail
          refine HF.out.mono ?_
          rintro e wx ⟨rfl, rfl⟩
          cases hf : fixP [109, 97, 105, 110] l with
          | none =>
            have HX : Hid (parseL pkG (split s.toList) = (pj0, 2 + 1, 5) ∧ (3 : Int) = ((2 + 1 : Nat) : Int)) := ⟨by unfold parseL; rw [← HLS.out, HH.out, head_bad (by omega) (by rw [← HNL.out]; exact hn) (by rw [HV.out, hf])], rfl⟩
            have hrz := HLL.out.rz
            clear HF hf HV e0
            unfold VRet
            have r0 := hrz.r0
            have r1 := hrz.r1
            have r2 := hrz.r2
            have r3 := hrz.r3
            have r4 := hrz.r4
            have r5 := hrz.r5
            have r6 := hrz.r6
            have r7 := hrz.r7
            have rf0 := hrz.ff (i := 0)
            have rf1 := hrz.ff (i := 1)
            have rf2 := hrz.ff (i := 2)
            have rf3 := hrz.ff (i := 3)
            have rf4 := hrz.ff (i := 4)
            have rf5 := hrz.ff (i := 5)
            have rf6 := hrz.ff (i := 6)
            have rf7 := hrz.ff (i := 7)
            go_wp2
            refine bodyPost_ret (v := .tuple #[.agg #[.string ⟨#[]⟩, .string ⟨#[]⟩, .string ⟨#[]⟩, .string ⟨#[]⟩, .string ⟨#[]⟩, .slice none 0 0, .slice none 0 0, .slice none 0 0], .int .i64 3, .int .i64 5]) (by simp [results, Tryz.results13, go_sem, r0, r1, r2, r3, r4, r5, r6, r7]) rfl ?_
            exact pa_bad HX (hbw.trans (below_of_grown (grown_set8 _ _ _ _ _ _ _ _ _ _) hbw.size (fun k hk => by injection hk with hk; omega)))
          | some v =>
            have HX : Hid (headP heads 0 ls [] = headP (heads.drop (2 + 1)) (2 + 1) (ls.drop (2 + 1)) (vs ++ [v])) := by rw [HH.out, head_ok (by omega) (by rw [← HNL.out]; exact hn) (by rw [HV.out, hf])]; rfl
            have HL2 := Lib.hid (HLL.out.set hG hv (by omega) v)
            clear HF hf HV e0
            unfold VRet
            go_wp2
            go_roundw
            case rel => exact ⟨2 + 1, vs ++ [v], by omega, by go_num, by rw [List.length_append, hv, List.length_singleton], HL2, HX⟩
            case measure => simp [intOf]
        · have HF := Lib.hid (fixed_any l [115, 111, 117, 114, 99, 101, 115] wr (by omega) (by decide))
          have ix := run_ix3
          have HV : Hid (fixP (heads.getD 3 []) (ls.getD 3 []) = fixP [115, 111, 117, 114, 99, 101, 115] l) := by rw [HLE.out]; rfl
          go_wp2_with fail
          refine HF.out.mono ?_
          rintro e wx ⟨rfl, rfl⟩
          cases hf : fixP [115, 111, 117, 114, 99, 101, 115] l with
          | none =>
            have HX : Hid (parseL pkG (split s.toList) = (pj0, 3 + 1, 5) ∧ (4 : Int) = ((3 + 1 : Nat) : Int)) := ⟨by unfold parseL; rw [← HLS.out, HH.out, head_bad (by omega) (by rw [← HNL.out]; exact hn) (by rw [HV.out, hf])], rfl⟩
            have hrz := HLL.out.rz
            clear HF hf HV e0
            unfold VRet
            have r0 := hrz.r0
            have r1 := hrz.r1
            have r2 := hrz.r2
            have r3 := hrz.r3
            have r4 := hrz.r4
            have r5 := hrz.r5
            have r6 := hrz.r6
            have r7 := hrz.r7
            have rf0 := hrz.ff (i := 0)
            have rf1 := hrz.ff (i := 1)
            have rf2 := hrz.ff (i := 2)
            have rf3 := hrz.ff (i := 3)
            have rf4 := hrz.ff (i := 4)
            have rf5 := hrz.ff (i := 5)
            have rf6 := hrz.ff (i := 6)
            have rf7 := hrz.ff (i := 7)
            go_wp2
            refine bodyPost_ret (v := .tuple #[.agg #[.string ⟨#[]⟩, .string ⟨#[]⟩, .string ⟨#[]⟩, .string ⟨#[]⟩, .string ⟨#[]⟩, .slice none 0 0, .slice none 0 0, .slice none 0 0], .int .i64 4, .int .i64 5]) (by simp [results, Tryz.results13, go_sem, r0, r1, r2, r3, r4, r5, r6, r7]) rfl ?_
            exact pa_bad HX (hbw.trans (below_of_grown (grown_set8 _ _ _ _ _ _ _ _ _ _) hbw.size (fun k hk => by injection hk with hk; omega)))
          | some v =>
            have HX : Hid (headP heads 0 ls [] = headP (heads.drop (3 + 1)) (3 + 1) (ls.drop (3 + 1)) (vs ++ [v])) := by rw [HH.out, head_ok (by omega) (by rw [← HNL.out]; exact hn) (by rw [HV.out, hf])]; rfl
            have HL2 := Lib.hid (HLL.out.set hG hv (by omega) v)
            clear HF hf HV e0
            unfold VRet
            go_wp2
            go_roundw
            case rel => exact ⟨3 + 1, vs ++ [v], by omega, by go_num, by rw [List.length_append, hv, List.length_singleton], HL2, HX⟩
            case measure => simp [intOf]
        · have HF := Lib.hid (fixed_any l [115, 116, 121, 108, 101] wr (by omega) (by decide))
          have ix := run_ix4
          have HV : Hid (fixP (heads.getD 4 []) (ls.getD 4 []) = fixP [115, 116, 121, 108, 101] l) := by rw [HLE.out]; rfl
          go_wp2_with fail
          refine HF.out.mono ?_
          rintro e wx ⟨rfl, rfl⟩
          cases hf : fixP [115, 116, 121, 108, 101] l with
          | none =>
            have HX : Hid (parseL pkG (split s.toList) = (pj0, 4 + 1, 5) ∧ (5 : Int) = ((4 + 1 : Nat) : Int)) := ⟨by unfold parseL; rw [← HLS.out, HH.out, head_bad (by omega) (by rw [← HNL.out]; exact hn) (by rw [HV.out, hf])], rfl⟩
            have hrz := HLL.out.rz
            clear HF hf HV e0
            unfold VRet
            have r0 := hrz.r0
            have r1 := hrz.r1
            have r2 := hrz.r2
            have r3 := hrz.r3
            have r4 := hrz.r4
            have r5 := hrz.r5
            have r6 := hrz.r6
            have r7 := hrz.r7
            have rf0 := hrz.ff (i := 0)
            have rf1 := hrz.ff (i := 1)
            have rf2 := hrz.ff (i := 2)
            have rf3 := hrz.ff (i := 3)
            have rf4 := hrz.ff (i := 4)
            have rf5 := hrz.ff (i := 5)
            have rf6 := hrz.ff (i := 6)
            have rf7 := hrz.ff (i := 7)
            go_wp2
            refine bodyPost_ret (v := .tuple #[.agg #[.string ⟨#[]⟩, .string ⟨#[]⟩, .string ⟨#[]⟩, .string ⟨#[]⟩, .string ⟨#[]⟩, .slice none 0 0, .slice none 0 0, .slice none 0 0], .int .i64 5, .int .i64 5]) (by simp [results, Tryz.results13, go_sem, r0, r1, r2, r3, r4, r5, r6, r7]) rfl ?_
            exact pa_bad HX (hbw.trans (below_of_grown (grown_set8 _ _ _ _ _ _ _ _ _ _) hbw.size (fun k hk => by injection hk with hk; omega)))
          | some v =>
            have HX : Hid (headP heads 0 ls [] = headP (heads.drop (4 + 1)) (4 + 1) (ls.drop (4 + 1)) (vs ++ [v])) := by rw [HH.out, head_ok (by omega) (by rw [← HNL.out]; exact hn) (by rw [HV.out, hf])]; rfl
            have HL2 := Lib.hid (HLL.out.set hG hv (by omega) v)
            clear HF hf HV e0
            unfold VRet
            go_wp2
            go_roundw
            case rel => exact ⟨4 + 1, vs ++ [v], by omega, by go_num, by rw [List.length_append, hv, List.length_singleton], HL2, HX⟩
            case measure => simp [intOf]
      · have hrz := hL.rz
        have hkk : k = 0 ∨ k = 1 ∨ k = 2 ∨ k = 3 ∨ k = 4 := by omega
        have HP : Hid (parseL pkG (split s.toList) = (pj0, k + 1, 5)) := by unfold parseL; rw [← HLS.out, HH.out, head_short hlt (by rw [← HNL.out]; omega)]; rfl
        rcases hkk with rfl | rfl | rfl | rfl | rfl
        · have HX : Hid (parseL pkG (split s.toList) = (pj0, 0 + 1, 5) ∧ (1 : Int) = ((0 + 1 : Nat) : Int)) := ⟨HP.out, rfl⟩
          have ix := run_ix0
          have r0 := hrz.r0
          have r1 := hrz.r1
          have r2 := hrz.r2
          have r3 := hrz.r3
          have r4 := hrz.r4
          have r5 := hrz.r5
          have r6 := hrz.r6
          have r7 := hrz.r7
          have rf0 := hrz.ff (i := 0)
          have rf1 := hrz.ff (i := 1)
          have rf2 := hrz.ff (i := 2)
          have rf3 := hrz.ff (i := 3)
          have rf4 := hrz.ff (i := 4)
          have rf5 := hrz.ff (i := 5)
          have rf6 := hrz.ff (i := 6)
          have rf7 := hrz.ff (i := 7)
          clear HH HP
          go_wp2
          refine bodyPost_ret (v := .tuple #[.agg #[.string ⟨#[]⟩, .string ⟨#[]⟩, .string ⟨#[]⟩, .string ⟨#[]⟩, .string ⟨#[]⟩, .slice none 0 0, .slice none 0 0, .slice none 0 0], .int .i64 1, .int .i64 5]) (by simp [results, Tryz.results13, go_sem, r0, r1, r2, r3, r4, r5, r6, r7]) rfl ?_
          exact pa_bad HX (hbw.trans (below_of_grown (grown_set8 _ _ _ _ _ _ _ _ _ _) hbw.size (fun k hk => by injection hk with hk; omega)))
        · have HX : Hid (parseL pkG (split s.toList) = (pj0, 1 + 1, 5) ∧ (2 : Int) = ((1 + 1 : Nat) : Int)) := ⟨HP.out, rfl⟩
          have ix := run_ix1
          have r0 := hrz.r0
          have r1 := hrz.r1
          have r2 := hrz.r2
          have r3 := hrz.r3
          have r4 := hrz.r4
          have r5 := hrz.r5
          have r6 := hrz.r6
          have r7 := hrz.r7
          have rf0 := hrz.ff (i := 0)
          have rf1 := hrz.ff (i := 1)
          have rf2 := hrz.ff (i := 2)
          have rf3 := hrz.ff (i := 3)
          have rf4 := hrz.ff (i := 4)
          have rf5 := hrz.ff (i := 5)
          have rf6 := hrz.ff (i := 6)
          have rf7 := hrz.ff (i := 7)
          clear HH HP
          go_wp2
          refine bodyPost_ret (v := .tuple #[.agg #[.string ⟨#[]⟩, .string ⟨#[]⟩, .string ⟨#[]⟩, .string ⟨#[]⟩, .string ⟨#[]⟩, .slice none 0 0, .slice none 0 0, .slice none 0 0], .int .i64 2, .int .i64 5]) (by simp [results, Tryz.results13, go_sem, r0, r1, r2, r3, r4, r5, r6, r7]) rfl ?_
          exact pa_bad HX (hbw.trans (below_of_grown (grown_set8 _ _ _ _ _ _ _ _ _ _) hbw.size (fun k hk => by injection hk with hk; omega)))
        · have HX : Hid (parseL pkG (split s.toList) = (pj0, 2 + 1, 5) ∧ (3 : Int) = ((2 + 1 : Nat) : Int)) := ⟨HP.out, rfl⟩
          have ix := run_ix2
          have r0 := hrz.r0
          have r1 := hrz.r1
          have r2 := hrz.r2
          have r3 := hrz.r3
          have r4 := hrz.r4
          have r5 := hrz.r5
          have r6 := hrz.r6
          have r7 := hrz.r7
          have rf0 := hrz.ff (i := 0)
          have rf1 := hrz.ff (i := 1)
          have rf2 := hrz.ff (i := 2)
          have rf3 := hrz.ff (i := 3)
          have rf4 := hrz.ff (i := 4)
          have rf5 := hrz.ff (i := 5)
          have rf6 := hrz.ff (i := 6)
          have rf7 := hrz.ff (i := 7)
          clear HH HP
          go_wp2
          refine bodyPost_ret (v := .tuple #[.agg #[.string ⟨#[]⟩, .string ⟨#[]⟩, .string ⟨#[]⟩, .string ⟨#[]⟩, .string ⟨#[]⟩, .slice none 0 0, .slice none 0 0, .slice none 0 0], .int .i64 3, .int .i64 5]) (by simp [results, Tryz.results13, go_sem, r0, r1, r2, r3, r4, r5, r6, r7]) rfl ?_
          exact pa_bad HX (hbw.trans (below_of_grown (grown_set8 _ _ _ _ _ _ _ _ _ _) hbw.size (fun k hk => by injection hk with hk; omega)))
        · have HX : Hid (parseL pkG (split s.toList) = (pj0, 3 + 1, 5) ∧ (4 : Int) = ((3 + 1 : Nat) : Int)) := ⟨HP.out, rfl⟩
          have ix := run_ix3
          have r0 := hrz.r0
          have r1 := hrz.r1
          have r2 := hrz.r2
          have r3 := hrz.r3
          have r4 := hrz.r4
          have r5 := hrz.r5
          have r6 := hrz.r6
          have r7 := hrz.r7
          have rf0 := hrz.ff (i := 0)
          have rf1 := hrz.ff (i := 1)
          have rf2 := hrz.ff (i := 2)
          have rf3 := hrz.ff (i := 3)
          have rf4 := hrz.ff (i := 4)
          have rf5 := hrz.ff (i := 5)
          have rf6 := hrz.ff (i := 6)
          have rf7 := hrz.ff (i := 7)
          clear HH HP
          go_wp2
          refine bodyPost_ret (v := .tuple #[.agg #[.string ⟨#[]⟩, .string ⟨#[]⟩, .string ⟨#[]⟩, .string ⟨#[]⟩, .string ⟨#[]⟩, .slice none 0 0, .slice none 0 0, .slice none 0 0], .int .i64 4, .int .i64 5]) (by simp [results, Tryz.results13, go_sem, r0, r1, r2, r3, r4, r5, r6, r7]) rfl ?_
          exact pa_bad HX (hbw.trans (below_of_grown (grown_set8 _ _ _ _ _ _ _ _ _ _) hbw.size (fun k hk => by injection hk with hk; omega)))
        · have HX : Hid (parseL pkG (split s.toList) = (pj0, 4 + 1, 5) ∧ (5 : Int) = ((4 + 1 : Nat) : Int)) := ⟨HP.out, rfl⟩
          have ix := run_ix4
          have r0 := hrz.r0
          have r1 := hrz.r1
          have r2 := hrz.r2
          have r3 := hrz.r3
          have r4 := hrz.r4
          have r5 := hrz.r5
          have r6 := hrz.r6
          have r7 := hrz.r7
          have rf0 := hrz.ff (i := 0)
          have rf1 := hrz.ff (i := 1)
          have rf2 := hrz.ff (i := 2)
          have rf3 := hrz.ff (i := 3)
          have rf4 := hrz.ff (i := 4)
          have rf5 := hrz.ff (i := 5)
          have rf6 := hrz.ff (i := 6)
          have rf7 := hrz.ff (i := 7)
          clear HH HP
          go_wp2
          refine bodyPost_ret (v := .tuple #[.agg #[.string ⟨#[]⟩, .string ⟨#[]⟩, .string ⟨#[]⟩, .string ⟨#[]⟩, .string ⟨#[]⟩, .slice none 0 0, .slice none 0 0, .slice none 0 0], .int .i64 5, .int .i64 5]) (by simp [results, Tryz.results13, go_sem, r0, r1, r2, r3, r4, r5, r6, r7]) rfl ?_
          exact pa_bad HX (hbw.trans (below_of_grown (grown_set8 _ _ _ _ _ _ _ _ _ _) hbw.size (fun k hk => by injection hk with hk; omega)))
    · have HP : Hid (headP heads 0 ls [] = .ok (vs, ls.drop 5)) := by
        have hk5 : k = 5 := by omega
        rw [HH.out, hk5]; rfl
      have HPL := Lib.hid (parse_head (k := pkG) HP.out)
      have hbd : PjBd 900000 5 (pjOf vs) := (pjOf_bd (headP_len heads HP.out HLN.out (by intro v hv; cases hv)).1).up (by omega)
      have hB := hL.bq
      have hV := PV.nil wr wr.heap.size (Nat.le_refl _) vs
      have hqs := hB.lt
      have HL := Lib.hid hL
      clear hL HH HP
      go_wp2
      obtain ⟨wo, rfl⟩ : ∃ wo : World, wo = wr := ⟨_, rfl⟩
      go_loopw [13, 14] (fun sg i wv => ∃ (j st : Nat) (p : Pj) (vA vF vT : Value), j ≤ n + 5 ∧ sg = .int .i64 st ∧ i = .int .i64 j ∧ Hid (PB q p vA vF vT wv) ∧ Hid (PV wo.heap.size p vA vF vT wv) ∧ Hid (Kq wo.heap.size q wo wv) ∧ Hid (PjBd 900000 j p) ∧ Hid (tailP (pjOf vs) 0 5 (ls.drop 5) = tailP p st j (ls.drop j))) (fun _ i _ => n + 5 - (intOf i).toNat)
      case atStart => exact ⟨5, 0, pjOf vs, _, _, _, by omega, rfl, rfl, hB, hV, Kq.refl _ _ _, hbd, rfl⟩
      case round =>
        clear hB hV hbd
        obtain ⟨j, st, p, vA, vF, vT, hj, rfl, rfl, hB, hV, hK, hBd, HT⟩ := hrel
        have h2 := HL.out.kq hG hK.out
        have hB := hB.out
        by_cases hlt : j < n
        · obtain ⟨g, c', hAe, _, hcs⟩ := own_cells h2.own (by omega)
          have e0 := hcs j hlt
          clear hcs
          obtain ⟨rfl, rfl⟩ : A = some ⟨g, 0, none⟩ ∧ c = c' := by injection hAe with h1 h2 h3; exact ⟨h1, h3⟩
          clear hAe
          have hll := getD_le HLN.out j
          obtain ⟨l, hle⟩ : ∃ l, l = ls.getD j [] := ⟨_, rfl⟩
          rw [← hle] at e0 hll
          have HLE := Lib.hid hle
          clear hle
          have HC := Lib.hid (pmore_any wo.heap.size q p vA vF vT l st wr hB hV.out hqs (by omega) ⟨by have := hBd.out.nv; omega, by have := hBd.out.nf; omega, by have := hBd.out.nt; omega⟩ h2.G)
          clear hB h2
          go_wp2_with fail
          refine HC.out.mono ?_
          rintro e w2 ⟨st', b, rfl, hk2, hif⟩
          have hK2 := Lib.hid (hK.out.trans hk2)
          have h3 := HL.out.kq hG hK2.out
          have hrz := h3.rz
          have hbw := h3.bw
          have HIF := Lib.hid hif
          clear hif h3 hk2 HC e0
          cases b with
          | false =>
            have HX : Hid (parseL pkG (split s.toList) = (pj0, j + 1, 5) ∧ ((j : Int) + 1) = ((j + 1 : Nat) : Int)) := ⟨by
              have h := HIF.out
              rw [if_neg (by simp), HLE.out] at h
              rw [← HLS.out, HPL.out, HT.out, tail_bad (by rw [← HNL.out]; exact hlt) h], by omega⟩
            clear HIF HT
            have r0 := hrz.r0
            have r1 := hrz.r1
            have r2 := hrz.r2
            have r3 := hrz.r3
            have r4 := hrz.r4
            have r5 := hrz.r5
            have r6 := hrz.r6
            have r7 := hrz.r7
            have rf0 := hrz.ff (i := 0)
            have rf1 := hrz.ff (i := 1)
            have rf2 := hrz.ff (i := 2)
            have rf3 := hrz.ff (i := 3)
            have rf4 := hrz.ff (i := 4)
            have rf5 := hrz.ff (i := 5)
            have rf6 := hrz.ff (i := 6)
            have rf7 := hrz.ff (i := 7)
            go_wp2
            refine bodyPost_ret (v := .tuple #[.agg #[.string ⟨#[]⟩, .string ⟨#[]⟩, .string ⟨#[]⟩, .string ⟨#[]⟩, .string ⟨#[]⟩, .slice none 0 0, .slice none 0 0, .slice none 0 0], .int .i64 ((j : Int) + 1), .int .i64 5]) (by simp [results, Tryz.results13, go_sem, r0, r1, r2, r3, r4, r5, r6, r7]) rfl ?_
            exact pa_bad HX (hbw.trans (below_of_grown (grown_set8 _ _ _ _ _ _ _ _ _ _) hbw.size (fun k hk => by injection hk with hk; omega)))
          | true =>
            obtain ⟨p', vA', vF', vT', hm, hB2, hV2⟩ : ∃ p' vA' vF' vT', moreP p l st = some (p', st') ∧ PB q p' vA' vF' vT' w2 ∧ PV wo.heap.size p' vA' vF' vT' w2 := by have h := HIF.out; rw [if_pos rfl] at h; exact h
            have HT2 : Hid (tailP (pjOf vs) 0 5 (ls.drop 5) = tailP p' st' (j + 1) (ls.drop (j + 1))) := by rw [HT.out, tail_ok (by rw [← HNL.out]; exact hlt) (by rw [← HLE.out]; exact hm)]; rfl
            have hbd2 : Hid (PjBd 900000 (j + 1) p') := moreP_bd hm (by omega) hBd.out
            have hB2 := Lib.hid hB2
            have hV2 := Lib.hid hV2
            clear HIF HT hm hBd hV hK hrz hbw
            go_wp2
            go_roundw
            case rel => exact ⟨j + 1, st', p', vA', vF', vT', by omega, rfl, by go_num, hB2, hV2, hK2, hbd2, HT2⟩
            case measure => simp [intOf]; omega
        · have HX : Hid (parseL pkG (split s.toList) = if checkE pkG p ≠ 0 then (pj0, 0, checkE pkG p) else (p, 0, 0)) := by rw [← HLS.out, HPL.out, HT.out, tail_end (by rw [← HNL.out]; omega)]; rfl
          have hsm := hBd.out.sm (by omega) (by omega)
          have hV := hV.out
          obtain ⟨A1, a1, rfl, _⟩ := own_form hV.ov
          obtain ⟨A2, a2, rfl, _⟩ := own_form hV.of
          obtain ⟨A3, a3, rfl, _⟩ := own_form hV.ot
          have HC := Lib.hid (check_any p ⟨A1, p.vs.length, a1, A2, p.fs.length, a2, A3, p.ts.length, a3⟩ wr hsm ⟨Rd.of_own hV.ov, Rd.of_own hV.of, Rd.of_own hV.ot⟩ h2.G)
          have d0 := hB.d0
          have d1 := hB.d1
          have d2 := hB.d2
          have d3 := hB.d3
          have d4 := hB.d4
          have d5 := hB.c5
          have d6 := hB.c6
          have d7 := hB.c7
          have hrz := h2.rz
          have hbw := h2.bw
          clear h2 hsm HT hBd hK
          go_wp2_with fail
          refine HC.out.mono ?_
          rintro e w2 ⟨rfl, hbn⟩
          have hrz := hrz.step hbn
          have hbw := hbw.trans (hbn.mono hbw.size)
          have hB := hB.step hbn
          have hV := hV.below hbn
          clear d0 d1 d2 d3 d4 d5 d6 d7 HC hbn
          have d0 := hB.d0
          have d1 := hB.d1
          have d2 := hB.d2
          have d3 := hB.d3
          have d4 := hB.d4
          have d5 := hB.c5
          have d6 := hB.c6
          have d7 := hB.c7
          by_cases h0 : checkE pkG p = 0
          · have HX2 : Hid (parseL pkG (split s.toList) = (p, 0, 0)) := by rw [HX.out, if_neg (by simp [h0])]; rfl
            rw [h0]
            clear HX h0
            have r0 := hrz.r0
            have r1 := hrz.r1
            have r2 := hrz.r2
            have r3 := hrz.r3
            have r4 := hrz.r4
            have r5 := hrz.r5
            have r6 := hrz.r6
            have r7 := hrz.r7
            have rf0 := hrz.ff (i := 0)
            have rf1 := hrz.ff (i := 1)
            have rf2 := hrz.ff (i := 2)
            have rf3 := hrz.ff (i := 3)
            have rf4 := hrz.ff (i := 4)
            have rf5 := hrz.ff (i := 5)
            have rf6 := hrz.ff (i := 6)
            have rf7 := hrz.ff (i := 7)
            have hqr : q ≠ w.heap.size := by omega
            have hrq : w.heap.size ≠ q := by omega
            go_wp2
            refine bodyPost_ret (v := .tuple #[.agg #[.string (B p.ti), .string (B p.la), .string (B p.ma), .string (B p.so), .string (B p.st), .slice A1 p.vs.length a1, .slice A2 p.fs.length a2, .slice A3 p.ts.length a3], .int .i64 0, .int .i64 0]) (by simp [results, Tryz.results13, go_sem, r0, r1, r2, r3, r4, r5, r6, r7]) rfl ?_
            exact pa_good HX2 (hbw.trans (below_of_grown (grown_set8 _ _ _ _ _ _ _ _ _ _) hbw.size (fun k hk => by injection hk with hk; omega))) ((hV.kept8 hrz (grown_set8 _ _ _ _ _ _ _ _ _ _)).low (by omega))
          · have HX2 : Hid (parseL pkG (split s.toList) = (pj0, 0, checkE pkG p) ∧ (0 : Int) = ((0 : Nat) : Int)) := ⟨by rw [HX.out, if_pos h0], rfl⟩
            have z1 : (checkE pkG p != 0) = true := by simpa using h0
            generalize checkE pkG p = ce at *
            clear HX h0 d0 d1 d2 d3 d4 d5 d6 d7
            have r0 := hrz.r0
            have r1 := hrz.r1
            have r2 := hrz.r2
            have r3 := hrz.r3
            have r4 := hrz.r4
            have r5 := hrz.r5
            have r6 := hrz.r6
            have r7 := hrz.r7
            have rf0 := hrz.ff (i := 0)
            have rf1 := hrz.ff (i := 1)
            have rf2 := hrz.ff (i := 2)
            have rf3 := hrz.ff (i := 3)
            have rf4 := hrz.ff (i := 4)
            have rf5 := hrz.ff (i := 5)
            have rf6 := hrz.ff (i := 6)
            have rf7 := hrz.ff (i := 7)
            go_wp2
            refine bodyPost_ret (v := .tuple #[.agg #[.string ⟨#[]⟩, .string ⟨#[]⟩, .string ⟨#[]⟩, .string ⟨#[]⟩, .string ⟨#[]⟩, .slice none 0 0, .slice none 0 0, .slice none 0 0], .int .i64 0, .int .i64 ce]) (by simp [results, Tryz.results13, go_sem, r0, r1, r2, r3, r4, r5, r6, r7]) rfl ?_
            exact pa_bad HX2 (hbw.trans (below_of_grown (grown_set8 _ _ _ _ _ _ _ _ _ _) hbw.size (fun k hk => by injection hk with hk; omega)))
end Go.Proofs.YtmkenekngaihhaaGreatDoor
namespace Go.Proofs.YtmkenekngaihhaaGreatDoor
open Go.RowKit
set_option linter.unusedVariables false
set_option linter.unusedSimpArgs false
attribute [local go_sem] B_data B_size

/-- the array of the first five values, the heads with their equals signs -/
def AB (b : Nat) (vs : List (List UInt8)) (W : World) : Prop := W.heap[b]? = some (.cells #[.string (B (vs.getD 0 [])), .string (B (vs.getD 1 [])), .string (B (vs.getD 2 [])), .string (B (vs.getD 3 [])), .string (B (vs.getD 4 []))] 63 (0, 0))
def HB (b : Nat) (W : World) : Prop := W.heap[b]? = some (.cells #[.string (B [116, 105, 116, 108, 101, 32, 61]), .string (B [108, 97, 110, 103, 32, 61]), .string (B [109, 97, 105, 110, 32, 61]), .string (B [115, 111, 117, 114, 99, 101, 115, 32, 61]), .string (B [115, 116, 121, 108, 101, 32, 61])] 9 (0, 0))
theorem AB.setk {b k : Nat} {vs : List (List UInt8)} {W : World} (h : AB b vs W) (hv : vs.length = k) (hk : k < 5) (v : List UInt8) : AB b (vs ++ [v]) (W.setCell ⟨b, k, none⟩ (.string (B v))) := by
  subst hv
  unfold AB at *
  match vs, hk with
  | [], _ => simp [World.setCell, Array.getElem?_modify, h]
  | [a], _ => simp [World.setCell, Array.getElem?_modify, h]
  | [a, b], _ => simp [World.setCell, Array.getElem?_modify, h]
  | [a, b, c], _ => simp [World.setCell, Array.getElem?_modify, h]
  | [a, b, c, d], _ => simp [World.setCell, Array.getElem?_modify, h]
theorem HB.cell {b k : Nat} {W : World} (h : HB b W) (hk : k < 5) : W.cell? ⟨b, k, none⟩ = some (.string (B (heads.getD k [] ++ [32, 61]))) := by
  unfold HB at h
  have : k = 0 ∨ k = 1 ∨ k = 2 ∨ k = 3 ∨ k = 4 := by omega
  rcases this with rfl | rfl | rfl | rfl | rfl <;> simp [World.cell?, h, heads]
theorem hd_len (k : Nat) : (heads.getD k [] ++ [32, 61]).length ≤ 100 := by
  have : k = 0 ∨ k = 1 ∨ k = 2 ∨ k = 3 ∨ k = 4 ∨ 5 ≤ k := by omega
  rcases this with rfl | rfl | rfl | rfl | rfl | h
  all_goals first | (simp [heads]; done) | (rw [List.getD_eq_getElem?_getD, List.getElem?_eq_none (by simp [heads]; omega)]; simp)
/-- the worlds of the first loop -/
structure V1 (w : World) (hb ab : Nat) (A : Option Addr) (n c : Nat) (ls vs : List (List UInt8)) (W : World) : Prop where
  bw : Below w.heap.size w W
  ba : AB ab vs W
  hh : HB hb W
  rz : RZ w.heap.size W
  own : W.ownsRow (w.heap.size + 1) 9 1 (.slice A n c) n (strs ls)
  la : w.heap.size < ab
  ha : hb ≠ ab
theorem AB.cell {b k : Nat} {vs : List (List UInt8)} {W : World} (h : AB b vs W) (hk : k < 5) : W.cell? ⟨b, k, none⟩ = some (.string (B (vs.getD k []))) := by
  unfold AB at h
  have : k = 0 ∨ k = 1 ∨ k = 2 ∨ k = 3 ∨ k = 4 := by omega
  rcases this with rfl | rfl | rfl | rfl | rfl <;> simp [World.cell?, h]
theorem AB.ff {b i : Nat} {vs : List (List UInt8)} {W : World} (h : AB b vs W) : W.frozen? ⟨b, i, none⟩ = false := by unfold AB at h; simp [World.frozen?, h]
theorem V1.drewN {w : World} {hb ab : Nat} {A : Option Addr} {n c : Nat} {ls vs : List (List UInt8)} {W : World} (h : V1 w hb ab A n c ls vs W) (kk : Nat) : V1 w hb ab A n c ls vs (W.drewN kk) := ⟨below_drewN h.bw kk, h.ba, h.hh, h.rz, h.own, h.la, h.ha⟩
theorem V1.step {w : World} {hb ab : Nat} {A : Option Addr} {n c : Nat} {ls vs : List (List UInt8)} {W W' : World} (h : V1 w hb ab A n c ls vs W) (hq : Below W.heap.size W W') : V1 w hb ab A n c ls vs W' :=
  ⟨h.bw.trans (hq.mono h.bw.size), (hq.block _ (Array.getElem?_eq_some_iff.1 h.ba).1).trans h.ba, (hq.block _ (Array.getElem?_eq_some_iff.1 h.hh).1).trans h.hh, h.rz.step hq, own_below h.own hq, h.la, h.ha⟩
theorem V1.kq {w : World} {hb ab q : Nat} {A : Option Addr} {n c : Nat} {ls vs : List (List UInt8)} {p : Pj} {vA vF vT : Value} {W W' : World} (h : V1 w hb ab A n c ls vs W) (hB : PB q p vA vF vT W) (hlq : w.heap.size < q) (hk : Kq W.heap.size q W W') :
    Below w.heap.size w W' ∧ RZ w.heap.size W' ∧ W'.ownsRow (w.heap.size + 1) 9 1 (.slice A n c) n (strs ls) := by
  have hg := hk.grown
  have hb : Below w.heap.size W W' := below_of_grown hg h.bw.size (fun k hk => by injection hk with hk; omega)
  exact ⟨h.bw.trans hb, h.rz.grown hg (fun e => by injection e with e; omega), h.own.kept hg (.inr (own_ne h.own hB (by decide)))⟩
theorem V1.set {w : World} {hb ab k : Nat} {A : Option Addr} {n c : Nat} {ls vs : List (List UInt8)} {W : World} (h : V1 w hb ab A n c ls vs W) (hv : vs.length = k) (hk : k < 5) (v : List UInt8) : V1 w hb ab A n c ls (vs ++ [v]) (W.setCell ⟨ab, k, none⟩ (.string (B v))) := by
  have hg : W.grownBy (W.setCell ⟨ab, k, none⟩ (.string (B v))) (some ab) := grown_setC (World.grownBy.refl W _)
  have hb : Below w.heap.size W (W.setCell ⟨ab, k, none⟩ (.string (B v))) := below_of_grown hg h.bw.size (fun k hk => by injection hk with hk; have := h.la; omega)
  exact ⟨h.bw.trans hb, h.ba.setk hv hk v, (hg.block _ (Array.getElem?_eq_some_iff.1 h.hh).1 (fun e => by injection e with e; exact h.ha e)).trans h.hh, h.rz.grown hg (fun e => by injection e with e; have := h.la; omega), h.own.kept hg (.inr (own_ne h.own h.ba (by decide))), h.la, h.ha⟩
theorem cell_set8 {W : World} {q g j : Nat} {v : Value} (h : ¬ q = g) (hc : W.cell? ⟨g, j, none⟩ = some v) (u0 u1 u2 u3 u4 u5 u6 u7 : Value) : ((((((((W.setCell ⟨q, 0, none⟩ u0).setCell ⟨q, 1, none⟩ u1).setCell ⟨q, 2, none⟩ u2).setCell ⟨q, 3, none⟩ u3).setCell ⟨q, 4, none⟩ u4).setCell ⟨q, 5, none⟩ u5).setCell ⟨q, 6, none⟩ u6).setCell ⟨q, 7, none⟩ u7).cell? ⟨g, j, none⟩ = some v := by
  rw [← hc]
  simp [World.setCell, World.cell?, Array.getElem?_modify, h]
theorem PB.set8 {q : Nat} {p p' : Pj} {vA vF vT uA uF uT : Value} {W : World} (h : PB q p vA vF vT W) : PB q p' uA uF uT ((((((((W.setCell ⟨q, 0, none⟩ (.string (B p'.ti))).setCell ⟨q, 1, none⟩ (.string (B p'.la))).setCell ⟨q, 2, none⟩ (.string (B p'.ma))).setCell ⟨q, 3, none⟩ (.string (B p'.so))).setCell ⟨q, 4, none⟩ (.string (B p'.st))).setCell ⟨q, 5, none⟩ uA).setCell ⟨q, 6, none⟩ uF).setCell ⟨q, 7, none⟩ uT) := by
  unfold PB at *; simp [World.setCell, Array.getElem?_modify, h]
theorem PV.keptB {base q : Nat} {p r : Pj} {vA vF vT uA uF uT : Value} {W W' : World} (h : PV base p vA vF vT W) (hr : PB q r uA uF uT W) (hg : W.grownBy W' (some q)) : PV base p vA vF vT W' :=
  ⟨h.ov.kept hg (.inr (own_ne h.ov hr (by decide))), h.of.kept hg (.inr (own_ne h.of hr (by decide))), h.ot.kept hg (.inr (own_ne h.ot hr (by decide))), Nat.le_trans h.le hg.size⟩
theorem Kq.set8 {base q : Nat} {W : World} (u0 u1 u2 u3 u4 u5 u6 u7 : Value) : Kq base q W ((((((((W.setCell ⟨q, 0, none⟩ u0).setCell ⟨q, 1, none⟩ u1).setCell ⟨q, 2, none⟩ u2).setCell ⟨q, 3, none⟩ u3).setCell ⟨q, 4, none⟩ u4).setCell ⟨q, 5, none⟩ u5).setCell ⟨q, 6, none⟩ u6).setCell ⟨q, 7, none⟩ u7) :=
  ((((((((Kq.refl base q W).set).set).set).set).set).set).set).set
set_option maxHeartbeats 16000000 in
set_option maxRecDepth 100000 in
theorem rparse_any (s : ByteArray) (w : World) (hs : s.size ≤ 900000) :
    Calls Tryz.prog 15 #[.string s] w (PaPost s.toList w) := by
  have hb1 := below_alloc w (.cells #[.string ⟨#[]⟩, .string ⟨#[]⟩, .string ⟨#[]⟩, .string ⟨#[]⟩, .string ⟨#[]⟩, .slice none 0 0, .slice none 0 0, .slice none 0 0] 26)
  have hR : RZ w.heap.size (w.alloc (.cells #[.string ⟨#[]⟩, .string ⟨#[]⟩, .string ⟨#[]⟩, .string ⟨#[]⟩, .string ⟨#[]⟩, .slice none 0 0, .slice none 0 0, .slice none 0 0] 26)) := heap_alloc_new w _
  have es : (w.alloc (.cells #[.string ⟨#[]⟩, .string ⟨#[]⟩, .string ⟨#[]⟩, .string ⟨#[]⟩, .string ⟨#[]⟩, .slice none 0 0, .slice none 0 0, .slice none 0 0] 26)).heap.size = w.heap.size + 1 := by simp
  go_enter Tryz.func15, Tryz.ntmps15
  go_wp2_with fail
  refine (rsplit_any s _ (by omega)).mono ?_
  rintro e w1 ⟨v, rfl, ho, hbn⟩
  rw [es] at ho
  have hR := hR.step hbn
  rw [es] at hbn
  have hbw := hb1.trans (hbn.mono (by omega))
  clear hbn es hb1
  obtain ⟨A, c, rfl, hc⟩ := own_form ho
  obtain ⟨ls, hls⟩ : ∃ ls, ls = split s.toList := ⟨_, rfl⟩
  have HLS := Lib.hid hls
  rw [← hls] at ho hc
  rw [← hls]
  clear hls
  obtain ⟨n, hnl⟩ : ∃ n, n = ls.length := ⟨_, rfl⟩
  rw [← hnl] at ho hc
  rw [← hnl]
  have HNL := Lib.hid hnl
  clear hnl
  have hL : V1 w w1.heap.size (w1.heap.size + 1) A n c ls [] ((w1.alloc (.cells #[.string (B [116, 105, 116, 108, 101, 32, 61]), .string (B [108, 97, 110, 103, 32, 61]), .string (B [109, 97, 105, 110, 32, 61]), .string (B [115, 111, 117, 114, 99, 101, 115, 32, 61]), .string (B [115, 116, 121, 108, 101, 32, 61])] 9)).alloc (.cells #[.string ⟨#[]⟩, .string ⟨#[]⟩, .string ⟨#[]⟩, .string ⟨#[]⟩, .string ⟨#[]⟩] 63)) := by
    have h1 := below_alloc w1 (.cells #[.string (B [116, 105, 116, 108, 101, 32, 61]), .string (B [108, 97, 110, 103, 32, 61]), .string (B [109, 97, 105, 110, 32, 61]), .string (B [115, 111, 117, 114, 99, 101, 115, 32, 61]), .string (B [115, 116, 121, 108, 101, 32, 61])] 9)
    have hn := heap_alloc_new w1 (.cells #[.string (B [116, 105, 116, 108, 101, 32, 61]), .string (B [108, 97, 110, 103, 32, 61]), .string (B [109, 97, 105, 110, 32, 61]), .string (B [115, 111, 117, 114, 99, 101, 115, 32, 61]), .string (B [115, 116, 121, 108, 101, 32, 61])] 9)
    have e : (w1.alloc (.cells #[.string (B [116, 105, 116, 108, 101, 32, 61]), .string (B [108, 97, 110, 103, 32, 61]), .string (B [109, 97, 105, 110, 32, 61]), .string (B [115, 111, 117, 114, 99, 101, 115, 32, 61]), .string (B [115, 116, 121, 108, 101, 32, 61])] 9)).heap.size = w1.heap.size + 1 := by simp
    have ho := ho.alloc (.cells #[.string (B [116, 105, 116, 108, 101, 32, 61]), .string (B [108, 97, 110, 103, 32, 61]), .string (B [109, 97, 105, 110, 32, 61]), .string (B [115, 111, 117, 114, 99, 101, 115, 32, 61]), .string (B [115, 116, 121, 108, 101, 32, 61])] 9)
    have hR := hR.step h1
    have hbw := hbw.trans (h1.mono hbw.size)
    generalize (w1.alloc (.cells #[.string (B [116, 105, 116, 108, 101, 32, 61]), .string (B [108, 97, 110, 103, 32, 61]), .string (B [109, 97, 105, 110, 32, 61]), .string (B [115, 111, 117, 114, 99, 101, 115, 32, 61]), .string (B [115, 116, 121, 108, 101, 32, 61])] 9)) = wa at *
    have h2 := below_alloc wa (.cells #[.string ⟨#[]⟩, .string ⟨#[]⟩, .string ⟨#[]⟩, .string ⟨#[]⟩, .string ⟨#[]⟩] 63)
    have hm := heap_alloc_new wa (.cells #[.string ⟨#[]⟩, .string ⟨#[]⟩, .string ⟨#[]⟩, .string ⟨#[]⟩, .string ⟨#[]⟩] 63)
    rw [e] at hm
    refine ⟨hbw.trans (h2.mono hbw.size), hm, (h2.block _ (by omega)).trans hn, hR.step h2, ho.alloc _, ?_, by omega⟩
    have := hR.lt; have := h1.size; have := hbw.size; omega
  clear ho hR hbw
  have HLN : Hid (∀ l ∈ ls, l.length ≤ 900000) := fun l hl => by rw [HLS.out] at hl; have := split_lens hl; rw [len_toList] at this; omega
  have hln : n ≤ 900000 := by rw [HNL.out, HLS.out]; have := split_le s.toList; rw [len_toList] at this; omega
  have HL0 := Lib.hid hL
  clear hL
  go_wp2
  go_loopw [8] (fun i wr => ∃ (k : Nat) (vs : List (List UInt8)), k ≤ 5 ∧ i = .int .i64 k ∧ vs.length = k ∧ Hid (V1 w w1.heap.size (w1.heap.size + 1) A n c ls vs wr) ∧ Hid (headP heads 0 ls [] = headP (heads.drop k) k (ls.drop k) vs)) (fun i _ => 5 - (intOf i).toNat)
  case atStart => exact ⟨0, [], by omega, rfl, rfl, HL0, rfl⟩
  case round =>
    clear HL0
    obtain ⟨k, vs, hk, rfl, hv, hL, HH⟩ := hrel
    have hL := hL.out
    by_cases hlt : k < 5
    · have hbw := hL.bw
      by_cases hn : k < n
      · obtain ⟨g, c', hAe, _, hcs⟩ := own_cells hL.own (by omega)
        have e0 := hcs k hn
        clear hcs
        obtain ⟨rfl, rfl⟩ : A = some ⟨g, 0, none⟩ ∧ c = c' := by injection hAe with h1 h2 h3; exact ⟨h1, h3⟩
        clear hAe
        have hll := getD_le HLN.out k
        obtain ⟨l, hle⟩ : ∃ l, l = ls.getD k [] := ⟨_, rfl⟩
        rw [← hle] at e0 hll
        have HLE := Lib.hid hle
        clear hle
        have e1 := hL.hh.cell hlt
        have hdl := hd_len k
        obtain ⟨hd, hhd⟩ : ∃ hd, hd = heads.getD k [] ++ [32, 61] := ⟨_, rfl⟩
        rw [← hhd] at e1 hdl
        have HHD := Lib.hid hhd
        clear hhd
        obtain ⟨o, ho⟩ : ∃ o, o = cutP hd l := ⟨_, rfl⟩
        have HB2 : Hid (∀ V, Calls Tryz.prog 40 #[.string (B l), .string (B hd)] V fun e w' => e = VRet o ∧ V = w') := fun V => (begins_any (B l) (B hd) V (by rw [B_size]; omega) (by rw [B_size]; omega)).mono fun e w' ⟨h1, h2⟩ => ⟨by rw [h1, B_data, B_data, ho], h2⟩
        have HO := Lib.hid ho
        clear ho
        have hvr : VRet o = .returned (.tuple #[.string (B (o.getD [])), .bool o.isSome]) := by cases o <;> rfl
        rw [hvr] at HB2
        have i1 : (0 : Int) ≤ (k : Int) := by omega
        have i2 : (k : Int) < 5 := by omega
        have HLL := Lib.hid hL
        clear hL
        go_wp2
        go_region_held3 (fun w' => w'.cell? ⟨g, k, none⟩ = some (.string (B l)) ∧ w'.cell? ⟨w1.heap.size, k, none⟩ = some (.string (B hd)))
          (exact ⟨e0, e1⟩)
          (first | (go_at_call 40; refine (HB2.out _).mono ?_; rintro e w2 ⟨rfl, rfl⟩))
        have hol : (o.getD []).length ≤ 900000 := by
          rw [HO.out]; unfold cutP
          split
          · simp only [Option.getD_some, List.length_drop]; omega
          · simp
        have HFP : Hid (fixP (heads.getD k []) (ls.getD k []) = o.bind valP) := by unfold fixP; rw [← HHD.out, ← HLE.out, HO.out]; rfl
        clear e0 e1 HB2 hvr
        go_wp2_with fail
        refine (after_any (B (o.getD [])) _ (by rw [B_size]; omega)).mono ?_
        rintro e w2 ⟨he, kk, rfl⟩
        rw [B_data] at he
        cases o with
        | none =>
          have he : e = .returned (.tuple #[.string (B []), .bool true]) := he
          subst he
          have HFX : Hid (fixP (heads.getD k []) (ls.getD k []) = none) := by rw [HFP.out]; rfl
          have hrz := HLL.out.rz
          have HX : Hid (parseL pkG (split s.toList) = (pj0, k + 1, 5) ∧ ((k : Int) + 1) = ((k + 1 : Nat) : Int)) := ⟨by unfold parseL; rw [← HLS.out, HH.out, head_bad hlt (by rw [← HNL.out]; exact hn) HFX.out], by omega⟩
          clear HFX
          have hrz : RZ w.heap.size (wr.drew.drewN kk) := hrz
          have hbw : Below w.heap.size w (wr.drew.drewN kk) := below_drewN hbw.drew kk
          generalize wr.drew.drewN kk = w3 at *
          have r0 := hrz.r0
          have r1 := hrz.r1
          have r2 := hrz.r2
          have r3 := hrz.r3
          have r4 := hrz.r4
          have r5 := hrz.r5
          have r6 := hrz.r6
          have r7 := hrz.r7
          have rf0 := hrz.ff (i := 0)
          have rf1 := hrz.ff (i := 1)
          have rf2 := hrz.ff (i := 2)
          have rf3 := hrz.ff (i := 3)
          have rf4 := hrz.ff (i := 4)
          have rf5 := hrz.ff (i := 5)
          have rf6 := hrz.ff (i := 6)
          have rf7 := hrz.ff (i := 7)
          go_wp2
          refine bodyPost_ret (v := .tuple #[.agg #[.string ⟨#[]⟩, .string ⟨#[]⟩, .string ⟨#[]⟩, .string ⟨#[]⟩, .string ⟨#[]⟩, .slice none 0 0, .slice none 0 0, .slice none 0 0], .int .i64 ((k : Int) + 1), .int .i64 5]) (by simp [results, Tryz.results15, go_sem, r0, r1, r2, r3, r4, r5, r6, r7]) rfl ?_
          exact pa_bad HX (hbw.trans (below_of_grown (grown_set8 _ _ _ _ _ _ _ _ _ _) hbw.size (fun k hk => by injection hk with hk; omega)))
        | some u =>
          have he : match valP u with
            | some v => e = .returned (.tuple #[.string (B v), .bool true])
            | none => ∃ x, e = .returned (.tuple #[.string x, .bool false]) := he
          cases hvp : valP u with
          | none =>
            rw [hvp] at he
            obtain ⟨x, rfl⟩ := he
            have HFX : Hid (fixP (heads.getD k []) (ls.getD k []) = none) := by rw [HFP.out]; exact hvp
            clear hvp
            have hrz := HLL.out.rz
            have HX : Hid (parseL pkG (split s.toList) = (pj0, k + 1, 5) ∧ ((k : Int) + 1) = ((k + 1 : Nat) : Int)) := ⟨by unfold parseL; rw [← HLS.out, HH.out, head_bad hlt (by rw [← HNL.out]; exact hn) HFX.out], by omega⟩
            clear HFX
            have hrz : RZ w.heap.size (wr.drew.drewN kk) := hrz
            have hbw : Below w.heap.size w (wr.drew.drewN kk) := below_drewN hbw.drew kk
            generalize wr.drew.drewN kk = w3 at *
            have r0 := hrz.r0
            have r1 := hrz.r1
            have r2 := hrz.r2
            have r3 := hrz.r3
            have r4 := hrz.r4
            have r5 := hrz.r5
            have r6 := hrz.r6
            have r7 := hrz.r7
            have rf0 := hrz.ff (i := 0)
            have rf1 := hrz.ff (i := 1)
            have rf2 := hrz.ff (i := 2)
            have rf3 := hrz.ff (i := 3)
            have rf4 := hrz.ff (i := 4)
            have rf5 := hrz.ff (i := 5)
            have rf6 := hrz.ff (i := 6)
            have rf7 := hrz.ff (i := 7)
            go_wp2
            refine bodyPost_ret (v := .tuple #[.agg #[.string ⟨#[]⟩, .string ⟨#[]⟩, .string ⟨#[]⟩, .string ⟨#[]⟩, .string ⟨#[]⟩, .slice none 0 0, .slice none 0 0, .slice none 0 0], .int .i64 ((k : Int) + 1), .int .i64 5]) (by simp [results, Tryz.results15, go_sem, r0, r1, r2, r3, r4, r5, r6, r7]) rfl ?_
            exact pa_bad HX (hbw.trans (below_of_grown (grown_set8 _ _ _ _ _ _ _ _ _ _) hbw.size (fun k hk => by injection hk with hk; omega)))
          | some v =>
            rw [hvp] at he
            subst he
            have HFX : Hid (fixP (heads.getD k []) (ls.getD k []) = some v) := by rw [HFP.out]; exact hvp
            have HX : Hid (headP heads 0 ls [] = headP (heads.drop (k + 1)) (k + 1) (ls.drop (k + 1)) (vs ++ [v])) := by rw [HH.out, head_ok hlt (by rw [← HNL.out]; exact hn) HFX.out]; rfl
            have hL3 := (HLL.out.drewN 1).drewN kk
            have hL3 : V1 w w1.heap.size (w1.heap.size + 1) (some ⟨g, 0, none⟩) n c ls vs (wr.drew.drewN kk) := hL3
            have hLS := Lib.hid (hL3.set hv hlt v)
            have dk := hL3.ba.cell hlt
            have df := hL3.ba.ff (i := k)
            clear hvp HFX HFP hL3 HH hbw
            generalize wr.drew.drewN kk = w3 at *
            go_wp2
            go_roundw
            case rel => exact ⟨k + 1, vs ++ [v], by omega, by go_num, by rw [List.length_append, hv, List.length_singleton], hLS, HX⟩
            case measure => simp [intOf]; omega
      · have hrz := hL.rz
        have HX : Hid (parseL pkG (split s.toList) = (pj0, k + 1, 5) ∧ ((k : Int) + 1) = ((k + 1 : Nat) : Int)) := ⟨by unfold parseL; rw [← HLS.out, HH.out, head_short hlt (by rw [← HNL.out]; omega)], by omega⟩
        clear HH
        have r0 := hrz.r0
        have r1 := hrz.r1
        have r2 := hrz.r2
        have r3 := hrz.r3
        have r4 := hrz.r4
        have r5 := hrz.r5
        have r6 := hrz.r6
        have r7 := hrz.r7
        have rf0 := hrz.ff (i := 0)
        have rf1 := hrz.ff (i := 1)
        have rf2 := hrz.ff (i := 2)
        have rf3 := hrz.ff (i := 3)
        have rf4 := hrz.ff (i := 4)
        have rf5 := hrz.ff (i := 5)
        have rf6 := hrz.ff (i := 6)
        have rf7 := hrz.ff (i := 7)
        go_wp2
        refine bodyPost_ret (v := .tuple #[.agg #[.string ⟨#[]⟩, .string ⟨#[]⟩, .string ⟨#[]⟩, .string ⟨#[]⟩, .string ⟨#[]⟩, .slice none 0 0, .slice none 0 0, .slice none 0 0], .int .i64 ((k : Int) + 1), .int .i64 5]) (by simp [results, Tryz.results15, go_sem, r0, r1, r2, r3, r4, r5, r6, r7]) rfl ?_
        exact pa_bad HX (hbw.trans (below_of_grown (grown_set8 _ _ _ _ _ _ _ _ _ _) hbw.size (fun k hk => by injection hk with hk; omega)))
    · have HP : Hid (headP heads 0 ls [] = .ok (vs, ls.drop 5)) := by
        have hk5 : k = 5 := by omega
        rw [HH.out, hk5]; rfl
      have HPL := Lib.hid (parse_head (k := pkG) HP.out)
      have hbd : PjBd 900000 5 (pjOf vs) := (pjOf_bd (headP_len heads HP.out HLN.out (by intro v hv; cases hv)).1).up (by omega)
      have b0 := hL.ba.cell (k := 0) (by decide)
      have b1 := hL.ba.cell (k := 1) (by decide)
      have b2 := hL.ba.cell (k := 2) (by decide)
      have b3 := hL.ba.cell (k := 3) (by decide)
      have b4 := hL.ba.cell (k := 4) (by decide)
      have hba := below_alloc wr (.cells #[.string (B (vs[0]?.getD [])), .string (B (vs[1]?.getD [])), .string (B (vs[2]?.getD [])), .string (B (vs[3]?.getD [])), .string (B (vs[4]?.getD [])), .slice none 0 0, .slice none 0 0, .slice none 0 0] 26)
      have hB : PB wr.heap.size (pjOf vs) (.slice none 0 0) (.slice none 0 0) (.slice none 0 0) (wr.alloc (.cells #[.string (B (vs[0]?.getD [])), .string (B (vs[1]?.getD [])), .string (B (vs[2]?.getD [])), .string (B (vs[3]?.getD [])), .string (B (vs[4]?.getD [])), .slice none 0 0, .slice none 0 0, .slice none 0 0] 26)) := heap_alloc_new wr _
      have HL := Lib.hid (hL.step hba)
      have hlq := hL.rz.lt
      clear hL HH HP hba
      go_wp2
      clear b0 b1 b2 b3 b4
      generalize (wr.alloc (.cells #[.string (B (vs[0]?.getD [])), .string (B (vs[1]?.getD [])), .string (B (vs[2]?.getD [])), .string (B (vs[3]?.getD [])), .string (B (vs[4]?.getD [])), .slice none 0 0, .slice none 0 0, .slice none 0 0] 26)) = wo at *
      generalize wr.heap.size = q at *
      have hV := PV.nil wo wo.heap.size (Nat.le_refl _) vs
      have hqs := hB.lt
      go_loopw [14, 16] (fun sg i wv => ∃ (j st : Nat) (p : Pj) (A1 A2 A3 : Option Addr) (a1 a2 a3 : Nat), j ≤ n + 5 ∧ sg = .int .i64 st ∧ i = .int .i64 j ∧ Hid (PB q p (.slice A1 p.vs.length a1) (.slice A2 p.fs.length a2) (.slice A3 p.ts.length a3) wv) ∧ Hid (PV wo.heap.size p (.slice A1 p.vs.length a1) (.slice A2 p.fs.length a2) (.slice A3 p.ts.length a3) wv) ∧ Hid (Kq wo.heap.size q wo wv) ∧ Hid (PjBd 900000 j p) ∧ Hid (tailP (pjOf vs) 0 5 (ls.drop 5) = tailP p st j (ls.drop j))) (fun _ i _ => n + 5 - (intOf i).toNat)
      case atStart => exact ⟨5, 0, pjOf vs, none, none, none, 0, 0, 0, by omega, rfl, rfl, hB, hV, Kq.refl _ _ _, hbd, rfl⟩
      case round =>
        have hB0 := Lib.hid hB
        clear hB hV hbd
        obtain ⟨j, st, p, A1, A2, A3, a1, a2, a3, hj, rfl, rfl, hB, hV, hK, hBd, HT⟩ := hrel
        obtain ⟨hbw, hrz, hown⟩ := HL.out.kq hB0.out hlq hK.out
        have hB := hB.out
        have hV := hV.out
        by_cases hlt : j < n
        · obtain ⟨g, c', hAe, _, hcs⟩ := own_cells hown (by omega)
          have e0 := hcs j hlt
          clear hcs
          obtain ⟨rfl, rfl⟩ : A = some ⟨g, 0, none⟩ ∧ c = c' := by injection hAe with h1 h2 h3; exact ⟨h1, h3⟩
          clear hAe
          have hll := getD_le HLN.out j
          obtain ⟨l, hle⟩ : ∃ l, l = ls.getD j [] := ⟨_, rfl⟩
          rw [← hle] at e0 hll
          have HLE := Lib.hid hle
          clear hle
          have HC : Hid (∀ V, PV wo.heap.size p (.slice A1 p.vs.length a1) (.slice A2 p.fs.length a2) (.slice A3 p.ts.length a3) V → Calls Tryz.prog 42 #[.agg #[.string (B p.ti), .string (B p.la), .string (B p.ma), .string (B p.so), .string (B p.st), .slice A1 p.vs.length a1, .slice A2 p.fs.length a2, .slice A3 p.ts.length a3], .string (B l), .int .i64 (st : Int)] V (RMPost wo.heap.size p l st V)) := fun V h => rmore_any wo.heap.size p A1 A2 A3 a1 a2 a3 l st V h (by omega) ⟨by have := hBd.out.nv; omega, by have := hBd.out.nf; omega, by have := hBd.out.nt; omega⟩
          have d0 := hB.d0
          have d1 := hB.d1
          have d2 := hB.d2
          have d3 := hB.d3
          have d4 := hB.d4
          have d5 := hB.c5
          have d6 := hB.c6
          have d7 := hB.c7
          have i1 : (0 : Int) ≤ (j : Int) := by omega
          have i2 : (j : Int) < (n : Int) := by omega
          have HBB := Lib.hid hB
          have HVV := Lib.hid hV
          have hgl : g < wo.heap.size := by obtain ⟨ad, u, h1, h2, _⟩ := (Rd.of_own HL.out.own).at1 hlt; injection h1 with h1; subst h1; exact h2
          have hgq : ¬ q = g := fun e => own_ne hown hB (by decide) (by rw [e]; rfl)
          clear hB hV hrz hbw hown
          go_wp2
          have e0d : wr.drew.cell? ⟨g, j, none⟩ = some (.string (B l)) := e0
          have hge : ∀ W, Below wo.heap.size wr.drew W → W.cell? ⟨g, j, none⟩ = some (.string (B l)) := fun W h => by have hh : W.cell? ⟨g, j, none⟩ = wr.drew.cell? ⟨g, j, none⟩ := h.cell hgl; rw [hh]; exact e0
          go_region_with
            (first | (go_at_call 42; refine (HC.out wr.drew ⟨HVV.out.ov, HVV.out.of, HVV.out.ot, HVV.out.le⟩).mono ?_; rintro e w2 ⟨st', b, p', A1', A2', A3', a1', a2', a3', rfl, hbM, hV2, hif⟩; have hB2 : PB q p (.slice A1 p.vs.length a1) (.slice A2 p.fs.length a2) (.slice A3 p.ts.length a3) w2 := PB.below (W := wr.drew) HBB.out hbM hqs; have HSW := hge w2 hbM; have HBM := Lib.hid hbM; have HV2 := Lib.hid hV2; have HIF := Lib.hid hif; have HB2 := Lib.hid hB2; have v0 := hB2.d0; have v1 := hB2.d1; have v2 := hB2.d2; have v3 := hB2.d3; have v4 := hB2.d4; have v5 := hB2.c5; have v6 := hB2.c6; have v7 := hB2.c7; have vf0 := hB2.ff (i := 0); have vf1 := hB2.ff (i := 1); have vf2 := hB2.ff (i := 2); have vf3 := hB2.ff (i := 3); have vf4 := hB2.ff (i := 4); have vf5 := hB2.ff (i := 5); have vf6 := hB2.ff (i := 6); have vf7 := hB2.ff (i := 7); clear hbM hV2 hif hB2))
          all_goals
            clear v0 v1 v2 v3 v4 v5 v6 v7 vf0 vf1 vf2 vf3 vf4 vf5 vf6 vf7 HSW d0 d1 d2 d3 d4 d5 d6 d7 e0 e0d hge i1 i2 hgq hgl HC
            have HB3 : Hid (PB q p' (.slice A1' p'.vs.length a1') (.slice A2' p'.fs.length a2') (.slice A3' p'.ts.length a3') ((((((((w2.setCell ⟨q, 0, none⟩ (.string (B p'.ti))).setCell ⟨q, 1, none⟩ (.string (B p'.la))).setCell ⟨q, 2, none⟩ (.string (B p'.ma))).setCell ⟨q, 3, none⟩ (.string (B p'.so))).setCell ⟨q, 4, none⟩ (.string (B p'.st))).setCell ⟨q, 5, none⟩ (.slice A1' p'.vs.length a1')).setCell ⟨q, 6, none⟩ (.slice A2' p'.fs.length a2')).setCell ⟨q, 7, none⟩ (.slice A3' p'.ts.length a3'))) := PB.set8 HB2.out
            have HV3 : Hid (PV wo.heap.size p' (.slice A1' p'.vs.length a1') (.slice A2' p'.fs.length a2') (.slice A3' p'.ts.length a3') ((((((((w2.setCell ⟨q, 0, none⟩ (.string (B p'.ti))).setCell ⟨q, 1, none⟩ (.string (B p'.la))).setCell ⟨q, 2, none⟩ (.string (B p'.ma))).setCell ⟨q, 3, none⟩ (.string (B p'.so))).setCell ⟨q, 4, none⟩ (.string (B p'.st))).setCell ⟨q, 5, none⟩ (.slice A1' p'.vs.length a1')).setCell ⟨q, 6, none⟩ (.slice A2' p'.fs.length a2')).setCell ⟨q, 7, none⟩ (.slice A3' p'.ts.length a3'))) := PV.keptB HV2.out HB2.out (grown_set8 _ _ _ _ _ _ _ _ _ _)
            have HK3 : Hid (Kq wo.heap.size q wo ((((((((w2.setCell ⟨q, 0, none⟩ (.string (B p'.ti))).setCell ⟨q, 1, none⟩ (.string (B p'.la))).setCell ⟨q, 2, none⟩ (.string (B p'.ma))).setCell ⟨q, 3, none⟩ (.string (B p'.so))).setCell ⟨q, 4, none⟩ (.string (B p'.st))).setCell ⟨q, 5, none⟩ (.slice A1' p'.vs.length a1')).setCell ⟨q, 6, none⟩ (.slice A2' p'.fs.length a2')).setCell ⟨q, 7, none⟩ (.slice A3' p'.ts.length a3'))) := (hK.out.trans ((Kq.of_below (Below.refl _ wr).drew).trans (Kq.of_below HBM.out))).trans (Kq.set8 _ _ _ _ _ _ _ _)
            generalize ((((((((w2.setCell ⟨q, 0, none⟩ (.string (B p'.ti))).setCell ⟨q, 1, none⟩ (.string (B p'.la))).setCell ⟨q, 2, none⟩ (.string (B p'.ma))).setCell ⟨q, 3, none⟩ (.string (B p'.so))).setCell ⟨q, 4, none⟩ (.string (B p'.st))).setCell ⟨q, 5, none⟩ (.slice A1' p'.vs.length a1')).setCell ⟨q, 6, none⟩ (.slice A2' p'.fs.length a2')).setCell ⟨q, 7, none⟩ (.slice A3' p'.ts.length a3')) = w3 at *
            obtain ⟨hbw, hrz, _⟩ := HL.out.kq hB0.out hlq HK3.out
            clear HV2 HBM HB2 hK hV hB HBB HVV
            cases b with
            | false =>
              have HX : Hid (parseL pkG (split s.toList) = (pj0, j + 1, 5) ∧ ((j : Int) + 1) = ((j + 1 : Nat) : Int)) := ⟨by
                have h := HIF.out
                rw [if_neg (by simp), HLE.out] at h
                rw [← HLS.out, HPL.out, HT.out, tail_bad (by rw [← HNL.out]; exact hlt) h], by omega⟩
              clear HIF HT
              have r0 := hrz.r0
              have r1 := hrz.r1
              have r2 := hrz.r2
              have r3 := hrz.r3
              have r4 := hrz.r4
              have r5 := hrz.r5
              have r6 := hrz.r6
              have r7 := hrz.r7
              have rf0 := hrz.ff (i := 0)
              have rf1 := hrz.ff (i := 1)
              have rf2 := hrz.ff (i := 2)
              have rf3 := hrz.ff (i := 3)
              have rf4 := hrz.ff (i := 4)
              have rf5 := hrz.ff (i := 5)
              have rf6 := hrz.ff (i := 6)
              have rf7 := hrz.ff (i := 7)
              go_wp2
              refine bodyPost_ret (v := .tuple #[.agg #[.string ⟨#[]⟩, .string ⟨#[]⟩, .string ⟨#[]⟩, .string ⟨#[]⟩, .string ⟨#[]⟩, .slice none 0 0, .slice none 0 0, .slice none 0 0], .int .i64 ((j : Int) + 1), .int .i64 5]) (by simp [results, Tryz.results15, go_sem, r0, r1, r2, r3, r4, r5, r6, r7]) rfl ?_
              exact pa_bad HX (hbw.trans (below_of_grown (grown_set8 _ _ _ _ _ _ _ _ _ _) hbw.size (fun k hk => by injection hk with hk; omega)))
            | true =>
              have hm : moreP p l st = some (p', st') := by have h := HIF.out; rw [if_pos rfl] at h; exact h
              have HT2 : Hid (tailP (pjOf vs) 0 5 (ls.drop 5) = tailP p' st' (j + 1) (ls.drop (j + 1))) := by rw [HT.out, tail_ok (by rw [← HNL.out]; exact hlt) (by rw [← HLE.out]; exact hm)]; rfl
              have hbd2 : Hid (PjBd 900000 (j + 1) p') := moreP_bd hm (by omega) hBd.out
              clear HIF HT hm hBd hrz hbw
              go_wp2
              go_roundw
              case rel => exact ⟨j + 1, st', p', A1', A2', A3', a1', a2', a3', by omega, rfl, by go_num, HB3, HV3, HK3, hbd2, HT2⟩
              case measure => simp [intOf]; omega
        · have HX : Hid (parseL pkG (split s.toList) = if checkE pkG p ≠ 0 then (pj0, 0, checkE pkG p) else (p, 0, 0)) := by rw [← HLS.out, HPL.out, HT.out, tail_end (by rw [← HNL.out]; omega)]; rfl
          have hsm := hBd.out.sm (by omega) (by omega)
          have HC := Lib.hid (rcheck_any p ⟨A1, p.vs.length, a1, A2, p.fs.length, a2, A3, p.ts.length, a3⟩ wr hsm ⟨Rd.of_own hV.ov, Rd.of_own hV.of, Rd.of_own hV.ot⟩)
          have d0 := hB.d0
          have d1 := hB.d1
          have d2 := hB.d2
          have d3 := hB.d3
          have d4 := hB.d4
          have d5 := hB.c5
          have d6 := hB.c6
          have d7 := hB.c7
          clear hown hsm HT hBd hK
          go_wp2_with fail
          refine HC.out.mono ?_
          rintro e w2 ⟨rfl, hbn⟩
          have hrz := hrz.step hbn
          have hbw := hbw.trans (hbn.mono hbw.size)
          have hB := hB.step hbn
          have hV := hV.below hbn
          have hw8 := HL.out.bw.size
          clear d0 d1 d2 d3 d4 d5 d6 d7 HC hbn
          have d0 := hB.d0
          have d1 := hB.d1
          have d2 := hB.d2
          have d3 := hB.d3
          have d4 := hB.d4
          have d5 := hB.c5
          have d6 := hB.c6
          have d7 := hB.c7
          by_cases h0 : checkE pkG p = 0
          · have HX2 : Hid (parseL pkG (split s.toList) = (p, 0, 0)) := by rw [HX.out, if_neg (by simp [h0])]; rfl
            rw [h0]
            clear HX h0
            have r0 := hrz.r0
            have r1 := hrz.r1
            have r2 := hrz.r2
            have r3 := hrz.r3
            have r4 := hrz.r4
            have r5 := hrz.r5
            have r6 := hrz.r6
            have r7 := hrz.r7
            have rf0 := hrz.ff (i := 0)
            have rf1 := hrz.ff (i := 1)
            have rf2 := hrz.ff (i := 2)
            have rf3 := hrz.ff (i := 3)
            have rf4 := hrz.ff (i := 4)
            have rf5 := hrz.ff (i := 5)
            have rf6 := hrz.ff (i := 6)
            have rf7 := hrz.ff (i := 7)
            have hqr : q ≠ w.heap.size := by omega
            have hrq : w.heap.size ≠ q := by omega
            go_wp2
            refine bodyPost_ret (v := .tuple #[.agg #[.string (B p.ti), .string (B p.la), .string (B p.ma), .string (B p.so), .string (B p.st), .slice A1 p.vs.length a1, .slice A2 p.fs.length a2, .slice A3 p.ts.length a3], .int .i64 0, .int .i64 0]) (by simp [results, Tryz.results15, go_sem, r0, r1, r2, r3, r4, r5, r6, r7]) rfl ?_
            exact pa_good HX2 (hbw.trans (below_of_grown (grown_set8 _ _ _ _ _ _ _ _ _ _) hbw.size (fun k hk => by injection hk with hk; omega))) ((hV.kept8 hrz (grown_set8 _ _ _ _ _ _ _ _ _ _)).low (by omega))
          · have HX2 : Hid (parseL pkG (split s.toList) = (pj0, 0, checkE pkG p) ∧ (0 : Int) = ((0 : Nat) : Int)) := ⟨by rw [HX.out, if_pos h0], rfl⟩
            have z1 : (checkE pkG p != 0) = true := by simpa using h0
            generalize checkE pkG p = ce at *
            clear HX h0 d0 d1 d2 d3 d4 d5 d6 d7
            have r0 := hrz.r0
            have r1 := hrz.r1
            have r2 := hrz.r2
            have r3 := hrz.r3
            have r4 := hrz.r4
            have r5 := hrz.r5
            have r6 := hrz.r6
            have r7 := hrz.r7
            have rf0 := hrz.ff (i := 0)
            have rf1 := hrz.ff (i := 1)
            have rf2 := hrz.ff (i := 2)
            have rf3 := hrz.ff (i := 3)
            have rf4 := hrz.ff (i := 4)
            have rf5 := hrz.ff (i := 5)
            have rf6 := hrz.ff (i := 6)
            have rf7 := hrz.ff (i := 7)
            go_wp2
            refine bodyPost_ret (v := .tuple #[.agg #[.string ⟨#[]⟩, .string ⟨#[]⟩, .string ⟨#[]⟩, .string ⟨#[]⟩, .string ⟨#[]⟩, .slice none 0 0, .slice none 0 0, .slice none 0 0], .int .i64 0, .int .i64 ce]) (by simp [results, Tryz.results15, go_sem, r0, r1, r2, r3, r4, r5, r6, r7]) rfl ?_
            exact pa_bad HX2 (hbw.trans (below_of_grown (grown_set8 _ _ _ _ _ _ _ _ _ _) hbw.size (fun k hk => by injection hk with hk; omega)))
end Go.Proofs.YtmkenekngaihhaaGreatDoor
