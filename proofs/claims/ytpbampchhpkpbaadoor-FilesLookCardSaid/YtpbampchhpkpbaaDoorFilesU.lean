/-
  Layer 16 (files): make and copy of rows of files; Set and Drop.
-/
import Derived.Test.YtpbampchhpkpbaaDoorFilesT
import Derived.Laws.MakeOwn
import Derived.Laws.CopyOwn
namespace Go.Proofs.YtpbampchhpkpbaaDoor
set_option linter.unusedSimpArgs false
open Go.RowKit
set_option linter.unusedVariables false
attribute [local go_sem] B_data B_size

theorem run_copyN {P : Program} (w : World) (dT sT ty elem : TypeId) (g o dLen dCap : Nat) (a : Addr) (sLen sCap : Nat) (cur : Array Value) (t : TypeId) (cs : List Value) (i : TypeInfo) (sz : Nat)
    (hu : P.underlying dT = some (.slice elem)) (hi : P.info? elem = some i) (hsz : i.size = sz)
    (hg : w.heap[g]? = some (.cells cur t (0, 0))) (hn : cs.length = Nat.min sLen dLen * sz)
    (hsrc : ∀ j v, cs[j]? = some v → w.cell? (a.add j) = some v) (hfit : o + cs.length ≤ cur.size) (h1 : ∀ v ∈ cs, v.oneCell' = true) :
    (Builtin.copy_ #[dT, sT] ty #[.slice (some ⟨g, o, none⟩) dLen dCap, .slice (some a) sLen sCap]).run P w =
      .ok (goInt (Nat.min sLen dLen)) (w.setRow g (cur.toList.take o ++ cs ++ cur.toList.drop (o + cs.length)).toArray) := by
  have hl := run_firstCells_some (P := P) w sz (Nat.min sLen dLen) a sLen sCap cs hn hsrc
  have hst := run_storeCells_at P g o t cs 0 cur w hg (by simpa using hfit) h1
  simp [Builtin.copy_, run_underlying hu, Builtin.lenOf, sizeOf, typeInfo, hi, hsz, hl, hst]
theorem run_copyN_none {P : Program} (w : World) (dT sT ty elem : TypeId) (d a : Option Addr) (dLen dCap sLen sCap : Nat) (i : TypeInfo) (hu : P.underlying dT = some (.slice elem)) (hi : P.info? elem = some i) (hn : Nat.min sLen dLen = 0) :
    (Builtin.copy_ #[dT, sT] ty #[.slice d dLen dCap, .slice a sLen sCap]).run P w = .ok (goInt 0) w := by
  have hl : ∀ (x : Addr), (loadCells x 0).run P w = .ok #[] w := fun x => by simpa using run_loadCells_list (P := P) w x [] (by simp)
  cases d <;> cases a <;> simp [Builtin.copy_, run_underlying hu, Builtin.lenOf, Builtin.firstCells, sizeOf, typeInfo, hi, hn, storeCells, hl]

/-- the cells cs laid over the list cur from off on -/
def lay (cur : List Value) (off : Nat) (cs : List Value) : List Value := cur.take off ++ (cs ++ cur.drop (off + cs.length))

/-- copy into a row of the call's own, of elements of sz cells; m: how many elements go over. -/
theorem wpList_copyN {P : Program} {w : World} {ops : Array Oper} {rest : List Oper} {o : Oper} {a : Act} {Q : Exit → Act → World → Prop} (hgd : o.guard = none) (d s : Operand) (dT sT : TypeId)
    (ho : o.op = .call { callee := .builtin .copy, args := #[d, s], argTypes := #[dT, sT] }) (elem : TypeId) (z : Value) (sz bytes : Nat) (hu : P.underlying dT = some (.slice elem)) (hinf : (P.info? elem).map (fun i => (i.zero, i.size, i.bytes)) = some (some z, sz, bytes))
    (dp sp : Option Addr) (dLen dCap sLen sCap m : Nat) (hd : a.eval d = .slice dp dLen dCap) (hs : a.eval s = .slice sp sLen sCap) (hm : Nat.min sLen dLen = m)
    (g off : Nat) (cur : List Value) (t : TypeId) (hg : Hid (w.heap[g]? = some (.cells cur.toArray t (0, 0)))) (cs : List Value) (hn : cs.length = m * sz)
    (hdp : 0 < m → dp = some ⟨g, off, none⟩) (M : Nat) (hr : Rd w M sz sp m cs)
    (hfit : off + cs.length ≤ cur.length) (h1 : ∀ v ∈ cs, v.oneCell' = true) (B : Nat) (w0 : World) (hb : Below B w0 w) (hBg : B ≤ g)
    (h : ∀ w', Hid (w'.heap[g]? = some (.cells (lay cur off cs).toArray t (0, 0))) → Below B w0 w' → w.grownBy w' (some g) → wpList P ops Q rest (a.put o.dst (goInt m)) w') :
    wpList P ops Q (o :: rest) a w := by
  obtain ⟨i0, hi, hz0, hz1, hz2⟩ := info_parts hinf
  refine wpList_plain hgd fun K hK => ?_
  rcases Nat.eq_zero_or_pos m with h0 | h0
  · subst h0
    have hc : cs = [] := List.eq_nil_of_length_eq_zero (by simpa using hn)
    subst hc
    have hrun := run_copyN_none (P := P) w dT sT o.type elem dp sp dLen dCap sLen sCap i0 hu hi hm
    unfold Oper.wp
    simp [execOp, ho, resolve, invoke, builtin, hd, hs, hrun, Result.andThen]
    exact hK _ _ (h w (by simpa [lay, Hid] using hg) hb (World.grownBy.refl w _))
  · obtain ⟨ad, rfl, _, hc⟩ := hr.2 h0
    obtain rfl := hdp h0
    have hrun := run_copyN (P := P) w dT sT o.type elem g off dLen dCap ad sLen sCap cur.toArray t cs i0 sz hu hi hz1 hg.out (by rw [hm]; exact hn) hc (by simpa using hfit) h1
    rw [hm] at hrun
    unfold Oper.wp
    simp [execOp, ho, resolve, invoke, builtin, hd, hs, hrun, Result.andThen]
    exact hK _ _ (h _ (by simpa [lay, Hid] using setRow_heap w g _ _ t _ hg.out) (below_setRow hb hBg _) ⟨rfl, rfl, rfl, by simp [World.setRow], fun k _ hk => setRow_other w g k _ (fun e => hk (by rw [e]))⟩)

theorem Tryd.infoFile : (Tryd.prog.info? 36).map (fun i => (i.zero, i.size, i.bytes)) = some (some (.agg #[.string ⟨#[]⟩, .string ⟨#[]⟩]), 2, 32) := by kernel_rfl
theorem fls_rep (n : Nat) : (fls (List.replicate n ([], []))).toArray = madeCells #[.string ⟨#[]⟩, .string ⟨#[]⟩] (n * 2) := by
  apply Array.ext
  · simp [fls_len, madeCells]; omega
  · intro i h1 h2
    have h1' : i < 2 * n := by simpa [fls_len] using h1
    have hk := fls_at (List.replicate n ([], [])) (i / 2) (by simp; omega)
    have hg : ((List.replicate n (([] : List UInt8), ([] : List UInt8)))[i / 2]?.getD ([], [])) = ([], []) := by
      rw [List.getElem?_replicate]; split <;> rfl
    rw [hg] at hk
    have e0 : (fls (List.replicate n ([], [])))[i]? = some (.string ⟨#[]⟩) := by
      rcases Nat.mod_two_eq_zero_or_one i with e | e
      · rw [show i = i / 2 * 2 from by omega]; exact hk.1
      · rw [show i = i / 2 * 2 + 1 from by omega]; exact hk.2
    have e1 : (fls (List.replicate n ([], []))).toArray[i] = .string ⟨#[]⟩ := by
      have := List.getElem?_eq_some_iff.1 e0
      obtain ⟨_, h⟩ := this
      simpa using h
    rw [e1]
    unfold madeCells
    rcases Nat.mod_two_eq_zero_or_one i with e | e <;> simp [e]
theorem run_makeFiles (n : Nat) (hn : n ≤ 1000000) (W : World) : (Instr.makeSlice 31 (.int .i64 (n : Int)) (.int .i64 (n : Int))).run Tryd.prog W =
    .ok (.slice (some ⟨W.heap.size, 0, none⟩) n n) (W.alloc (.cells (fls (List.replicate n ([], []))).toArray 36)) := by
  obtain ⟨i0, hi, hz0, hz1, hz2⟩ := info_parts Tryd.infoFile
  have hb : (i0.bytes : Int) * (n : Int) ≤ 281474976710656 := by rw [hz2]; omega
  have hr := run_make (P := Tryd.prog) W 31 36 i0 _ Tryd.underlying31 hi hz0 .i64 .i64 n n (by omega) (by omega) hb (by omega)
  simp only [Int.toNat_natCast] at hr
  rw [hr, hz1, fls_rep]
  rfl

end Go.Proofs.YtpbampchhpkpbaaDoor
