/-
  Layer 48 (graph): cyclic.
-/
import Derived.Test.YtbikldmhfaecpaaGrU
namespace Go.Proofs.Ytbikldmhfaecpaa
open Go.RowKit
set_option linter.unusedVariables false
set_option linter.unusedSimpArgs false
attribute [local go_sem] B_data B_size

/-- nothing but the blocks of R is another one in w' -/
structure Kr (R : Nat → Prop) (w w' : World) : Prop where
  os : w'.os = w.os
  tape : w'.tape = w.tape
  output : w'.output = w.output
  size : w.heap.size ≤ w'.heap.size
  block : ∀ k, k < w.heap.size → ¬ R k → w'.heap[k]? = w.heap[k]?
section
variable {R : Nat → Prop} {a b c : World}
theorem Kr.refl (R : Nat → Prop) (w : World) : Kr R w w := ⟨rfl, rfl, rfl, Nat.le_refl _, fun _ _ _ => rfl⟩
theorem Kr.trans (h : Kr R a b) (k : Kr R b c) : Kr R a c :=
  ⟨k.os.trans h.os, k.tape.trans h.tape, k.output.trans h.output, Nat.le_trans h.size k.size, fun i h1 h2 => (k.block i (Nat.lt_of_lt_of_le h1 h.size) h2).trans (h.block i h1 h2)⟩
theorem Kr.grown {row : Option Nat} (h : Kr R a b) (k : b.grownBy c row) (hr : ∀ q, row = some q → R q) : Kr R a c :=
  ⟨k.os.trans h.os, k.tape.trans h.tape, k.output.trans h.output, Nat.le_trans h.size k.size, fun i h1 h2 => (k.block i (Nat.lt_of_lt_of_le h1 h.size) (fun e => h2 (hr i e.symm))).trans (h.block i h1 h2)⟩
end
theorem GW.kr {own : Own} {id gb : Nat} {vm rm um : Option Nat} {pt : Nm → PtI} {S : GS} {U : Nm → List Nm} {w w' : World} {R : Nat → Prop} (h : GW own id gb vm rm um pt S U w) (k : Kr R w w') (hR : ∀ b, R b → own b = none) : GW own id gb vm rm um pt S U w' :=
  h.keep (fun b m => k.block b (h.mine_lt m) fun e => by obtain ⟨t, ht⟩ := m; rw [hR b e] at ht; cases ht) k.size
theorem putM_add {S : List Nm} {k : Nm} : putM k (.bool true) (seenM S) = seenM (addS S k) := by
  unfold addS
  split
  · rename_i h
    induction S with
    | nil => cases h
    | cons a r ih =>
      simp only [seenM, List.map_cons, putM]
      by_cases hk : k = a
      · simp [hk]
      · rw [if_neg hk]
        rcases List.mem_cons.1 h with e | h
        · exact absurd e hk
        · rw [show List.map (fun k => (k, Value.bool true)) r = seenM r from rfl, ih h]
  · rename_i h
    exact putM_seen h
theorem wpList_drop {P : Program} {w : World} {ops : Array Oper} {rest : List Oper} {o : Oper} {a : Act} {Q : Exit → Act → World → Prop} (hgd : o.guard = none) (T K E : TypeId) (m k : Operand) (ho : o.op = .call { callee := .builtin .delete, args := #[m, k], argTypes := #[T, K] })
    (hT : P.underlying T = some (.map K E)) (hK : P.underlying K = some .string) (b : Nat) (kvs : List (List UInt8 × Value)) (kl : List UInt8) (val : Value) (hs : SMap w b (kvs ++ [(kl, val)])) (hm : a.eval m = .map (some b)) (hk : a.eval k = .string (B kl)) (hn : lookL kl kvs = none)
    (h : ∀ w', SMap w' b kvs → w.grownBy w' (some b) → wpList P ops Q rest (a.put o.dst (.tuple #[])) w') :
    wpList P ops Q (o :: rest) a w := by
  refine wpList_plain hgd fun K' hK' => ?_
  obtain ⟨w', hrun, r1, r2⟩ := SMap.drop hT hK hs hn o.type
  unfold Oper.wp
  simp [execOp, ho, resolve, invoke, builtin, hm, hk, hrun, Result.andThen]
  exact hK' _ _ (h w' r1 r2)
/-- what cyclic answers, and what becomes of the two maps -/
def CycPost (own : Own) (ob db : Nat) (o : List Nm) (r : Bool × List Nm) (w : World) (e : Ending) (w' : World) : Prop :=
  e = .returned (.bool r.1) ∧ (r.1 = false → SMap w' ob (seenM o) ∧ SMap w' db (seenM r.2)) ∧ Kr (fun b => b = ob ∨ b = db) w w'
theorem RAt.c0 {own : Own} {id : Nat} {p : PtI} {r : RuleS} {w : World} (h : RAt own id p r w) : w.cell? ⟨p.p, 0, none⟩ = some (.slice p.A r.needs.length p.c) ∧ Rdo own id (.needs r.name) w p.A r.needs.length r.needs ∧ r.needs.length ≤ p.c := by
  obtain ⟨iA, im, ic, h1, h2, h3, h4⟩ := h.cells
  exact ⟨by simp [World.cell?, h1], h2, h3⟩
theorem lookL_none {S : List Nm} {k : Nm} (h : k ∉ S) : lookL k (seenM S) = none := by rw [lookL_seen, if_neg h]
set_option maxHeartbeats 8000000 in
set_option maxRecDepth 100000 in
theorem cyc_any {own : Own} {id gb : Nat} {vm rm um : Option Nat} {pt : Nm → PtI} {S : GS} {U : Nm → List Nm} (ob db : Nat) (hod : ob ≠ db) (hoo : own ob = none) (hod2 : own db = none) (hlen : ∀ r ∈ S.rules, r.needs.length ≤ 10000) :
    ∀ (f : Nat) (n : Nm) (o d : List Nm) (w : World), GW own id gb vm rm um pt S U w → S.rules.length + 1 ≤ f + o.length → (o.Nodup ∧ ∀ x ∈ o, x ∈ S.rules.map (·.name)) → SMap w ob (seenM o) → SMap w db (seenM d) →
    Calls Try.prog 34 #[.pointer (some ⟨gb, 0, none⟩), .string (B n), .map (some ob), .map (some db)] w (CycPost own ob db o (cyc S.rules f o d n) w) := by
  intro f
  induction f with
  | zero =>
    intro n o d w h hf ho _ _
    have := seen_len ho.1 ho.2
    omega
  | succ f ih =>
    intro n o d w h hf ho hmo hmd
    have IH := Lib.hid ih
    clear ih
    have hlo := look_seen hmo n
    have c1 := h.c1
    by_cases hno : n ∈ o
    · have hd : decide (n ∈ o) = true := by simpa using hno
      rw [hd] at hlo
      have HE : Hid (cyc S.rules (f + 1) o d n = (true, d)) := by simp only [Hid, cyc, if_pos hno]
      rw [HE.out]
      clear hd hno
      go_enter Try.func34, Try.ntmps34
      go_wp2
      go_ret
      exact ⟨rfl, fun e => (by cases e), Kr.refl _ _⟩
    · have hd : decide (n ∈ o) = false := by simpa using hno
      rw [hd] at hlo
      clear hd
      cases hr : findR S.rules n with
      | none =>
        have hlr := h.lookR_none hr
        have HE : Hid (cyc S.rules (f + 1) o d n = (false, d)) := by simp only [Hid, cyc, if_neg hno, hr]
        rw [HE.out]
        clear hno
        go_enter Try.func34, Try.ntmps34
        go_wp2
        go_ret
        exact ⟨rfl, fun _ => ⟨hmo, hmd⟩, Kr.refl _ _⟩
      | some r =>
        have hlr := h.lookR_some hr
        have hld := look_seen hmd n
        by_cases hnd : n ∈ d
        · have hd : decide (n ∈ d) = true := by simpa using hnd
          rw [hd] at hld
          have HE : Hid (cyc S.rules (f + 1) o d n = (false, d)) := by simp only [Hid, cyc, if_neg hno, hr, if_pos hnd]
          rw [HE.out]
          clear hno hd hnd
          go_enter Try.func34, Try.ntmps34
          go_wp2
          go_ret
          exact ⟨rfl, fun _ => ⟨hmo, hmd⟩, Kr.refl _ _⟩
        · have hd : decide (n ∈ d) = false := by simpa using hnd
          rw [hd] at hld
          obtain ⟨q0, hrd, hnc⟩ := (h.rule hr).c0
          generalize (pt n).A = A at q0 hrd
          generalize (pt n).c = c at q0 hnc
          have hnl : r.needs.length ≤ 10000 := hlen r (findR_mem hr).1
          have HO := Lib.hid (And.intro ho (And.intro hno hnd))
          have hon : (o ++ [n]).Nodup ∧ ∀ x ∈ o ++ [n], x ∈ S.rules.map (·.name) := by
            refine ⟨by rw [List.nodup_append]; exact ⟨ho.1, by simp, fun a ha b hb => by simp at hb; subst hb; exact fun e => hno (e ▸ ha)⟩, fun x hx => ?_⟩
            rcases List.mem_append.1 hx with hx | hx
            · exact ho.2 x hx
            · rw [List.mem_singleton] at hx; subst hx
              have := (findR_mem hr).2
              rw [← this]; exact List.mem_map_of_mem (findR_mem hr).1
          have HON := Lib.hid hon
          have HRD := Lib.hid hrd
          have HH := Lib.hid h
          have HF : Hid (S.rules.length + 1 ≤ f + (o ++ [n]).length) := Lib.hid (by rw [List.length_append, List.length_singleton]; omega)
          have HMD := Lib.hid hmd
          generalize hrn : r.needs = needs at *
          have HE : Hid (cyc S.rules (f + 1) o d n = match cycs (cyc S.rules f (o ++ [n])) d needs with | (true, d') => (true, d') | (false, d') => (false, addS d' n)) := by
            simp only [Hid, cyc, if_neg hno, hr, if_neg hnd, hrn]
            rfl
          generalize cyc S.rules (f + 1) o d n = RES at *
          have hne : own (pt n).p ≠ none := by rw [(h.rule hr).tag]; simp
          clear hon hrd hd ho hno hnd hmd
          go_enter Try.func34, Try.ntmps34
          go_wp2_with (refine wpList_put rfl 62 9 4 _ _ _ rfl Try.underlying62 Try.underlying9 ob (seenM o) hmo rfl n rfl (.bool true) rfl ?_)
          intro w1 hm1 hg1
          rw [putM_seen HO.out.2.1] at hm1
          have q1 : w1.cell? ⟨(pt n).p, 0, none⟩ = some (.slice A needs.length c) := (World.cell?_of_block (w := w) (a := ⟨(pt n).p, 0, none⟩) (hg1.block _ (HH.out.mine_lt ⟨_, (HH.out.rule hr).tag⟩) (fun e => by injection e with e; exact hne (by rw [show (pt n).p = ob from e]; exact hoo)))).trans q0
          have hk1 : Kr (fun b => b = ob ∨ b = db) w w1 := (Kr.refl _ _).grown hg1 (fun q e => by injection e with e; exact .inl e.symm)
          have hmd1 : SMap w1 db (seenM d) := HMD.out.of_block (hg1.block _ HMD.out.lt (fun e => by injection e with e; exact hod e.symm))
          have H1 := Lib.hid (And.intro hm1 (And.intro hmd1 hk1))
          clear q0 c1 hlo hld hlr hm1 hmd1 hk1 hg1 hmo h
          go_wp2
          go_loopg [35] needs.length (fun j i wr => ∃ (k : Nat) (d1 : List Nm), Hid (j = needs.length - k) ∧ k ≤ needs.length ∧ i = .int .i64 (k : Int) ∧ Hid (cycs (cyc S.rules f (o ++ [n])) d needs = cycs (cyc S.rules f (o ++ [n])) d1 (needs.drop k)) ∧ Hid (SMap wr ob (seenM (o ++ [n]))) ∧ Hid (SMap wr db (seenM d1)) ∧ Hid (Kr (fun b => b = ob ∨ b = db) w wr))
          case atStart => exact ⟨0, d, rfl, Nat.zero_le _, rfl, rfl, H1.out.1, H1.out.2.1, H1.out.2.2⟩
          case round =>
            clear H1
            obtain ⟨k, d1, hj, hk, rfl, hcy, hmo, hmd, hkr⟩ := hrel
            have hgw := HH.out.kr hkr.out (fun b e => by rcases e with rfl | rfl; exact hoo; exact hod2)
            by_cases hlt : k < needs.length
            · have hg : needs[k]? = some needs[k] := List.getElem?_eq_getElem hlt
              have HP : Hid (cycs (cyc S.rules f (o ++ [n])) d needs = cycs (cyc S.rules f (o ++ [n])) d1 (needs[k] :: needs.drop (k + 1))) := by rw [hcy.out, drop_cons hlt]; rfl
              have hrd2 := HRD.out.keepT (fun b e => hkr.out.block b (HH.out.mine_lt ⟨_, e⟩) (fun e2 => by rcases e2 with rfl | rfl; (rw [hoo] at e; cases e); (rw [hod2] at e; cases e))) hkr.out.size
              obtain ⟨b2, o2, rfl, _, hcu⟩ := rd_get hrd2.1 hg
              generalize needs[k] = u at *
              have C := Lib.hid (IH.out u (o ++ [n]) d1 wr hgw HF.out HON.out hmo.out hmd.out)
              have j1 : (0 : Int) ≤ (k : Int) := by omega
              have j2 : (k : Int) < (needs.length : Int) := by omega
              clear hg hrd2 hgw
              cases hcr : cyc S.rules f (o ++ [n]) d1 u with
              | mk b d2 =>
                have HP2 : Hid (cycs (cyc S.rules f (o ++ [n])) d needs = match (b, d2) with | (true, d') => (true, d') | (false, d') => cycs (cyc S.rules f (o ++ [n])) d' (needs.drop (k + 1))) := by rw [HP.out, cycs, hcr]; rfl
                rw [hcr] at C
                clear hcr HP hcy
                go_wp2_with fail
                refine C.out.mono ?_
                rintro e w3 ⟨rfl, hm3, hk3⟩
                clear C hcu
                cases b with
                | true =>
                  have HR : Hid (RES = (true, d2)) := by rw [HE.out, HP2.out]; rfl
                  have HK := Lib.hid (hkr.out.trans hk3)
                  clear hm3 hk3
                  go_wp2
                  go_ret
                  rw [HR.out]
                  exact ⟨rfl, fun e => (by cases e), HK.out⟩
                | false =>
                  obtain ⟨hmo3, hmd3⟩ := hm3 rfl
                  have H3 := Lib.hid (And.intro hmo3 (And.intro hmd3 (hkr.out.trans hk3)))
                  clear hm3 hk3 hmo3 hmd3
                  go_wp2
                  go_roundg (needs.length - (k + 1))
                  case rel => exact ⟨k + 1, d2, rfl, by omega, by go_num, HP2, H3.out.1, H3.out.2.1, H3.out.2.2⟩
                  case measure => have := hj.out; omega
            · obtain rfl : k = needs.length := by omega
              have HR : Hid (RES = (false, addS d1 n)) := by rw [HE.out, hcy.out, List.drop_length]; rfl
              have hgw := Lib.hid hgw
              have HLO : Hid (lookL n (seenM o) = none) := Lib.hid (lookL_none HO.out.2.1)
              have hmo1 : SMap wr ob (seenM o ++ [(n, .bool true)]) := by rw [seenM_snoc]; exact hmo.out
              have HMO := Lib.hid hmo1
              clear hmo1 hmo
              go_wp2_with (refine wpList_drop rfl 62 9 4 _ _ rfl Try.underlying62 Try.underlying9 ob (seenM o) n (.bool true) HMO.out rfl rfl HLO.out ?_)
              intro w4 hm4 hg4
              have hmd4 : SMap w4 db (seenM d1) := hmd.out.of_block (hg4.block _ hmd.out.lt (fun e => by injection e with e; exact hod e.symm))
              have hk4 := hkr.out.grown hg4 (fun q e => by injection e with e; exact .inl e.symm)
              have H4 := Lib.hid (And.intro hm4 (And.intro hmd4 hk4))
              clear hm4 hmd4 hk4 hg4
              go_wp2_with (refine wpList_put rfl 62 9 4 _ _ _ rfl Try.underlying62 Try.underlying9 db (seenM d1) H4.out.2.1 rfl n rfl (.bool true) rfl ?_)
              intro w5 hm5 hg5
              rw [putM_add] at hm5
              have hmo5 : SMap w5 ob (seenM o) := H4.out.1.of_block (hg5.block _ H4.out.1.lt (fun e => by injection e with e; exact hod e))
              have hk5 := H4.out.2.2.grown hg5 (fun q e => by injection e with e; exact .inr e.symm)
              have H5 := Lib.hid (And.intro hmo5 (And.intro hm5 hk5))
              clear hmo5 hm5 hk5 hg5
              go_wp2
              go_ret
              rw [HR.out]
              exact ⟨rfl, fun _ => ⟨H5.out.1, H5.out.2.1⟩, H5.out.2.2⟩
end Go.Proofs.Ytbikldmhfaecpaa
