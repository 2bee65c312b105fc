/-
  The frame of these proofs, thirteenth part: append of new zeros to nothing.
-/
import Derived.Test.YtjmklbkcpjmcaaaHc
import Derived.Test.YtjmklbkcpjmcaaaH6
import Derived.Lib.AppendZeros
namespace Go.Proofs.Ytjmklbkcpjmcaaa.H
open Go Go.RowKit
set_option linter.unusedVariables false
set_option linter.unusedSimpArgs false

section
variable {J : Jd} {ops : Array Oper} {dest : Option (List Nat)} {Q : Post} {i : Nat} {rest : List (Nat × Kind)} {E : Env} {ds : List Deferred} {L : List Res}
variable {d : Option Nat} {ty : TypeId} {pos : String} {aft : Array Edge} {g : Option (Nat × Bool)}
/-- append(nothing, n zeros): room of one's own -/
theorem Plan.appendZ0 {α : Type} {st tn e : TypeId} {kn : IntKind} {x y : Operand} {z : Value} {sz bytes n : Nat} (enc : α → List Value)
    (ho : ops[i]? = some ⟨d, .call ⟨.builtin .append, #[x, y], #[st, tn]⟩, ty, pos, aft, g⟩) (hg : wantE ops ⟨d, .call ⟨.builtin .append, #[x, y], #[st, tn]⟩, ty, pos, aft, g⟩ E = true)
    (ht : J.P.underlying st = some (.slice e)) (htn : J.P.underlying tn = some (.int kn)) (hinf : ∃ ti, J.P.info? e = some ti ∧ (ti.zero, ti.size, ti.bytes) = (some z, sz, bytes)) (hzs : z.cells.size = sz) (hpos : 0 < sz)
    (hx : ev E x = .slice none 0 0) (hy : ev E y = .int .i64 (n : Int)) (h0 : 0 < n) (hb : n * bytes ≤ 281474976710656) (hn : n ≤ maxLen)
    (k : ∀ b c', n ≤ c' → Plan J ops dest Q rest (upd E d (.slice (some ⟨b, 0, none⟩) n c')) ds (Res.own enc sz e (some b) c' ([] : List α) :: L)) : Plan J ops dest Q ((i, .ef) :: rest) E ds L :=
  Plan.ef ho hg (by intro c h; cases h) fun Rf w hm => by
    obtain ⟨ti, hi, hty⟩ := hinf
    have hz : ti.zero = some z := congrArg (·.1) hty
    have hs : ti.size = sz := congrArg (·.2.1) hty
    have hby : ti.bytes = bytes := congrArg (·.2.2) hty
    have hn' : (n : Int) ≤ 9223372036854775807 := by simp only [maxLen] at hn; omega
    have hrun := Lib.run_append_nil_zeros (P := J.P) w st tn ty e ti z .i64 kn ht htn hi hz n h0 (by omega) hn' (by rw [hby]; exact hb)
    have hr : (execOp (ev E) ⟨d, .call ⟨.builtin .append, #[x, y], #[st, tn]⟩, ty, pos, aft, g⟩).run J.P w = .ok (.value (.slice (some ⟨w.heap.size, 0, none⟩) n (grownCap w n 0 e))) (w.drew.alloc (.cells (Builtin.zeroCells z.cells n ++ Builtin.zeroCells z.cells (grownCap w n 0 e - n)) e)) := by
      unfold execOp
      simp [resolve, hx, hy, invoke, builtin, hrun, Result.andThen]
    rw [hr]
    have hge := grownCap_ge w n 0 e
    have hmx := grownCap_le_maxLen w n 0 e hn
    have hm0 : Mem J.w0 J.X (L ++ Rf) w.drew := hm.drawn (w.drawn + 1) (Nat.le_succ _)
    have hm1 : Mem J.w0 J.X ((Res.blk w.heap.size (Builtin.zeroCells z.cells n ++ Builtin.zeroCells z.cells (grownCap w n 0 e - n)) e :: L) ++ Rf) (w.drew.alloc (.cells (Builtin.zeroCells z.cells n ++ Builtin.zeroCells z.cells (grownCap w n 0 e - n)) e (0, 0))) := hm0.alloc _ e
    have hm2 := Mem.swap 0 hm1 rfl (Res.own enc sz e (some w.heap.size) (grownCap w n 0 e) ([] : List α)) (List.Sublist.refl _) (fun hh => by
      refine ⟨by simp, .inr ⟨w.heap.size, grownCap w n 0 e, _, rfl, Nat.zero_le _, hh, by simp, hmx, ?_, by simp⟩⟩
      rw [Array.size_append, size_zeroCells, size_zeroCells, hzs, ← Nat.add_mul]
      congr 1
      omega)
    exact ⟨Res.own enc sz e (some w.heap.size) (grownCap w n 0 e) ([] : List α) :: L, hm2, fun D _ _ Rf w' hm' => hm'.sub (List.sublist_cons_self _ _), k _ _ hge⟩
end

end Go.Proofs.Ytjmklbkcpjmcaaa.H
