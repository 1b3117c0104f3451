/-
  THE WALK of the reference's Encode.
-/
import Derived.Test.YtibpmiapcihkfaaSupC
import Derived.Test.YtibpmiapcihkfaaOctU
import Derived.Test.YtibpmiapcihkfaaBase
import Derived.ArgAppend
namespace Go.Proofs.Ytibpmiapcihkfaa
set_option linter.all false
open Go.RowKit

theorem wpList_append_full {P : Program} {ops : Array Oper} {rest : List Oper} {o : Oper} {a : Act} {w : World} {Q : Exit → Act → World → Prop} (hgd : Region.wanted o (yielded ops a.tmps) = true) (s x : Operand) (t : TypeId)
    (ho : o.op = .call { callee := .builtin .append, args := #[s, x], argTypes := #[t, t] })
    (e : Nat) (ht : P.underlying t = some (.slice e)) (hi : (P.info? e).map (fun i => (i.zero, i.size, i.bytes)) = some (some (.int .u8 0), 1, 1))
    (b ad : Addr) (bs cs : List UInt8) (n m c : Nat) (hs : a.eval s = .slice (some b) n n) (hx : a.eval x = .slice (some ad) m c) (hrb : Rd w (some b) bs) (hn : bs.length = n) (hr : Rd w (some ad) cs) (hm : cs.length = m) (hm0 : 0 < m) (hb : bs.length + m ≤ 140737488355328)
    (h : ∀ v' w', Own w' e w.heap.size v' (bs ++ cs) → Below w.heap.size w w' → wpList P ops Q rest (a.put o.dst v') w') : wpList P ops Q (o :: rest) a w := by
  refine wpList_step fun K hK => ?_
  rw [if_pos hgd]
  subst hn hm
  obtain ⟨i0, hi0, hz0, hz1, hz2⟩ := info_parts hi
  have hcell : ∀ (ad : Addr) (bs : List UInt8), Rd w (some ad) bs → ∀ j u, (bVs bs)[j]? = some u → w.cell? (ad.add j) = some u := by
    intro ad bs hr j u hu
    have hj : j < bs.length := by
      have := (List.getElem?_eq_some_iff.1 hu).1
      simpa [bVs_len] using this
    rw [bVs_get bs j hj] at hu
    injection hu with hu
    subst hu
    exact hr.cell j hj
  obtain ⟨v', w', h1, h2, h3⟩ := run_append_arg_grows (P := P) w t o.type e i0 (.int .u8 0) 1 1 ht hi0 hz0 hz1 hz2 rfl (by omega) b bs.length bs.length (bVs bs) (by simp [bVs_len]) (hcell b bs hrb) ad cs.length c (bVs cs) (by simp [bVs_len]) (hcell ad cs hr) (by omega) (by simp only [maxLen]; omega) (by omega)
  unfold Oper.wp execOp
  simp only [ho, resolve, invoke, builtin, Sem.run_bind, Sem.run_pure, Result.andThen_ok, List.map_toArray, List.map_cons, List.map_nil, hs, hx, h1]
  refine hK _ _ (h v' w' ?_ ((Below.refl _ w).grown h3 (Nat.le_refl _) (by simp)))
  unfold Own
  rw [List.length_append, bVs_app]
  exact h2

end Go.Proofs.Ytibpmiapcihkfaa
