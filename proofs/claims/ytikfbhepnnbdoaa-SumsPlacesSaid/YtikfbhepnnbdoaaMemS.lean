/-
  The step law of append for regions that draw their order.
-/
import Derived.Test.YtikfbhepnnbdoaaMem
import Derived.Deep.AppendLies
import Derived.Deep.RegionHeld3
import Derived.RegionTactic
namespace Go.Proofs.Ytikfbhepnnbdoaa
set_option linter.all false
open Go.RowKit

theorem Own.drew {w : World} {E base : Nat} {v : Value} {bs : List UInt8} (h : Own w E base v bs) : Own w.drew E base v bs := h
theorem Own.drewN {w : World} {E base : Nat} {v : Value} {bs : List UInt8} (h : Own w E base v bs) (n : Nat) : Own (w.drewN n) E base v bs := h

theorem step_append_rd {P : Program} {ops : Array Oper} {o : Oper} {a : Act} {w : World} {K : Act → World → Prop} {Q : Exit → Act → World → Prop} {X : Prop} (hgd : Region.wanted o (yielded ops a.tmps) = true) (s x : Operand) (t : TypeId)
    (ho : o.op = .call { callee := .builtin .append, args := #[s, x], argTypes := #[t, t] })
    (base e : Nat) (ht : P.underlying t = some (.slice e)) (hi : (P.info? e).map (fun i => (i.zero, i.size, i.bytes)) = some (some (.int .u8 0), 1, 1))
    (v : Value) (bs cs : List UInt8) (A : Option Addr) (m c : Nat) (hs : a.eval s = v) (hx : a.eval x = .slice A m c) (hown : Own w e base v bs) (hr : Rd w A cs) (hm : cs.length = m) (hb : bs.length + m ≤ 140737488355328) (hbase : base ≤ w.heap.size)
    (h : ∀ v' w', Own w' e base v' (bs ++ cs) → w.grownBy w' v.ownBlock → Below base w w' → K (a.put o.dst v') w') :
    if Region.wanted o (yielded ops a.tmps) = true then Oper.wp P o a w K Q else X := by
  rw [if_pos hgd]
  exact wp_append_rd s x t ho base e ht hi v bs cs A m c hs hx hown hr hm hb hbase fun v' w' h2 h3 => h v' w' h2 h3 (hown.grow h3 hbase)

end Go.Proofs.Ytikfbhepnnbdoaa
