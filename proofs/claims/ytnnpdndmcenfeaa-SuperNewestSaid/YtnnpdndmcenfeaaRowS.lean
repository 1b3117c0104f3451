/-
  From a walk to a row: an array's saying that came in by value.
-/
import Derived.Test.YtnnpdndmcenfeaaRow
import Derived.Test.YtnnpdndmcenfeaaSupM
import Derived.Test.YtnnpdndmcenfeaaSupQ
import Derived.Deep.Fields
import Derived.Deep.Slices
import Derived.ChangeSame
namespace Go.Proofs.Ytnnpdndmcenfeaa
open Go.ChangeShapes Go.WideShapes Go.ChangeAt Go.RowKit Go.Deep

section
variable {H : Type} {enc : TypeId × Value → H} {P : Program} {w : World} {base : Nat} {spare : Nat → Bool} {held : Bool}

/-- a slice of bytes that came in, and its capacity -/
theorem open_bytes_cap {t e : TypeId} (ht : P.underlying t = some (.slice e)) (he : P.underlying e = some (.int .u8)) (hc : P.cellsOf e = 1) {A : Option Addr} {n c : Nat} {d : DataW H} {ps : List MemPlace}
    (h : DataW.Trod enc P w base spare held t (.slice A n c) d ps) : ∃ bs : List UInt8, Rd w A bs ∧ bs.length = n ∧ n ≤ c := by
  obtain ⟨bs, h1, h2, _⟩ := open_bytes ht he hc h
  refine ⟨bs, h1, h2, ?_⟩
  obtain ⟨fuel, hf⟩ := h
  rcases open_ints ht he hc hf with ⟨hcs, hd⟩ | ⟨x, l, c', zs, hcs, _, hl, hm, hz, hd, hcell, hwz⟩
  · simp [Value.cells] at hcs
    omega
  · simp [Value.cells] at hcs
    omega

def IntF (P : Program) (fs : Array Field) : Bool := (List.range fs.size).all fun i => match fs[i]? with
  | some f => (match P.underlying f.type with | some (.int .i64) => true | _ => false)
  | none => false

theorem intF_of {fs : Array Field} (h : IntF P fs = true) (i : Nat) (f : Field) (hi : fs[i]? = some f) : P.underlying f.type = some (.int .i64) := by
  have hlt : i < fs.size := (Array.getElem?_eq_some_iff.1 hi).1
  have := List.all_eq_true.1 h i (List.mem_range.2 hlt)
  simp only [hi] at this
  split at this
  · assumption
  · cases this

theorem open_intstruct {r : Reach} {b0 : Nat} {t : TypeId} {fs : Array Field} {v : Value} {d : DataW H} {p : List MemPlace} (hs : P.underlying t = some (.struct fs)) (hone : oneCellFields P fs = true) (hint : IntF P fs = true) (hC : P.cellsOf t = fs.size)
    (hv : Value.okWide P w r b0 t v) (h : DataW.Trod enc P w base spare held t v d p) :
    ∃ zs : List Int, zs.length = fs.size ∧ v = .agg (zs.map (Value.int .i64)).toArray ∧ ∀ z ∈ zs, -9223372036854775808 ≤ z ∧ z ≤ 9223372036854775807 := by
  obtain ⟨cs, rfl, hsz⟩ := okWide_struct hs hv
  obtain ⟨fuel, hf⟩ := h
  obtain ⟨xs, n, _, hx, _, hlen, hg⟩ := DataW.trod_struct hs hf
  obtain ⟨l⟩ := cs
  have hll : l.length = fs.size := hsz.trans hC
  have key : ∀ i (hi : i < l.length), ∃ z, l[i] = .int .i64 z ∧ -9223372036854775808 ≤ z ∧ z ≤ 9223372036854775807 := by
    intro i hi
    have hfi : fs[i]? = some (fs[i]'(by omega)) := Array.getElem?_eq_getElem (by omega)
    obtain ⟨o, k⟩ := hone_of hone i _ hfi
    have h1 := hg i _ hfi
    rw [o, k] at h1
    have hxi : xs[i]? = some (xs[i]'(by omega)) := List.getElem?_eq_getElem (by omega)
    rw [hxi] at h1
    obtain ⟨z, hz, _, hw⟩ := DataW.trod_int (intF_of hint i _ hfi) h1
    refine ⟨z, ?_, bounds_i64 hw⟩
    have e : ((Value.cells (.agg ⟨l⟩)).toList.drop i).take 1 = [l[i]] := by
      show (l.drop i).take 1 = _
      rw [List.drop_eq_getElem_cons hi]
      rfl
    rw [e] at hz
    injection hz
  refine ⟨l.map fun v => match v with | .int _ z => z | _ => 0, by simp [hll], ?_, ?_⟩
  · congr 2
    apply List.ext_getElem
    · simp
    · intro i h1 h2
      obtain ⟨z, hz, _⟩ := key i h1
      simp [hz]
  · intro z hz
    simp only [List.mem_map] at hz
    obtain ⟨v, hv, rfl⟩ := hz
    obtain ⟨i, hi, rfl⟩ := List.getElem_of_mem hv
    obtain ⟨z, hz, hb⟩ := key i hi
    rw [hz]
    exact hb
end

def SupFits (s : Sup) : Prop := ∀ z ∈ [s.gen, s.members, s.disk, s.stripes, s.logs, s.spare, s.mark, s.cursor], -9223372036854775808 ≤ z ∧ z ≤ 9223372036854775807
theorem open_sup {H : Type} {enc : TypeId × Value → H} {w : World} {base : Nat} {spare : Nat → Bool} {held : Bool} {r : Reach} {b0 : Nat} {v : Value} {d : DataW H} {p : List MemPlace}
    (hv : Value.okWide Try.prog w r b0 47 v) (h : DataW.Trod enc Try.prog w base spare held 47 v d p) :
    ∃ s : Sup, v = (.agg #[.int .i64 s.gen, .int .i64 s.members, .int .i64 s.disk, .int .i64 s.stripes, .int .i64 s.logs, .int .i64 s.spare, .int .i64 s.mark, .int .i64 s.cursor]) ∧ SupFits s := by
  obtain ⟨zs, hl, rfl, hb⟩ := open_intstruct Try.underlying47 (by kernel_rfl) (by kernel_rfl) (by kernel_rfl) hv h
  match zs, hl with
  | [g, m, dd, t, l, p, k, c], _ => exact ⟨⟨g, m, dd, t, l, p, k, c⟩, rfl, hb⟩

section
variable {H : Type} {enc : TypeId × Value → H} {P : Program} {w : World} {base : Nat} {spare : Nat → Bool} {held : Bool}
/-- a slice of structs that came in (after the kit's page on structs) -/
theorem open_slice_fields {t e : TypeId} {fs : Array Field} {fuel : Nat} {cs : List Value} {x : DataW H × List MemPlace} (ht : P.underlying t = some (.slice e)) (he : P.underlying e = some (.struct fs))
    (hone : oneCellFields P fs = true) (hC : P.cellsOf e = fs.size) (h : DataW.trod enc P w base spare held fuel t cs = some x) :
    (cs = [.slice none 0 0] ∧ x = (.nil, [])) ∨
    ∃ (a : Addr) (len cap m : Nat), cs = [.slice (some a) len cap] ∧ len ≤ cap ∧ cap ≤ maxLen ∧ m = (if spare a.block then cap else len) ∧
      ∀ i, i < m → ∃ (n : Nat), ∀ (j : Nat) (f : Field), fs[j]? = some f → ∃ (v : Value) (y : DataW H × List MemPlace), w.cell? (a.add (i * fs.size + j)) = some v ∧ DataW.trod enc P w base spare held n f.type [v] = some y := by
  rcases open_slice ht h with h0 | ⟨a, len, cap, m, n, D, Pl, hcs, hb, hl, hm, hmm, hx, hi⟩
  · exact .inl h0
  · refine .inr ⟨a, len, cap, m, hcs, hl, hm, hmm, fun i him => ?_⟩
    obtain ⟨cs', hc, ht'⟩ := hi i him
    rw [hC] at hc
    obtain ⟨ys, n', hn', hy, hlen, hyl, hf⟩ := DataW.trod_struct he ht'
    obtain ⟨_, hcl, hat⟩ := World.cells?_some hc
    refine ⟨n', fun j f hj => ?_⟩
    obtain ⟨ho, hk⟩ := hone_of hone j f hj
    have hjl : j < fs.size := (Array.getElem?_eq_some_iff.1 hj).1
    have hcell := hat j hjl
    have hv : cs'[j]? = some (cs'[j]'(by omega)) := List.getElem?_eq_getElem (by omega)
    have h1 := hf j f hj
    rw [ho, hk] at h1
    have hone' : (cs'.drop j).take 1 = [cs'[j]'(by omega)] := by
      rw [List.drop_eq_getElem_cons (by omega)]
      rfl
    rw [hone'] at h1
    have hys : ys[j]? = some (ys[j]'(by omega)) := List.getElem?_eq_getElem (by omega)
    refine ⟨_, _, ?_, h1.trans hys⟩
    rw [← Go.Deep.add_add, hcell, hv]
end

def zAt (w : World) (a : Addr) (k : Nat) : Int := match w.cell? (a.add k) with | some (.int _ z) => z | _ => 0
def supAt (w : World) (a : Addr) (i : Nat) : Sup := ⟨zAt w a (i * 8 + 0), zAt w a (i * 8 + 1), zAt w a (i * 8 + 2), zAt w a (i * 8 + 3), zAt w a (i * 8 + 4), zAt w a (i * 8 + 5), zAt w a (i * 8 + 6), zAt w a (i * 8 + 7)⟩
theorem supAt_cells (w : World) (a : Addr) (i j : Nat) (hj : j < 8) : (supCells (supAt w a i))[j]? = some (.int .i64 (zAt w a (i * 8 + j))) := by
  have h8 : j = 0 ∨ j = 1 ∨ j = 2 ∨ j = 3 ∨ j = 4 ∨ j = 5 ∨ j = 6 ∨ j = 7 := by omega
  rcases h8 with rfl | rfl | rfl | rfl | rfl | rfl | rfl | rfl <;> rfl
theorem open_sups {H : Type} {enc : TypeId × Value → H} {w : World} {base : Nat} {spare : Nat → Bool} {held : Bool} {A : Option Addr} {n c : Nat} {d : DataW H} {p : List MemPlace}
    (h : DataW.Trod enc Try.prog w base spare held 57 (.slice A n c) d p) : ∃ ss : List Sup, (n ≤ 1000 → RdV w A (cellsS ss)) ∧ ss.length = n := by
  obtain ⟨fuel, hf⟩ := h
  rcases open_slice_fields Try.underlying57 Try.underlying47 (by kernel_rfl) (by kernel_rfl) hf with ⟨hcs, _⟩ | ⟨a, len, cap, m, hcs, hl, hm, hmm, hi⟩
  · simp [Value.cells] at hcs
    obtain ⟨rfl, rfl, rfl⟩ := hcs
    exact ⟨[], fun _ => RdV.nil w, rfl⟩
  · simp [Value.cells] at hcs
    obtain ⟨rfl, rfl, rfl⟩ := hcs
    have hnm : n ≤ m := by split at hmm <;> omega
    have key : ∀ i, i < n → ∀ j, j < 8 → w.cell? (a.add (i * 8 + j)) = some (.int .i64 (zAt w a (i * 8 + j))) := by
      intro i hin j hj
      obtain ⟨nf, hfj⟩ := hi i (by omega)
      have h8 : j = 0 ∨ j = 1 ∨ j = 2 ∨ j = 3 ∨ j = 4 ∨ j = 5 ∨ j = 6 ∨ j = 7 := by omega
      have fin : ∀ (f : Field), Try.prog.underlying f.type = some (.int .i64) → (∃ (v : Value) (y : DataW H × List MemPlace), w.cell? (a.add (i * 8 + j)) = some v ∧ DataW.trod enc Try.prog w base spare held nf f.type [v] = some y) → w.cell? (a.add (i * 8 + j)) = some (.int .i64 (zAt w a (i * 8 + j))) := by
        rintro f hu ⟨v, y, hcell, hy⟩
        obtain ⟨z, hz, _, _⟩ := DataW.trod_int hu hy
        injection hz with hz
        subst hz
        unfold zAt
        rw [hcell]
      rcases h8 with rfl | rfl | rfl | rfl | rfl | rfl | rfl | rfl <;> exact fin _ (by kernel_rfl) (hfj _ _ rfl)
    refine ⟨(List.range n).map (supAt w a), fun hn => ⟨by rw [cellsS_len]; simp; omega, (fun e => by cases e), fun ad e i hi => ?_⟩, by simp⟩
    injection e with e
    subst e
    rw [cellsS_len] at hi
    simp at hi
    have h1 : i / 8 < n := by omega
    have h2 : i % 8 < 8 := Nat.mod_lt _ (by omega)
    have e1 : i / 8 * 8 + i % 8 = i := by omega
    have h3 := cellsS_get ((List.range n).map (supAt w a)) (i / 8) (i % 8) (by simpa using h1) h2
    rw [e1] at h3
    have h4 : ((List.range n).map (supAt w a))[i / 8]'(by simpa using h1) = supAt w a (i / 8) := by simp
    rw [h4, supAt_cells w a _ _ h2, e1] at h3
    have h5 := key (i / 8) h1 (i % 8) h2
    rw [e1] at h5
    rw [h5]
    have h6 := List.getElem?_eq_getElem (l := cellsS ((List.range n).map (supAt w a))) (i := i) (by rw [cellsS_len]; simpa using hi)
    rw [h3] at h6
    exact h6
end Go.Proofs.Ytnnpdndmcenfeaa
