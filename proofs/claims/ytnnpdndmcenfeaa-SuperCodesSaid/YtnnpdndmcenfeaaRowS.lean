/-
  From a walk to a row: an array's saying that came in by value.
-/
import Derived.Test.YtnnpdndmcenfeaaRow
import Derived.Test.YtnnpdndmcenfeaaSupM
import Derived.Deep.Fields
namespace Go.Proofs.Ytnnpdndmcenfeaa
open Go.ChangeShapes Go.WideShapes Go.ChangeAt Go.RowKit Go.Deep

section
variable {H : Type} {enc : TypeId × Value → H} {P : Program} {w : World} {base : Nat} {spare : Nat → Bool} {held : Bool}

/-- a slice of bytes that came in, and its capacity -/
theorem open_bytes_cap {t e : TypeId} (ht : P.underlying t = some (.slice e)) (he : P.underlying e = some (.int .u8)) (hc : P.cellsOf e = 1) {A : Option Addr} {n c : Nat} {d : DataW H} {ps : List MemPlace}
    (h : DataW.Trod enc P w base spare held t (.slice A n c) d ps) : ∃ bs : List UInt8, Rd w A bs ∧ bs.length = n ∧ n ≤ c := by
  obtain ⟨bs, h1, h2, _⟩ := open_bytes ht he hc h
  refine ⟨bs, h1, h2, ?_⟩
  obtain ⟨fuel, hf⟩ := h
  rcases open_ints ht he hc hf with ⟨hcs, hd⟩ | ⟨x, l, c', zs, hcs, _, hl, hm, hz, hd, hcell, hwz⟩
  · simp [Value.cells] at hcs
    omega
  · simp [Value.cells] at hcs
    omega

def IntF (P : Program) (fs : Array Field) : Bool := (List.range fs.size).all fun i => match fs[i]? with
  | some f => (match P.underlying f.type with | some (.int .i64) => true | _ => false)
  | none => false

theorem intF_of {fs : Array Field} (h : IntF P fs = true) (i : Nat) (f : Field) (hi : fs[i]? = some f) : P.underlying f.type = some (.int .i64) := by
  have hlt : i < fs.size := (Array.getElem?_eq_some_iff.1 hi).1
  have := List.all_eq_true.1 h i (List.mem_range.2 hlt)
  simp only [hi] at this
  split at this
  · assumption
  · cases this

theorem open_intstruct {r : Reach} {b0 : Nat} {t : TypeId} {fs : Array Field} {v : Value} {d : DataW H} {p : List MemPlace} (hs : P.underlying t = some (.struct fs)) (hone : oneCellFields P fs = true) (hint : IntF P fs = true) (hC : P.cellsOf t = fs.size)
    (hv : Value.okWide P w r b0 t v) (h : DataW.Trod enc P w base spare held t v d p) :
    ∃ zs : List Int, zs.length = fs.size ∧ v = .agg (zs.map (Value.int .i64)).toArray ∧ ∀ z ∈ zs, -9223372036854775808 ≤ z ∧ z ≤ 9223372036854775807 := by
  obtain ⟨cs, rfl, hsz⟩ := okWide_struct hs hv
  obtain ⟨fuel, hf⟩ := h
  obtain ⟨xs, n, _, hx, _, hlen, hg⟩ := DataW.trod_struct hs hf
  obtain ⟨l⟩ := cs
  have hll : l.length = fs.size := hsz.trans hC
  have key : ∀ i (hi : i < l.length), ∃ z, l[i] = .int .i64 z ∧ -9223372036854775808 ≤ z ∧ z ≤ 9223372036854775807 := by
    intro i hi
    have hfi : fs[i]? = some (fs[i]'(by omega)) := Array.getElem?_eq_getElem (by omega)
    obtain ⟨o, k⟩ := hone_of hone i _ hfi
    have h1 := hg i _ hfi
    rw [o, k] at h1
    have hxi : xs[i]? = some (xs[i]'(by omega)) := List.getElem?_eq_getElem (by omega)
    rw [hxi] at h1
    obtain ⟨z, hz, _, hw⟩ := DataW.trod_int (intF_of hint i _ hfi) h1
    refine ⟨z, ?_, bounds_i64 hw⟩
    have e : ((Value.cells (.agg ⟨l⟩)).toList.drop i).take 1 = [l[i]] := by
      show (l.drop i).take 1 = _
      rw [List.drop_eq_getElem_cons hi]
      rfl
    rw [e] at hz
    injection hz
  refine ⟨l.map fun v => match v with | .int _ z => z | _ => 0, by simp [hll], ?_, ?_⟩
  · congr 2
    apply List.ext_getElem
    · simp
    · intro i h1 h2
      obtain ⟨z, hz, _⟩ := key i h1
      simp [hz]
  · intro z hz
    simp only [List.mem_map] at hz
    obtain ⟨v, hv, rfl⟩ := hz
    obtain ⟨i, hi, rfl⟩ := List.getElem_of_mem hv
    obtain ⟨z, hz, hb⟩ := key i hi
    rw [hz]
    exact hb
end

def SupFits (s : Sup) : Prop := ∀ z ∈ [s.gen, s.members, s.disk, s.stripes, s.logs, s.spare, s.mark, s.cursor], -9223372036854775808 ≤ z ∧ z ≤ 9223372036854775807
theorem open_sup {H : Type} {enc : TypeId × Value → H} {w : World} {base : Nat} {spare : Nat → Bool} {held : Bool} {r : Reach} {b0 : Nat} {v : Value} {d : DataW H} {p : List MemPlace}
    (hv : Value.okWide Try.prog w r b0 47 v) (h : DataW.Trod enc Try.prog w base spare held 47 v d p) :
    ∃ s : Sup, v = (.agg #[.int .i64 s.gen, .int .i64 s.members, .int .i64 s.disk, .int .i64 s.stripes, .int .i64 s.logs, .int .i64 s.spare, .int .i64 s.mark, .int .i64 s.cursor]) ∧ SupFits s := by
  obtain ⟨zs, hl, rfl, hb⟩ := open_intstruct Try.underlying47 (by kernel_rfl) (by kernel_rfl) (by kernel_rfl) hv h
  match zs, hl with
  | [g, m, dd, t, l, p, k, c], _ => exact ⟨⟨g, m, dd, t, l, p, k, c⟩, rfl, hb⟩
end Go.Proofs.Ytnnpdndmcenfeaa
