/- Running the machine by rewriting. -/
import Derived.Test.YtbepkgilphbhaaaAmLim
namespace Go.Am
open Go

theorem getF_nil (i : Nat) : getF [] i = .unk := rfl
theorem getF_cons (j : Nat) (x : V) (r : List (Nat × V)) (i : Nat) : getF ((j, x) :: r) i = if j = i then x else getF r i := by
  simp only [getF, bif_beq]
theorem putF_nil (i : Nat) (x : V) : putF [] i x = [(i, x)] := rfl
theorem putF_cons (j : Nat) (y : V) (r : List (Nat × V)) (i : Nat) (x : V) : putF ((j, y) :: r) i x = if i < j then (i, x) :: (j, y) :: r else if i = j then (i, x) :: r else (j, y) :: putF r i x := by
  simp only [putF, bif_beq, bif_blt]
theorem inL_nil (i : Nat) : inL i [] = false := rfl
theorem inL_cons (i j : Nat) (r : List Nat) : inL i (j :: r) = if j = i then true else inL i r := by
  simp only [inL, bif_beq]
theorem keepF_nil (k : List Nat) : keepF k [] = [] := rfl
theorem keepF_cons (k : List Nat) (j : Nat) (x : V) (r : List (Nat × V)) : keepF k ((j, x) :: r) = if inL j k = true then (j, x) :: keepF k r else keepF k r := by
  simp only [keepF]; cases inL j k <;> simp
theorem dropF_nil (k : List Nat) : dropF k [] = [] := rfl
theorem dropF_cons (k : List Nat) (j : Nat) (x : V) (r : List (Nat × V)) : dropF k ((j, x) :: r) = if inL j k = true then dropF k r else (j, x) :: dropF k r := by
  simp only [dropF]; cases inL j k <;> simp
theorem put_mk (n : Nat) (l : List (Nat × V)) (i : Nat) (x : V) : Fr.put ⟨n, l⟩ i x = if i < n then ⟨n, putF l i x⟩ else ⟨n, l⟩ := by
  simp only [Fr.put, bif_blt]
theorem drop_nil (fr : Fr) : fr.drop [] = fr := rfl
theorem drop_cons (fr : Fr) (k : Nat) (r : List Nat) : fr.drop (k :: r) = ⟨fr.n, dropF (k :: r) fr.l⟩ := rfl

theorem wrap64 {n : Int} (h1 : -9223372036854775808 ≤ n) (h2 : n ≤ 9223372036854775807) : IntKind.wrap .i64 n = n := by
  simp only [IntKind.wrap, IntKind.bits, IntKind.signed]
  have : (n + 9223372036854775808) % 18446744073709551616 = n + 9223372036854775808 := Int.emod_eq_of_lt (by omega) (by omega)
  simp
  omega


mutual
theorem ren_noids {ρ : Nat → Option Nat} : ∀ (x : V), x.ids = [] → x.ren ρ = some x
  | .p _, _ => rfl
  | .nil _, _ => rfl
  | .sl _ _ _, h => by simp [V.ids] at h
  | .ref _ _ _ _, h => by simp [V.ids] at h
  | .ptr _ _, h => by simp [V.ids] at h
  | .agg cs, h => by simp only [V.ids] at h; simp only [V.ren, rens_noids cs h, Option.map_some]
  | .fn _ cs, h => by simp only [V.ids] at h; simp only [V.ren, rens_noids cs h, Option.map_some]
  | .iface _ x, h => by simp only [V.ids] at h; simp only [V.ren, ren_noids x h, Option.map_some]
  | .tuple cs, h => by simp only [V.ids] at h; simp only [V.ren, rens_noids cs h, Option.map_some]
  | .yield, _ => rfl
  | .unk, _ => rfl
theorem rens_noids {ρ : Nat → Option Nat} : ∀ (xs : List V), idss xs = [] → rens ρ xs = some xs
  | [], _ => rfl
  | x :: r, h => by
    simp only [idss, List.append_eq_nil_iff] at h
    simp only [rens, ren_noids x h.1, rens_noids r h.2]
end

theorem mapF_some : ∀ (l : List (Nat × V)) (f : V → Option V), (∀ x ∈ l.map (·.2), f x = some x) → mapF f l = some l
  | [], _, _ => rfl
  | (j, x) :: r, f, h => by
    simp only [List.map_cons, List.mem_cons, forall_eq_or_imp] at h
    simp only [mapF, h.1, mapF_some r f h.2]

theorem idss_mem : ∀ {xs : List V}, idss xs = [] → ∀ x ∈ xs, x.ids = []
  | y :: r, h, x, hx => by
    simp only [idss, List.append_eq_nil_iff] at h
    rcases List.mem_cons.1 hx with rfl | hx
    · exact h.1
    · exact idss_mem h.2 x hx

/-- Values that name no block: all memory goes. -/
theorem gc_clean (n : Nat) (l : List (Nat × V)) (mem : List Blk) (h : idss (l.map (·.2)) = []) : gc 0 ⟨⟨n, l⟩, mem⟩ = some ⟨⟨n, l⟩, []⟩ := by
  have h1 : gcIdx 0 (Fr.vals ⟨n, l⟩) mem = some [] := by
    simp only [gcIdx, Fr.vals, h, List.range_zero, List.filter_nil, List.append_nil, reach, RM.run, Option.map_some, List.reverse_nil]
  simp only [gc, h1, Fr.map?]
  rw [mapF_some l _ fun x hx => ren_noids x (idss_mem h x hx)]
  simp [renBlks, nd]

theorem idss_p : ∀ (l : List P), idss (l.map V.p) = []
  | [] => rfl
  | x :: r => by simp only [List.map_cons, idss, V.ids, List.nil_append, idss_p r]
theorem noYs_p : ∀ (l : List P), noYs (l.map V.p) = true
  | [] => rfl
  | x :: r => by simp only [List.map_cons, noYs, V.noY, Bool.true_and, noYs_p r]
theorem toPs_p : ∀ (l : List P), toPs (l.map V.p) = some l
  | [] => rfl
  | x :: r => by simp only [List.map_cons, toPs, V.toP, toPs_p r]
theorem rens_p (ρ : Nat → Option Nat) (l : List P) : rens ρ (l.map V.p) = some (l.map V.p) := rens_noids _ (idss_p l)

theorem toPs_noids : ∀ {xs : List V} {ps : List P}, toPs xs = some ps → True := fun _ => trivial

/-- Whole numbers. -/
abbrev Pi (n : Int) : P := .v (.int .i64 n)
abbrev Vi (n : Int) : V := .p (.v (.int .i64 n))
abbrev Pb (b : Bool) : P := .v (.bool b)
abbrev Vb (b : Bool) : V := .p (.v (.bool b))
/-- A slice of whole numbers, as data. -/
abbrev Pl (l : List Int) : P := .sl 0 (l.map Pi)
abbrev Vl (l : List Int) : V := .p (.sl 0 (l.map Pi))

/-- A function that says something at arguments that are data, and leaves nothing behind. -/
def Says (T : Nat → Option AFn) (id : Nat) (args : List V) (r : P) : Prop := (EL T).call id args [] = some (.p r, [])

end Go.Am
