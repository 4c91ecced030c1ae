/- Tables of functions, and how a law's call is read off the evaluator. -/
import Derived.Test.YtbepkgilphbhaaaAmFn
import Derived.ProofKit
import Derived.WalkKit
import Derived.OpenShut
import Derived.Deep.Onto
namespace Go.Am
open Go

inductive FT (α : Type) where
  | lf
  | nd (k : Nat) (v : α) (l r : FT α)

def FT.get {α : Type} : FT α → Nat → Option α
  | .lf, _ => none
  | .nd k v l r, i => bif Nat.beq i k then some v else bif Nat.blt i k then l.get i else r.get i

def FT.all {α : Type} (p : Nat → α → Bool) : FT α → Bool
  | .lf => true
  | .nd k v l r => p k v && (l.all p && r.all p)

theorem FT.all_get {α : Type} {p : Nat → α → Bool} : ∀ {t : FT α} {i : Nat} {v : α}, t.all p = true → t.get i = some v → p i v = true
  | .lf, _, _, _, h => by simp [FT.get] at h
  | .nd k v l r, i, u, ha, h => by
    simp only [FT.all, Bool.and_eq_true] at ha
    simp only [FT.get, bif_beq, bif_blt] at h
    split at h
    · rename_i e; subst e; cases h; exact ha.1
    · split at h
      · exact FT.all_get ha.2.1 h
      · exact FT.all_get ha.2.2 h

variable (N : Nm) (pr : Program)

def fnMatches (id : Nat) (af : AFn) : Bool :=
  match pr.funcs[N.num id]? with
  | some fn => mFn N pr af fn
  | none => false

theorem tblOk_of {t : FT AFn} (h : t.all (fnMatches N pr) = true) : TblOk N pr t.get := fun id af hg => by
  have := FT.all_get h hg
  unfold fnMatches at this
  split at this
  · rename_i fn hf; exact ⟨fn, hf, this⟩
  · cases this

def saysTrue : Option (V × List Blk) → Bool
  | some (.p (.v (.bool b)), _) => b
  | _ => false

theorem saysTrue_of {r : Option (V × List Blk)} (h : saysTrue r = true) : ∃ m, r = some (.p (.v (.bool true)), m) := by
  unfold saysTrue at h
  split at h
  · rename_i b m; cases h; exact ⟨m, rfl⟩
  · cases h

open Go.RowKit in
/-- A closed law. -/
theorem closed_law (hmix : pr.follows .mixedOrders = true) {tbl : Nat → Option AFn} (ht : TblOk N pr tbl) {n id f : Nat} (hid : N.num id = f) (hs : saysTrue ((evalN tbl n).call id [] []) = true) (w : World) :
    Calls pr f #[] w fun e w' => e = .returned (.bool true) ∧ Grown w w' := by
  subst hid
  obtain ⟨m, h⟩ := saysTrue_of hs
  obtain ⟨_, hc⟩ := (evalN_ok N pr hmix ht n).call id [] [] _ _ h
  have hg : Good N none ⟨fun _ _ => none, [], [], w⟩ := ⟨rfl, fun b o v h => by simp at h, fun i x h => by simp at h, fun i j R s s' h => by
    rcases h with ⟨cs, h⟩ | ⟨n, k, h⟩ <;> simp at h⟩
  refine (hc ⟨fun _ _ => none, [], [], w⟩ [] hg rfl (by simp [VReps])).mono ?_
  rintro e w' ⟨c', v, rfl, rfl, _, _, ht, _, hv⟩
  simp only [VRep, Rep] at hv
  subst hv
  refine ⟨rfl, ?_⟩
  have hno : ∀ b, ¬ Owned (⟨fun _ _ => none, [], [], w⟩ : Cfg) b := by
    rintro b ⟨i, s, hl, _⟩
    rcases hl with ⟨cs, h⟩ | ⟨n, k, h⟩ <;> simp at h
  exact ⟨World.keptBut.congr (World.keptBut_refl _ _) ht.os ht.output fun k hk => ht.frame k hk (hno k), ht.fz, ht.size⟩

end Go.Am
