/-
  slices.Sort and slices.DeleteFunc at a row of the call's own, out of the shelf's contracts.
-/
import Derived.Test.YtciiihiklobkaaaSl
import Derived.Test.YtciiihiklobkaaaShelf
import Derived.Sort.OwnSortedInts
namespace Go.Proofs.Ytciiihiklobkaaa
open Go.RowKit Go.Lib Go.Sort Go.Shelf
set_option linter.unusedVariables false
set_option linter.unusedSimpArgs false

def sortI (xs : List Int) : List Int := xs.mergeSort fun x y => decide (x ≤ y)
theorem sortI_length (xs : List Int) : (sortI xs).length = xs.length := List.length_mergeSort _

theorem own_prefix {w : World} {base g n cap k : Nat} {xs : List Value} {e : TypeId} (h : w.ownsRow base e 1 (.slice (some ⟨g, 0, none⟩) n cap) n xs) (hk : k ≤ n) :
    w.ownsRow base e 1 (.slice (some ⟨g, 0, none⟩) k cap) k (xs.take k) := by
  rcases h.2 with ⟨h0, _⟩ | ⟨g', cap', cur, hv, hb, hg, hn, hc, hs, ht⟩
  · cases h0
  · cases hv
    refine ⟨by rw [List.length_take, h.1]; omega, .inr ⟨g, cap, cur, rfl, hb, hg, by omega, hc, hs, ?_⟩⟩
    rw [← ht, List.take_take]
    congr 1
    omega

theorem Sort_calls {base n : Nat} {v : Value} {xs : List Int} {w : World} (hown : w.ownsRow base 3 1 v n (ints xs)) (h0 : 0 < n) (hsz : n < 4611686018427387904) :
    Calls Try.prog 43 #[v] w fun e w' => e = .returned (.tuple #[]) ∧ w'.ownsRow base 3 1 v n (ints (sortI xs)) ∧ w.grownBy w' v.ownBlock := by
  have hl : xs.length = n := by have := hown.1; simp [ints] at this; exact this
  subst hl
  rcases hown.2 with ⟨rfl, he⟩ | ⟨g, cap, cur, rfl, hb, hg, hn, hc, hs, ht⟩
  · omega
  · rw [Nat.mul_one] at ht
    refine (Any.slices_Sort_int Try.lays189 g 0 cap xs w (holds_of_blockI hg ht) (Array.getElem?_eq_some_iff.1 hg).1 hsz).mono ?_
    rintro e w' ⟨rfl, m, os, rfl⟩
    exact ⟨rfl, ownsRow_sortedI (ts := sortI xs) (sortI_length xs) hb hg hn hc hs, grownBy_sortedI _⟩

theorem DeleteFunc_calls {base n : Nat} {v : Value} {xs : List Int} {w : World} (hown : w.ownsRow base 3 1 v n (ints xs)) (hbase : base ≤ w.heap.size) (h0 : 0 < n) (p : Int → Bool) (f : Nat) (lb : Array Value)
    (eg : ∀ args w, (callFunc f args).run Try.prog w = .ok (.enter f args) w) (hp : ∀ W x, Below base w W → FnGives Try.prog f lb #[.int .i64 x] (.bool (p x)) W) :
    Calls Try.prog 28 #[v, .func (.func f) #[] lb] w fun e w' => ∃ v', e = .returned v' ∧ w'.ownsRow base 3 1 v' (xs.filter fun x => !p x).length (ints (xs.filter fun x => !p x)) ∧ Below base w w' := by
  have hl : xs.length = n := by have := hown.1; simp [ints] at this; exact this
  subst hl
  rcases hown.2 with ⟨rfl, he⟩ | ⟨g, cap, cur, rfl, hb, hg, hn, hc, hs, ht⟩
  · omega
  · rw [Nat.mul_one] at ht
    have hlt := (Array.getElem?_eq_some_iff.1 hg).1
    have hcon := AnyE.slices_DeleteFunc (P := Try.prog) Try.l28 (Value.int .i64) (fun _ => rfl) p f lb eg 0 Try.zeroValue3 g 0 cap xs.toArray w
      (fun W x hW => hp W x (hW.mono hbase))
      (fun m os dk x hdk => hp _ x (by
        refine ⟨rfl, rfl, rfl, by simp [sortWorld], fun k hk => ?_⟩
        unfold sortWorld
        rw [heap_grow_old _ _ (by simp; omega)]
        have : g ≠ k := by omega
        simp [putRow, mapBlock, Sort.ahead, Array.getElem?_modify, this]))
      (holds_of_blockI hg ht) (by simp only [List.size_toArray]; simp only [maxLen] at hc; omega) (by simpa using hn)
    refine hcon.mono ?_
    rintro e w' ⟨rfl, q, rfl⟩
    simp only [List.size_toArray]
    have hfl : (xs.filter fun x => !p x).length ≤ xs.length := List.length_filter_le _ _
    have hown2 := ownsRow_sortedI (w := w) (base := base) (g := g) (n := q) (os := #[]) (ss := xs) (ts := (xs.filter fun x => !p x) ++ List.replicate (xs.length - (xs.filter fun x => !p x).length) 0) (by simp; omega) hb hg hn hc hs
    rw [grow_empty] at hown2
    have hpre := own_prefix hown2 hfl
    refine ⟨_, rfl, ?_, ?_⟩
    · rw [List.map_append, List.take_left' (by simp)] at hpre
      exact hpre
    · have hgr := grownBy_sortedI (w := w) (g := g) (n := q) (os := #[]) ((xs.filter fun x => !p x) ++ List.replicate (xs.length - (xs.filter fun x => !p x).length) 0).toArray
      rw [grow_empty] at hgr
      exact (Below.refl base w).grown hgr hbase (fun k hk => by cases hk; exact hb)
end Go.Proofs.Ytciiihiklobkaaa
