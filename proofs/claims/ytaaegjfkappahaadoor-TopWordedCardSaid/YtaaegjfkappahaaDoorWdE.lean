/-
  Two rows of places are equal; word.Do on the word of h and n.
-/
import Derived.Test.YtaaegjfkappahaaDoorWdD
namespace Go.Proofs.YtaaegjfkappahaaDoor
open Go.RowKit Go.Shelf Go.Lib
set_option linter.unusedVariables false
set_option linter.unusedSimpArgs false

theorem allEq_same : ∀ xs : List Int, Lib.allEq (fun x y => x == y) xs xs = true
  | [] => rfl
  | x :: xs => by unfold Lib.allEq; rw [allEq_same xs]; simp
theorem Equal_calls (A B : Option Addr) (n c d h : Nat) (w : World) (hA : RU w A n h) (hB : RU w B n h) (hn : n ≤ 64) :
    Calls Tryd.prog 29 #[.slice A n c, .slice B n d] w fun e w' => e = .returned (.bool true) ∧ ∃ q, w' = w.drewN q := by
  by_cases h0 : 0 < n
  · obtain ⟨b1, o1, rfl, c1⟩ := hA.some h0
    obtain ⟨b2, o2, rfl, c2⟩ := hB.some h0
    have hl : ((List.range n).map (pl h)).length = n := by simp
    have hg : ∀ j, j < ((List.range n).map (pl h)).length → ((List.range n).map (pl h))[j]! = pl h j := fun j hj => by
      rw [getElem!_pos _ j hj]; simp
    refine (Tryd.slices_Equal_f29 (Value.int .u32) (fun x y => x == y) (NeqAt.int Tryd.prog 22 .u32) b1 o1 n c b2 o2 n d ((List.range n).map (pl h)) ((List.range n).map (pl h)) w (by omega) (by omega) (by omega) (by omega) (fun j hj => by rw [hg j hj]; exact c1 j (by omega)) (fun j hj => by rw [hg j hj]; exact c2 j (by omega))).mono ?_
    rintro e w' ⟨rfl, q, rfl⟩
    exact ⟨ret_bool (allEq_same _), q, rfl⟩
  · obtain rfl : n = 0 := by omega
    go_enter Tryd.func29, Tryd.ntmps29
    go_wp2
    go_loopw [5, 13] (fun v5 v13 wr => v13 = .int .i64 0 ∧ wr = w) (fun _ _ _ => 0)
    case atStart => exact ⟨rfl, rfl⟩
    case round =>
      obtain ⟨rfl, rfl⟩ := hrel
      go_wp2
      go_ret
      exact ⟨rfl, 0, rfl⟩

theorem size22 (w : World) : (Go.sizeOf 22).run Tryd.prog w = .ok 1 w := by kernel_rfl
def Cloned (w : World) (h n : Nat) (e : Ending) (w' : World) : Prop := ∃ v', e = .returned v' ∧ w'.ownsRow w.heap.size 22 1 v' n (plv h n) ∧ Below w.heap.size w w'
set_option maxRecDepth 100000 in
theorem Clone_calls (A : Option Addr) (n c h : Nat) (w : World) (hA : RU w A n h) (hn : n ≤ 64) : Calls Tryd.prog 24 #[.slice A n c] w (Cloned w h n) := by
  obtain ⟨i0, hi, hz0, hz1, hz2⟩ := info_parts info22
  obtain ⟨b, o, ⟨rfl, rfl⟩ | rfl, hc⟩ := hA
  · refine (Tryd.slices_Clone_nil_f24 0 c w).mono ?_
    rintro e w' ⟨rfl, rfl⟩
    exact ⟨_, rfl, World.ownsRow_nil _ _ _ _, Below.refl _ _⟩
  · refine (Tryd.slices_Clone_f24 i0 (.int .u32 0) 1 4 hi hz0 hz1 hz2 rfl (by decide) size22 b o n c (plv h n) w (by rw [plv_length]; omega) (by unfold maxLen; omega) (by omega) (fun j u hj => ?_) (plv_one h n)).mono ?_
    · have hj' : j < n := by
        have := (List.getElem?_eq_some_iff.1 hj).1
        rwa [plv_length] at this
      rw [plv_at hj'] at hj
      injection hj with hj
      subst hj
      exact hc j hj'
    · rintro e w' ⟨v', rfl, ho, _, hb⟩
      exact ⟨v', rfl, ho, hb⟩
theorem elem25 : Tryd.prog.underlying 25 = some (.slice (Tryd.prog.elem 25)) := by kernel_rfl
theorem elem25_22 : Tryd.prog.elem 25 = 22 := by kernel_rfl
/-- The address of a part. -/
def adv (A : Option Addr) (c lo : Nat) : Option Addr := if c = lo then A else A.map (·.add lo)
theorem RU.part {w : World} {A : Option Addr} {n h c lo hi : Nat} (hr : RU w A n h) (h1 : lo ≤ hi) (h2 : hi ≤ n) (h3 : n ≤ c) : RU w (adv A c lo) (hi - lo) (h + lo) := by
  obtain ⟨b, o, ha, hc⟩ := hr
  unfold adv
  by_cases hcl : c = lo
  · rw [if_pos hcl]
    refine ⟨b, o, ?_, fun j hj => absurd hj (by omega)⟩
    rcases ha with ⟨rfl, rfl⟩ | rfl
    · exact .inl ⟨rfl, by omega⟩
    · exact .inr rfl
  · rw [if_neg hcl]
    refine ⟨b, o + lo, ?_, fun j hj => ?_⟩
    · rcases ha with ⟨rfl, rfl⟩ | rfl
      · exact .inl ⟨rfl, by omega⟩
      · right
        simp only [Option.map_some, Addr.add]
        split
        · rename_i h0; subst h0; rfl
        · rfl
    · have := hc (lo + j) (by omega)
      rw [pl_shift, ← Nat.add_assoc] at this
      exact this
theorem slice_lh (A : Option Addr) (n c lo hi d : Nat) (h1 : lo ≤ hi) (h2 : hi ≤ n) (h3 : n ≤ c) (hd : hi - lo = d) (w : World) :
    (Instr.sliceAt 25 (.slice A n c) (some (.int .i64 lo)) (some (.int .i64 hi)) none).run Tryd.prog w = .ok (.slice (adv A c lo) d (c - lo)) w := by
  rw [run_sliceAt_slice w 25 _ _ _ _ elem25, run_slice_lh w 25 A n c elem25 .i64 .i64 lo hi (by omega) (by omega) (by omega), elem25_22, size22]
  simp only [Result.andThen, sliced, Int.toNat_natCast, Nat.mul_one, hd, adv]
theorem slice_l (A : Option Addr) (n c lo d : Nat) (h1 : lo ≤ n) (hd : n - lo = d) (w : World) :
    (Instr.sliceAt 25 (.slice A n c) (some (.int .i64 lo)) none none).run Tryd.prog w = .ok (.slice (adv A c lo) d (c - lo)) w := by
  rw [run_sliceAt_slice w 25 _ _ _ _ elem25, run_slice_l w 25 A n c elem25 .i64 lo (by omega) (by omega), elem25_22, size22]
  simp only [Result.andThen, sliced, Int.toNat_natCast, Nat.mul_one, hd, adv]
theorem slice_h (A : Option Addr) (n c hi : Nat) (h1 : hi ≤ c) (w : World) :
    (Instr.sliceAt 25 (.slice A n c) none (some (.int .i64 hi)) none).run Tryd.prog w = .ok (.slice A hi c) w := by
  rw [run_sliceAt_slice w 25 _ _ _ _ elem25, run_slice_h w 25 A n c elem25 .i64 hi (by omega) (by omega), elem25_22, size22]
  simp only [Result.andThen, sliced, Int.toNat_natCast, Nat.zero_mul, Nat.sub_zero]
  by_cases h0 : c = 0
  · rw [if_pos h0]
  · rw [if_neg h0]
    cases A <;> rfl
def stepH (k n h : Nat) : Nat := if k = 1 then h + min 1 n else if k = 2 then h + (n - n / 2) else h
def stepN (k q n : Nat) : Nat := if k = 1 then n - min 1 n else if k = 2 then n / 2 else if k = 3 then (if n < q then n + 1 else n) else if k = 4 then (if q ≤ n then n - q / 2 else n) else n
theorem stepN_le {k q n : Nat} (h : n ≤ q) : stepN k q n ≤ q := by
  unfold stepN
  by_cases h1 : k = 1
  · rw [if_pos h1]; omega
  rw [if_neg h1]
  by_cases h2 : k = 2
  · rw [if_pos h2]; omega
  rw [if_neg h2]
  by_cases h3 : k = 3
  · rw [if_pos h3]
    by_cases h4 : n < q
    · rw [if_pos h4]; omega
    · rw [if_neg h4]; omega
  rw [if_neg h3]
  by_cases h5 : k = 4
  · rw [if_pos h5]
    by_cases h4 : q ≤ n
    · rw [if_pos h4]; omega
    · rw [if_neg h4]; omega
  rw [if_neg h5]
  exact h
theorem pl_adv (h d : Nat) : (pl h 0 + (d : Int)) % 4294967296 = pl (h + d) 0 := by unfold pl; omega
theorem pl_eq {h i g j : Nat} (e : h + i = g + j) : pl h i = pl g j := by unfold pl; rw [e]
theorem pl_sub (h n d : Nat) (hd : d ≤ n) : (pl h n - (d : Int)) % 4294967296 = pl h (n - d) := by unfold pl; omega
theorem mod_add (x d : Int) : (x + d) % 4294967296 = (x % 4294967296 + d) % 4294967296 := by omega
theorem mod_sub (x d : Int) : (x - d) % 4294967296 = (x % 4294967296 - d) % 4294967296 := by omega
theorem step1 (h n q : Nat) : pk (stepH 1 n h) (stepN 1 q n) = if (0 : Int) < (n : Int) then (pk h n / 4294967296 + 1) % 4294967296 * 4294967296 + pk h n % 4294967296 else pk h n := by
  by_cases h0 : 0 < n
  · rw [if_pos (by omega), pk_head, pk_tail, show stepH 1 n h = h + 1 from by simp [stepH]; omega, show stepN 1 q n = n - 1 from by simp [stepN]; omega]
    rw [show pl h 0 + (1 : Int) = pl h 0 + ((1 : Nat) : Int) from rfl, pl_adv, show pl h n = pl (h + 1) (n - 1) from pl_eq (by omega)]
    rfl
  · obtain rfl : n = 0 := by omega
    rw [if_neg (by omega)]
    rfl
theorem step2 (h n q : Nat) : pk (stepH 2 n h) (stepN 2 q n) = if (0 : Int) < (n : Int) then (pk h n / 4294967296 + ((n : Int) - (n : Int) / 2)) % 4294967296 * 4294967296 + pk h n % 4294967296 else pk h n := by
  by_cases h0 : 0 < n
  · rw [if_pos (by omega), pk_head, pk_tail, show stepH 2 n h = h + (n - n / 2) from by simp [stepH], show stepN 2 q n = n / 2 from by simp [stepN]]
    rw [show ((n : Int) - (n : Int) / 2) = ((n - n / 2 : Nat) : Int) from by omega, pl_adv, show pl h n = pl (h + (n - n / 2)) (n / 2) from pl_eq (by omega)]
    rfl
  · obtain rfl : n = 0 := by omega
    rw [if_neg (by omega)]
    rfl
theorem step3 (h n q : Nat) : pk (stepH 3 n h) (stepN 3 q n) = if (n : Int) < (q : Int) then pk h n / 4294967296 * 4294967296 + (pk h n + 1) % 4294967296 else pk h n := by
  by_cases h0 : n < q
  · rw [if_pos (by omega), mod_add, pk_head, pk_tail, pl_next, show stepH 3 n h = h from by simp [stepH], show stepN 3 q n = n + 1 from by simp [stepN, h0]]
    rfl
  · rw [if_neg (by omega), show stepH 3 n h = h from by simp [stepH], show stepN 3 q n = n from by simp [stepN, h0]]
theorem step4 (h n q : Nat) : pk (stepH 4 n h) (stepN 4 q n) = if (q : Int) ≤ (n : Int) then pk h n / 4294967296 * 4294967296 + (pk h n - (q : Int) / 2) % 4294967296 else pk h n := by
  by_cases h0 : q ≤ n
  · rw [if_pos (by omega), mod_sub, pk_head, pk_tail, show ((q : Int) / 2) = ((q / 2 : Nat) : Int) from by omega, pl_sub _ _ _ (by omega), show stepH 4 n h = h from by simp [stepH], show stepN 4 q n = n - q / 2 from by simp [stepN, h0]]
    rfl
  · rw [if_neg (by omega), show stepH 4 n h = h from by simp [stepH], show stepN 4 q n = n from by simp [stepN, h0]]
def Did (w : World) (R : Int) (e : Ending) (w' : World) : Prop := e = .returned (.int .u64 R) ∧ Below w.heap.size w w'
set_option maxHeartbeats 1600000 in
set_option maxRecDepth 100000 in
theorem DoSkip_calls (X q k : Int) (w : World) (g c : Nat) (hk : k = 0 ∨ k = 5) (h : isRoom q) (hc : w.cell? ⟨g, 0, none⟩ = some (.int .i64 k)) :
    Calls Tryd.prog 25 #[.int .u64 X, .int .i64 q, .slice (some ⟨g, 0, none⟩) 1 c] w (Did w X) := by
  have H := Lib.hid h
  have HC := Lib.hid hc
  clear h hc
  rcases hk with rfl | rfl
  all_goals
    go_enter Tryd.func25, Tryd.ntmps25
    go_wp2_with (go_at_call 59; refine (Room_calls q _ H.out).mono ?_; rintro e w' ⟨rfl, rfl⟩)
    go_loopg [0, 8, 9, 16] 1 (fun gh v0 v8 v9 v16 wr => wr = w ∧ v0 = .int .u64 X ∧ ((gh = 1 ∧ v16 = .int .i64 0) ∨ (gh = 0 ∧ v16 = .int .i64 1)))
    case atStart => exact ⟨rfl, rfl, .inl ⟨rfl, rfl⟩⟩
    case round =>
      obtain ⟨rfl, rfl, ⟨rfl, rfl⟩ | ⟨rfl, rfl⟩⟩ := hrel
      · have hc := HC.out
        go_wp2
        go_roundg 0
        case measure => omega
        case rel => exact ⟨rfl, rfl, .inr ⟨rfl, by go_num⟩⟩
      · go_wp2
        go_ret
        exact ⟨rfl, Below.refl _ _⟩
theorem Do_calls (h n q k g c : Nat) (w : World) (hq : isRoom (q : Int)) (hn : n ≤ q) (hk : k < 6) (hc : w.cell? ⟨g, 0, none⟩ = some (.int .i64 (k : Int))) :
    Calls Tryd.prog 25 #[.int .u64 (pk h n), .int .i64 q, .slice (some ⟨g, 0, none⟩) 1 c] w (Did w (pk (stepH k n h) (stepN k q n))) := by
  have hq2 : q ≤ 64 := by unfold isRoom at hq; omega
  have hb := pk_bd h n
  have hl := pk_len h n (by omega)
  rcases (by omega : k = 0 ∨ k = 1 ∨ k = 2 ∨ k = 3 ∨ k = 4 ∨ k = 5) with rfl | rfl | rfl | rfl | rfl | rfl
  · exact DoSkip_calls (pk h n) q _ w g c (.inl rfl) hq hc
  · exact Do1_calls (pk h n) n q _ w g c hb.1 hb.2 hl hq hc (step1 h n q)
  · exact Do2_calls (pk h n) n q _ w g c hb.1 hb.2 hl hq hc (step2 h n q)
  · exact Do3_calls (pk h n) n q _ w g c hb.1 hb.2 hl hq hc (step3 h n q)
  · exact Do4_calls (pk h n) n q _ w g c hb.1 hb.2 hl hq hc (step4 h n q)
  · exact DoSkip_calls (pk h n) q _ w g c (.inr rfl) hq hc
/-- The texts that are compared. -/
structure Texts (X h t : Int) (S0 S1 : ByteArray) : Prop where
  z0 : S0.size ≤ 20
  z1 : S1.size ≤ 20
  all : ∀ w : World, Lib.TabBelow Tryd.prog w.heap.size w "internal/strconv.uint64pow10" .u64 Lib.pow10Tab → Calls Tryd.prog 32 #[.int .u64 X] w fun e w' => e = .returned (.string (S0 ++ ⟨#[46, 46]⟩ ++ S1)) ∧ Below w.heap.size w w'
  one : ∀ w : World, Lib.TabBelow Tryd.prog w.heap.size w "internal/strconv.uint64pow10" .u64 Lib.pow10Tab → Calls Tryd.prog 33 #[.int .u64 h, .int .i64 10] w fun e w' => e = .returned (.string S0) ∧ Below w.heap.size w w'
  two : ∀ w : World, Lib.TabBelow Tryd.prog w.heap.size w "internal/strconv.uint64pow10" .u64 Lib.pow10Tab → Calls Tryd.prog 33 #[.int .u64 t, .int .i64 10] w fun e w' => e = .returned (.string S1) ∧ Below w.heap.size w w'
theorem size_dec (u : Nat) (hu : u < 18446744073709551616) : (⟨(Lib.decDigits u).toArray⟩ : ByteArray).size ≤ 20 := by
  have := dec_len u hu
  simpa [ByteArray.size] using this
theorem texts_of (H n : Nat) : ∃ S0 S1, Texts (pk H n) (pl H 0) (pl H n) S0 S1 := by
  have h0 : (H + 0) % 4294967296 < 4294967296 := Nat.mod_lt _ (by omega)
  have h1 : (H + n) % 4294967296 < 4294967296 := Nat.mod_lt _ (by omega)
  exact ⟨⟨(Lib.decDigits ((H + 0) % 4294967296)).toArray⟩, ⟨(Lib.decDigits ((H + n) % 4294967296)).toArray⟩, size_dec _ (by omega), size_dec _ (by omega),
    fun w ht => Text_calls (pk H n) _ _ h0 h1 rfl w ht, fun w ht => FormatUint_calls _ (by omega) w ht, fun w ht => FormatUint_calls _ (by omega) w ht⟩
theorem HasT_calls (H n : Nat) (hn : n < 4294967296) (w : World) : Calls Tryd.prog 34 #[.int .u64 (pk H n), .int .u32 (pl H n)] w fun e w' => e = .returned (.bool false) ∧ w = w' := by
  have hb := pk_bd H n
  have hp := pl_bd H n
  refine (Has_calls _ _ w hb.1 hb.2 hp.1 hp.2).mono fun e w' hh => ⟨hh.1.trans (ret_bool ?_), hh.2⟩
  have := pk_len H n hn
  rw [pk_tail, pk_head] at *
  exact decide_eq_false (by omega)
theorem HasI_calls (H n i : Nat) (hn : n < 4294967296) (hi : i < n) (w : World) : Calls Tryd.prog 34 #[.int .u64 (pk H n), .int .u32 (pl H i)] w fun e w' => e = .returned (.bool true) ∧ w = w' := by
  have hb := pk_bd H n
  have hp := pl_bd H i
  refine (Has_calls _ _ w hb.1 hb.2 hp.1 hp.2).mono fun e w' hh => ⟨hh.1.trans (ret_bool ?_), hh.2⟩
  have := pk_len H n hn
  rw [pk_tail, pk_head] at *
  exact decide_eq_true (by rw [← this]; unfold pl; omega)
end Go.Proofs.YtaaegjfkappahaaDoor
