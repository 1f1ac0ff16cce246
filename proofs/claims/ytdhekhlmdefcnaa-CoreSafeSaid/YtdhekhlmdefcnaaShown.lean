/- The walk over 'shown'. -/
import Derived.Test.YtdhekhlmdefcnaaStep
namespace Go.Proofs.Ytdhekhlmdefcnaa
open Go.RowKit
theorem has_type {w : World} {g : Nat} {t t' : TypeId} {cs cs' : Array Value} (h : Has w g t cs) (h' : Has w g t' cs') : t = t' := by
  unfold Has at h h'
  rw [h] at h'
  injection h' with h'
  injection h' with _ ht
/-- A core stays while one block of another kind is turned. -/
theorem CoreAt.keep {w w' : World} {g : Nat} {L : Lay} (h : CoreAt w g L) {B : Nat} {t : TypeId} {cs : Array Value} (hB : Has w B t cs) (h1 : t ≠ 46) (h2 : t ≠ 3)
    (hk : ∀ b, b ≠ B → w'.heap[b]? = w.heap[b]?) : CoreAt w' g L := by
  obtain ⟨vr, vc, k1, k2, k3⟩ := h
  exact ⟨vr, vc, (hk g (by rintro rfl; exact h1 (has_type hB k1))).trans k1, own_keep k2 fun b cs' _ hh => hk b (by rintro rfl; exact h2 (has_type hB hh)),
    own_keep k3 fun b cs' _ hh => hk b (by rintro rfl; exact h2 (has_type hB hh))⟩
def shL : Lay := ⟨2, [3], 1⟩
theorem shOk : shL.Ok := ⟨by decide, by decide, by decide, by decide, by decide, by decide, by decide, by decide⟩
def shC : Nat → Int
  | 0 => 3 | 1 => 2 | 2 => 1 | _ => 3
def shS : Nat → St
  | 0 => St.zero
  | k + 1 => (step shL (shC k) 1 (shS k)).1
def shO : Nat → Nat
  | 0 => 0
  | k + 1 => shO k * 2 + (step shL (shC k) 1 (shS k)).2
theorem shO4 : shO 4 = 9 := by decide +kernel
theorem shO_small : ∀ k, k < 5 → shO k ≤ 9 := by decide +kernel
theorem shO_bit : ∀ k, k < 4 → (step shL (shC k) 1 (shS k)).2 ≤ 9 := by decide +kernel
def fitsB (s : St) (M : Nat) : Bool := decide (s.set < 256) && decide (s.used.length = 8) && decide (s.idle.length = 8) && s.used.all (fun x => decide (x < 4096)) && s.idle.all (fun x => decide (x ≤ M))
theorem fits_of_B {s : St} {M : Nat} (h : fitsB s M = true) : s.Fits M := by
  simp only [fitsB, Bool.and_eq_true, decide_eq_true_eq, List.all_eq_true] at h
  obtain ⟨⟨⟨⟨h1, h2⟩, h3⟩, h4⟩, h5⟩ := h
  exact ⟨h1, h2, h3, h4, h5⟩
theorem shS_fits (k : Nat) (h : k < 4) : (shS k).Fits 10 := fits_of_B ((by decide +kernel : ∀ k, k < 4 → fitsB (shS k) 10 = true) k h)
theorem shIdx (k : Nat) (h : k < 4) : ∀ w, (Instr.index 41 (.agg #[I 3, I 2, I 1, I 3]) (I k)).run Try.prog w = .ok (I (shC k)) w := by
  have : k = 0 ∨ k = 1 ∨ k = 2 ∨ k = 3 := by omega
  rcases this with rfl | rfl | rfl | rfl <;> exact fun _ => by kernel_rfl
set_option maxHeartbeats 4000000 in
set_option maxRecDepth 100000 in
theorem shown_any (w : World) : Calls Try.prog 4 #[] w fun e w' => e = .returned (.bool true) ∧ Below w.heap.size w w' := by
  go_enter Try.func4, Try.ntmps4
  go_wp2_with (go_at_call 6; refine (new_ok (some ⟨w.heap.size, 0, none⟩) 1 1 shL _ shOk (Lib.hid rfl) (Nat.le_refl _) ((Reads.of_has (Has.new w 3 #[I 3]) (by simp)))).mono ?_; rintro e w1 ⟨⟨g, hg, rfl, hc⟩, hb⟩)
  have kz : Has (w1.alloc (.cells #[I 0, I 0, I 0, I 0, I 0, I 0, I 0, I 0, I 0, I 0, I 0, I 0, I 0, I 0, I 0, I 0, I 0] 35)) w1.heap.size 35 (stC St.zero) := Has.new _ _ _
  have hcz := hc.after (Below.alloc (Below.refl _ _) (Nat.le_refl _) (.cells #[I 0, I 0, I 0, I 0, I 0, I 0, I 0, I 0, I 0, I 0, I 0, I 0, I 0, I 0, I 0, I 0, I 0] 35))
  have hbz : Below w.heap.size w (w1.alloc (.cells #[I 0, I 0, I 0, I 0, I 0, I 0, I 0, I 0, I 0, I 0, I 0, I 0, I 0, I 0, I 0, I 0, I 0] 35)) :=
    (((Below.refl _ _).alloc (Nat.le_refl _) _).trans (hb.mono (by simp))).alloc (by have := hb.size; simp at this; omega) _
  have hgl : g < w1.heap.size := by obtain ⟨_, _, h, _⟩ := hc; exact h.lt
  have hwl : w.heap.size ≤ w1.heap.size := by have := hb.size; simp at this; omega
  clear hb hc hg
  generalize (w1.alloc (.cells #[I 0, I 0, I 0, I 0, I 0, I 0, I 0, I 0, I 0, I 0, I 0, I 0, I 0, I 0, I 0, I 0, I 0] 35)) = w2 at *
  generalize w1.heap.size = B at *
  clear w1
  go_loopw [4, 21] (fun o i wr => ∃ k : Nat, k ≤ 4 ∧ i = I k ∧ o = I (shO k) ∧ Has wr B 35 (stC (shS k)) ∧ CoreAt wr g shL ∧ Below w.heap.size w wr) (fun _ i _ => 4 - (intOf i).toNat)
  case atStart => exact ⟨0, by omega, rfl, rfl, kz, hcz, hbz⟩
  case round =>
    clear kz hcz hbz
    obtain ⟨k, hk, rfl, rfl, kz, hc, hbr⟩ := hrel
    by_cases hlt : k < 4
    · have HI := shIdx k hlt
      have hf := shS_fits k hlt
      have hsz := stC_size (shS k) hf.used8 hf.idle8
      have hic : Hid ((Try.prog.info? 35).map (·.size) = some (stC (shS k)).size) := Lib.hid (by rw [hsz]; kernel_rfl)
      have hf' := step_fits (c := shC k) (d := 1) shOk hf
      have hsz' := stC_size (step shL (shC k) 1 (shS k)).1 hf'.used8 hf'.idle8
      have hic' : Hid ((Try.prog.info? 35).map (·.size) = some (stC (step shL (shC k) 1 (shS k)).1).size) := Lib.hid (by rw [hsz']; kernel_rfl)
      have HSZ := Lib.hid hsz
      have HSZ' := Lib.hid hsz'
      have ho := shO_small k (by omega)
      have ho1 := shO_bit k hlt
      clear hsz hsz'
      go_wp2_with (first
        | (refine wpList_load_row rfl 35 _ rfl B rfl 35 (stC (shS k)) (0, 0) _ kz Try.underlying35 rfl hic.out ?_)
        | (go_at_call 7; refine (step_ok g shL (shS k) 10 (shC k) 1 _ shOk (by decide) hf hc).mono ?_; rintro e w3 ⟨rfl, hb3⟩; have kz3 := kz.after hb3)
        | (refine wpList_store_row rfl 35 _ _ rfl B (stC (step shL (shC k) 1 (shS k)).1) rfl rfl 35 _ kz3 hic'.out (by rw [HSZ.out, HSZ'.out]) (stC_one _) ?_))
      go_roundw
      case rel => exact ⟨k + 1, by omega, by go_num, I_eq (by simp [shO]), kz3.setRow _, (hc.after hb3).keep kz3 (by decide) (by decide) (fun b h => heap_setRow_other _ _ _ _ h), below_setRow (hbr.trans (hb3.mono hbr.size)) hwl _⟩
      case measure => simp [intOf]; omega
    · have hk4 : k = 4 := by omega
      subst hk4
      have t9 : (((shO 4 : Nat) : Int) == 9) = true := by rw [shO4]; rfl
      go_wp2_with fail
      go_ret
      exact ⟨rfl, hbr⟩
end Go.Proofs.Ytdhekhlmdefcnaa
