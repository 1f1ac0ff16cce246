/- Part 33 of the proof: CpMem. -/
import Derived.Test.YtdhekhlmdefcnaaDoorPart31
import Derived.Test.YtdhekhlmdefcnaaDoorPart32
import Derived.Test.YtdhekhlmdefcnaaDoorPart19
import Derived.Test.YtdhekhlmdefcnaaDoorPart28
/- CorePlays: a core, and the document's, side by side in memory. -/
namespace Go.Proofs.YtdhekhlmdefcnaaDoor
open Go.RowKit
theorem sigState : sig Tryd.prog 5 38 = some (List.replicate 17 (some .i64)) := by kernel_rfl
theorem fit_state {s : St} {M : Nat} (h : s.Fits M) (hM : M ≤ 1000000) : Fit (List.replicate 17 (some .i64)) (stC s).toList := by
  have e : (stC s).toList = ints ((s.set : Int) :: (zs s.used ++ zs s.idle)) := by unfold stC stL ints; simp
  rw [e]
  have := fit_ints ((s.set : Int) :: (zs s.used ++ zs s.idle)) (fun x hx => by
    have hb : 0 ≤ x ∧ x ≤ 1000000 := by
      rcases List.mem_cons.1 hx with rfl | hx
      · have := h.set; constructor <;> omega
      · rcases List.mem_append.1 hx with hx | hx
        · obtain ⟨n, hn, rfl⟩ := List.mem_map.1 hx
          have := h.used n hn; constructor <;> omega
        · obtain ⟨n, hn, rfl⟩ := List.mem_map.1 hx
          have := h.idle n hn; constructor <;> omega
    exact wf_i64 (by omega) (by omega))
  have hl : ((s.set : Int) :: (zs s.used ++ zs s.idle)).length = 17 := by simp [zs, h.used8, h.idle8]
  rw [hl] at this
  exact this
/-- inputs that are read -/
def InsAt (w : World) (B : Nat) (A : Option Addr) (ss : List (Int × Int)) : Prop :=
  ∀ i s, ss[i]? = some s → ∃ b o, A = some ⟨b, o, none⟩ ∧ b < B ∧ w.cell? ⟨b, o + i * 2, none⟩ = some (I s.1) ∧ w.cell? ⟨b, o + i * 2 + 1, none⟩ = some (I s.2) ∧ In64 s.1 ∧ In64 s.2
structure CpAt (w0 w : World) (B g0 gc g11 : Nat) (x : RcX) (A : Option Addr) (c : Nat) (L : Lay) (s t : St) : Prop where
  kl : Has w g0 25 #[I L.secs, .slice A L.routes.length c, I L.delay]
  core : CoreAt w gc L
  rc : RcAt w B x A c L s
  ks : Has w g11 38 (stC t)
  low : Below B w0 w
  lowk : B ≤ g11
section
variable {w0 w w' : World} {B g0 gc g11 : Nat} {x x' : RcX} {A : Option Addr} {c : Nat} {L : Lay} {s s' t t' : St}
theorem CpAt.after (h : CpAt w0 w B g0 gc g11 x A c L s t) (hb : Below w.heap.size w w') : CpAt w0 w' B g0 gc g11 x A c L s t :=
  ⟨h.kl.after hb, h.core.after hb, h.rc.after hb, h.ks.after hb, h.low.trans (hb.mono h.rc.base), h.lowk⟩
theorem CpAt.drew (h : CpAt w0 w B g0 gc g11 x A c L s t) : CpAt w0 w.drew B g0 gc g11 x A c L s t := h.after (Below.refl _ _).drew
theorem CoreAt.turnedF {F : Nat → Prop} (h : CoreAt w gc L) (ht : Turned F w w') (h1 : ∀ g t cs, Has w g t cs → t = 162 ∨ t = 3 → ¬ F g) : CoreAt w' gc L := by
  obtain ⟨vr, vc, hcore, hrow, hcon⟩ := h
  exact ⟨vr, vc, hcore.turned ht (h1 _ _ _ hcore (.inl rfl)), own_keep hrow (fun q cs _ hh => ht.block q hh.lt (h1 _ _ _ hh (.inr rfl))), own_keep hcon (fun q cs _ hh => ht.block q hh.lt (h1 _ _ _ hh (.inr rfl)))⟩
theorem CpAt.turn (h : CpAt w0 w B g0 gc g11 x A c L s t) (ht : Turned (FC x L.routes.length) w w') (hr : RcAt w' B x' A c L s') : CpAt w0 w' B g0 gc g11 x' A c L s' t :=
  ⟨h.kl.turned ht (h.rc.notF h.kl (by decide)), h.core.turnedF ht (fun g t cs hh e => by
    rcases e with rfl | rfl
    · exact h.rc.notF hh (by decide)
    · exact h.rc.notF hh (by decide)), hr, h.ks.turned ht (h.rc.notF h.ks (by decide)), h.low.trans (ht.below (fun b hb => h.rc.ge hb) h.rc.base), h.lowk⟩
theorem has_ne_type {w : World} {g : Nat} {t t' : TypeId} {cs cs' : Array Value} (h : Has w g t cs) (h' : Has w g t' cs') : t = t' := by
  unfold Has at h h'
  rw [h] at h'
  injection h' with h'
  injection h' with _ e
/-- a state is stored whole in a block of its own -/
theorem CpAt.rowAt (h : CpAt w0 w B g0 gc g11 x A c L s t) {γ : Nat} {cs : Array Value} (k : Has w γ 38 cs) (hγ : B ≤ γ) (cs' : Array Value) :
    (Has w g0 25 #[I L.secs, .slice A L.routes.length c, I L.delay] → Has (w.setRow γ cs') g0 25 #[I L.secs, .slice A L.routes.length c, I L.delay]) ∧ CoreAt (w.setRow γ cs') gc L ∧ RcAt (w.setRow γ cs') B x A c L s ∧ Below B w0 (w.setRow γ cs') := by
  have ht : Turned (fun b => b = γ) w (w.setRow γ cs') := (Turned.refl (fun b => b = γ) w).setRow γ cs' (.inl rfl)
  refine ⟨fun kl => kl.turned ht (fun e => ?_), h.core.turnedF ht (fun g t cs hh e e2 => ?_), h.rc.turned ht (fun e => ?_) (fun b hb e => ?_) (fun b e => by have e' : b = γ := e; omega), below_setRow h.low hγ _⟩
  · have e' : g0 = γ := e
    subst e'
    exact absurd (has_ne_type kl k) (by decide)
  · have e' : g = γ := e2
    subst e'
    have := has_ne_type hh k
    rcases e with rfl | rfl
    · exact absurd this (by decide)
    · exact absurd this (by decide)
  · have e' : x.g = γ := e
    have hh := h.rc.has
    rw [e'] at hh
    exact absurd (has_ne_type hh k) (by decide)
  · have e' : b = γ := e
    exact h.rc.notF k (by decide) (e' ▸ hb)
theorem CpAt.row (h : CpAt w0 w B g0 gc g11 x A c L s t) (t' : St) : CpAt w0 (w.setRow g11 (stC t')) B g0 gc g11 x A c L s t' := by
  obtain ⟨h1, h2, h3, h4⟩ := h.rowAt h.ks h.lowk (stC t')
  exact ⟨h1 h.kl, h2, h3, h.ks.setRow _, h4, h.lowk⟩
theorem CpAt.farRow (h : CpAt w0 w B g0 gc g11 x A c L s t) {γ : Nat} {cs : Array Value} (k : Has w γ 38 cs) (hγ : B ≤ γ) (hne : γ ≠ g11) (cs' : Array Value) : CpAt w0 (w.setRow γ cs') B g0 gc g11 x A c L s t := by
  obtain ⟨h1, h2, h3, h4⟩ := h.rowAt k hγ cs'
  exact ⟨h1 h.kl, h2, h3, h.ks.farRow (Ne.symm hne) _, h4, h.lowk⟩
theorem CpAt.ins {A2 : Option Addr} {ss : List (Int × Int)} (h : CpAt w0 w B g0 gc g11 x A c L s t) (hi : InsAt w0 B A2 ss) {i : Nat} {p : Int × Int} (hp : ss[i]? = some p) :
    ∃ b o, A2 = some ⟨b, o, none⟩ ∧ b < w.heap.size ∧ w.cell? ⟨b, o + i * 2, none⟩ = some (I p.1) ∧ w.cell? ⟨b, o + i * 2 + 1, none⟩ = some (I p.2) := by
  obtain ⟨b, o, e, hb, h1, h2, _⟩ := hi i p hp
  exact ⟨b, o, e, Nat.lt_of_lt_of_le hb h.rc.base, (h.low.cell (p := ⟨b, o + i * 2, none⟩) hb).trans h1, (h.low.cell (p := ⟨b, o + i * 2 + 1, none⟩) hb).trans h2⟩
end
end Go.Proofs.YtdhekhlmdefcnaaDoor
