/- throughput, energy, transit -/
import Derived.Test.YtahmhmicegjdkaaF4
import Derived.StillTailTactics
import Derived.Deep.RegionWith
namespace Go.Proofs.Ytahmhmicegjdkaa
open Go.RowKit

/-- the box of a pipe -/
theorem pipe_box (w : World) (p : Pipe) : ∃ wq, wq = w.alloc (.cells #[.int .i64 p.fr, .int .i64 p.to, .int .i64 p.k, .int .i64 p.vol, .int .i64 p.lim] 77) ∧ Below w.heap.size w wq ∧
    wq.cell? ⟨w.heap.size, 0, none⟩ = some (.int .i64 p.fr) ∧ wq.cell? ⟨w.heap.size, 1, none⟩ = some (.int .i64 p.to) ∧ wq.cell? ⟨w.heap.size, 2, none⟩ = some (.int .i64 p.k) ∧ wq.cell? ⟨w.heap.size, 3, none⟩ = some (.int .i64 p.vol) ∧ wq.cell? ⟨w.heap.size, 4, none⟩ = some (.int .i64 p.lim) := by
  refine ⟨_, rfl, bel1 _ _, ?_⟩
  have g := heap_alloc_new w (.cells #[.int .i64 p.fr, .int .i64 p.to, .int .i64 p.k, .int .i64 p.vol, .int .i64 p.lim] 77)
  exact ⟨cell_blk g 0, cell_blk g 1, cell_blk g 2, cell_blk g 3, cell_blk g 4⟩

/-- f 0 + .. + f (k - 1) -/
def sumTo (f : Nat → Int) : Nat → Int
  | 0 => 0
  | k + 1 => sumTo f k + f k
theorem sumTo_succ (f : Nat → Int) (k : Nat) : sumTo f (k + 1) = sumTo f k + f k := rfl
theorem sumTo_bnd {f : Nat → Int} {k : Nat} {M : Int} (h : ∀ j, j < k → -M ≤ f j ∧ f j ≤ M) : -(M * k) ≤ sumTo f k ∧ sumTo f k ≤ M * k := by
  induction k with
  | zero => simp [sumTo]
  | succ k ih =>
    have h1 := ih fun j hj => h j (by omega)
    have h2 := h k (by omega)
    have e : M * ((k + 1 : Nat) : Int) = M * k + M := by push_cast; rw [Int.mul_add, Int.mul_one]
    rw [sumTo_succ, e]; omega
theorem sumTo_le {f : Nat → Int} {k N : Nat} {M : Int} (hM : 0 ≤ M) (hk : k ≤ N) (h : ∀ j, j < k → -M ≤ f j ∧ f j ≤ M) : -(M * N) ≤ sumTo f k ∧ sumTo f k ≤ M * N := by
  have h1 := sumTo_bnd h
  have h2 : M * (k : Int) ≤ M * (N : Int) := Int.mul_le_mul_of_nonneg_left (by omega) hM
  omega
theorem sumTo_congr {f g : Nat → Int} {k : Nat} (h : ∀ j, j < k → f j = g j) : sumTo f k = sumTo g k := by
  induction k with
  | zero => rfl
  | succ k ih => rw [sumTo_succ, sumTo_succ, ih fun j hj => h j (by omega), h k (by omega)]

def pos (z : Int) : Int := if z < 0 then 0 else z
theorem pos_bnd {z : Int} (h : z ≤ 30000) : 0 ≤ pos z ∧ pos z ≤ 30000 := by unfold pos; split <;> omega
def thr (zs : List Int) (k : Nat) : Int := sumTo (fun j => pos (ig zs j)) k
def rThroughputOf (net : Net) (zs : List Int) : Int × Int := if codeS net zs = 0 then (thr zs zs.length, 0) else (0, codeS net zs)
theorem thr_bnd {net : Net} {zs : List Int} (h : supB net zs = true) (k : Nat) (hk : k ≤ 24) : -720000 ≤ thr zs k ∧ thr zs k ≤ 720000 := by
  have := sumTo_le (f := fun j => pos (ig zs j)) (k := k) (N := 24) (M := 30000) (by omega) hk fun j hj => by
    have h1 := supB_all h j
    have h2 := pos_bnd h1.2
    omega
  exact this
theorem thr_succ (zs : List Int) (k : Nat) : thr zs (k + 1) = thr zs k + pos (ig zs k) := rfl

/-- the energy of a pipe -/
def enr (k q : Int) : Int := k * ab q * ab q * ab q
theorem ab_sq (q : Int) : ab q * ab q = q * q := by rcases ab_cases q with ⟨_, h⟩ | ⟨_, h⟩ <;> rw [h]; rw [Int.neg_mul_neg]
theorem enr_bnd {k q : Int} (hk0 : -1000 ≤ k) (hk1 : k ≤ 1000) (hq0 : -30000 ≤ q) (hq1 : q ≤ 30000) : -27000000000000000 ≤ enr k q ∧ enr k q ≤ 27000000000000000 := by
  have ha := ab_nn q
  have ha' := ab_le hq0 hq1
  have h1 := bnd_mul (a := k) (b := ab q) (A := 1000) (B := 30000) hk0 hk1 (by omega) ha'
  have h2 := bnd_mul (a := k * ab q) (b := ab q) (A := 30000000) (B := 30000) (by omega) (by omega) (by omega) (by omega)
  have h3 := bnd_mul (a := k * ab q * ab q) (b := ab q) (A := 900000000000) (B := 30000) (by omega) (by omega) (by omega) (by omega)
  unfold enr
  omega
def eng (ps : List Pipe) (zs : List Int) (k : Nat) : Int := sumTo (fun j => enr (pp ps j).k (ig zs j)) k
theorem eng_succ (ps : List Pipe) (zs : List Int) (k : Nat) : eng ps zs (k + 1) = eng ps zs k + enr (pp ps k).k (ig zs k) := rfl
theorem eng_bnd {net : Net} {zs : List Int} (hv : netB net = true) (h : flowB net zs = true) (k : Nat) (hk : k ≤ net.pipes.length) : -1080000000000000000 ≤ eng net.pipes zs k ∧ eng net.pipes zs k ≤ 1080000000000000000 := by
  have h40 := (netB_sizes hv).2.2
  have := sumTo_le (f := fun j => enr (pp net.pipes j).k (ig zs j)) (k := k) (N := 40) (M := 27000000000000000) (by omega) (by omega) fun j hj => by
    have h1 := flowB_all h j
    have h2 := netB_pipe_at hv (j := j) (by omega)
    exact enr_bnd (by omega) (by omega) h1.1 h1.2
  exact this
def rEnergyOf (net : Net) (zs : List Int) : Int × Int := if codeF net zs = 0 then (eng net.pipes zs zs.length, 0) else (0, codeF net zs)

theorem codeF_zero {net : Net} {zs : List Int} (h : codeF net zs = 0) : netB net = true ∧ flowB net zs = true := by
  rcases codeF_cases net zs with ⟨_, h'⟩ | ⟨_, _, h'⟩ | ⟨h1, h2, _⟩
  · omega
  · omega
  · exact ⟨h1, h2⟩
theorem codeS_zero {net : Net} {zs : List Int} (h : codeS net zs = 0) : netB net = true ∧ supB net zs = true := by
  rcases codeS_cases net zs with ⟨_, h'⟩ | ⟨_, _, h'⟩ | ⟨h1, h2, _⟩
  · omega
  · omega
  · exact ⟨h1, h2⟩

end Go.Proofs.Ytahmhmicegjdkaa

/- energy (the reference), transit -/
namespace Go.Proofs.Ytahmhmicegjdkaa
open Go.RowKit

/-- what flows into a node through one pipe -/
def tin (p : Pipe) (z x : Int) : Int := (if p.to = x then pos z else 0) + (if p.fr = x then pos (-z) else 0)
def tra (ps : List Pipe) (zs : List Int) (x : Int) (k : Nat) : Int := sumTo (fun j => tin (pp ps j) (ig zs j) x) k
theorem tra_succ (ps : List Pipe) (zs : List Int) (x : Int) (k : Nat) : tra ps zs x (k + 1) = tra ps zs x k + tin (pp ps k) (ig zs k) x := rfl
theorem tra_bnd {net : Net} {zs : List Int} (h : flowB net zs = true) (x : Int) (k : Nat) (hk : k ≤ 40) : -2400000 ≤ tra net.pipes zs x k ∧ tra net.pipes zs x k ≤ 2400000 := by
  have := sumTo_le (f := fun j => tin (pp net.pipes j) (ig zs j) x) (k := k) (N := 40) (M := 60000) (by omega) (by omega) fun j hj => by
    have h1 := flowB_all h j
    have h2 := pos_bnd (z := ig zs j) (by omega)
    have h3 := pos_bnd (z := -ig zs j) (by omega)
    show -60000 ≤ tin _ _ _ ∧ tin _ _ _ ≤ 60000
    unfold tin
    split <;> split <;> omega
  exact this
/-- what TransitOf returns -/
def rTransitOf (net : Net) (zs : List Int) (x : Int) : Int × Int :=
  if codeF net zs = 0 then (if inB x 0 ((net.nodes.length : Int) - 1) then (tra net.pipes zs x zs.length, 0) else (0, 2)) else (0, codeF net zs)

set_option maxHeartbeats 1000000 in
theorem l02Node_is (A B : Option Addr) (n c m d : Nat) (x : Int) (b : Bool) (w : World) (hn : n ≤ 9223372036854775807) (hb : inB x 0 ((n : Int) - 1) = b) :
    Calls Try.prog 91 #[.agg #[.slice A n c, .slice B m d], .int .i64 x] w fun e w' => e = .returned (.bool b) ∧ Below w.heap.size w w' := by
  go_enter Try.func91, Try.ntmps91
  go_wp2_with (go_at_call 138; refine (l01In_is _ _ _ _ _ hb).mono ?_; rintro e w' ⟨rfl, rfl⟩)
  go_ret
  exact ⟨rfl, bel1 _ _⟩

theorem tin_b (p : Pipe) (z x : Int) : tin p z x = (if (p.to == x) = true then pos z else 0) + (if (p.fr == x) = true then pos (-z) else 0) := by unfold tin; simp only [beq_iff_eq]
theorem pos_np {z : Int} (h : z ≤ 0) : pos z = 0 := by unfold pos; split <;> omega
theorem pos_neg {z : Int} (h : z < 0) : pos z = 0 := by unfold pos; rw [if_pos h]
theorem pos_nn {z : Int} (h : ¬ z < 0) : pos z = z := by unfold pos; rw [if_neg h]

end Go.Proofs.Ytahmhmicegjdkaa
