/- What came in, read as the data of a ring's nodes. -/
import Derived.Test.YtlidbfnamhgnlaaGreatDoorNdT
import Derived.Test.YtlidbfnamhgnlaaGreatDoorEvFin
namespace Go.Ev.Nd
open Go Go.Ev Go.Proofs
open Go.Ev.Enc (av)

theorem fitPeer {n : Nat} {xs : List AV} (h : Fit P n 25 xs) : ∃ x : PeerV, xs = (av x).cells := by
  obtain ⟨m, h⟩ := fit_struct Tryz.underlying25 h
  obtain ⟨_, _, rfl, h0, h⟩ := fitS_cons h
  obtain ⟨_, _, rfl, h1, h⟩ := fitS_cons h
  cases h
  obtain ⟨a0, rfl, _⟩ := fit_int Tryz.underlying22 h0
  obtain ⟨a1, rfl, _⟩ := fit_int Tryz.underlying23 h1
  exact ⟨⟨a0, a1⟩, rfl⟩

theorem fitLPeerV {n : Nat} {xs : List AV} (h : Fit P n 35 xs) : ∃ l : List PeerV, xs = [lst l] :=
  fit_lst Tryz.underlying35 Tryz.underlying25 (by kernel_rfl) (fun _ _ h => fitPeer h) (fun _ => ⟨_, rfl⟩) h

theorem fitEntry {n : Nat} {xs : List AV} (h : Fit P n 82 xs) : ∃ x : EntryV, xs = (av x).cells := by
  obtain ⟨m, h⟩ := fit_struct Tryz.underlying82 h
  obtain ⟨_, _, rfl, h0, h⟩ := fitS_cons h
  obtain ⟨_, _, rfl, h1, h⟩ := fitS_cons h
  cases h
  obtain ⟨a0, rfl⟩ := fitPeer h0
  obtain ⟨a1, rfl, _⟩ := fit_int Tryz.underlying3 h1
  exact ⟨⟨a0, a1⟩, rfl⟩

theorem fitLEntryV {n : Nat} {xs : List AV} (h : Fit P n 26 xs) : ∃ l : List EntryV, xs = [lst l] :=
  fit_lst Tryz.underlying26 Tryz.underlying82 (by kernel_rfl) (fun _ _ h => fitEntry h) (fun _ => ⟨_, rfl⟩) h

theorem fitFinger {n : Nat} {xs : List AV} (h : Fit P n 94 xs) : ∃ x : FingerV, xs = (av x).cells := by
  obtain ⟨m, h⟩ := fit_struct Tryz.underlying94 h
  obtain ⟨_, _, rfl, h0, h⟩ := fitS_cons h
  obtain ⟨_, _, rfl, h1, h⟩ := fitS_cons h
  cases h
  obtain ⟨a0, rfl, _⟩ := fit_int Tryz.underlying3 h0
  obtain ⟨a1, rfl⟩ := fitPeer h1
  exact ⟨⟨a0, a1⟩, rfl⟩

theorem fitLFingerV {n : Nat} {xs : List AV} (h : Fit P n 27 xs) : ∃ l : List FingerV, xs = [lst l] :=
  fit_lst Tryz.underlying27 Tryz.underlying94 (by kernel_rfl) (fun _ _ h => fitFinger h) (fun _ => ⟨_, rfl⟩) h

theorem fitPair {n : Nat} {xs : List AV} (h : Fit P n 90 xs) : ∃ x : PairV, xs = (av x).cells := by
  obtain ⟨m, h⟩ := fit_struct Tryz.underlying90 h
  obtain ⟨_, _, rfl, h0, h⟩ := fitS_cons h
  obtain ⟨_, _, rfl, h1, h⟩ := fitS_cons h
  cases h
  obtain ⟨a0, rfl, _⟩ := fit_string Tryz.underlying9 h0
  obtain ⟨a1, rfl, _⟩ := fit_string Tryz.underlying9 h1
  exact ⟨⟨a0, a1⟩, rfl⟩

theorem fitLPairV {n : Nat} {xs : List AV} (h : Fit P n 28 xs) : ∃ l : List PairV, xs = [lst l] :=
  fit_lst Tryz.underlying28 Tryz.underlying90 (by kernel_rfl) (fun _ _ h => fitPair h) (fun _ => ⟨_, rfl⟩) h

theorem fitPend {n : Nat} {xs : List AV} (h : Fit P n 71 xs) : ∃ x : PendV, xs = (av x).cells := by
  obtain ⟨m, h⟩ := fit_struct Tryz.underlying71 h
  obtain ⟨_, _, rfl, h0, h⟩ := fitS_cons h
  obtain ⟨_, _, rfl, h1, h⟩ := fitS_cons h
  obtain ⟨_, _, rfl, h2, h⟩ := fitS_cons h
  obtain ⟨_, _, rfl, h3, h⟩ := fitS_cons h
  obtain ⟨_, _, rfl, h4, h⟩ := fitS_cons h
  obtain ⟨_, _, rfl, h5, h⟩ := fitS_cons h
  cases h
  obtain ⟨a0, rfl, _⟩ := fit_int Tryz.underlying32 h0
  obtain ⟨a1, rfl, _⟩ := fit_int Tryz.underlying3 h1
  obtain ⟨a2, rfl, _⟩ := fit_int Tryz.underlying3 h2
  obtain ⟨a3, rfl, _⟩ := fit_int Tryz.underlying3 h3
  obtain ⟨a4, rfl⟩ := fitPeer h4
  obtain ⟨a5, rfl, _⟩ := fit_int Tryz.underlying3 h5
  exact ⟨⟨a0, a1, a2, a3, a4, a5⟩, rfl⟩

theorem fitLPendV {n : Nat} {xs : List AV} (h : Fit P n 29 xs) : ∃ l : List PendV, xs = [lst l] :=
  fit_lst Tryz.underlying29 Tryz.underlying71 (by kernel_rfl) (fun _ _ h => fitPend h) (fun _ => ⟨_, rfl⟩) h

theorem fitJob {n : Nat} {xs : List AV} (h : Fit P n 67 xs) : ∃ x : JobV, xs = (av x).cells := by
  obtain ⟨m, h⟩ := fit_struct Tryz.underlying67 h
  obtain ⟨_, _, rfl, h0, h⟩ := fitS_cons h
  obtain ⟨_, _, rfl, h1, h⟩ := fitS_cons h
  obtain ⟨_, _, rfl, h2, h⟩ := fitS_cons h
  obtain ⟨_, _, rfl, h3, h⟩ := fitS_cons h
  obtain ⟨_, _, rfl, h4, h⟩ := fitS_cons h
  obtain ⟨_, _, rfl, h5, h⟩ := fitS_cons h
  obtain ⟨_, _, rfl, h6, h⟩ := fitS_cons h
  obtain ⟨_, _, rfl, h7, h⟩ := fitS_cons h
  obtain ⟨_, _, rfl, h8, h⟩ := fitS_cons h
  obtain ⟨_, _, rfl, h9, h⟩ := fitS_cons h
  obtain ⟨_, _, rfl, h10, h⟩ := fitS_cons h
  obtain ⟨_, _, rfl, h11, h⟩ := fitS_cons h
  cases h
  obtain ⟨a0, rfl, _⟩ := fit_int Tryz.underlying3 h0
  obtain ⟨a1, rfl, _⟩ := fit_int Tryz.underlying3 h1
  obtain ⟨a2, rfl, _⟩ := fit_int Tryz.underlying3 h2
  obtain ⟨a3, rfl, _⟩ := fit_string Tryz.underlying9 h3
  obtain ⟨a4, rfl, _⟩ := fit_string Tryz.underlying9 h4
  obtain ⟨a5, rfl, _⟩ := fit_int Tryz.underlying22 h5
  obtain ⟨a6, rfl⟩ := fitPeer h6
  obtain ⟨a7, rfl⟩ := fitPeer h7
  obtain ⟨a8, rfl⟩ := fit_bool Tryz.underlying4 h8
  obtain ⟨a9, rfl, _⟩ := fit_int Tryz.underlying3 h9
  obtain ⟨a10, rfl, _⟩ := fit_int Tryz.underlying3 h10
  obtain ⟨a11, rfl, _⟩ := fit_int Tryz.underlying3 h11
  exact ⟨⟨a0, a1, a2, a3, a4, a5, a6, a7, a8, a9, a10, a11⟩, rfl⟩

theorem fitLJobV {n : Nat} {xs : List AV} (h : Fit P n 30 xs) : ∃ l : List JobV, xs = [lst l] :=
  fit_lst Tryz.underlying30 Tryz.underlying67 (by kernel_rfl) (fun _ _ h => fitJob h) (fun _ => ⟨_, rfl⟩) h

theorem fitRes {n : Nat} {xs : List AV} (h : Fit P n 60 xs) : ∃ x : ResV, xs = (av x).cells := by
  obtain ⟨m, h⟩ := fit_struct Tryz.underlying60 h
  obtain ⟨_, _, rfl, h0, h⟩ := fitS_cons h
  obtain ⟨_, _, rfl, h1, h⟩ := fitS_cons h
  obtain ⟨_, _, rfl, h2, h⟩ := fitS_cons h
  obtain ⟨_, _, rfl, h3, h⟩ := fitS_cons h
  obtain ⟨_, _, rfl, h4, h⟩ := fitS_cons h
  obtain ⟨_, _, rfl, h5, h⟩ := fitS_cons h
  cases h
  obtain ⟨a0, rfl, _⟩ := fit_int Tryz.underlying3 h0
  obtain ⟨a1, rfl, _⟩ := fit_int Tryz.underlying3 h1
  obtain ⟨a2, rfl, _⟩ := fit_string Tryz.underlying9 h2
  obtain ⟨a3, rfl, _⟩ := fit_string Tryz.underlying9 h3
  obtain ⟨a4, rfl⟩ := fit_bool Tryz.underlying4 h4
  obtain ⟨a5, rfl, _⟩ := fit_int Tryz.underlying49 h5
  exact ⟨⟨a0, a1, a2, a3, a4, a5⟩, rfl⟩

theorem fitLResV {n : Nat} {xs : List AV} (h : Fit P n 31 xs) : ∃ l : List ResV, xs = [lst l] :=
  fit_lst Tryz.underlying31 Tryz.underlying60 (by kernel_rfl) (fun _ _ h => fitRes h) (fun _ => ⟨_, rfl⟩) h

theorem fitNode {n : Nat} {xs : List AV} (h : Fit P n 34 xs) : ∃ x : NodeV, xs = (av x).cells := by
  obtain ⟨m, h⟩ := fit_struct Tryz.underlying34 h
  obtain ⟨_, _, rfl, h0, h⟩ := fitS_cons h
  obtain ⟨_, _, rfl, h1, h⟩ := fitS_cons h
  obtain ⟨_, _, rfl, h2, h⟩ := fitS_cons h
  obtain ⟨_, _, rfl, h3, h⟩ := fitS_cons h
  obtain ⟨_, _, rfl, h4, h⟩ := fitS_cons h
  obtain ⟨_, _, rfl, h5, h⟩ := fitS_cons h
  obtain ⟨_, _, rfl, h6, h⟩ := fitS_cons h
  obtain ⟨_, _, rfl, h7, h⟩ := fitS_cons h
  obtain ⟨_, _, rfl, h8, h⟩ := fitS_cons h
  obtain ⟨_, _, rfl, h9, h⟩ := fitS_cons h
  obtain ⟨_, _, rfl, h10, h⟩ := fitS_cons h
  obtain ⟨_, _, rfl, h11, h⟩ := fitS_cons h
  obtain ⟨_, _, rfl, h12, h⟩ := fitS_cons h
  cases h
  obtain ⟨a0, rfl⟩ := fitPeer h0
  obtain ⟨a1, rfl, _⟩ := fit_int Tryz.underlying3 h1
  obtain ⟨a2, rfl⟩ := fit_bool Tryz.underlying4 h2
  obtain ⟨a3, rfl⟩ := fitLEntryV h3
  obtain ⟨a4, rfl⟩ := fitLEntryV h4
  obtain ⟨a5, rfl⟩ := fitLFingerV h5
  obtain ⟨a6, rfl⟩ := fitLPairV h6
  obtain ⟨a7, rfl⟩ := fitLPendV h7
  obtain ⟨a8, rfl⟩ := fitLJobV h8
  obtain ⟨a9, rfl⟩ := fitLResV h9
  obtain ⟨a10, rfl, _⟩ := fit_int Tryz.underlying32 h10
  obtain ⟨a11, rfl, _⟩ := fit_int Tryz.underlying3 h11
  obtain ⟨a12, rfl, _⟩ := fit_int Tryz.underlying3 h12
  exact ⟨⟨a0, a1, a2, a3, a4, a5, a6, a7, a8, a9, a10, a11, a12⟩, rfl⟩

theorem fitMsg {n : Nat} {xs : List AV} (h : Fit P n 37 xs) : ∃ x : MsgV, xs = (av x).cells := by
  obtain ⟨m, h⟩ := fit_struct Tryz.underlying37 h
  obtain ⟨_, _, rfl, h0, h⟩ := fitS_cons h
  obtain ⟨_, _, rfl, h1, h⟩ := fitS_cons h
  obtain ⟨_, _, rfl, h2, h⟩ := fitS_cons h
  obtain ⟨_, _, rfl, h3, h⟩ := fitS_cons h
  obtain ⟨_, _, rfl, h4, h⟩ := fitS_cons h
  obtain ⟨_, _, rfl, h5, h⟩ := fitS_cons h
  obtain ⟨_, _, rfl, h6, h⟩ := fitS_cons h
  obtain ⟨_, _, rfl, h7, h⟩ := fitS_cons h
  obtain ⟨_, _, rfl, h8, h⟩ := fitS_cons h
  obtain ⟨_, _, rfl, h9, h⟩ := fitS_cons h
  cases h
  obtain ⟨a0, rfl, _⟩ := fit_int Tryz.underlying3 h0
  obtain ⟨a1, rfl, _⟩ := fit_int Tryz.underlying32 h1
  obtain ⟨a2, rfl, _⟩ := fit_int Tryz.underlying5 h2
  obtain ⟨a3, rfl⟩ := fit_bool Tryz.underlying4 h3
  obtain ⟨a4, rfl, _⟩ := fit_int Tryz.underlying22 h4
  obtain ⟨a5, rfl, _⟩ := fit_string Tryz.underlying9 h5
  obtain ⟨a6, rfl, _⟩ := fit_string Tryz.underlying9 h6
  obtain ⟨a7, rfl⟩ := fitPeer h7
  obtain ⟨a8, rfl⟩ := fitLPeerV h8
  obtain ⟨a9, rfl⟩ := fitLPairV h9
  exact ⟨⟨a0, a1, a2, a3, a4, a5, a6, a7, a8, a9⟩, rfl⟩

theorem fitOut {n : Nat} {xs : List AV} (h : Fit P n 56 xs) : ∃ x : OutV, xs = (av x).cells := by
  obtain ⟨m, h⟩ := fit_struct Tryz.underlying56 h
  obtain ⟨_, _, rfl, h0, h⟩ := fitS_cons h
  obtain ⟨_, _, rfl, h1, h⟩ := fitS_cons h
  cases h
  obtain ⟨a0, rfl⟩ := fitPeer h0
  obtain ⟨a1, rfl⟩ := fitMsg h1
  exact ⟨⟨a0, a1⟩, rfl⟩

theorem fitLOutV {n : Nat} {xs : List AV} (h : Fit P n 42 xs) : ∃ l : List OutV, xs = [lst l] :=
  fit_lst Tryz.underlying42 Tryz.underlying56 (by kernel_rfl) (fun _ _ h => fitOut h) (fun _ => ⟨_, rfl⟩) h

/-- The types of what comes in, and of their parts. -/
def sorts : List TypeId := [3, 4, 5, 9, 22, 23, 25, 26, 27, 28, 29, 30, 31, 32, 34, 35, 37, 42, 49, 56, 60, 67, 71, 82, 90, 94]

theorem sorts_ok : ∀ t ∈ sorts, supOf P sorts t = true := List.all_eq_true.1 (show sorts.all (fun t => supOf P sorts t) = true by kernel_rfl)

end Go.Ev.Nd
