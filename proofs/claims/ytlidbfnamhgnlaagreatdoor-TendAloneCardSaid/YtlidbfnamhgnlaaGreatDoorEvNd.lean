/- The data of a ring's nodes, as the evaluator's values. -/
import Derived.Test.YtlidbfnamhgnlaaGreatDoorEvCd
namespace Go.Ev
open Go
open Enc (av)

structure PeerV where
  id : Int
  addr : Int
  deriving DecidableEq

structure EntryV where
  peer : PeerV
  misses : Int
  deriving DecidableEq

structure FingerV where
  bit : Int
  peer : PeerV
  deriving DecidableEq

structure PairV where
  key : ByteArray
  val : ByteArray
  deriving DecidableEq

structure PendV where
  rid : Int
  kind : Int
  why : Int
  job : Int
  to : PeerV
  due : Int
  deriving DecidableEq

structure JobV where
  id : Int
  kind : Int
  bit : Int
  key : ByteArray
  val : ByteArray
  target : Int
  via : PeerV
  at_ : PeerV
  doing : Bool
  hops : Int
  tries : Int
  due : Int
  deriving DecidableEq

structure ResV where
  job : Int
  kind : Int
  key : ByteArray
  val : ByteArray
  has : Bool
  err : Int
  deriving DecidableEq

structure NodeV where
  me : PeerV
  clock : Int
  joined : Bool
  pred : List EntryV
  list : List EntryV
  fingers : List FingerV
  store : List PairV
  pends : List PendV
  jobs : List JobV
  results : List ResV
  rid : Int
  jobID : Int
  nextBit : Int
  deriving DecidableEq

structure MsgV where
  kind : Int
  rid : Int
  code : Int
  has : Bool
  id : Int
  key : ByteArray
  val : ByteArray
  peer : PeerV
  peers : List PeerV
  pairs : List PairV
  deriving DecidableEq

structure OutV where
  to : PeerV
  msg : MsgV
  deriving DecidableEq

instance : Enc PeerV where
  av p := .agg [.int .u64 p.id, .int .u16 p.addr]
  sz := 2
  ro _ _ _ := rfl
  cells _ := rfl
  ok _ := rfl

instance : Enc EntryV where
  av x := .agg [.int .u64 x.peer.id, .int .u16 x.peer.addr, .int .i64 x.misses]
  sz := 3
  ro _ _ _ := rfl
  cells _ := rfl
  ok _ := rfl

instance : Enc FingerV where
  av x := .agg [.int .i64 x.bit, .int .u64 x.peer.id, .int .u16 x.peer.addr]
  sz := 3
  ro _ _ _ := rfl
  cells _ := rfl
  ok _ := rfl

instance : Enc PairV where
  av x := .agg [.str x.key, .str x.val]
  sz := 2
  ro _ _ _ := rfl
  cells _ := rfl
  ok _ := rfl

instance : Enc PendV where
  av x := .agg [.int .u32 x.rid, .int .i64 x.kind, .int .i64 x.why, .int .i64 x.job, .int .u64 x.to.id, .int .u16 x.to.addr, .int .i64 x.due]
  sz := 7
  ro _ _ _ := rfl
  cells _ := rfl
  ok _ := rfl

instance : Enc JobV where
  av x := .agg [.int .i64 x.id, .int .i64 x.kind, .int .i64 x.bit, .str x.key, .str x.val, .int .u64 x.target, .int .u64 x.via.id, .int .u16 x.via.addr, .int .u64 x.at_.id, .int .u16 x.at_.addr, .bool x.doing, .int .i64 x.hops, .int .i64 x.tries, .int .i64 x.due]
  sz := 14
  ro _ _ _ := rfl
  cells _ := rfl
  ok _ := rfl

instance : Enc ResV where
  av x := .agg [.int .i64 x.job, .int .i64 x.kind, .str x.key, .str x.val, .bool x.has, .int .i64 x.err]
  sz := 6
  ro _ _ _ := rfl
  cells _ := rfl
  ok _ := rfl

instance : Enc NodeV where
  av n := .agg [.int .u64 n.me.id, .int .u16 n.me.addr, .int .i64 n.clock, .bool n.joined, lst n.pred, lst n.list, lst n.fingers, lst n.store, lst n.pends, lst n.jobs, lst n.results, .int .u32 n.rid, .int .i64 n.jobID, .int .i64 n.nextBit]
  sz := 14
  ro _ _ _ := by simp [froz, frozs, froz_lst]
  cells _ := rfl
  ok _ := rfl

instance : Enc MsgV where
  av m := .agg [.int .i64 m.kind, .int .u32 m.rid, .int .u8 m.code, .bool m.has, .int .u64 m.id, .str m.key, .str m.val, .int .u64 m.peer.id, .int .u16 m.peer.addr, lst m.peers, lst m.pairs]
  sz := 11
  ro _ _ _ := by simp [froz, frozs, froz_lst]
  cells _ := rfl
  ok _ := rfl

instance : Enc OutV where
  av x := .agg [.int .u64 x.to.id, .int .u16 x.to.addr, .int .i64 x.msg.kind, .int .u32 x.msg.rid, .int .u8 x.msg.code, .bool x.msg.has, .int .u64 x.msg.id, .str x.msg.key, .str x.msg.val, .int .u64 x.msg.peer.id, .int .u16 x.msg.peer.addr, lst x.msg.peers, lst x.msg.pairs]
  sz := 13
  ro _ _ _ := by simp [froz, frozs, froz_lst]
  cells _ := rfl
  ok _ := rfl

end Go.Ev
