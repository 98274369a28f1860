import Derived.Test.YtemiflllckincaaLgM
namespace Go.Chi

/-! ### the program's data -/
structure Tx where
  coord : Int
  epoch : Int
  seq : Int
theorem Tx.ext_iff' (a b : Tx) : (a.coord = b.coord ∧ a.epoch = b.epoch ∧ a.seq = b.seq) ↔ a = b := by cases a; cases b; simp
instance : DecidableEq Tx := fun a b => decidable_of_iff _ (Tx.ext_iff' a b)
def txC (t : Tx) : List Value := [.int .i64 t.coord, .int .i64 t.epoch, .int .i64 t.seq]

structure Mb where
  org : Int
  digest : ByteArray
theorem Mb.ext_iff' (a b : Mb) : (a.org = b.org ∧ a.digest = b.digest) ↔ a = b := by cases a; cases b; simp
instance : DecidableEq Mb := fun a b => decidable_of_iff _ (Mb.ext_iff' a b)
def mbC (m : Mb) : List Value := [.int .i64 m.org, .string m.digest]

/-- a slice of members: its header, and what it holds -/
structure SMb where
  a : Option Addr
  len : Nat
  cap : Nat
  xs : List Mb
def SMb.v (s : SMb) : Value := .slice s.a s.len s.cap
def SMb.Ok (M : Mem) (s : SMb) : Prop := SlM M 2 s.a s.len (s.xs.map mbC)
/-- a slice of strings -/
structure SStr where
  a : Option Addr
  len : Nat
  cap : Nat
  xs : List ByteArray
def SStr.v (s : SStr) : Value := .slice s.a s.len s.cap
def SStr.Ok (M : Mem) (s : SStr) : Prop := SlM M 1 s.a s.len (s.xs.map fun x => [.string x])

structure Rc where
  kind : Int
  epoch : Int
  txn : Tx
  yes : Bool
  auditor : Int
  mem : SMb
  tags : SStr
  body : ByteArray
def rcC (r : Rc) : List Value := [.int .u8 r.kind, .int .i64 r.epoch, .int .i64 r.txn.coord, .int .i64 r.txn.epoch, .int .i64 r.txn.seq, .bool r.yes, .int .i64 r.auditor, r.mem.v, r.tags.v, .string r.body]
structure Rp where
  txn : Tx
  auditor : Int
  mem : SMb
  tags : SStr
def rpC (r : Rp) : List Value := [.int .i64 r.txn.coord, .int .i64 r.txn.epoch, .int .i64 r.txn.seq, .int .i64 r.auditor, r.mem.v, r.tags.v]
structure Ev where
  kind : Int
  act : Int
  org : Int
  txn : Tx
  rcd : Rc
  rcpt : Rp
def evC (x : Ev) : List Value := [.int .u8 x.kind, .int .i64 x.act, .int .i64 x.org, .int .i64 x.txn.coord, .int .i64 x.txn.epoch, .int .i64 x.txn.seq,
  .int .u8 x.rcd.kind, .int .i64 x.rcd.epoch, .int .i64 x.rcd.txn.coord, .int .i64 x.rcd.txn.epoch, .int .i64 x.rcd.txn.seq, .bool x.rcd.yes, .int .i64 x.rcd.auditor, x.rcd.mem.v, x.rcd.tags.v, .string x.rcd.body,
  .int .i64 x.rcpt.txn.coord, .int .i64 x.rcpt.txn.epoch, .int .i64 x.rcpt.txn.seq, .int .i64 x.rcpt.auditor, x.rcpt.mem.v, x.rcpt.tags.v]
def Ev.Ok (M : Mem) (x : Ev) : Prop := x.rcd.mem.Ok M ∧ x.rcpt.mem.Ok M
structure SEv where
  a : Option Addr
  len : Nat
  cap : Nat
  xs : List Ev
def SEv.v (s : SEv) : Value := .slice s.a s.len s.cap
def SEv.Ok (M : Mem) (s : SEv) : Prop := SlM M 22 s.a s.len (s.xs.map evC) ∧ ∀ x ∈ s.xs, x.Ok M

structure Ac where
  kind : Int
  txn : Tx
  org : Int
  yes : Bool
  orgs : Int
def acC (x : Ac) : List Value := [.int .u8 x.kind, .int .i64 x.txn.coord, .int .i64 x.txn.epoch, .int .i64 x.txn.seq, .int .i64 x.org, .bool x.yes, .int .u8 x.orgs]
theorem Ac.ext_iff' (a b : Ac) : (a.kind = b.kind ∧ a.txn = b.txn ∧ a.org = b.org ∧ a.yes = b.yes ∧ a.orgs = b.orgs) ↔ a = b := by cases a; cases b; simp
instance : DecidableEq Ac := fun a b => decidable_of_iff _ (Ac.ext_iff' a b)
structure Lr where
  txn : Tx
  begun : Bool
  orgs : Int
  voted : Int
  yes : Int
  decided : Bool
  commit : Bool
  learnt : Int
def lrC (x : Lr) : List Value := [.int .i64 x.txn.coord, .int .i64 x.txn.epoch, .int .i64 x.txn.seq, .bool x.begun, .int .u8 x.orgs, .int .u8 x.voted, .int .u8 x.yes, .bool x.decided, .bool x.commit, .int .u8 x.learnt]
theorem Lr.ext_iff' (a b : Lr) : (a.txn = b.txn ∧ a.begun = b.begun ∧ a.orgs = b.orgs ∧ a.voted = b.voted ∧ a.yes = b.yes ∧ a.decided = b.decided ∧ a.commit = b.commit ∧ a.learnt = b.learnt) ↔ a = b := by cases a; cases b; simp
instance : DecidableEq Lr := fun a b => decidable_of_iff _ (Lr.ext_iff' a b)

end Go.Chi
