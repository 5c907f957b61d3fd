/- The functions of layer 15's law, as texts over values. -/
import Derived.Test.YtmepokefmpcnnaaEngW
import Derived.Test.YtmepokefmpcnnaaEngQ7
import Derived.Test.YtmepokefmpcnnaaEngO
import Derived.KernelRfl
import Derived.Test.YtmepokefmpcnnaaProg
set_option maxRecDepth 100000
set_option linter.unusedVariables false
namespace Go.Proofs.Ytmepokefmpcnnaa.FtText
open Go.Wb
noncomputable def T : Nat → Option AFn := tabOf Try.prog
def a18 : AFn := AFn.go
  { nparams := 1, results := [ARes.tmp 2],
    body :=
      (ACode.ops [{ dst := some 2, guard := none, op := AOp.mov (Atom.const (Value.bool false)) }]).seq
        ((ACode.ops
              [{ dst := some 3, guard := none, op := AOp.mov (Atom.tmp 0) },
                { dst := some 4, guard := none,
                  op := AOp.bin BinOp.geq (Atom.tmp 3) (Atom.const (Value.int IntKind.u8 (Int.ofNat 1))) },
                { dst := some 5, guard := none, op := AOp.mov (Atom.tmp 4) },
                { dst := some 6, guard := some (5, true), op := AOp.mov (Atom.tmp 0) },
                { dst := some 7, guard := some (5, true),
                  op := AOp.bin BinOp.leq (Atom.tmp 6) (Atom.const (Value.int IntKind.u8 (Int.ofNat 4))) },
                { dst := some 8, guard := none,
                  op := AOp.pick (Atom.tmp 5) (Atom.tmp 7) (Atom.const (Value.bool false)) },
                { dst := some 2, guard := none, op := AOp.mov (Atom.tmp 8) }]).seq
          ACode.ret) }

def a21 : AFn := AFn.go
  { nparams := 1, results := [ARes.tmp 2],
    body :=
      (ACode.ops
            [{ dst := some 1, guard := none, op := AOp.box 33 (Atom.tmp 0) },
              { dst := some 2, guard := none, op := AOp.mov (Atom.const (Value.bool false)) }]).seq
        (((ACode.ops
                  [{ dst := some 5, guard := none, op := AOp.fldA 0 (Atom.tmp 1) },
                    { dst := some 6, guard := none, op := AOp.load Sh.one (Atom.tmp 5) },
                    { dst := some 7, guard := none, op := AOp.fldA 1 (Atom.tmp 1) },
                    { dst := some 8, guard := none, op := AOp.load Sh.one (Atom.tmp 7) },
                    { dst := some 9, guard := none, op := AOp.fldA 2 (Atom.tmp 1) },
                    { dst := some 10, guard := none, op := AOp.load Sh.one (Atom.tmp 9) },
                    { dst := some 11, guard := none, op := AOp.fldA 3 (Atom.tmp 1) },
                    { dst := some 12, guard := none, op := AOp.load Sh.one (Atom.tmp 11) },
                    { dst := some 13, guard := none,
                      op :=
                        AOp.build
                          [Value.int IntKind.u32 (Int.ofNat 0), Value.int IntKind.u32 (Int.ofNat 0),
                            Value.int IntKind.u32 (Int.ofNat 0), Value.int IntKind.u32 (Int.ofNat 0)]
                          [(0, 1, Atom.tmp 6), (1, 1, Atom.tmp 8), (2, 1, Atom.tmp 10), (3, 1, Atom.tmp 12)] },
                    { dst := some 14, guard := none,
                      op := AOp.mov (Atom.const (Value.int IntKind.i64 (Int.ofNat 0))) }]).seq
              (ACode.block 0
                ((ACode.ops
                        [{ dst := some 15, guard := none,
                            op :=
                              AOp.bin BinOp.lss (Atom.tmp 14) (Atom.const (Value.int IntKind.i64 (Int.ofNat 4))) }]).seq
                    ((ACode.cond (Atom.tmp 15) ACode.skip (ACode.exit 0)).seq
                      ((ACode.block 1
                            ((ACode.ops
                                  [{ dst := some 16, guard := none,
                                      op := AOp.ix 4 1 Sh.one (Atom.tmp 13) (Atom.tmp 14) },
                                    { dst := some 4, guard := none, op := AOp.mov (Atom.tmp 16) }]).seq
                              ((ACode.ops
                                    [{ dst := some 17, guard := none, op := AOp.mov (Atom.tmp 4) },
                                      { dst := some 18, guard := none,
                                        op :=
                                          AOp.bin BinOp.lss (Atom.tmp 17)
                                            (Atom.const (Value.int IntKind.u32 (Int.ofNat 1))) },
                                      { dst := some 19, guard := none, op := AOp.mov (Atom.tmp 18) },
                                      { dst := some 20, guard := some (19, false), op := AOp.mov (Atom.tmp 4) },
                                      { dst := some 21, guard := some (19, false),
                                        op :=
                                          AOp.bin BinOp.gtr (Atom.tmp 20)
                                            (Atom.const (Value.int IntKind.u32 (Int.ofNat 1048576))) },
                                      { dst := some 22, guard := none,
                                        op :=
                                          AOp.pick (Atom.tmp 19) (Atom.const (Value.bool true)) (Atom.tmp 21) }]).seq
                                (ACode.cond (Atom.tmp 22)
                                  ((ACode.ops
                                        [{ dst := some 2, guard := none,
                                            op := AOp.mov (Atom.const (Value.bool false)) }]).seq
                                    ACode.ret)
                                  ACode.skip)))).seq
                        (ACode.ops
                          [{ dst := some 23, guard := none,
                              op :=
                                AOp.bin BinOp.add (Atom.tmp 14) (Atom.const (Value.int IntKind.i64 (Int.ofNat 1))) },
                            { dst := some 14, guard := none, op := AOp.mov (Atom.tmp 23) }])))).loop)).seq
          ((ACode.ops [{ dst := some 2, guard := none, op := AOp.mov (Atom.const (Value.bool true)) }]).seq
            ACode.ret)) }

def a22 : AFn := AFn.go
  { nparams := 1, results := [ARes.tmp 2],
    body :=
      (ACode.ops
            [{ dst := some 1, guard := none, op := AOp.box 33 (Atom.tmp 0) },
              { dst := some 2, guard := none, op := AOp.mov (Atom.const (Value.bool false)) }]).seq
        ((ACode.ops
              [{ dst := some 5, guard := none, op := AOp.fldA 0 (Atom.tmp 1) },
                { dst := some 6, guard := none, op := AOp.load Sh.one (Atom.tmp 5) },
                { dst := some 7, guard := none, op := AOp.fldA 1 (Atom.tmp 1) },
                { dst := some 8, guard := none, op := AOp.load Sh.one (Atom.tmp 7) },
                { dst := some 9, guard := none, op := AOp.fldA 2 (Atom.tmp 1) },
                { dst := some 10, guard := none, op := AOp.load Sh.one (Atom.tmp 9) },
                { dst := some 11, guard := none, op := AOp.fldA 3 (Atom.tmp 1) },
                { dst := some 12, guard := none, op := AOp.load Sh.one (Atom.tmp 11) },
                { dst := some 13, guard := none,
                  op :=
                    AOp.bslice 31 4
                      [Value.int IntKind.u32 (Int.ofNat 0), Value.int IntKind.u32 (Int.ofNat 0),
                        Value.int IntKind.u32 (Int.ofNat 0), Value.int IntKind.u32 (Int.ofNat 0)]
                      [(0, 1, Atom.tmp 6), (1, 1, Atom.tmp 8), (2, 1, Atom.tmp 10), (3, 1, Atom.tmp 12)] },
                { dst := some 3, guard := none, op := AOp.mov (Atom.tmp 13) }]).seq
          (((ACode.ops
                    [{ dst := some 4, guard := none,
                        op := AOp.mov (Atom.const (Value.int IntKind.i64 (Int.ofNat 0))) }]).seq
                (ACode.block 0
                  (((ACode.ops
                              [{ dst := some 14, guard := none, op := AOp.mov (Atom.tmp 4) },
                                { dst := some 15, guard := none, op := AOp.mov (Atom.tmp 3) },
                                { dst := some 16, guard := none, op := AOp.len LenK.slice (Atom.tmp 15) },
                                { dst := some 17, guard := none,
                                  op := AOp.bin BinOp.lss (Atom.tmp 14) (Atom.tmp 16) }]).seq
                          (ACode.cond (Atom.tmp 17) ACode.skip (ACode.exit 0))).seq
                      ((ACode.block 1
                            ((ACode.ops
                                  [{ dst := some 20, guard := none, op := AOp.mov (Atom.tmp 3) },
                                    { dst := some 21, guard := none, op := AOp.mov (Atom.tmp 4) },
                                    { dst := some 22, guard := none, op := AOp.ixA 1 (Atom.tmp 20) (Atom.tmp 21) },
                                    { dst := some 23, guard := none, op := AOp.load Sh.one (Atom.tmp 22) },
                                    { dst := some 24, guard := none,
                                      op :=
                                        AOp.bin BinOp.eql (Atom.tmp 23)
                                          (Atom.const (Value.int IntKind.u32 (Int.ofNat 0))) },
                                    { dst := some 25, guard := none, op := AOp.mov (Atom.tmp 24) },
                                    { dst := some 26, guard := some (25, false), op := AOp.mov (Atom.tmp 3) },
                                    { dst := some 27, guard := some (25, false), op := AOp.mov (Atom.tmp 4) },
                                    { dst := some 28, guard := some (25, false),
                                      op := AOp.ixA 1 (Atom.tmp 26) (Atom.tmp 27) },
                                    { dst := some 29, guard := some (25, false), op := AOp.load Sh.one (Atom.tmp 28) },
                                    { dst := some 30, guard := some (25, false),
                                      op :=
                                        AOp.bin BinOp.gtr (Atom.tmp 29)
                                          (Atom.const (Value.int IntKind.u32 (Int.ofNat 1048576))) },
                                    { dst := some 31, guard := none,
                                      op := AOp.pick (Atom.tmp 25) (Atom.const (Value.bool true)) (Atom.tmp 30) }]).seq
                              (ACode.cond (Atom.tmp 31)
                                ((ACode.ops
                                      [{ dst := some 2, guard := none,
                                          op := AOp.mov (Atom.const (Value.bool false)) }]).seq
                                  ACode.ret)
                                ACode.skip))).seq
                        (ACode.ops
                          [{ dst := some 18, guard := none, op := AOp.mov (Atom.tmp 4) },
                            { dst := some 19, guard := none,
                              op :=
                                AOp.bin BinOp.add (Atom.tmp 18) (Atom.const (Value.int IntKind.i64 (Int.ofNat 1))) },
                            { dst := some 4, guard := none, op := AOp.mov (Atom.tmp 19) }]))).loop)).seq
            ((ACode.ops [{ dst := some 2, guard := none, op := AOp.mov (Atom.const (Value.bool true)) }]).seq
              ACode.ret))) }

def a23 : AFn := AFn.go
  { nparams := 2, results := [ARes.tmp 4],
    body :=
      (ACode.ops
            [{ dst := some 2, guard := none, op := AOp.box 33 (Atom.tmp 0) },
              { dst := some 4, guard := none, op := AOp.mov (Atom.const (Value.int IntKind.u32 (Int.ofNat 0))) }]).seq
        (((ACode.ops
                  [{ dst := some 5, guard := none, op := AOp.mov (Atom.tmp 1) },
                    { dst := some 6, guard := none,
                      op :=
                        AOp.call (Atom.const (Value.func (Fn.func 18) { toList := [] } { toList := [] }))
                          [Atom.tmp 5] },
                    { dst := some 7, guard := none, op := AOp.un UnOp.not (Atom.tmp 6) }]).seq
              (ACode.cond (Atom.tmp 7)
                ((ACode.ops
                      [{ dst := some 4, guard := none,
                          op := AOp.mov (Atom.const (Value.int IntKind.u32 (Int.ofNat 0))) }]).seq
                  ACode.ret)
                ACode.skip)).seq
          ((ACode.ops
                [{ dst := some 8, guard := none, op := AOp.fldA 0 (Atom.tmp 2) },
                  { dst := some 9, guard := none, op := AOp.load Sh.one (Atom.tmp 8) },
                  { dst := some 10, guard := none, op := AOp.fldA 1 (Atom.tmp 2) },
                  { dst := some 11, guard := none, op := AOp.load Sh.one (Atom.tmp 10) },
                  { dst := some 12, guard := none, op := AOp.fldA 2 (Atom.tmp 2) },
                  { dst := some 13, guard := none, op := AOp.load Sh.one (Atom.tmp 12) },
                  { dst := some 14, guard := none, op := AOp.fldA 3 (Atom.tmp 2) },
                  { dst := some 15, guard := none, op := AOp.load Sh.one (Atom.tmp 14) },
                  { dst := some 16, guard := none,
                    op :=
                      AOp.build
                        [Value.int IntKind.u32 (Int.ofNat 0), Value.int IntKind.u32 (Int.ofNat 0),
                          Value.int IntKind.u32 (Int.ofNat 0), Value.int IntKind.u32 (Int.ofNat 0),
                          Value.int IntKind.u32 (Int.ofNat 0)]
                        [(0, 1, Atom.const (Value.int IntKind.u32 (Int.ofNat 0))), (1, 1, Atom.tmp 9),
                          (2, 1, Atom.tmp 11), (3, 1, Atom.tmp 13), (4, 1, Atom.tmp 15)] },
                  { dst := some 17, guard := none, op := AOp.mov (Atom.tmp 1) },
                  { dst := some 18, guard := none, op := AOp.ix 5 1 Sh.one (Atom.tmp 16) (Atom.tmp 17) },
                  { dst := some 4, guard := none, op := AOp.mov (Atom.tmp 18) }]).seq
            ACode.ret)) }

def a24 : AFn := AFn.go
  { nparams := 2, results := [ARes.tmp 4],
    body :=
      (ACode.ops
            [{ dst := some 2, guard := none, op := AOp.box 33 (Atom.tmp 0) },
              { dst := some 4, guard := none, op := AOp.mov (Atom.const (Value.int IntKind.u32 (Int.ofNat 0))) }]).seq
        (((ACode.ops [{ dst := some 5, guard := none, op := AOp.mov (Atom.tmp 1) }]).seq
              (ACode.block 0
                ((ACode.ops
                      [{ dst := some 7, guard := none,
                          op := AOp.bin BinOp.eql (Atom.tmp 5) (Atom.const (Value.int IntKind.u8 (Int.ofNat 1))) },
                        { dst := some 6, guard := none, op := AOp.mov (Atom.tmp 7) }]).seq
                  (ACode.cond (Atom.tmp 6)
                    ((ACode.ops
                          [{ dst := some 8, guard := none, op := AOp.fldA 0 (Atom.tmp 2) },
                            { dst := some 9, guard := none, op := AOp.load Sh.one (Atom.tmp 8) },
                            { dst := some 4, guard := none, op := AOp.mov (Atom.tmp 9) }]).seq
                      ACode.ret)
                    ((ACode.ops
                          [{ dst := some 11, guard := none,
                              op := AOp.bin BinOp.eql (Atom.tmp 5) (Atom.const (Value.int IntKind.u8 (Int.ofNat 2))) },
                            { dst := some 10, guard := none, op := AOp.mov (Atom.tmp 11) }]).seq
                      (ACode.cond (Atom.tmp 10)
                        ((ACode.ops
                              [{ dst := some 12, guard := none, op := AOp.fldA 1 (Atom.tmp 2) },
                                { dst := some 13, guard := none, op := AOp.load Sh.one (Atom.tmp 12) },
                                { dst := some 4, guard := none, op := AOp.mov (Atom.tmp 13) }]).seq
                          ACode.ret)
                        ((ACode.ops
                              [{ dst := some 15, guard := none,
                                  op :=
                                    AOp.bin BinOp.eql (Atom.tmp 5) (Atom.const (Value.int IntKind.u8 (Int.ofNat 3))) },
                                { dst := some 14, guard := none, op := AOp.mov (Atom.tmp 15) }]).seq
                          (ACode.cond (Atom.tmp 14)
                            ((ACode.ops
                                  [{ dst := some 16, guard := none, op := AOp.fldA 2 (Atom.tmp 2) },
                                    { dst := some 17, guard := none, op := AOp.load Sh.one (Atom.tmp 16) },
                                    { dst := some 4, guard := none, op := AOp.mov (Atom.tmp 17) }]).seq
                              ACode.ret)
                            ((ACode.ops
                                  [{ dst := some 19, guard := none,
                                      op :=
                                        AOp.bin BinOp.eql (Atom.tmp 5)
                                          (Atom.const (Value.int IntKind.u8 (Int.ofNat 4))) },
                                    { dst := some 18, guard := none, op := AOp.mov (Atom.tmp 19) }]).seq
                              (ACode.cond (Atom.tmp 18)
                                ((ACode.ops
                                      [{ dst := some 20, guard := none, op := AOp.fldA 3 (Atom.tmp 2) },
                                        { dst := some 21, guard := none, op := AOp.load Sh.one (Atom.tmp 20) },
                                        { dst := some 4, guard := none, op := AOp.mov (Atom.tmp 21) }]).seq
                                  ACode.ret)
                                ACode.skip)))))))))).seq
          ((ACode.ops
                [{ dst := some 4, guard := none,
                    op := AOp.mov (Atom.const (Value.int IntKind.u32 (Int.ofNat 0))) }]).seq
            ACode.ret)) }

def a16 : AFn := AFn.go
  { nparams := 2, results := [ARes.tmp 4, ARes.tmp 5],
    body :=
      (ACode.ops
            [{ dst := some 3, guard := none, op := AOp.box 5 (Atom.tmp 1) },
              { dst := some 4, guard := none, op := AOp.mov (Atom.const (Value.int IntKind.u8 (Int.ofNat 0))) },
              { dst := some 5, guard := none, op := AOp.mov (Atom.const (Value.bool false)) }]).seq
        ((ACode.ops
              [{ dst := some 7, guard := none, op := AOp.mkfn 80 [] [Atom.tmp 3] },
                { dst := some 6, guard := none, op := AOp.mov (Atom.tmp 7) }]).seq
          ((ACode.block 0
                ((ACode.ops
                      [{ dst := some 9, guard := none, op := AOp.mov (Atom.tmp 0) },
                        { dst := some 10, guard := none,
                          op := AOp.bin BinOp.eql (Atom.tmp 9) (Atom.const (Value.int IntKind.u8 (Int.ofNat 17))) },
                        { dst := some 8, guard := none, op := AOp.mov (Atom.tmp 10) }]).seq
                  (ACode.cond (Atom.tmp 8)
                    ((ACode.ops
                          [{ dst := some 4, guard := none,
                              op := AOp.mov (Atom.const (Value.int IntKind.u8 (Int.ofNat 1))) },
                            { dst := some 5, guard := none, op := AOp.mov (Atom.const (Value.bool true)) }]).seq
                      ACode.ret)
                    (((ACode.ops
                              [{ dst := some 12, guard := none, op := AOp.mov (Atom.tmp 0) },
                                { dst := some 13, guard := none,
                                  op :=
                                    AOp.bin BinOp.neq (Atom.tmp 12) (Atom.const (Value.int IntKind.u8 (Int.ofNat 6))) },
                                { dst := some 11, guard := none, op := AOp.mov (Atom.tmp 13) }]).seq
                          (ACode.cond (Atom.tmp 11) ACode.skip
                            ((ACode.ops
                                  [{ dst := some 14, guard := none, op := AOp.load Sh.one (Atom.tmp 3) },
                                    { dst := some 15, guard := none,
                                      op :=
                                        AOp.call
                                          (Atom.const (Value.func (Fn.func 81) { toList := [] } { toList := [] }))
                                          [Atom.tmp 14] },
                                    { dst := some 16, guard := none, op := AOp.un UnOp.not (Atom.tmp 15) },
                                    { dst := some 11, guard := none, op := AOp.mov (Atom.tmp 16) }]).seq
                              (ACode.cond (Atom.tmp 11) ACode.skip
                                (ACode.ops
                                  [{ dst := some 17, guard := none, op := AOp.mov (Atom.tmp 6) },
                                    { dst := some 18, guard := none,
                                      op := AOp.call (Atom.tmp 17) [Atom.const (Value.int IntKind.u8 (Int.ofNat 4))] },
                                    { dst := some 11, guard := none, op := AOp.mov (Atom.tmp 18) }]))))).seq
                      (ACode.cond (Atom.tmp 11)
                        ((ACode.ops
                              [{ dst := some 4, guard := none,
                                  op := AOp.mov (Atom.const (Value.int IntKind.u8 (Int.ofNat 0))) },
                                { dst := some 5, guard := none, op := AOp.mov (Atom.const (Value.bool false)) }]).seq
                          ACode.ret)
                        ((ACode.ops
                              [{ dst := some 20, guard := none, op := AOp.mov (Atom.tmp 6) },
                                { dst := some 21, guard := none,
                                  op := AOp.call (Atom.tmp 20) [Atom.const (Value.int IntKind.u8 (Int.ofNat 1))] },
                                { dst := some 19, guard := none, op := AOp.mov (Atom.tmp 21) }]).seq
                          (ACode.cond (Atom.tmp 19)
                            ((ACode.ops
                                  [{ dst := some 4, guard := none,
                                      op := AOp.mov (Atom.const (Value.int IntKind.u8 (Int.ofNat 4))) },
                                    { dst := some 5, guard := none, op := AOp.mov (Atom.const (Value.bool true)) }]).seq
                              ACode.ret)
                            ((ACode.ops
                                  [{ dst := some 23, guard := none, op := AOp.mov (Atom.tmp 6) },
                                    { dst := some 24, guard := none,
                                      op := AOp.call (Atom.tmp 23) [Atom.const (Value.int IntKind.u8 (Int.ofNat 2))] },
                                    { dst := some 22, guard := none, op := AOp.mov (Atom.tmp 24) }]).seq
                              (ACode.cond (Atom.tmp 22)
                                ((ACode.ops
                                      [{ dst := some 4, guard := none,
                                          op := AOp.mov (Atom.const (Value.int IntKind.u8 (Int.ofNat 2))) },
                                        { dst := some 5, guard := none,
                                          op := AOp.mov (Atom.const (Value.bool true)) }]).seq
                                  ACode.ret)
                                ACode.skip))))))))).seq
            ((ACode.ops
                  [{ dst := some 4, guard := none, op := AOp.mov (Atom.const (Value.int IntKind.u8 (Int.ofNat 3))) },
                    { dst := some 5, guard := none, op := AOp.mov (Atom.const (Value.bool true)) }]).seq
              ACode.ret))) }

def a19 : AFn := AFn.go
  { nparams := 2, results := [ARes.tmp 4, ARes.tmp 5],
    body :=
      (ACode.ops
            [{ dst := some 4, guard := none, op := AOp.mov (Atom.const (Value.int IntKind.u8 (Int.ofNat 0))) },
              { dst := some 5, guard := none, op := AOp.mov (Atom.const (Value.bool false)) }]).seq
        (((ACode.ops
                  [{ dst := some 6, guard := none, op := AOp.mov (Atom.tmp 0) },
                    { dst := some 7, guard := none,
                      op := AOp.bin BinOp.eql (Atom.tmp 6) (Atom.const (Value.int IntKind.u8 (Int.ofNat 17))) }]).seq
              (ACode.cond (Atom.tmp 7)
                ((ACode.ops
                      [{ dst := some 4, guard := none,
                          op := AOp.mov (Atom.const (Value.int IntKind.u8 (Int.ofNat 1))) },
                        { dst := some 5, guard := none, op := AOp.mov (Atom.const (Value.bool true)) }]).seq
                  ACode.ret)
                ACode.skip)).seq
          (((ACode.ops
                    [{ dst := some 8, guard := none, op := AOp.mov (Atom.tmp 0) },
                      { dst := some 9, guard := none,
                        op := AOp.bin BinOp.neq (Atom.tmp 8) (Atom.const (Value.int IntKind.u8 (Int.ofNat 6))) },
                      { dst := some 10, guard := none, op := AOp.mov (Atom.tmp 9) },
                      { dst := some 11, guard := some (10, false), op := AOp.mov (Atom.tmp 1) },
                      { dst := some 12, guard := some (10, false),
                        op :=
                          AOp.call (Atom.const (Value.func (Fn.func 83) { toList := [] } { toList := [] }))
                            [Atom.tmp 11] },
                      { dst := some 13, guard := some (10, false), op := AOp.un UnOp.not (Atom.tmp 12) },
                      { dst := some 14, guard := none,
                        op := AOp.pick (Atom.tmp 10) (Atom.const (Value.bool true)) (Atom.tmp 13) },
                      { dst := some 15, guard := none, op := AOp.mov (Atom.tmp 14) },
                      { dst := some 16, guard := some (15, false), op := AOp.mov (Atom.tmp 1) },
                      { dst := some 17, guard := some (15, false),
                        op :=
                          AOp.call (Atom.const (Value.func (Fn.func 84) { toList := [] } { toList := [] }))
                            [Atom.tmp 16, Atom.const (Value.int IntKind.u8 (Int.ofNat 4))] },
                      { dst := some 18, guard := none,
                        op := AOp.pick (Atom.tmp 15) (Atom.const (Value.bool true)) (Atom.tmp 17) }]).seq
                (ACode.cond (Atom.tmp 18)
                  ((ACode.ops
                        [{ dst := some 4, guard := none,
                            op := AOp.mov (Atom.const (Value.int IntKind.u8 (Int.ofNat 0))) },
                          { dst := some 5, guard := none, op := AOp.mov (Atom.const (Value.bool false)) }]).seq
                    ACode.ret)
                  ACode.skip)).seq
            (((ACode.ops
                      [{ dst := some 19, guard := none, op := AOp.mov (Atom.tmp 1) },
                        { dst := some 20, guard := none,
                          op :=
                            AOp.call (Atom.const (Value.func (Fn.func 84) { toList := [] } { toList := [] }))
                              [Atom.tmp 19, Atom.const (Value.int IntKind.u8 (Int.ofNat 1))] }]).seq
                  (ACode.cond (Atom.tmp 20)
                    ((ACode.ops
                          [{ dst := some 4, guard := none,
                              op := AOp.mov (Atom.const (Value.int IntKind.u8 (Int.ofNat 4))) },
                            { dst := some 5, guard := none, op := AOp.mov (Atom.const (Value.bool true)) }]).seq
                      ACode.ret)
                    ACode.skip)).seq
              (((ACode.ops
                        [{ dst := some 21, guard := none, op := AOp.mov (Atom.tmp 1) },
                          { dst := some 22, guard := none,
                            op :=
                              AOp.call (Atom.const (Value.func (Fn.func 84) { toList := [] } { toList := [] }))
                                [Atom.tmp 21, Atom.const (Value.int IntKind.u8 (Int.ofNat 2))] }]).seq
                    (ACode.cond (Atom.tmp 22)
                      ((ACode.ops
                            [{ dst := some 4, guard := none,
                                op := AOp.mov (Atom.const (Value.int IntKind.u8 (Int.ofNat 2))) },
                              { dst := some 5, guard := none, op := AOp.mov (Atom.const (Value.bool true)) }]).seq
                        ACode.ret)
                      ACode.skip)).seq
                ((ACode.ops
                      [{ dst := some 4, guard := none,
                          op := AOp.mov (Atom.const (Value.int IntKind.u8 (Int.ofNat 3))) },
                        { dst := some 5, guard := none, op := AOp.mov (Atom.const (Value.bool true)) }]).seq
                  ACode.ret))))) }

def a17 : AFn := AFn.go
  { nparams := 2, results := [ARes.tmp 4, ARes.tmp 5, ARes.tmp 6],
    body :=
      (ACode.ops
            [{ dst := some 3, guard := none, op := AOp.box 5 (Atom.tmp 1) },
              { dst := some 4, guard := none, op := AOp.mov (Atom.const (Value.int IntKind.u8 (Int.ofNat 0))) },
              { dst := some 5, guard := none, op := AOp.mov (Atom.const (Value.int IntKind.u8 (Int.ofNat 0))) },
              { dst := some 6, guard := none, op := AOp.mov (Atom.const (Value.int IntKind.i64 (Int.ofNat 0))) }]).seq
        ((ACode.ops
              [{ dst := some 8, guard := none, op := AOp.mkfn 82 [] [Atom.tmp 3] },
                { dst := some 7, guard := none, op := AOp.mov (Atom.tmp 8) }]).seq
          ((ACode.block 0
                ((ACode.ops
                      [{ dst := some 10, guard := none, op := AOp.mov (Atom.tmp 0) },
                        { dst := some 11, guard := none,
                          op :=
                            AOp.call (Atom.const (Value.func (Fn.func 18) { toList := [] } { toList := [] }))
                              [Atom.tmp 10] },
                        { dst := some 12, guard := none, op := AOp.un UnOp.not (Atom.tmp 11) },
                        { dst := some 9, guard := none, op := AOp.mov (Atom.tmp 12) }]).seq
                  (ACode.cond (Atom.tmp 9)
                    ((ACode.ops
                          [{ dst := some 4, guard := none,
                              op := AOp.mov (Atom.const (Value.int IntKind.u8 (Int.ofNat 0))) },
                            { dst := some 5, guard := none,
                              op := AOp.mov (Atom.const (Value.int IntKind.u8 (Int.ofNat 0))) },
                            { dst := some 6, guard := none,
                              op := AOp.mov (Atom.const (Value.int IntKind.i64 (Int.ofNat 2))) }]).seq
                      ACode.ret)
                    ((ACode.ops
                          [{ dst := some 14, guard := none, op := AOp.mov (Atom.tmp 0) },
                            { dst := some 15, guard := none,
                              op := AOp.bin BinOp.eql (Atom.tmp 14) (Atom.const (Value.int IntKind.u8 (Int.ofNat 1))) },
                            { dst := some 13, guard := none, op := AOp.mov (Atom.tmp 15) }]).seq
                      (ACode.cond (Atom.tmp 13)
                        ((ACode.ops
                              [{ dst := some 16, guard := none, op := AOp.mov (Atom.tmp 0) },
                                { dst := some 4, guard := none,
                                  op := AOp.mov (Atom.const (Value.int IntKind.u8 (Int.ofNat 1))) },
                                { dst := some 5, guard := none, op := AOp.mov (Atom.tmp 16) },
                                { dst := some 6, guard := none,
                                  op := AOp.mov (Atom.const (Value.int IntKind.i64 (Int.ofNat 0))) }]).seq
                          ACode.ret)
                        ((ACode.ops
                              [{ dst := some 18, guard := none, op := AOp.load Sh.one (Atom.tmp 3) },
                                { dst := some 19, guard := none,
                                  op :=
                                    AOp.call (Atom.const (Value.func (Fn.func 81) { toList := [] } { toList := [] }))
                                      [Atom.tmp 18] },
                                { dst := some 20, guard := none, op := AOp.un UnOp.not (Atom.tmp 19) },
                                { dst := some 17, guard := none, op := AOp.mov (Atom.tmp 20) }]).seq
                          (ACode.cond (Atom.tmp 17)
                            ((ACode.ops
                                  [{ dst := some 4, guard := none,
                                      op := AOp.mov (Atom.const (Value.int IntKind.u8 (Int.ofNat 0))) },
                                    { dst := some 5, guard := none,
                                      op := AOp.mov (Atom.const (Value.int IntKind.u8 (Int.ofNat 0))) },
                                    { dst := some 6, guard := none,
                                      op := AOp.mov (Atom.const (Value.int IntKind.i64 (Int.ofNat 2))) }]).seq
                              ACode.ret)
                            ((ACode.ops
                                  [{ dst := some 22, guard := none, op := AOp.mov (Atom.tmp 0) },
                                    { dst := some 23, guard := none,
                                      op :=
                                        AOp.bin BinOp.eql (Atom.tmp 22)
                                          (Atom.const (Value.int IntKind.u8 (Int.ofNat 4))) },
                                    { dst := some 24, guard := none, op := AOp.mov (Atom.tmp 23) },
                                    { dst := some 25, guard := some (24, true), op := AOp.mov (Atom.tmp 7) },
                                    { dst := some 26, guard := some (24, true),
                                      op := AOp.call (Atom.tmp 25) [Atom.const (Value.int IntKind.u8 (Int.ofNat 2))] },
                                    { dst := some 27, guard := none,
                                      op := AOp.pick (Atom.tmp 24) (Atom.tmp 26) (Atom.const (Value.bool false)) },
                                    { dst := some 28, guard := none, op := AOp.mov (Atom.tmp 27) },
                                    { dst := some 29, guard := some (28, true), op := AOp.mov (Atom.tmp 7) },
                                    { dst := some 30, guard := some (28, true),
                                      op := AOp.call (Atom.tmp 29) [Atom.const (Value.int IntKind.u8 (Int.ofNat 16))] },
                                    { dst := some 31, guard := some (28, true), op := AOp.un UnOp.not (Atom.tmp 30) },
                                    { dst := some 32, guard := none,
                                      op := AOp.pick (Atom.tmp 28) (Atom.tmp 31) (Atom.const (Value.bool false)) },
                                    { dst := some 21, guard := none, op := AOp.mov (Atom.tmp 32) }]).seq
                              (ACode.cond (Atom.tmp 21)
                                ((ACode.ops
                                      [{ dst := some 4, guard := none,
                                          op := AOp.mov (Atom.const (Value.int IntKind.u8 (Int.ofNat 3))) },
                                        { dst := some 5, guard := none,
                                          op := AOp.mov (Atom.const (Value.int IntKind.u8 (Int.ofNat 2))) },
                                        { dst := some 6, guard := none,
                                          op := AOp.mov (Atom.const (Value.int IntKind.i64 (Int.ofNat 0))) }]).seq
                                  ACode.ret)
                                ((ACode.ops
                                      [{ dst := some 34, guard := none, op := AOp.mov (Atom.tmp 7) },
                                        { dst := some 35, guard := none,
                                          op :=
                                            AOp.call (Atom.tmp 34) [Atom.const (Value.int IntKind.u8 (Int.ofNat 4))] },
                                        { dst := some 33, guard := none, op := AOp.mov (Atom.tmp 35) }]).seq
                                  (ACode.cond (Atom.tmp 33)
                                    ((ACode.ops
                                          [{ dst := some 36, guard := none, op := AOp.mov (Atom.tmp 0) },
                                            { dst := some 4, guard := none,
                                              op := AOp.mov (Atom.const (Value.int IntKind.u8 (Int.ofNat 2))) },
                                            { dst := some 5, guard := none, op := AOp.mov (Atom.tmp 36) },
                                            { dst := some 6, guard := none,
                                              op := AOp.mov (Atom.const (Value.int IntKind.i64 (Int.ofNat 0))) }]).seq
                                      ACode.ret)
                                    ((ACode.ops
                                          [{ dst := some 38, guard := none, op := AOp.mov (Atom.tmp 7) },
                                            { dst := some 39, guard := none,
                                              op :=
                                                AOp.call (Atom.tmp 38)
                                                  [Atom.const (Value.int IntKind.u8 (Int.ofNat 1))] },
                                            { dst := some 37, guard := none, op := AOp.mov (Atom.tmp 39) }]).seq
                                      (ACode.cond (Atom.tmp 37)
                                        ((ACode.ops
                                              [{ dst := some 4, guard := none,
                                                  op := AOp.mov (Atom.const (Value.int IntKind.u8 (Int.ofNat 1))) },
                                                { dst := some 5, guard := none,
                                                  op := AOp.mov (Atom.const (Value.int IntKind.u8 (Int.ofNat 4))) },
                                                { dst := some 6, guard := none,
                                                  op :=
                                                    AOp.mov (Atom.const (Value.int IntKind.i64 (Int.ofNat 0))) }]).seq
                                          ACode.ret)
                                        ((ACode.ops
                                              [{ dst := some 41, guard := none, op := AOp.mov (Atom.tmp 0) },
                                                { dst := some 42, guard := none,
                                                  op :=
                                                    AOp.bin BinOp.eql (Atom.tmp 41)
                                                      (Atom.const (Value.int IntKind.u8 (Int.ofNat 2))) },
                                                { dst := some 43, guard := none, op := AOp.mov (Atom.tmp 42) },
                                                { dst := some 44, guard := some (43, true),
                                                  op := AOp.mov (Atom.tmp 7) },
                                                { dst := some 45, guard := some (43, true),
                                                  op :=
                                                    AOp.call (Atom.tmp 44)
                                                      [Atom.const (Value.int IntKind.u8 (Int.ofNat 16))] },
                                                { dst := some 46, guard := none,
                                                  op :=
                                                    AOp.pick (Atom.tmp 43) (Atom.tmp 45)
                                                      (Atom.const (Value.bool false)) },
                                                { dst := some 47, guard := none, op := AOp.mov (Atom.tmp 46) },
                                                { dst := some 48, guard := some (47, true),
                                                  op := AOp.mov (Atom.tmp 7) },
                                                { dst := some 49, guard := some (47, true),
                                                  op :=
                                                    AOp.call (Atom.tmp 48)
                                                      [Atom.const (Value.int IntKind.u8 (Int.ofNat 2))] },
                                                { dst := some 50, guard := some (47, true),
                                                  op := AOp.un UnOp.not (Atom.tmp 49) },
                                                { dst := some 51, guard := none,
                                                  op :=
                                                    AOp.pick (Atom.tmp 47) (Atom.tmp 50)
                                                      (Atom.const (Value.bool false)) },
                                                { dst := some 40, guard := none, op := AOp.mov (Atom.tmp 51) }]).seq
                                          (ACode.cond (Atom.tmp 40)
                                            ((ACode.ops
                                                  [{ dst := some 4, guard := none,
                                                      op := AOp.mov (Atom.const (Value.int IntKind.u8 (Int.ofNat 1))) },
                                                    { dst := some 5, guard := none,
                                                      op := AOp.mov (Atom.const (Value.int IntKind.u8 (Int.ofNat 3))) },
                                                    { dst := some 6, guard := none,
                                                      op :=
                                                        AOp.mov
                                                          (Atom.const (Value.int IntKind.i64 (Int.ofNat 0))) }]).seq
                                              ACode.ret)
                                            ACode.skip))))))))))))))).seq
            ((ACode.ops
                  [{ dst := some 52, guard := none, op := AOp.mov (Atom.tmp 0) },
                    { dst := some 4, guard := none, op := AOp.mov (Atom.const (Value.int IntKind.u8 (Int.ofNat 1))) },
                    { dst := some 5, guard := none, op := AOp.mov (Atom.tmp 52) },
                    { dst := some 6, guard := none,
                      op := AOp.mov (Atom.const (Value.int IntKind.i64 (Int.ofNat 0))) }]).seq
              ACode.ret))) }

def a20 : AFn := AFn.go
  { nparams := 2, results := [ARes.tmp 4, ARes.tmp 5, ARes.tmp 6],
    body :=
      (ACode.ops
            [{ dst := some 4, guard := none, op := AOp.mov (Atom.const (Value.int IntKind.u8 (Int.ofNat 0))) },
              { dst := some 5, guard := none, op := AOp.mov (Atom.const (Value.int IntKind.u8 (Int.ofNat 0))) },
              { dst := some 6, guard := none, op := AOp.mov (Atom.const (Value.int IntKind.i64 (Int.ofNat 0))) }]).seq
        (((ACode.ops
                  [{ dst := some 11, guard := none, op := AOp.mov (Atom.tmp 0) },
                    { dst := some 12, guard := none,
                      op := AOp.bin BinOp.eql (Atom.tmp 11) (Atom.const (Value.int IntKind.u8 (Int.ofNat 1))) }]).seq
              (ACode.cond (Atom.tmp 12)
                ((ACode.ops
                      [{ dst := some 4, guard := none,
                          op := AOp.mov (Atom.const (Value.int IntKind.u8 (Int.ofNat 1))) },
                        { dst := some 5, guard := none,
                          op := AOp.mov (Atom.const (Value.int IntKind.u8 (Int.ofNat 1))) },
                        { dst := some 6, guard := none,
                          op := AOp.mov (Atom.const (Value.int IntKind.i64 (Int.ofNat 0))) }]).seq
                  ACode.ret)
                ACode.skip)).seq
          (((ACode.ops
                    [{ dst := some 13, guard := none, op := AOp.mov (Atom.tmp 0) },
                      { dst := some 14, guard := none,
                        op := AOp.bin BinOp.lss (Atom.tmp 13) (Atom.const (Value.int IntKind.u8 (Int.ofNat 1))) },
                      { dst := some 15, guard := none, op := AOp.mov (Atom.tmp 14) },
                      { dst := some 16, guard := some (15, false), op := AOp.mov (Atom.tmp 0) },
                      { dst := some 17, guard := some (15, false),
                        op := AOp.bin BinOp.gtr (Atom.tmp 16) (Atom.const (Value.int IntKind.u8 (Int.ofNat 4))) },
                      { dst := some 18, guard := none,
                        op := AOp.pick (Atom.tmp 15) (Atom.const (Value.bool true)) (Atom.tmp 17) },
                      { dst := some 19, guard := none, op := AOp.mov (Atom.tmp 18) },
                      { dst := some 20, guard := some (19, false), op := AOp.mov (Atom.tmp 1) },
                      { dst := some 21, guard := some (19, false),
                        op :=
                          AOp.call (Atom.const (Value.func (Fn.func 83) { toList := [] } { toList := [] }))
                            [Atom.tmp 20] },
                      { dst := some 22, guard := some (19, false), op := AOp.un UnOp.not (Atom.tmp 21) },
                      { dst := some 23, guard := none,
                        op := AOp.pick (Atom.tmp 19) (Atom.const (Value.bool true)) (Atom.tmp 22) }]).seq
                (ACode.cond (Atom.tmp 23)
                  ((ACode.ops
                        [{ dst := some 4, guard := none,
                            op := AOp.mov (Atom.const (Value.int IntKind.u8 (Int.ofNat 0))) },
                          { dst := some 5, guard := none,
                            op := AOp.mov (Atom.const (Value.int IntKind.u8 (Int.ofNat 0))) },
                          { dst := some 6, guard := none,
                            op := AOp.mov (Atom.const (Value.int IntKind.i64 (Int.ofNat 2))) }]).seq
                    ACode.ret)
                  ACode.skip)).seq
            ((ACode.ops
                  [{ dst := some 24, guard := none,
                      op := AOp.call (Atom.const (Value.func (Fn.func 85) { toList := [] } { toList := [] })) [] },
                    { dst := some 7, guard := none, op := AOp.mov (Atom.tmp 24) }]).seq
              (((ACode.ops
                        [{ dst := some 8, guard := none,
                            op := AOp.mov (Atom.const (Value.int IntKind.i64 (Int.ofNat 0))) }]).seq
                    (ACode.block 0
                      (((ACode.ops
                                  [{ dst := some 25, guard := none, op := AOp.mov (Atom.tmp 8) },
                                    { dst := some 26, guard := none, op := AOp.mov (Atom.tmp 7) },
                                    { dst := some 27, guard := none, op := AOp.len LenK.slice (Atom.tmp 26) },
                                    { dst := some 28, guard := none,
                                      op := AOp.bin BinOp.lss (Atom.tmp 25) (Atom.tmp 27) }]).seq
                              (ACode.cond (Atom.tmp 28) ACode.skip (ACode.exit 0))).seq
                          ((ACode.block 1
                                ((ACode.ops
                                      [{ dst := some 31, guard := none, op := AOp.mov (Atom.tmp 7) },
                                        { dst := some 32, guard := none, op := AOp.mov (Atom.tmp 8) },
                                        { dst := some 33, guard := none, op := AOp.ixA 5 (Atom.tmp 31) (Atom.tmp 32) },
                                        { dst := some 34, guard := none, op := AOp.load (Sh.agg 5) (Atom.tmp 33) },
                                        { dst := some 9, guard := none,
                                          op :=
                                            AOp.alloc 147
                                              [Value.int IntKind.u8 (Int.ofNat 0), Value.int IntKind.u8 (Int.ofNat 0),
                                                Value.int IntKind.u8 (Int.ofNat 0), Value.int IntKind.u8 (Int.ofNat 0),
                                                Value.int IntKind.u8 (Int.ofNat 0)] },
                                        { dst := none, guard := none,
                                          op := AOp.store 5 (Atom.tmp 9) (Atom.tmp 34) }]).seq
                                  ((ACode.ops
                                        [{ dst := some 35, guard := none, op := AOp.fldA 0 (Atom.tmp 9) },
                                          { dst := some 36, guard := none, op := AOp.load Sh.one (Atom.tmp 35) },
                                          { dst := some 37, guard := none,
                                            op :=
                                              AOp.bin BinOp.eql (Atom.tmp 36)
                                                (Atom.const (Value.int IntKind.u8 (Int.ofNat 0))) },
                                          { dst := some 38, guard := none, op := AOp.mov (Atom.tmp 37) },
                                          { dst := some 39, guard := some (38, false), op := AOp.fldA 0 (Atom.tmp 9) },
                                          { dst := some 40, guard := some (38, false),
                                            op := AOp.load Sh.one (Atom.tmp 39) },
                                          { dst := some 41, guard := some (38, false), op := AOp.mov (Atom.tmp 0) },
                                          { dst := some 42, guard := some (38, false),
                                            op := AOp.bin BinOp.eql (Atom.tmp 40) (Atom.tmp 41) },
                                          { dst := some 43, guard := none,
                                            op := AOp.pick (Atom.tmp 38) (Atom.const (Value.bool true)) (Atom.tmp 42) },
                                          { dst := some 44, guard := none, op := AOp.mov (Atom.tmp 43) },
                                          { dst := some 45, guard := some (44, true), op := AOp.fldA 1 (Atom.tmp 9) },
                                          { dst := some 46, guard := some (44, true),
                                            op := AOp.load Sh.one (Atom.tmp 45) },
                                          { dst := some 47, guard := some (44, true),
                                            op :=
                                              AOp.bin BinOp.eql (Atom.tmp 46)
                                                (Atom.const (Value.int IntKind.u8 (Int.ofNat 0))) },
                                          { dst := some 48, guard := some (44, true), op := AOp.mov (Atom.tmp 47) },
                                          { dst := some 49, guard := some (48, false), op := AOp.mov (Atom.tmp 1) },
                                          { dst := some 50, guard := some (48, false), op := AOp.fldA 1 (Atom.tmp 9) },
                                          { dst := some 51, guard := some (48, false),
                                            op := AOp.load Sh.one (Atom.tmp 50) },
                                          { dst := some 52, guard := some (48, false),
                                            op :=
                                              AOp.call
                                                (Atom.const (Value.func (Fn.func 84) { toList := [] } { toList := [] }))
                                                [Atom.tmp 49, Atom.tmp 51] },
                                          { dst := some 53, guard := some (44, true),
                                            op := AOp.pick (Atom.tmp 48) (Atom.const (Value.bool true)) (Atom.tmp 52) },
                                          { dst := some 54, guard := none,
                                            op :=
                                              AOp.pick (Atom.tmp 44) (Atom.tmp 53) (Atom.const (Value.bool false)) },
                                          { dst := some 55, guard := none, op := AOp.mov (Atom.tmp 54) },
                                          { dst := some 56, guard := some (55, true), op := AOp.fldA 2 (Atom.tmp 9) },
                                          { dst := some 57, guard := some (55, true),
                                            op := AOp.load Sh.one (Atom.tmp 56) },
                                          { dst := some 58, guard := some (55, true),
                                            op :=
                                              AOp.bin BinOp.eql (Atom.tmp 57)
                                                (Atom.const (Value.int IntKind.u8 (Int.ofNat 0))) },
                                          { dst := some 59, guard := some (55, true), op := AOp.mov (Atom.tmp 58) },
                                          { dst := some 60, guard := some (59, false), op := AOp.mov (Atom.tmp 1) },
                                          { dst := some 61, guard := some (59, false), op := AOp.fldA 2 (Atom.tmp 9) },
                                          { dst := some 62, guard := some (59, false),
                                            op := AOp.load Sh.one (Atom.tmp 61) },
                                          { dst := some 63, guard := some (59, false),
                                            op :=
                                              AOp.call
                                                (Atom.const (Value.func (Fn.func 84) { toList := [] } { toList := [] }))
                                                [Atom.tmp 60, Atom.tmp 62] },
                                          { dst := some 64, guard := some (59, false),
                                            op := AOp.un UnOp.not (Atom.tmp 63) },
                                          { dst := some 65, guard := some (55, true),
                                            op := AOp.pick (Atom.tmp 59) (Atom.const (Value.bool true)) (Atom.tmp 64) },
                                          { dst := some 66, guard := none,
                                            op :=
                                              AOp.pick (Atom.tmp 55) (Atom.tmp 65) (Atom.const (Value.bool false)) },
                                          { dst := some 10, guard := none, op := AOp.mov (Atom.tmp 66) }]).seq
                                    (((ACode.ops
                                              [{ dst := some 67, guard := none, op := AOp.mov (Atom.tmp 10) },
                                                { dst := some 68, guard := none, op := AOp.mov (Atom.tmp 67) },
                                                { dst := some 69, guard := some (68, true),
                                                  op := AOp.fldA 4 (Atom.tmp 9) },
                                                { dst := some 70, guard := some (68, true),
                                                  op := AOp.load Sh.one (Atom.tmp 69) },
                                                { dst := some 71, guard := some (68, true),
                                                  op :=
                                                    AOp.bin BinOp.eql (Atom.tmp 70)
                                                      (Atom.const (Value.int IntKind.u8 (Int.ofNat 0))) },
                                                { dst := some 72, guard := none,
                                                  op :=
                                                    AOp.pick (Atom.tmp 68) (Atom.tmp 71)
                                                      (Atom.const (Value.bool false)) }]).seq
                                          (ACode.cond (Atom.tmp 72)
                                            ((ACode.ops
                                                  [{ dst := some 73, guard := none, op := AOp.fldA 3 (Atom.tmp 9) },
                                                    { dst := some 74, guard := none,
                                                      op := AOp.load Sh.one (Atom.tmp 73) },
                                                    { dst := some 75, guard := none, op := AOp.mov (Atom.tmp 0) },
                                                    { dst := some 4, guard := none, op := AOp.mov (Atom.tmp 74) },
                                                    { dst := some 5, guard := none, op := AOp.mov (Atom.tmp 75) },
                                                    { dst := some 6, guard := none,
                                                      op :=
                                                        AOp.mov
                                                          (Atom.const (Value.int IntKind.i64 (Int.ofNat 0))) }]).seq
                                              ACode.ret)
                                            ACode.skip)).seq
                                      ((ACode.ops [{ dst := some 76, guard := none, op := AOp.mov (Atom.tmp 10) }]).seq
                                        (ACode.cond (Atom.tmp 76)
                                          ((ACode.drawn
                                                [{ dst := some 77, guard := none, op := AOp.fldA 3 (Atom.tmp 9) },
                                                  { dst := some 78, guard := none,
                                                    op := AOp.load Sh.one (Atom.tmp 77) },
                                                  { dst := some 79, guard := none, op := AOp.fldA 4 (Atom.tmp 9) },
                                                  { dst := some 80, guard := none,
                                                    op := AOp.load Sh.one (Atom.tmp 79) },
                                                  { dst := some 4, guard := none, op := AOp.mov (Atom.tmp 78) },
                                                  { dst := some 5, guard := none, op := AOp.mov (Atom.tmp 80) },
                                                  { dst := some 6, guard := none,
                                                    op := AOp.mov (Atom.const (Value.int IntKind.i64 (Int.ofNat 0))) }]
                                                [0, 1, 0, 4, 3, 31, 63]).seq
                                            ACode.ret)
                                          ACode.skip)))))).seq
                            (ACode.ops
                              [{ dst := some 29, guard := none, op := AOp.mov (Atom.tmp 8) },
                                { dst := some 30, guard := none,
                                  op :=
                                    AOp.bin BinOp.add (Atom.tmp 29)
                                      (Atom.const (Value.int IntKind.i64 (Int.ofNat 1))) },
                                { dst := some 8, guard := none, op := AOp.mov (Atom.tmp 30) }]))).loop)).seq
                ((ACode.ops
                      [{ dst := some 4, guard := none,
                          op := AOp.mov (Atom.const (Value.int IntKind.u8 (Int.ofNat 0))) },
                        { dst := some 5, guard := none,
                          op := AOp.mov (Atom.const (Value.int IntKind.u8 (Int.ofNat 0))) },
                        { dst := some 6, guard := none,
                          op := AOp.mov (Atom.const (Value.int IntKind.i64 (Int.ofNat 2))) }]).seq
                  ACode.ret))))) }

def a4 : AFn := AFn.go
  { nparams := 4, results := [ARes.tmp 8],
    body :=
      (ACode.ops
            [{ dst := some 7, guard := none, op := AOp.box 33 (Atom.tmp 3) },
              { dst := some 8, guard := none, op := AOp.mov (Atom.const (Value.bool false)) }]).seq
        ((ACode.ops
              [{ dst := some 20, guard := none, op := AOp.mov (Atom.tmp 0) },
                { dst := some 21, guard := none, op := AOp.mov (Atom.tmp 2) },
                { dst := some 22, guard := none,
                  op :=
                    AOp.call (Atom.const (Value.func (Fn.func 16) { toList := [] } { toList := [] }))
                      [Atom.tmp 20, Atom.tmp 21] },
                { dst := some 19, guard := none, op := AOp.mov (Atom.tmp 22) },
                { dst := some 23, guard := none, op := AOp.ext (Atom.tmp 19) 0 },
                { dst := some 24, guard := none, op := AOp.ext (Atom.tmp 19) 1 },
                { dst := some 9, guard := none, op := AOp.mov (Atom.tmp 23) },
                { dst := some 10, guard := none, op := AOp.mov (Atom.tmp 24) }]).seq
          ((ACode.ops
                [{ dst := some 26, guard := none, op := AOp.mov (Atom.tmp 0) },
                  { dst := some 27, guard := none, op := AOp.mov (Atom.tmp 2) },
                  { dst := some 28, guard := none,
                    op :=
                      AOp.call (Atom.const (Value.func (Fn.func 19) { toList := [] } { toList := [] }))
                        [Atom.tmp 26, Atom.tmp 27] },
                  { dst := some 25, guard := none, op := AOp.mov (Atom.tmp 28) },
                  { dst := some 29, guard := none, op := AOp.ext (Atom.tmp 25) 0 },
                  { dst := some 30, guard := none, op := AOp.ext (Atom.tmp 25) 1 },
                  { dst := some 11, guard := none, op := AOp.mov (Atom.tmp 29) },
                  { dst := some 12, guard := none, op := AOp.mov (Atom.tmp 30) }]).seq
            ((ACode.ops
                  [{ dst := some 32, guard := none, op := AOp.mov (Atom.tmp 1) },
                    { dst := some 33, guard := none, op := AOp.mov (Atom.tmp 2) },
                    { dst := some 34, guard := none,
                      op :=
                        AOp.call (Atom.const (Value.func (Fn.func 17) { toList := [] } { toList := [] }))
                          [Atom.tmp 32, Atom.tmp 33] },
                    { dst := some 31, guard := none, op := AOp.mov (Atom.tmp 34) },
                    { dst := some 35, guard := none, op := AOp.ext (Atom.tmp 31) 0 },
                    { dst := some 36, guard := none, op := AOp.ext (Atom.tmp 31) 1 },
                    { dst := some 37, guard := none, op := AOp.ext (Atom.tmp 31) 2 },
                    { dst := some 13, guard := none, op := AOp.mov (Atom.tmp 35) },
                    { dst := some 14, guard := none, op := AOp.mov (Atom.tmp 36) },
                    { dst := some 15, guard := none, op := AOp.mov (Atom.tmp 37) }]).seq
              ((ACode.ops
                    [{ dst := some 39, guard := none, op := AOp.mov (Atom.tmp 1) },
                      { dst := some 40, guard := none, op := AOp.mov (Atom.tmp 2) },
                      { dst := some 41, guard := none,
                        op :=
                          AOp.call (Atom.const (Value.func (Fn.func 20) { toList := [] } { toList := [] }))
                            [Atom.tmp 39, Atom.tmp 40] },
                      { dst := some 38, guard := none, op := AOp.mov (Atom.tmp 41) },
                      { dst := some 42, guard := none, op := AOp.ext (Atom.tmp 38) 0 },
                      { dst := some 43, guard := none, op := AOp.ext (Atom.tmp 38) 1 },
                      { dst := some 44, guard := none, op := AOp.ext (Atom.tmp 38) 2 },
                      { dst := some 16, guard := none, op := AOp.mov (Atom.tmp 42) },
                      { dst := some 17, guard := none, op := AOp.mov (Atom.tmp 43) },
                      { dst := some 18, guard := none, op := AOp.mov (Atom.tmp 44) }]).seq
                ((ACode.drawn
                      [{ dst := some 45, guard := none, op := AOp.mov (Atom.tmp 9) },
                        { dst := some 46, guard := none, op := AOp.mov (Atom.tmp 11) },
                        { dst := some 47, guard := none, op := AOp.bin BinOp.eql (Atom.tmp 45) (Atom.tmp 46) },
                        { dst := some 48, guard := none, op := AOp.mov (Atom.tmp 47) },
                        { dst := some 49, guard := some (48, true), op := AOp.mov (Atom.tmp 10) },
                        { dst := some 50, guard := some (48, true), op := AOp.mov (Atom.tmp 12) },
                        { dst := some 51, guard := some (48, true),
                          op := AOp.eq false EqK.bool (Atom.tmp 49) (Atom.tmp 50) },
                        { dst := some 52, guard := none,
                          op := AOp.pick (Atom.tmp 48) (Atom.tmp 51) (Atom.const (Value.bool false)) },
                        { dst := some 53, guard := none, op := AOp.mov (Atom.tmp 52) },
                        { dst := some 54, guard := some (53, true), op := AOp.mov (Atom.tmp 13) },
                        { dst := some 55, guard := some (53, true), op := AOp.mov (Atom.tmp 16) },
                        { dst := some 56, guard := some (53, true),
                          op := AOp.bin BinOp.eql (Atom.tmp 54) (Atom.tmp 55) },
                        { dst := some 57, guard := none,
                          op := AOp.pick (Atom.tmp 53) (Atom.tmp 56) (Atom.const (Value.bool false)) },
                        { dst := some 58, guard := none, op := AOp.mov (Atom.tmp 57) },
                        { dst := some 59, guard := some (58, true), op := AOp.mov (Atom.tmp 14) },
                        { dst := some 60, guard := some (58, true), op := AOp.mov (Atom.tmp 17) },
                        { dst := some 61, guard := some (58, true),
                          op := AOp.bin BinOp.eql (Atom.tmp 59) (Atom.tmp 60) },
                        { dst := some 62, guard := none,
                          op := AOp.pick (Atom.tmp 58) (Atom.tmp 61) (Atom.const (Value.bool false)) },
                        { dst := some 63, guard := none, op := AOp.mov (Atom.tmp 62) },
                        { dst := some 64, guard := some (63, true), op := AOp.mov (Atom.tmp 15) },
                        { dst := some 65, guard := some (63, true), op := AOp.mov (Atom.tmp 18) },
                        { dst := some 66, guard := some (63, true),
                          op := AOp.bin BinOp.eql (Atom.tmp 64) (Atom.tmp 65) },
                        { dst := some 67, guard := none,
                          op := AOp.pick (Atom.tmp 63) (Atom.tmp 66) (Atom.const (Value.bool false)) },
                        { dst := some 68, guard := none, op := AOp.mov (Atom.tmp 67) },
                        { dst := some 69, guard := some (68, true), op := AOp.mov (Atom.tmp 1) },
                        { dst := some 70, guard := some (68, true),
                          op :=
                            AOp.call (Atom.const (Value.func (Fn.func 18) { toList := [] } { toList := [] }))
                              [Atom.tmp 69] },
                        { dst := some 71, guard := some (68, true), op := AOp.mov (Atom.tmp 1) },
                        { dst := some 72, guard := some (68, true),
                          op := AOp.bin BinOp.geq (Atom.tmp 71) (Atom.const (Value.int IntKind.u8 (Int.ofNat 1))) },
                        { dst := some 73, guard := some (68, true), op := AOp.mov (Atom.tmp 72) },
                        { dst := some 74, guard := some (73, true), op := AOp.mov (Atom.tmp 1) },
                        { dst := some 75, guard := some (73, true),
                          op := AOp.bin BinOp.leq (Atom.tmp 74) (Atom.const (Value.int IntKind.u8 (Int.ofNat 4))) },
                        { dst := some 76, guard := some (68, true),
                          op := AOp.pick (Atom.tmp 73) (Atom.tmp 75) (Atom.const (Value.bool false)) },
                        { dst := some 77, guard := some (68, true),
                          op := AOp.eq false EqK.bool (Atom.tmp 70) (Atom.tmp 76) },
                        { dst := some 78, guard := none,
                          op := AOp.pick (Atom.tmp 68) (Atom.tmp 77) (Atom.const (Value.bool false)) },
                        { dst := some 79, guard := none, op := AOp.mov (Atom.tmp 78) },
                        { dst := some 80, guard := some (79, true), op := AOp.load (Sh.agg 4) (Atom.tmp 7) },
                        { dst := some 81, guard := some (79, true),
                          op :=
                            AOp.call (Atom.const (Value.func (Fn.func 21) { toList := [] } { toList := [] }))
                              [Atom.tmp 80] },
                        { dst := some 82, guard := some (79, true), op := AOp.load (Sh.agg 4) (Atom.tmp 7) },
                        { dst := some 83, guard := some (79, true),
                          op :=
                            AOp.call (Atom.const (Value.func (Fn.func 22) { toList := [] } { toList := [] }))
                              [Atom.tmp 82] },
                        { dst := some 84, guard := some (79, true),
                          op := AOp.eq false EqK.bool (Atom.tmp 81) (Atom.tmp 83) },
                        { dst := some 85, guard := none,
                          op := AOp.pick (Atom.tmp 79) (Atom.tmp 84) (Atom.const (Value.bool false)) },
                        { dst := some 86, guard := none, op := AOp.mov (Atom.tmp 85) },
                        { dst := some 87, guard := some (86, true), op := AOp.load (Sh.agg 4) (Atom.tmp 7) },
                        { dst := some 88, guard := some (86, true), op := AOp.mov (Atom.tmp 1) },
                        { dst := some 89, guard := some (86, true),
                          op :=
                            AOp.call (Atom.const (Value.func (Fn.func 23) { toList := [] } { toList := [] }))
                              [Atom.tmp 87, Atom.tmp 88] },
                        { dst := some 90, guard := some (86, true), op := AOp.load (Sh.agg 4) (Atom.tmp 7) },
                        { dst := some 91, guard := some (86, true), op := AOp.mov (Atom.tmp 1) },
                        { dst := some 92, guard := some (86, true),
                          op :=
                            AOp.call (Atom.const (Value.func (Fn.func 24) { toList := [] } { toList := [] }))
                              [Atom.tmp 90, Atom.tmp 91] },
                        { dst := some 93, guard := some (86, true),
                          op := AOp.bin BinOp.eql (Atom.tmp 89) (Atom.tmp 92) },
                        { dst := some 94, guard := none,
                          op := AOp.pick (Atom.tmp 86) (Atom.tmp 93) (Atom.const (Value.bool false)) },
                        { dst := some 95, guard := none, op := AOp.mov (Atom.tmp 94) },
                        { dst := some 96, guard := some (95, true),
                          op := AOp.call (Atom.const (Value.func (Fn.func 15) { toList := [] } { toList := [] })) [] },
                        { dst := some 97, guard := none,
                          op := AOp.pick (Atom.tmp 95) (Atom.tmp 96) (Atom.const (Value.bool false)) },
                        { dst := some 8, guard := none, op := AOp.mov (Atom.tmp 97) }]
                      [0, 0, 3, 7, 15, 15, 63, 127, 255, 511, 511, 2047, 4095, 8191, 16383, 16383, 65535, 131071,
                        262143, 524287, 524287, 2097151, 4194303, 8388607, 16777215, 33554431, 16777215, 83886079,
                        268435455, 536870911, 1073741823, 2147483647, 4294967295, 8589934591, 17179869183, 34359738367,
                        68719476735, 34359738367, 274877906943, 549755813887, 1099511627775, 2199023255551,
                        4398046511103, 4398046511103, 17592186044415, 4398046511103, 4398046511103, 140737488355327,
                        281474976710655, 562949953421311, 1125899906842623, 2251799813685247, 4503599627370495,
                        9007199254740991]).seq
                  ACode.ret))))) }

def b18 : ACode := bodyOf (some a18)
theorem v18 (C : Tgt → List Value → M Value) (n : Nat) (t0 : Value) (S : St) : codeV C n b18 (argsEnv [t0] 0 .leaf) (endV [.tmp 2] fun v S => some (v, S)) S =
  M.k (X C (.bin .geq (.const t0) (.const (.int .u8 1)))) (fun t4 S =>
  M.k (G (wanted true t4) (X C (.mov (.const t0)))) (fun t6 S =>
  M.k (G (wanted true t4) (X C (.bin .leq (.const t6) (.const (.int .u8 4))))) (fun t7 S =>
  M.k (X C (.pick (.const t4) (.const t7) (.const (.bool false)))) (fun t8 S =>
  some (t8, S)) S) S) S) S := by kernel_rfl
theorem t18 : T 18 = some a18 := by kernel_rfl
theorem w18 (n : Nat) (t0 : Value) (S : St) : callN T (n + 1) (.fn 18) [t0] S = codeV (callN T n) n b18 (argsEnv [t0] 0 .leaf) (endV [.tmp 2] fun v S => some (v, S)) S := callV (af := goOf (some a18)) (t18) (by rfl) S

def b21 : ACode := bodyOf (some a21)
theorem v21 (C : Tgt → List Value → M Value) (n : Nat) (t0 : Value) (S : St) : codeV C n b21 (argsEnv [t0] 0 .leaf) (endV [.tmp 2] fun v S => some (v, S)) S =
  M.k (X C (.box 33 (.const t0))) (fun t1 S =>
  M.k (X C (.fldA 0 (.const t1))) (fun t5 S =>
  M.k (X C (.load .one (.const t5))) (fun t6 S =>
  M.k (X C (.fldA 1 (.const t1))) (fun t7 S =>
  M.k (X C (.load .one (.const t7))) (fun t8 S =>
  M.k (X C (.fldA 2 (.const t1))) (fun t9 S =>
  M.k (X C (.load .one (.const t9))) (fun t10 S =>
  M.k (X C (.fldA 3 (.const t1))) (fun t11 S =>
  M.k (X C (.load .one (.const t11))) (fun t12 S =>
  M.k (X C (.build [(.int .u32 0), (.int .u32 0), (.int .u32 0), (.int .u32 0)] [(0, 1, (.const t6)), (1, 1, (.const t8)), (2, 1, (.const t10)), (3, 1, (.const t12))])) (fun t13 S =>
  M.k (iter (run C n (lB (bB (sR (sL (sR b21)))))) n ((((((((((((((.leaf : Env).set 0 (some t0)).set 1 (some t1)).set 2 (some (.bool false))).set 5 (some t5)).set 6 (some t6)).set 7 (some t7)).set 8 (some t8)).set 9 (some t9)).set 10 (some t10)).set 11 (some t11)).set 12 (some t12)).set 13 (some t13)).set 14 (some (.int .i64 0)))) (fun r S => (contB 0 (contS (fun e S => codeV C n (sR (sR b21)) e (endV [.tmp 2] (fun v S => some (v, S))) S) (endV [.tmp 2] (fun v S => some (v, S))))) r.1 r.2 S) S) S) S) S) S) S) S) S) S) S) S := by kernel_rfl
theorem t21 : T 21 = some a21 := by kernel_rfl
theorem w21 (n : Nat) (t0 : Value) (S : St) : callN T (n + 1) (.fn 21) [t0] S = codeV (callN T n) n b21 (argsEnv [t0] 0 .leaf) (endV [.tmp 2] fun v S => some (v, S)) S := callV (af := goOf (some a21)) (t21) (by rfl) S

def b22 : ACode := bodyOf (some a22)
theorem v22 (C : Tgt → List Value → M Value) (n : Nat) (t0 : Value) (S : St) : codeV C n b22 (argsEnv [t0] 0 .leaf) (endV [.tmp 2] fun v S => some (v, S)) S =
  M.k (X C (.box 33 (.const t0))) (fun t1 S =>
  M.k (X C (.fldA 0 (.const t1))) (fun t5 S =>
  M.k (X C (.load .one (.const t5))) (fun t6 S =>
  M.k (X C (.fldA 1 (.const t1))) (fun t7 S =>
  M.k (X C (.load .one (.const t7))) (fun t8 S =>
  M.k (X C (.fldA 2 (.const t1))) (fun t9 S =>
  M.k (X C (.load .one (.const t9))) (fun t10 S =>
  M.k (X C (.fldA 3 (.const t1))) (fun t11 S =>
  M.k (X C (.load .one (.const t11))) (fun t12 S =>
  M.k (X C (.bslice 31 4 [(.int .u32 0), (.int .u32 0), (.int .u32 0), (.int .u32 0)] [(0, 1, (.const t6)), (1, 1, (.const t8)), (2, 1, (.const t10)), (3, 1, (.const t12))])) (fun t13 S =>
  M.k (iter (run C n (lB (bB (sR (sL (sR (sR b22))))))) n (((((((((((((((.leaf : Env).set 0 (some t0)).set 1 (some t1)).set 2 (some (.bool false))).set 3 (some t13)).set 4 (some (.int .i64 0))).set 5 (some t5)).set 6 (some t6)).set 7 (some t7)).set 8 (some t8)).set 9 (some t9)).set 10 (some t10)).set 11 (some t11)).set 12 (some t12)).set 13 (some t13))) (fun r S => (contB 0 (contS (fun e S => codeV C n (sR (sR (sR b22))) e (endV [.tmp 2] (fun v S => some (v, S))) S) (endV [.tmp 2] (fun v S => some (v, S))))) r.1 r.2 S) S) S) S) S) S) S) S) S) S) S) S := by kernel_rfl
theorem t22 : T 22 = some a22 := by kernel_rfl
theorem w22 (n : Nat) (t0 : Value) (S : St) : callN T (n + 1) (.fn 22) [t0] S = codeV (callN T n) n b22 (argsEnv [t0] 0 .leaf) (endV [.tmp 2] fun v S => some (v, S)) S := callV (af := goOf (some a22)) (t22) (by rfl) S

def b23 : ACode := bodyOf (some a23)
theorem v23 (C : Tgt → List Value → M Value) (n : Nat) (t0 t1 : Value) (S : St) : codeV C n b23 (argsEnv [t0, t1] 0 .leaf) (endV [.tmp 4] fun v S => some (v, S)) S =
  M.k (X C (.box 33 (.const t0))) (fun t2 S =>
  M.k (X C (.call (.const (.func (.func 18) ⟨[]⟩ ⟨[]⟩)) [(.const t1)])) (fun t6 S =>
  M.k (X C (.un .not (.const t6))) (fun t7 S =>
  ifK (Wb.asBool t7) (fun S =>
   some ((.int .u32 0), S)) (fun S =>
   M.k (X C (.fldA 0 (.const t2))) (fun t8 S =>
   M.k (X C (.load .one (.const t8))) (fun t9 S =>
   M.k (X C (.fldA 1 (.const t2))) (fun t10 S =>
   M.k (X C (.load .one (.const t10))) (fun t11 S =>
   M.k (X C (.fldA 2 (.const t2))) (fun t12 S =>
   M.k (X C (.load .one (.const t12))) (fun t13 S =>
   M.k (X C (.fldA 3 (.const t2))) (fun t14 S =>
   M.k (X C (.load .one (.const t14))) (fun t15 S =>
   M.k (X C (.build [(.int .u32 0), (.int .u32 0), (.int .u32 0), (.int .u32 0), (.int .u32 0)] [(0, 1, (.const (.int .u32 0))), (1, 1, (.const t9)), (2, 1, (.const t11)), (3, 1, (.const t13)), (4, 1, (.const t15))])) (fun t16 S =>
   M.k (X C (.ix 5 1 .one (.const t16) (.const t1))) (fun t18 S =>
   some (t18, S)) S) S) S) S) S) S) S) S) S) S) S) S) S) S := by kernel_rfl
theorem t23 : T 23 = some a23 := by kernel_rfl
theorem w23 (n : Nat) (t0 t1 : Value) (S : St) : callN T (n + 1) (.fn 23) [t0, t1] S = codeV (callN T n) n b23 (argsEnv [t0, t1] 0 .leaf) (endV [.tmp 4] fun v S => some (v, S)) S := callV (af := goOf (some a23)) (t23) (by rfl) S

def b24 : ACode := bodyOf (some a24)
theorem v24 (C : Tgt → List Value → M Value) (n : Nat) (t0 t1 : Value) (S : St) : codeV C n b24 (argsEnv [t0, t1] 0 .leaf) (endV [.tmp 4] fun v S => some (v, S)) S =
  M.k (X C (.box 33 (.const t0))) (fun t2 S =>
  M.k (X C (.bin .eql (.const t1) (.const (.int .u8 1)))) (fun t7 S =>
  ifK (Wb.asBool t7) (fun S =>
   M.k (X C (.fldA 0 (.const t2))) (fun t8 S =>
   M.k (X C (.load .one (.const t8))) (fun t9 S =>
   some (t9, S)) S) S) (fun S =>
   M.k (X C (.bin .eql (.const t1) (.const (.int .u8 2)))) (fun t11 S =>
   ifK (Wb.asBool t11) (fun S =>
    M.k (X C (.fldA 1 (.const t2))) (fun t12 S =>
    M.k (X C (.load .one (.const t12))) (fun t13 S =>
    some (t13, S)) S) S) (fun S =>
    M.k (X C (.bin .eql (.const t1) (.const (.int .u8 3)))) (fun t15 S =>
    ifK (Wb.asBool t15) (fun S =>
     M.k (X C (.fldA 2 (.const t2))) (fun t16 S =>
     M.k (X C (.load .one (.const t16))) (fun t17 S =>
     some (t17, S)) S) S) (fun S =>
     M.k (X C (.bin .eql (.const t1) (.const (.int .u8 4)))) (fun t19 S =>
     ifK (Wb.asBool t19) (fun S =>
      M.k (X C (.fldA 3 (.const t2))) (fun t20 S =>
      M.k (X C (.load .one (.const t20))) (fun t21 S =>
      some (t21, S)) S) S) (fun S =>
      some ((.int .u32 0), S)) S) S) S) S) S) S) S) S) S := by kernel_rfl
theorem t24 : T 24 = some a24 := by kernel_rfl
theorem w24 (n : Nat) (t0 t1 : Value) (S : St) : callN T (n + 1) (.fn 24) [t0, t1] S = codeV (callN T n) n b24 (argsEnv [t0, t1] 0 .leaf) (endV [.tmp 4] fun v S => some (v, S)) S := callV (af := goOf (some a24)) (t24) (by rfl) S

def b16 : ACode := bodyOf (some a16)
theorem v16 (C : Tgt → List Value → M Value) (n : Nat) (t0 t1 : Value) (S : St) : codeV C n b16 (argsEnv [t0, t1] 0 .leaf) (endV [.tmp 4, .tmp 5] fun v S => some (v, S)) S =
  M.k (X C (.box 5 (.const t1))) (fun t3 S =>
  M.k (X C (.mkfn 80 [] [(.const t3)])) (fun t7 S =>
  M.k (X C (.bin .eql (.const t0) (.const (.int .u8 17)))) (fun t10 S =>
  ifK (Wb.asBool t10) (fun S =>
   some (.tuple ⟨[(.int .u8 1), (.bool true)]⟩, S)) (fun S =>
   M.k (X C (.bin .neq (.const t0) (.const (.int .u8 6)))) (fun t13 S =>
   ifK (Wb.asBool t13) (fun S =>
    ifK (Wb.asBool t13) (fun S =>
     some (.tuple ⟨[(.int .u8 0), (.bool false)]⟩, S)) (fun S =>
     M.k (X C (.call (.const t7) [(.const (.int .u8 1))])) (fun t21 S =>
     ifK (Wb.asBool t21) (fun S =>
      some (.tuple ⟨[(.int .u8 4), (.bool true)]⟩, S)) (fun S =>
      M.k (X C (.call (.const t7) [(.const (.int .u8 2))])) (fun t24 S =>
      ifK (Wb.asBool t24) (fun S =>
       some (.tuple ⟨[(.int .u8 2), (.bool true)]⟩, S)) (fun S =>
       some (.tuple ⟨[(.int .u8 3), (.bool true)]⟩, S)) S) S) S) S) S) (fun S =>
    M.k (X C (.load .one (.const t3))) (fun t14 S =>
    M.k (X C (.call (.const (.func (.func 81) ⟨[]⟩ ⟨[]⟩)) [(.const t14)])) (fun t15 S =>
    M.k (X C (.un .not (.const t15))) (fun t16 S =>
    ifK (Wb.asBool t16) (fun S =>
     ifK (Wb.asBool t16) (fun S =>
      some (.tuple ⟨[(.int .u8 0), (.bool false)]⟩, S)) (fun S =>
      M.k (X C (.call (.const t7) [(.const (.int .u8 1))])) (fun t21 S =>
      ifK (Wb.asBool t21) (fun S =>
       some (.tuple ⟨[(.int .u8 4), (.bool true)]⟩, S)) (fun S =>
       M.k (X C (.call (.const t7) [(.const (.int .u8 2))])) (fun t24 S =>
       ifK (Wb.asBool t24) (fun S =>
        some (.tuple ⟨[(.int .u8 2), (.bool true)]⟩, S)) (fun S =>
        some (.tuple ⟨[(.int .u8 3), (.bool true)]⟩, S)) S) S) S) S) S) (fun S =>
     M.k (X C (.call (.const t7) [(.const (.int .u8 4))])) (fun t18 S =>
     ifK (Wb.asBool t18) (fun S =>
      some (.tuple ⟨[(.int .u8 0), (.bool false)]⟩, S)) (fun S =>
      M.k (X C (.call (.const t7) [(.const (.int .u8 1))])) (fun t21 S =>
      ifK (Wb.asBool t21) (fun S =>
       some (.tuple ⟨[(.int .u8 4), (.bool true)]⟩, S)) (fun S =>
       M.k (X C (.call (.const t7) [(.const (.int .u8 2))])) (fun t24 S =>
       ifK (Wb.asBool t24) (fun S =>
        some (.tuple ⟨[(.int .u8 2), (.bool true)]⟩, S)) (fun S =>
        some (.tuple ⟨[(.int .u8 3), (.bool true)]⟩, S)) S) S) S) S) S) S) S) S) S) S) S) S) S) S) S) S := by kernel_rfl
theorem t16 : T 16 = some a16 := by kernel_rfl
theorem w16 (n : Nat) (t0 t1 : Value) (S : St) : callN T (n + 1) (.fn 16) [t0, t1] S = codeV (callN T n) n b16 (argsEnv [t0, t1] 0 .leaf) (endV [.tmp 4, .tmp 5] fun v S => some (v, S)) S := callV (af := goOf (some a16)) (t16) (by rfl) S

def b19 : ACode := bodyOf (some a19)
theorem v19 (C : Tgt → List Value → M Value) (n : Nat) (t0 t1 : Value) (S : St) : codeV C n b19 (argsEnv [t0, t1] 0 .leaf) (endV [.tmp 4, .tmp 5] fun v S => some (v, S)) S =
  M.k (X C (.bin .eql (.const t0) (.const (.int .u8 17)))) (fun t7 S =>
  ifK (Wb.asBool t7) (fun S =>
   some (.tuple ⟨[(.int .u8 1), (.bool true)]⟩, S)) (fun S =>
   M.k (X C (.bin .neq (.const t0) (.const (.int .u8 6)))) (fun t9 S =>
   M.k (G (wanted false t9) (X C (.mov (.const t1)))) (fun t11 S =>
   M.k (G (wanted false t9) (X C (.call (.const (.func (.func 83) ⟨[]⟩ ⟨[]⟩)) [(.const t11)]))) (fun t12 S =>
   M.k (G (wanted false t9) (X C (.un .not (.const t12)))) (fun t13 S =>
   M.k (X C (.pick (.const t9) (.const (.bool true)) (.const t13))) (fun t14 S =>
   M.k (G (wanted false t14) (X C (.mov (.const t1)))) (fun t16 S =>
   M.k (G (wanted false t14) (X C (.call (.const (.func (.func 84) ⟨[]⟩ ⟨[]⟩)) [(.const t16), (.const (.int .u8 4))]))) (fun t17 S =>
   M.k (X C (.pick (.const t14) (.const (.bool true)) (.const t17))) (fun t18 S =>
   ifK (Wb.asBool t18) (fun S =>
    some (.tuple ⟨[(.int .u8 0), (.bool false)]⟩, S)) (fun S =>
    M.k (X C (.call (.const (.func (.func 84) ⟨[]⟩ ⟨[]⟩)) [(.const t1), (.const (.int .u8 1))])) (fun t20 S =>
    ifK (Wb.asBool t20) (fun S =>
     some (.tuple ⟨[(.int .u8 4), (.bool true)]⟩, S)) (fun S =>
     M.k (X C (.call (.const (.func (.func 84) ⟨[]⟩ ⟨[]⟩)) [(.const t1), (.const (.int .u8 2))])) (fun t22 S =>
     ifK (Wb.asBool t22) (fun S =>
      some (.tuple ⟨[(.int .u8 2), (.bool true)]⟩, S)) (fun S =>
      some (.tuple ⟨[(.int .u8 3), (.bool true)]⟩, S)) S) S) S) S) S) S) S) S) S) S) S) S) S) S) S := by kernel_rfl
theorem t19 : T 19 = some a19 := by kernel_rfl
theorem w19 (n : Nat) (t0 t1 : Value) (S : St) : callN T (n + 1) (.fn 19) [t0, t1] S = codeV (callN T n) n b19 (argsEnv [t0, t1] 0 .leaf) (endV [.tmp 4, .tmp 5] fun v S => some (v, S)) S := callV (af := goOf (some a19)) (t19) (by rfl) S

def b17 : ACode := bodyOf (some a17)
theorem v17 (C : Tgt → List Value → M Value) (n : Nat) (t0 t1 : Value) (S : St) : codeV C n b17 (argsEnv [t0, t1] 0 .leaf) (endV [.tmp 4, .tmp 5, .tmp 6] fun v S => some (v, S)) S =
  M.k (X C (.box 5 (.const t1))) (fun t3 S =>
  M.k (X C (.mkfn 82 [] [(.const t3)])) (fun t8 S =>
  M.k (X C (.call (.const (.func (.func 18) ⟨[]⟩ ⟨[]⟩)) [(.const t0)])) (fun t11 S =>
  M.k (X C (.un .not (.const t11))) (fun t12 S =>
  ifK (Wb.asBool t12) (fun S =>
   some (.tuple ⟨[(.int .u8 0), (.int .u8 0), (.int .i64 2)]⟩, S)) (fun S =>
   M.k (X C (.bin .eql (.const t0) (.const (.int .u8 1)))) (fun t15 S =>
   ifK (Wb.asBool t15) (fun S =>
    some (.tuple ⟨[(.int .u8 1), t0, (.int .i64 0)]⟩, S)) (fun S =>
    M.k (X C (.load .one (.const t3))) (fun t18 S =>
    M.k (X C (.call (.const (.func (.func 81) ⟨[]⟩ ⟨[]⟩)) [(.const t18)])) (fun t19 S =>
    M.k (X C (.un .not (.const t19))) (fun t20 S =>
    ifK (Wb.asBool t20) (fun S =>
     some (.tuple ⟨[(.int .u8 0), (.int .u8 0), (.int .i64 2)]⟩, S)) (fun S =>
     M.k (X C (.bin .eql (.const t0) (.const (.int .u8 4)))) (fun t23 S =>
     M.k (G (wanted true t23) (X C (.mov (.const t8)))) (fun t25 S =>
     M.k (G (wanted true t23) (X C (.call (.const t25) [(.const (.int .u8 2))]))) (fun t26 S =>
     M.k (X C (.pick (.const t23) (.const t26) (.const (.bool false)))) (fun t27 S =>
     M.k (G (wanted true t27) (X C (.mov (.const t8)))) (fun t29 S =>
     M.k (G (wanted true t27) (X C (.call (.const t29) [(.const (.int .u8 16))]))) (fun t30 S =>
     M.k (G (wanted true t27) (X C (.un .not (.const t30)))) (fun t31 S =>
     M.k (X C (.pick (.const t27) (.const t31) (.const (.bool false)))) (fun t32 S =>
     ifK (Wb.asBool t32) (fun S =>
      some (.tuple ⟨[(.int .u8 3), (.int .u8 2), (.int .i64 0)]⟩, S)) (fun S =>
      M.k (X C (.call (.const t8) [(.const (.int .u8 4))])) (fun t35 S =>
      ifK (Wb.asBool t35) (fun S =>
       some (.tuple ⟨[(.int .u8 2), t0, (.int .i64 0)]⟩, S)) (fun S =>
       M.k (X C (.call (.const t8) [(.const (.int .u8 1))])) (fun t39 S =>
       ifK (Wb.asBool t39) (fun S =>
        some (.tuple ⟨[(.int .u8 1), (.int .u8 4), (.int .i64 0)]⟩, S)) (fun S =>
        M.k (X C (.bin .eql (.const t0) (.const (.int .u8 2)))) (fun t42 S =>
        M.k (G (wanted true t42) (X C (.mov (.const t8)))) (fun t44 S =>
        M.k (G (wanted true t42) (X C (.call (.const t44) [(.const (.int .u8 16))]))) (fun t45 S =>
        M.k (X C (.pick (.const t42) (.const t45) (.const (.bool false)))) (fun t46 S =>
        M.k (G (wanted true t46) (X C (.mov (.const t8)))) (fun t48 S =>
        M.k (G (wanted true t46) (X C (.call (.const t48) [(.const (.int .u8 2))]))) (fun t49 S =>
        M.k (G (wanted true t46) (X C (.un .not (.const t49)))) (fun t50 S =>
        M.k (X C (.pick (.const t46) (.const t50) (.const (.bool false)))) (fun t51 S =>
        ifK (Wb.asBool t51) (fun S =>
         some (.tuple ⟨[(.int .u8 1), (.int .u8 3), (.int .i64 0)]⟩, S)) (fun S =>
         some (.tuple ⟨[(.int .u8 1), t0, (.int .i64 0)]⟩, S)) S) S) S) S) S) S) S) S) S) S) S) S) S) S) S) S) S) S) S) S) S) S) S) S) S) S) S) S) S) S) S) S) S := by kernel_rfl
theorem t17 : T 17 = some a17 := by kernel_rfl
theorem w17 (n : Nat) (t0 t1 : Value) (S : St) : callN T (n + 1) (.fn 17) [t0, t1] S = codeV (callN T n) n b17 (argsEnv [t0, t1] 0 .leaf) (endV [.tmp 4, .tmp 5, .tmp 6] fun v S => some (v, S)) S := callV (af := goOf (some a17)) (t17) (by rfl) S

def b20 : ACode := bodyOf (some a20)
theorem v20 (C : Tgt → List Value → M Value) (n : Nat) (t0 t1 : Value) (S : St) : codeV C n b20 (argsEnv [t0, t1] 0 .leaf) (endV [.tmp 4, .tmp 5, .tmp 6] fun v S => some (v, S)) S =
  M.k (X C (.bin .eql (.const t0) (.const (.int .u8 1)))) (fun t12 S =>
  ifK (Wb.asBool t12) (fun S =>
   some (.tuple ⟨[(.int .u8 1), (.int .u8 1), (.int .i64 0)]⟩, S)) (fun S =>
   M.k (X C (.bin .lss (.const t0) (.const (.int .u8 1)))) (fun t14 S =>
   M.k (G (wanted false t14) (X C (.mov (.const t0)))) (fun t16 S =>
   M.k (G (wanted false t14) (X C (.bin .gtr (.const t16) (.const (.int .u8 4))))) (fun t17 S =>
   M.k (X C (.pick (.const t14) (.const (.bool true)) (.const t17))) (fun t18 S =>
   M.k (G (wanted false t18) (X C (.mov (.const t1)))) (fun t20 S =>
   M.k (G (wanted false t18) (X C (.call (.const (.func (.func 83) ⟨[]⟩ ⟨[]⟩)) [(.const t20)]))) (fun t21 S =>
   M.k (G (wanted false t18) (X C (.un .not (.const t21)))) (fun t22 S =>
   M.k (X C (.pick (.const t18) (.const (.bool true)) (.const t22))) (fun t23 S =>
   ifK (Wb.asBool t23) (fun S =>
    some (.tuple ⟨[(.int .u8 0), (.int .u8 0), (.int .i64 2)]⟩, S)) (fun S =>
    M.k (X C (.call (.const (.func (.func 85) ⟨[]⟩ ⟨[]⟩)) [])) (fun t24 S =>
    M.k (iter (run C n (lB (bB (sR (sL (sR (sR (sR (sR b20))))))))) n ((((((((((((((((((((((.leaf : Env).set 0 (some t0)).set 1 (some t1)).set 4 (some (.int .u8 0))).set 5 (some (.int .u8 0))).set 6 (some (.int .i64 0))).set 7 (some t24)).set 8 (some (.int .i64 0))).set 11 (some t0)).set 12 (some t12)).set 13 (some t0)).set 14 (some t14)).set 15 (some t14)).set 16 (some t16)).set 17 (some t17)).set 18 (some t18)).set 19 (some t18)).set 20 (some t20)).set 21 (some t21)).set 22 (some t22)).set 23 (some t23)).set 24 (some t24))) (fun r S => (contB 0 (contS (fun e S => codeV C n (sR (sR (sR (sR (sR b20))))) e (endV [.tmp 4, .tmp 5, .tmp 6] (fun v S => some (v, S))) S) (endV [.tmp 4, .tmp 5, .tmp 6] (fun v S => some (v, S))))) r.1 r.2 S) S) S) S) S) S) S) S) S) S) S) S) S) S := by kernel_rfl
theorem t20 : T 20 = some a20 := by kernel_rfl
theorem w20 (n : Nat) (t0 t1 : Value) (S : St) : callN T (n + 1) (.fn 20) [t0, t1] S = codeV (callN T n) n b20 (argsEnv [t0, t1] 0 .leaf) (endV [.tmp 4, .tmp 5, .tmp 6] fun v S => some (v, S)) S := callV (af := goOf (some a20)) (t20) (by rfl) S

def b4 : ACode := bodyOf (some a4)
theorem v4 (C : Tgt → List Value → M Value) (n : Nat) (t0 t1 t2 t3 : Value) (S : St) : codeV C n b4 (argsEnv [t0, t1, t2, t3] 0 .leaf) (endV [.tmp 8] fun v S => some (v, S)) S =
  M.k (X C (.box 33 (.const t3))) (fun t7 S =>
  M.k (X C (.call (.const (.func (.func 16) ⟨[]⟩ ⟨[]⟩)) [(.const t0), (.const t2)])) (fun t22 S =>
  M.k (X C (.ext (.const t22) 0)) (fun t23 S =>
  M.k (X C (.ext (.const t22) 1)) (fun t24 S =>
  M.k (X C (.call (.const (.func (.func 19) ⟨[]⟩ ⟨[]⟩)) [(.const t0), (.const t2)])) (fun t28 S =>
  M.k (X C (.ext (.const t28) 0)) (fun t29 S =>
  M.k (X C (.ext (.const t28) 1)) (fun t30 S =>
  M.k (X C (.call (.const (.func (.func 17) ⟨[]⟩ ⟨[]⟩)) [(.const t1), (.const t2)])) (fun t34 S =>
  M.k (X C (.ext (.const t34) 0)) (fun t35 S =>
  M.k (X C (.ext (.const t34) 1)) (fun t36 S =>
  M.k (X C (.ext (.const t34) 2)) (fun t37 S =>
  M.k (X C (.call (.const (.func (.func 20) ⟨[]⟩ ⟨[]⟩)) [(.const t1), (.const t2)])) (fun t41 S =>
  M.k (X C (.ext (.const t41) 0)) (fun t42 S =>
  M.k (X C (.ext (.const t41) 1)) (fun t43 S =>
  M.k (X C (.ext (.const t41) 2)) (fun t44 S =>
  dstep 0 [] (X C (.mov (.const t23))) (fun t45 ts S =>
  dstep 1 ts (X C (.mov (.const t29))) (fun t46 ts S =>
  dstep 2 ts (X C (.bin .eql (.const t45) (.const t46))) (fun t47 ts S =>
  dstep 3 ts (X C (.mov (.const t47))) (fun t48 ts S =>
  dstep 4 ts (G (wanted true t48) (X C (.mov (.const t24)))) (fun t49 ts S =>
  dstep 5 ts (G (wanted true t48) (X C (.mov (.const t30)))) (fun t50 ts S =>
  dstep 6 ts (G (wanted true t48) (X C (.eq false .bool (.const t49) (.const t50)))) (fun t51 ts S =>
  dstep 7 ts (X C (.pick (.const t48) (.const t51) (.const (.bool false)))) (fun t52 ts S =>
  dstep 8 ts (X C (.mov (.const t52))) (fun t53 ts S =>
  dstep 9 ts (G (wanted true t53) (X C (.mov (.const t35)))) (fun t54 ts S =>
  dstep 10 ts (G (wanted true t53) (X C (.mov (.const t42)))) (fun t55 ts S =>
  dstep 11 ts (G (wanted true t53) (X C (.bin .eql (.const t54) (.const t55)))) (fun t56 ts S =>
  dstep 12 ts (X C (.pick (.const t53) (.const t56) (.const (.bool false)))) (fun t57 ts S =>
  dstep 13 ts (X C (.mov (.const t57))) (fun t58 ts S =>
  dstep 14 ts (G (wanted true t58) (X C (.mov (.const t36)))) (fun t59 ts S =>
  dstep 15 ts (G (wanted true t58) (X C (.mov (.const t43)))) (fun t60 ts S =>
  dstep 16 ts (G (wanted true t58) (X C (.bin .eql (.const t59) (.const t60)))) (fun t61 ts S =>
  dstep 17 ts (X C (.pick (.const t58) (.const t61) (.const (.bool false)))) (fun t62 ts S =>
  dstep 18 ts (X C (.mov (.const t62))) (fun t63 ts S =>
  dstep 19 ts (G (wanted true t63) (X C (.mov (.const t37)))) (fun t64 ts S =>
  dstep 20 ts (G (wanted true t63) (X C (.mov (.const t44)))) (fun t65 ts S =>
  dstep 21 ts (G (wanted true t63) (X C (.bin .eql (.const t64) (.const t65)))) (fun t66 ts S =>
  dstep 22 ts (X C (.pick (.const t63) (.const t66) (.const (.bool false)))) (fun t67 ts S =>
  dstep 23 ts (X C (.mov (.const t67))) (fun t68 ts S =>
  dstep 24 ts (G (wanted true t68) (X C (.mov (.const t1)))) (fun t69 ts S =>
  dstep 25 ts (G (wanted true t68) (X C (.call (.const (.func (.func 18) ⟨[]⟩ ⟨[]⟩)) [(.const t69)]))) (fun t70 ts S =>
  dstep 26 ts (G (wanted true t68) (X C (.mov (.const t1)))) (fun t71 ts S =>
  dstep 27 ts (G (wanted true t68) (X C (.bin .geq (.const t71) (.const (.int .u8 1))))) (fun t72 ts S =>
  dstep 28 ts (G (wanted true t68) (X C (.mov (.const t72)))) (fun t73 ts S =>
  dstep 29 ts (G (wanted true t73) (X C (.mov (.const t1)))) (fun t74 ts S =>
  dstep 30 ts (G (wanted true t73) (X C (.bin .leq (.const t74) (.const (.int .u8 4))))) (fun t75 ts S =>
  dstep 31 ts (G (wanted true t68) (X C (.pick (.const t73) (.const t75) (.const (.bool false))))) (fun t76 ts S =>
  dstep 32 ts (G (wanted true t68) (X C (.eq false .bool (.const t70) (.const t76)))) (fun t77 ts S =>
  dstep 33 ts (X C (.pick (.const t68) (.const t77) (.const (.bool false)))) (fun t78 ts S =>
  dstep 34 ts (X C (.mov (.const t78))) (fun t79 ts S =>
  dstep 35 ts (G (wanted true t79) (X C (.load (.agg 4) (.const t7)))) (fun t80 ts S =>
  dstep 36 ts (G (wanted true t79) (X C (.call (.const (.func (.func 21) ⟨[]⟩ ⟨[]⟩)) [(.const t80)]))) (fun t81 ts S =>
  dstep 37 ts (G (wanted true t79) (X C (.load (.agg 4) (.const t7)))) (fun t82 ts S =>
  dstep 38 ts (G (wanted true t79) (X C (.call (.const (.func (.func 22) ⟨[]⟩ ⟨[]⟩)) [(.const t82)]))) (fun t83 ts S =>
  dstep 39 ts (G (wanted true t79) (X C (.eq false .bool (.const t81) (.const t83)))) (fun t84 ts S =>
  dstep 40 ts (X C (.pick (.const t79) (.const t84) (.const (.bool false)))) (fun t85 ts S =>
  dstep 41 ts (X C (.mov (.const t85))) (fun t86 ts S =>
  dstep 42 ts (G (wanted true t86) (X C (.load (.agg 4) (.const t7)))) (fun t87 ts S =>
  dstep 43 ts (G (wanted true t86) (X C (.mov (.const t1)))) (fun t88 ts S =>
  dstep 44 ts (G (wanted true t86) (X C (.call (.const (.func (.func 23) ⟨[]⟩ ⟨[]⟩)) [(.const t87), (.const t88)]))) (fun t89 ts S =>
  dstep 45 ts (G (wanted true t86) (X C (.load (.agg 4) (.const t7)))) (fun t90 ts S =>
  dstep 46 ts (G (wanted true t86) (X C (.mov (.const t1)))) (fun t91 ts S =>
  dstep 47 ts (G (wanted true t86) (X C (.call (.const (.func (.func 24) ⟨[]⟩ ⟨[]⟩)) [(.const t90), (.const t91)]))) (fun t92 ts S =>
  dstep 48 ts (G (wanted true t86) (X C (.bin .eql (.const t89) (.const t92)))) (fun t93 ts S =>
  dstep 49 ts (X C (.pick (.const t86) (.const t93) (.const (.bool false)))) (fun t94 ts S =>
  dstep 50 ts (X C (.mov (.const t94))) (fun t95 ts S =>
  dstep 51 ts (G (wanted true t95) (X C (.call (.const (.func (.func 15) ⟨[]⟩ ⟨[]⟩)) []))) (fun t96 ts S =>
  dstep 52 ts (X C (.pick (.const t95) (.const t96) (.const (.bool false)))) (fun t97 ts S =>
  dstep 53 ts (X C (.mov (.const t97))) (fun t8 ts S =>
  okK (apartAll [0, 0, 3, 7, 15, 15, 63, 127, 255, 511, 511, 2047, 4095, 8191, 16383, 16383, 65535, 131071, 262143, 524287, 524287, 2097151, 4194303, 8388607, 16777215, 33554431, 16777215, 83886079, 268435455, 536870911, 1073741823, 2147483647, 4294967295, 8589934591, 17179869183, 34359738367, 68719476735, 34359738367, 274877906943, 549755813887, 1099511627775, 2199023255551, 4398046511103, 4398046511103, 17592186044415, 4398046511103, 4398046511103, 140737488355327, 281474976710655, 562949953421311, 1125899906842623, 2251799813685247, 4503599627370495, 9007199254740991] ts) (fun S =>
  some (t8, S)) S) S) S) S) S) S) S) S) S) S) S) S) S) S) S) S) S) S) S) S) S) S) S) S) S) S) S) S) S) S) S) S) S) S) S) S) S) S) S) S) S) S) S) S) S) S) S) S) S) S) S) S) S) S) S) S) S) S) S) S) S) S) S) S) S) S) S) S) S) S := by kernel_rfl
theorem t4 : T 4 = some a4 := by kernel_rfl
theorem w4 (n : Nat) (t0 t1 t2 t3 : Value) (S : St) : callN T (n + 1) (.fn 4) [t0, t1, t2, t3] S = codeV (callN T n) n b4 (argsEnv [t0, t1, t2, t3] 0 .leaf) (endV [.tmp 8] fun v S => some (v, S)) S := callV (af := goOf (some a4)) (t4) (by rfl) S

theorem l21 {ρ : Type} (C : Tgt → List Value → M Value) (n : Nat) (t13 t14 : Value) (k : Ext → Env → St → Option ρ) (S : St) : codeV C n (lB (bB (sR (sL (sR b21))))) (((.leaf : Env).set 13 (some t13)).set 14 (some t14)) k S =
  M.k (X C (.bin .lss (.const t14) (.const (.int .i64 4)))) (fun t15 S =>
  ifK (Wb.asBool t15) (fun S =>
   M.k (X C (.ix 4 1 .one (.const t13) (.const t14))) (fun t16 S =>
   M.k (X C (.bin .lss (.const t16) (.const (.int .u32 1)))) (fun t18 S =>
   M.k (G (wanted false t18) (X C (.mov (.const t16)))) (fun t20 S =>
   M.k (G (wanted false t18) (X C (.bin .gtr (.const t20) (.const (.int .u32 1048576))))) (fun t21 S =>
   M.k (X C (.pick (.const t18) (.const (.bool true)) (.const t21))) (fun t22 S =>
   ifK (Wb.asBool t22) (fun S =>
    k .ret (((((((((((((.leaf : Env).set 2 (some (.bool false))).set 4 (some t16)).set 13 (some t13)).set 14 (some t14)).set 15 (some t15)).set 16 (some t16)).set 17 (some t16)).set 18 (some t18)).set 19 (some t18)).set 20 (some t20)).set 21 (some t21)).set 22 (some t22)) S) (fun S =>
    M.k (X C (.bin .add (.const t14) (.const (.int .i64 1)))) (fun t23 S =>
    k .normal (((((((((((((.leaf : Env).set 4 (some t16)).set 13 (some t13)).set 14 (some t23)).set 15 (some t15)).set 16 (some t16)).set 17 (some t16)).set 18 (some t18)).set 19 (some t18)).set 20 (some t20)).set 21 (some t21)).set 22 (some t22)).set 23 (some t23)) S) S) S) S) S) S) S) S) (fun S =>
   k (.exit 0) ((((.leaf : Env).set 13 (some t13)).set 14 (some t14)).set 15 (some t15)) S) S) S := by kernel_rfl

theorem l22 {ρ : Type} (C : Tgt → List Value → M Value) (n : Nat) (t3 t4 : Value) (k : Ext → Env → St → Option ρ) (S : St) : codeV C n (lB (bB (sR (sL (sR (sR b22)))))) (((.leaf : Env).set 3 (some t3)).set 4 (some t4)) k S =
  M.k (X C (.len .slice (.const t3))) (fun t16 S =>
  M.k (X C (.bin .lss (.const t4) (.const t16))) (fun t17 S =>
  ifK (Wb.asBool t17) (fun S =>
   M.k (X C (.ixA 1 (.const t3) (.const t4))) (fun t22 S =>
   M.k (X C (.load .one (.const t22))) (fun t23 S =>
   M.k (X C (.bin .eql (.const t23) (.const (.int .u32 0)))) (fun t24 S =>
   M.k (G (wanted false t24) (X C (.mov (.const t3)))) (fun t26 S =>
   M.k (G (wanted false t24) (X C (.mov (.const t4)))) (fun t27 S =>
   M.k (G (wanted false t24) (X C (.ixA 1 (.const t26) (.const t27)))) (fun t28 S =>
   M.k (G (wanted false t24) (X C (.load .one (.const t28)))) (fun t29 S =>
   M.k (G (wanted false t24) (X C (.bin .gtr (.const t29) (.const (.int .u32 1048576))))) (fun t30 S =>
   M.k (X C (.pick (.const t24) (.const (.bool true)) (.const t30))) (fun t31 S =>
   ifK (Wb.asBool t31) (fun S =>
    k .ret ((((((((((((((((((((.leaf : Env).set 2 (some (.bool false))).set 3 (some t3)).set 4 (some t4)).set 14 (some t4)).set 15 (some t3)).set 16 (some t16)).set 17 (some t17)).set 20 (some t3)).set 21 (some t4)).set 22 (some t22)).set 23 (some t23)).set 24 (some t24)).set 25 (some t24)).set 26 (some t26)).set 27 (some t27)).set 28 (some t28)).set 29 (some t29)).set 30 (some t30)).set 31 (some t31)) S) (fun S =>
    M.k (X C (.bin .add (.const t4) (.const (.int .i64 1)))) (fun t19 S =>
    k .normal (((((((((((((((((((((.leaf : Env).set 3 (some t3)).set 4 (some t19)).set 14 (some t4)).set 15 (some t3)).set 16 (some t16)).set 17 (some t17)).set 18 (some t4)).set 19 (some t19)).set 20 (some t3)).set 21 (some t4)).set 22 (some t22)).set 23 (some t23)).set 24 (some t24)).set 25 (some t24)).set 26 (some t26)).set 27 (some t27)).set 28 (some t28)).set 29 (some t29)).set 30 (some t30)).set 31 (some t31)) S) S) S) S) S) S) S) S) S) S) S) S) (fun S =>
   k (.exit 0) (((((((.leaf : Env).set 3 (some t3)).set 4 (some t4)).set 14 (some t4)).set 15 (some t3)).set 16 (some t16)).set 17 (some t17)) S) S) S) S := by kernel_rfl

theorem e21 {ρ : Type} (C : Tgt → List Value → M Value) (n : Nat) (k : Ext → Env → St → Option ρ) (S : St) : codeV C n (sR (sR b21)) (.leaf : Env) k S =
  k .ret ((.leaf : Env).set 2 (some (.bool true))) S := by kernel_rfl

theorem e22 {ρ : Type} (C : Tgt → List Value → M Value) (n : Nat) (k : Ext → Env → St → Option ρ) (S : St) : codeV C n (sR (sR (sR b22))) (.leaf : Env) k S =
  k .ret ((.leaf : Env).set 2 (some (.bool true))) S := by kernel_rfl


end Go.Proofs.Ytmepokefmpcnnaa.FtText
