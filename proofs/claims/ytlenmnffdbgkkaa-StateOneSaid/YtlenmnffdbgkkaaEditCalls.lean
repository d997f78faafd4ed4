/-
  Edits: what each function of the code does (bytes, places).
-/
import Derived.Test.YtlenmnffdbgkkaaBytes
import Derived.Test.YtlenmnffdbgkkaaEditPlace
