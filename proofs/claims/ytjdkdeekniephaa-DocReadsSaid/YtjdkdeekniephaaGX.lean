/- The last of the printed shallow forms. -/
import Derived.Test.YtjdkdeekniephaaG7b
